/- CN: how the channel's layer is run; the table for 'lives' (digests and entries printed by a small program; each proved). -/
import Derived.Test.YtgcibcndeikiiaaGreatDoorCnK
import Derived.Test.YtgcibcndeikiiaaGreatDoorHnRv
import Derived.Test.YtgcibcndeikiiaaGreatDoorCnSM
import Derived.Test.YtgcibcndeikiiaaGreatDoorUpH
set_option maxRecDepth 1000000
namespace Go.HM.Cn
open Go.HM.Kec

def d0 : List Nat × List Nat := ([116, 120, 255, 164, 6, 0, 0, 0, 0, 0, 0, 0, 1, 1, 0, 0, 0, 0, 0, 0, 0, 0, 0, 0, 0, 0, 0, 0, 0, 0, 0, 0, 0, 0, 0, 0, 0, 0, 0, 0, 0, 0, 0, 0, 0, 0, 0, 0, 0, 0, 0, 0, 0, 0, 0, 0, 0, 0, 0, 0, 0, 0, 254], [183, 88, 42, 1, 155, 170, 175, 82, 21, 193, 130, 49, 40, 234, 65, 183, 80, 201, 140, 153, 185, 212, 46, 24, 108, 141, 225, 200, 22, 92, 32, 185])
theorem t0 : shaN d0.1 = d0.2 := by kernel_rfl
def d1 : List Nat × List Nat := ([4, 110, 111, 100, 101, 42, 0, 0, 0, 0, 0, 0, 0, 0, 0, 0, 0, 0, 0, 0, 0, 0, 0, 0, 0, 0, 0, 0, 0, 0, 0, 0, 0, 0, 0, 0, 0, 8, 0, 0, 0, 0, 0, 0, 0, 0, 0, 0, 0, 0, 0, 0, 0], [246, 60, 224, 49, 48, 74, 47, 187, 178, 34, 20, 34, 56, 14, 91, 64, 114, 229, 14, 152, 252, 186, 229, 72, 211, 93, 244, 199, 25, 175, 167, 226])
theorem t1 : shaN d1.1 = d1.2 := by kernel_rfl
def d2 : List Nat × List Nat := ([4, 110, 111, 100, 101, 42, 0, 0, 0, 0, 0, 0, 0, 0, 0, 0, 0, 0, 0, 0, 0, 0, 0, 0, 0, 0, 0, 0, 0, 0, 0, 0, 0, 0, 0, 0, 0, 8, 0, 0, 0, 0, 0, 0, 0, 1, 0, 0, 0, 0, 0, 0, 0], [243, 74, 11, 118, 149, 27, 157, 137, 34, 40, 78, 200, 40, 68, 126, 34, 34, 106, 48, 98, 94, 44, 37, 43, 54, 255, 14, 253, 146, 7, 77, 10])
theorem t2 : shaN d2.1 = d2.2 := by kernel_rfl
def d3 : List Nat × List Nat := ([2, 13, 0, 0, 0, 0, 0, 0, 0, 0, 0, 0, 0, 0, 0, 0, 0, 0, 0, 0, 0, 0, 0, 0, 0, 0, 0, 0, 0, 0, 0, 0], [45, 218, 209, 92, 108, 62, 239, 177, 223, 34, 149, 139, 211, 78, 28, 80, 140, 11, 22, 41, 212, 168, 204, 15, 207, 235, 92, 128, 67, 153, 147, 125])
theorem t3 : shaN d3.1 = d3.2 := by kernel_rfl
def d4 : List Nat × List Nat := ([45, 222, 209, 92, 108, 62, 239, 177, 223, 34, 149, 139, 211, 78, 28, 80, 140, 11, 22, 41, 212, 168, 204, 15, 207, 235, 92, 128, 67, 153, 147, 125], [82, 130, 170, 236, 212, 18, 49, 196, 194, 85, 28, 53, 24, 105, 71, 74, 127, 112, 103, 199, 247, 114, 115, 192, 98, 65, 79, 57, 93, 82, 103, 12])
theorem t4 : shaN d4.1 = d4.2 := by kernel_rfl
def d5 : List Nat × List Nat := ([82, 128, 170, 236, 212, 18, 49, 196, 194, 85, 28, 53, 24, 105, 71, 74, 127, 112, 103, 199, 247, 114, 115, 192, 98, 65, 79, 57, 93, 82, 103, 12], [225, 148, 1, 68, 84, 206, 163, 33, 94, 79, 4, 91, 254, 21, 192, 206, 48, 62, 60, 58, 76, 240, 127, 226, 182, 61, 108, 221, 149, 32, 127, 54])
theorem t5 : shaN d5.1 = d5.2 := by kernel_rfl
def d6 : List Nat × List Nat := ([225, 149, 1, 68, 84, 206, 163, 33, 94, 79, 4, 91, 254, 21, 192, 206, 48, 62, 60, 58, 76, 240, 127, 226, 182, 61, 108, 221, 149, 32, 127, 54], [240, 96, 8, 40, 165, 184, 33, 149, 66, 53, 6, 3, 73, 112, 176, 133, 104, 8, 226, 132, 245, 216, 198, 97, 162, 100, 132, 252, 145, 93, 200, 238])
theorem t6 : shaN d6.1 = d6.2 := by kernel_rfl
def d7 : List Nat × List Nat := ([112, 96, 8, 40, 165, 184, 33, 149, 66, 53, 6, 3, 73, 112, 176, 133, 104, 8, 226, 132, 245, 216, 198, 97, 162, 100, 132, 252, 145, 93, 200, 238], [151, 80, 246, 30, 33, 235, 208, 69, 25, 211, 193, 53, 161, 35, 197, 80, 55, 39, 145, 22, 0, 113, 126, 6, 3, 157, 28, 247, 26, 229, 72, 88])
theorem t7 : shaN d7.1 = d7.2 := by kernel_rfl
def d8 : List Nat × List Nat := ([215, 80, 246, 30, 33, 235, 208, 69, 25, 211, 193, 53, 161, 35, 197, 80, 55, 39, 145, 22, 0, 113, 126, 6, 3, 157, 28, 247, 26, 229, 72, 88], [124, 254, 143, 144, 20, 27, 163, 189, 20, 84, 188, 29, 72, 177, 255, 190, 214, 62, 170, 166, 89, 14, 68, 129, 92, 218, 119, 247, 23, 187, 207, 238])
theorem t8 : shaN d8.1 = d8.2 := by kernel_rfl
def d9 : List Nat × List Nat := ([92, 254, 143, 144, 20, 27, 163, 189, 20, 84, 188, 29, 72, 177, 255, 190, 214, 62, 170, 166, 89, 14, 68, 129, 92, 218, 119, 247, 23, 187, 207, 238], [20, 101, 222, 35, 51, 225, 252, 51, 15, 148, 160, 40, 38, 134, 55, 11, 32, 1, 153, 77, 192, 39, 152, 84, 213, 16, 80, 97, 170, 143, 132, 236])
theorem t9 : shaN d9.1 = d9.2 := by kernel_rfl
def d10 : List Nat × List Nat := ([4, 101, 222, 35, 51, 225, 252, 51, 15, 148, 160, 40, 38, 134, 55, 11, 32, 1, 153, 77, 192, 39, 152, 84, 213, 16, 80, 97, 170, 143, 132, 236], [255, 154, 138, 101, 51, 144, 67, 63, 98, 35, 163, 212, 30, 164, 31, 196, 238, 177, 118, 72, 232, 156, 59, 231, 124, 247, 209, 214, 228, 181, 65, 82])
theorem t10 : shaN d10.1 = d10.2 := by kernel_rfl
def d11 : List Nat × List Nat := ([247, 154, 138, 101, 51, 144, 67, 63, 98, 35, 163, 212, 30, 164, 31, 196, 238, 177, 118, 72, 232, 156, 59, 231, 124, 247, 209, 214, 228, 181, 65, 82], [207, 197, 234, 60, 42, 52, 45, 170, 128, 101, 175, 103, 209, 228, 238, 195, 207, 169, 27, 232, 20, 178, 241, 253, 184, 169, 160, 145, 4, 91, 203, 127])
theorem t11 : shaN d11.1 = d11.2 := by kernel_rfl
def d12 : List Nat × List Nat := ([203, 197, 234, 60, 42, 52, 45, 170, 128, 101, 175, 103, 209, 228, 238, 195, 207, 169, 27, 232, 20, 178, 241, 253, 184, 169, 160, 145, 4, 91, 203, 127], [65, 31, 189, 65, 253, 251, 136, 101, 202, 183, 188, 68, 32, 73, 211, 28, 194, 249, 223, 246, 53, 249, 178, 50, 174, 229, 249, 42, 201, 240, 112, 16])
theorem t12 : shaN d12.1 = d12.2 := by kernel_rfl
def d13 : List Nat × List Nat := ([67, 31, 189, 65, 253, 251, 136, 101, 202, 183, 188, 68, 32, 73, 211, 28, 194, 249, 223, 246, 53, 249, 178, 50, 174, 229, 249, 42, 201, 240, 112, 16], [221, 172, 222, 201, 106, 255, 140, 37, 34, 71, 196, 213, 58, 126, 178, 146, 152, 147, 66, 182, 169, 22, 68, 220, 113, 185, 30, 250, 128, 22, 99, 8])
theorem t13 : shaN d13.1 = d13.2 := by kernel_rfl
def d14 : List Nat × List Nat := ([220, 172, 222, 201, 106, 255, 140, 37, 34, 71, 196, 213, 58, 126, 178, 146, 152, 147, 66, 182, 169, 22, 68, 220, 113, 185, 30, 250, 128, 22, 99, 8], [60, 106, 242, 36, 30, 191, 240, 3, 74, 139, 111, 190, 84, 61, 1, 17, 64, 21, 179, 93, 248, 160, 106, 123, 179, 24, 243, 83, 81, 179, 28, 102])
theorem t14 : shaN d14.1 = d14.2 := by kernel_rfl
def d15 : List Nat × List Nat := ([60, 106, 242, 36, 30, 191, 240, 3, 74, 139, 111, 190, 84, 61, 1, 17, 64, 21, 179, 93, 248, 160, 106, 123, 179, 24, 243, 83, 81, 179, 28, 102], [45, 53, 95, 120, 183, 255, 122, 128, 163, 174, 156, 33, 163, 88, 111, 185, 220, 118, 200, 7, 135, 35, 207, 171, 97, 12, 252, 204, 162, 64, 235, 252])
theorem t15 : shaN d15.1 = d15.2 := by kernel_rfl
def d16 : List Nat × List Nat := ([221, 172, 222, 201, 106, 255, 140, 37, 34, 71, 196, 213, 58, 126, 178, 146, 152, 147, 66, 182, 169, 22, 68, 220, 113, 185, 30, 250, 128, 22, 99, 8], [53, 132, 197, 111, 53, 7, 52, 215, 135, 254, 174, 253, 30, 254, 194, 114, 251, 67, 99, 253, 102, 62, 180, 92, 28, 78, 38, 33, 183, 114, 107, 8])
theorem t16 : shaN d16.1 = d16.2 := by kernel_rfl
def d17 : List Nat × List Nat := ([1, 13, 0, 0, 0, 0, 0, 0, 0, 0, 0, 0, 0, 0, 0, 0, 0, 0, 0, 0, 0, 0, 0, 0, 0, 0, 0, 0, 0, 0, 0, 0], [108, 29, 38, 203, 193, 175, 105, 96, 123, 19, 7, 226, 112, 207, 200, 104, 187, 2, 212, 29, 248, 103, 14, 103, 73, 7, 141, 76, 246, 204, 154, 74])
theorem t17 : shaN d17.1 = d17.2 := by kernel_rfl
def d18 : List Nat × List Nat := ([108, 25, 38, 203, 193, 175, 105, 96, 123, 19, 7, 226, 112, 207, 200, 104, 187, 2, 212, 29, 248, 103, 14, 103, 73, 7, 141, 76, 246, 204, 154, 74], [107, 84, 164, 160, 142, 149, 212, 221, 146, 157, 149, 222, 198, 247, 160, 221, 208, 39, 157, 92, 106, 251, 12, 210, 203, 218, 94, 107, 208, 155, 31, 189])
theorem t18 : shaN d18.1 = d18.2 := by kernel_rfl
def d19 : List Nat × List Nat := ([107, 86, 164, 160, 142, 149, 212, 221, 146, 157, 149, 222, 198, 247, 160, 221, 208, 39, 157, 92, 106, 251, 12, 210, 203, 218, 94, 107, 208, 155, 31, 189], [193, 231, 174, 130, 166, 140, 186, 65, 2, 186, 127, 237, 55, 64, 218, 61, 195, 244, 220, 39, 48, 252, 194, 163, 32, 171, 208, 48, 246, 71, 245, 8])
theorem t19 : shaN d19.1 = d19.2 := by kernel_rfl
def d20 : List Nat × List Nat := ([193, 230, 174, 130, 166, 140, 186, 65, 2, 186, 127, 237, 55, 64, 218, 61, 195, 244, 220, 39, 48, 252, 194, 163, 32, 171, 208, 48, 246, 71, 245, 8], [143, 54, 128, 19, 154, 69, 98, 222, 1, 189, 101, 49, 68, 187, 253, 218, 121, 195, 96, 0, 16, 225, 43, 22, 162, 251, 251, 107, 244, 166, 211, 33])
theorem t20 : shaN d20.1 = d20.2 := by kernel_rfl
def d21 : List Nat × List Nat := ([15, 54, 128, 19, 154, 69, 98, 222, 1, 189, 101, 49, 68, 187, 253, 218, 121, 195, 96, 0, 16, 225, 43, 22, 162, 251, 251, 107, 244, 166, 211, 33], [119, 211, 1, 255, 79, 156, 77, 65, 110, 111, 68, 21, 159, 99, 170, 236, 68, 13, 51, 235, 79, 11, 21, 138, 153, 158, 255, 98, 166, 10, 68, 37])
theorem t21 : shaN d21.1 = d21.2 := by kernel_rfl
def d22 : List Nat × List Nat := ([55, 211, 1, 255, 79, 156, 77, 65, 110, 111, 68, 21, 159, 99, 170, 236, 68, 13, 51, 235, 79, 11, 21, 138, 153, 158, 255, 98, 166, 10, 68, 37], [234, 18, 166, 202, 62, 126, 32, 226, 203, 180, 74, 4, 66, 203, 181, 239, 230, 174, 180, 166, 22, 217, 254, 103, 167, 150, 175, 148, 67, 12, 154, 147])
theorem t22 : shaN d22.1 = d22.2 := by kernel_rfl
def d23 : List Nat × List Nat := ([202, 18, 166, 202, 62, 126, 32, 226, 203, 180, 74, 4, 66, 203, 181, 239, 230, 174, 180, 166, 22, 217, 254, 103, 167, 150, 175, 148, 67, 12, 154, 147], [3, 129, 20, 152, 105, 80, 47, 198, 113, 171, 241, 141, 245, 68, 96, 0, 156, 198, 157, 30, 170, 44, 153, 44, 164, 73, 172, 4, 95, 172, 17, 236])
theorem t23 : shaN d23.1 = d23.2 := by kernel_rfl
def d24 : List Nat × List Nat := ([19, 129, 20, 152, 105, 80, 47, 198, 113, 171, 241, 141, 245, 68, 96, 0, 156, 198, 157, 30, 170, 44, 153, 44, 164, 73, 172, 4, 95, 172, 17, 236], [151, 121, 12, 233, 175, 42, 36, 180, 58, 108, 73, 31, 173, 227, 239, 19, 79, 100, 15, 70, 44, 119, 92, 43, 83, 100, 119, 140, 121, 38, 45, 219])
theorem t24 : shaN d24.1 = d24.2 := by kernel_rfl
def d25 : List Nat × List Nat := ([159, 121, 12, 233, 175, 42, 36, 180, 58, 108, 73, 31, 173, 227, 239, 19, 79, 100, 15, 70, 44, 119, 92, 43, 83, 100, 119, 140, 121, 38, 45, 219], [231, 150, 104, 158, 143, 81, 176, 222, 191, 99, 26, 159, 172, 204, 3, 51, 198, 186, 102, 19, 41, 243, 74, 98, 254, 168, 91, 102, 49, 237, 34, 192])
theorem t25 : shaN d25.1 = d25.2 := by kernel_rfl
def d26 : List Nat × List Nat := ([227, 150, 104, 158, 143, 81, 176, 222, 191, 99, 26, 159, 172, 204, 3, 51, 198, 186, 102, 19, 41, 243, 74, 98, 254, 168, 91, 102, 49, 237, 34, 192], [38, 75, 191, 83, 113, 53, 165, 204, 108, 251, 203, 77, 177, 71, 34, 182, 193, 175, 103, 36, 201, 47, 135, 105, 75, 37, 104, 69, 127, 216, 214, 254])
theorem t26 : shaN d26.1 = d26.2 := by kernel_rfl
def d27 : List Nat × List Nat := ([36, 75, 191, 83, 113, 53, 165, 204, 108, 251, 203, 77, 177, 71, 34, 182, 193, 175, 103, 36, 201, 47, 135, 105, 75, 37, 104, 69, 127, 216, 214, 254], [148, 206, 39, 111, 147, 61, 185, 187, 74, 104, 41, 49, 219, 185, 243, 161, 127, 4, 172, 219, 96, 32, 130, 47, 164, 113, 179, 31, 41, 77, 79, 6])
theorem t27 : shaN d27.1 = d27.2 := by kernel_rfl
def d28 : List Nat × List Nat := ([149, 206, 39, 111, 147, 61, 185, 187, 74, 104, 41, 49, 219, 185, 243, 161, 127, 4, 172, 219, 96, 32, 130, 47, 164, 113, 179, 31, 41, 77, 79, 6], [197, 135, 187, 202, 75, 131, 34, 29, 3, 37, 143, 169, 159, 29, 5, 228, 57, 205, 91, 120, 160, 107, 152, 30, 126, 119, 62, 97, 59, 120, 221, 206])
theorem t28 : shaN d28.1 = d28.2 := by kernel_rfl
def d29 : List Nat × List Nat := ([197, 135, 187, 202, 75, 131, 34, 29, 3, 37, 143, 169, 159, 29, 5, 228, 57, 205, 91, 120, 160, 107, 152, 30, 126, 119, 62, 97, 59, 120, 221, 206], [152, 129, 246, 80, 130, 203, 127, 51, 225, 65, 156, 6, 188, 195, 128, 57, 207, 254, 203, 218, 130, 130, 19, 218, 7, 56, 147, 243, 19, 154, 123, 150])
theorem t29 : shaN d29.1 = d29.2 := by kernel_rfl
def d30 : List Nat × List Nat := ([116, 120, 183, 88, 42, 1, 155, 170, 175, 82, 21, 193, 130, 49, 40, 234, 65, 183, 80, 201, 140, 153, 185, 212, 46, 24, 108, 141, 225, 200, 22, 92, 32, 185, 0, 0, 0, 0, 0, 0, 0, 0, 255, 231, 3, 0, 0, 0, 0, 0, 0, 0, 0, 0, 0, 0, 0, 0, 0, 0, 0, 0, 3, 0, 0, 0, 0, 0, 0, 0, 0, 0, 0, 0, 0, 0, 0, 0, 0, 0, 0, 0, 0, 0, 0, 0, 0, 0, 0, 0, 0, 0, 0, 0, 0, 0, 0, 0, 0, 0, 0, 0, 1, 0, 0, 0, 0, 0, 0, 0, 0, 0, 0, 0, 0, 0, 0, 0, 0, 0, 0, 152, 129, 246, 80, 130, 203, 127, 51, 225, 65, 156, 6, 188, 195, 128, 57, 207, 254, 203, 218, 130, 130, 19, 218, 7, 56, 147, 243, 19, 154, 123, 150, 254, 188, 2, 0, 0, 0, 0, 0, 0, 1, 0, 0, 0, 0, 0, 0, 0, 0, 0, 0, 0, 0, 0, 0, 0, 0, 0, 0, 0, 0, 0, 0, 0, 0, 0, 0, 0, 0, 0, 0, 0, 0, 0, 0, 0, 0, 0, 0, 0, 0, 0, 0, 0, 0, 0, 0, 0, 0, 0, 0, 254], [16, 64, 148, 241, 194, 0, 72, 5, 232, 95, 40, 186, 15, 218, 200, 25, 48, 130, 78, 16, 209, 9, 41, 199, 42, 81, 227, 122, 183, 5, 97, 112])
theorem t30 : shaN d30.1 = d30.2 := by kernel_rfl
def d31 : List Nat × List Nat := ([2, 116, 120, 243, 74, 11, 118, 149, 27, 157, 137, 34, 40, 78, 200, 40, 68, 126, 34, 34, 106, 48, 98, 94, 44, 37, 43, 54, 255, 14, 253, 146, 7, 77, 10, 32, 0, 0, 0, 0, 0, 0, 0, 16, 64, 148, 241, 194, 0, 72, 5, 232, 95, 40, 186, 15, 218, 200, 25, 48, 130, 78, 16, 209, 9, 41, 199, 42, 81, 227, 122, 183, 5, 97, 112], [194, 84, 173, 52, 22, 214, 33, 212, 147, 69, 137, 46, 22, 65, 84, 223, 112, 169, 151, 188, 49, 152, 79, 110, 145, 186, 202, 242, 224, 166, 62, 155])
theorem t31 : shaN d31.1 = d31.2 := by kernel_rfl
def d32 : List Nat × List Nat := ([148, 206, 39, 111, 147, 61, 185, 187, 74, 104, 41, 49, 219, 185, 243, 161, 127, 4, 172, 219, 96, 32, 130, 47, 164, 113, 179, 31, 41, 77, 79, 6], [180, 191, 10, 126, 100, 207, 54, 199, 157, 240, 113, 186, 154, 143, 140, 79, 32, 39, 117, 175, 5, 116, 137, 213, 87, 12, 157, 210, 75, 150, 185, 251])
theorem t32 : shaN d32.1 = d32.2 := by kernel_rfl
def d33 : List Nat × List Nat := ([116, 120, 183, 88, 42, 1, 155, 170, 175, 82, 21, 193, 130, 49, 40, 234, 65, 183, 80, 201, 140, 153, 185, 212, 46, 24, 108, 141, 225, 200, 22, 92, 32, 185, 0, 0, 0, 0, 0, 0, 0, 0, 255, 188, 2, 0, 0, 0, 0, 0, 0, 1, 0, 0, 0, 0, 0, 0, 0, 0, 0, 0, 3, 0, 0, 0, 0, 0, 0, 0, 0, 0, 0, 0, 0, 0, 0, 0, 0, 0, 0, 0, 0, 0, 0, 0, 0, 0, 0, 0, 0, 0, 0, 0, 0, 0, 0, 0, 0, 0, 0, 0, 0, 0, 0, 0, 0, 0, 0, 0, 0, 0, 0, 0, 0, 0, 0, 0, 0, 0, 0, 45, 53, 95, 120, 183, 255, 122, 128, 163, 174, 156, 33, 163, 88, 111, 185, 220, 118, 200, 7, 135, 35, 207, 171, 97, 12, 252, 204, 162, 64, 235, 252, 254, 231, 3, 0, 0, 0, 0, 0, 0, 0, 0, 0, 0, 0, 0, 0, 0, 0, 0, 0, 0, 0, 0, 0, 0, 0, 0, 0, 0, 0, 0, 0, 0, 0, 0, 0, 0, 0, 0, 0, 0, 0, 0, 0, 0, 0, 0, 0, 0, 0, 0, 0, 0, 0, 0, 0, 0, 0, 0, 0, 254], [184, 58, 177, 172, 19, 6, 126, 199, 55, 237, 115, 21, 81, 45, 2, 45, 142, 9, 181, 7, 188, 26, 6, 204, 131, 76, 229, 207, 63, 244, 14, 74])
theorem t33 : shaN d33.1 = d33.2 := by kernel_rfl
def d34 : List Nat × List Nat := ([2, 116, 120, 246, 60, 224, 49, 48, 74, 47, 187, 178, 34, 20, 34, 56, 14, 91, 64, 114, 229, 14, 152, 252, 186, 229, 72, 211, 93, 244, 199, 25, 175, 167, 226, 32, 0, 0, 0, 0, 0, 0, 0, 184, 58, 177, 172, 19, 6, 126, 199, 55, 237, 115, 21, 81, 45, 2, 45, 142, 9, 181, 7, 188, 26, 6, 204, 131, 76, 229, 207, 63, 244, 14, 74], [188, 125, 147, 60, 134, 76, 124, 69, 194, 214, 93, 194, 85, 69, 35, 205, 56, 222, 103, 137, 26, 255, 42, 204, 0, 95, 33, 193, 72, 8, 193, 221])
theorem t34 : shaN d34.1 = d34.2 := by kernel_rfl
def d35 : List Nat × List Nat := ([1, 9, 0, 0, 0, 0, 0, 0, 0, 0, 0, 0, 0, 0, 0, 0, 0, 0, 0, 0, 0, 0, 0, 0, 0, 0, 0, 0, 0, 0, 0, 0], [183, 193, 97, 0, 173, 221, 211, 210, 65, 151, 90, 52, 133, 85, 228, 114, 208, 55, 14, 189, 86, 127, 149, 187, 127, 35, 36, 219, 95, 234, 55, 159])
theorem t35 : shaN d35.1 = d35.2 := by kernel_rfl
def d36 : List Nat × List Nat := ([116, 120, 183, 88, 42, 1, 155, 170, 175, 82, 21, 193, 130, 49, 40, 234, 65, 183, 80, 201, 140, 153, 185, 212, 46, 24, 108, 141, 225, 200, 22, 92, 32, 185, 0, 0, 0, 0, 0, 0, 0, 0, 255, 188, 2, 0, 0, 0, 0, 0, 0, 1, 0, 0, 0, 0, 0, 0, 0, 0, 0, 0, 3, 0, 0, 0, 0, 0, 0, 0, 0, 0, 0, 0, 0, 0, 0, 0, 0, 0, 0, 0, 0, 0, 0, 0, 0, 0, 0, 0, 0, 0, 0, 0, 0, 0, 0, 0, 0, 0, 0, 0, 0, 0, 0, 0, 0, 0, 0, 0, 0, 0, 0, 0, 0, 0, 0, 0, 0, 0, 0, 53, 132, 197, 111, 53, 7, 52, 215, 135, 254, 174, 253, 30, 254, 194, 114, 251, 67, 99, 253, 102, 62, 180, 92, 28, 78, 38, 33, 183, 114, 107, 8, 254, 131, 3, 0, 0, 0, 0, 0, 0, 0, 0, 0, 0, 0, 0, 0, 0, 0, 0, 0, 0, 0, 0, 0, 0, 0, 0, 0, 0, 0, 0, 0, 0, 0, 0, 0, 0, 0, 0, 0, 0, 0, 0, 0, 0, 0, 0, 0, 0, 0, 0, 0, 0, 0, 0, 0, 0, 0, 0, 0, 254, 100, 0, 0, 0, 0, 0, 0, 0, 1, 0, 0, 0, 0, 0, 0, 0, 0, 0, 0, 3, 0, 0, 0, 0, 0, 0, 0, 183, 193, 97, 0, 173, 221, 211, 210, 65, 151, 90, 52, 133, 85, 228, 114, 208, 55, 14, 189, 86, 127, 149, 187, 127, 35, 36, 219, 95, 234, 55, 159, 0, 0, 0, 50, 0, 0, 0, 0, 0, 0, 0, 0, 0, 0, 0, 0, 0, 0, 0, 0, 0, 0, 0, 0, 0, 0, 0, 0, 0, 0, 0, 0, 0, 0, 0, 0, 0, 0, 0, 0, 0, 0, 0, 0, 0, 0, 0, 0, 0, 0, 0, 0, 0, 0, 0, 0, 0, 0, 0, 0, 0, 0, 0, 0, 0, 0, 0, 0, 0, 0, 53, 132, 197, 111, 53, 7, 52, 215, 135, 254, 174, 253, 30, 254, 194, 114, 251, 67, 99, 253, 102, 62, 180, 92, 28, 78, 38, 33, 183, 114, 107, 8, 254], [41, 219, 74, 86, 58, 188, 188, 160, 137, 114, 1, 43, 41, 51, 191, 97, 80, 240, 231, 88, 61, 179, 35, 165, 122, 197, 48, 147, 110, 58, 200, 175])
theorem t36 : shaN d36.1 = d36.2 := by kernel_rfl
def d37 : List Nat × List Nat := ([2, 116, 120, 246, 60, 224, 49, 48, 74, 47, 187, 178, 34, 20, 34, 56, 14, 91, 64, 114, 229, 14, 152, 252, 186, 229, 72, 211, 93, 244, 199, 25, 175, 167, 226, 32, 0, 0, 0, 0, 0, 0, 0, 41, 219, 74, 86, 58, 188, 188, 160, 137, 114, 1, 43, 41, 51, 191, 97, 80, 240, 231, 88, 61, 179, 35, 165, 122, 197, 48, 147, 110, 58, 200, 175], [180, 53, 107, 222, 104, 27, 181, 214, 152, 192, 99, 197, 228, 234, 119, 30, 228, 148, 211, 156, 169, 244, 69, 210, 23, 10, 197, 243, 73, 23, 166, 251])
theorem t37 : shaN d37.1 = d37.2 := by kernel_rfl
def d38 : List Nat × List Nat := ([64, 31, 189, 65, 253, 251, 136, 101, 202, 183, 188, 68, 32, 73, 211, 28, 194, 249, 223, 246, 53, 249, 178, 50, 174, 229, 249, 42, 201, 240, 112, 16], [127, 29, 250, 168, 78, 16, 235, 163, 252, 22, 205, 225, 61, 45, 176, 74, 64, 194, 99, 222, 83, 253, 23, 9, 139, 137, 96, 167, 240, 46, 158, 237])
theorem t38 : shaN d38.1 = d38.2 := by kernel_rfl
def d39 : List Nat × List Nat := ([127, 29, 250, 168, 78, 16, 235, 163, 252, 22, 205, 225, 61, 45, 176, 74, 64, 194, 99, 222, 83, 253, 23, 9, 139, 137, 96, 167, 240, 46, 158, 237], [158, 81, 224, 118, 68, 50, 102, 34, 99, 110, 156, 110, 238, 148, 69, 216, 218, 84, 59, 220, 250, 25, 37, 143, 32, 232, 130, 184, 91, 43, 218, 97])
theorem t39 : shaN d39.1 = d39.2 := by kernel_rfl
def d40 : List Nat × List Nat := ([116, 120, 183, 88, 42, 1, 155, 170, 175, 82, 21, 193, 130, 49, 40, 234, 65, 183, 80, 201, 140, 153, 185, 212, 46, 24, 108, 141, 225, 200, 22, 92, 32, 185, 0, 0, 0, 0, 0, 0, 0, 0, 255, 131, 3, 0, 0, 0, 0, 0, 0, 0, 0, 0, 0, 0, 0, 0, 0, 0, 0, 0, 3, 0, 0, 0, 0, 0, 0, 0, 0, 0, 0, 0, 0, 0, 0, 0, 0, 0, 0, 0, 0, 0, 0, 0, 0, 0, 0, 0, 0, 0, 0, 0, 0, 0, 0, 0, 0, 0, 0, 0, 1, 0, 0, 0, 0, 0, 0, 0, 0, 0, 0, 0, 0, 0, 0, 0, 0, 0, 0, 180, 191, 10, 126, 100, 207, 54, 199, 157, 240, 113, 186, 154, 143, 140, 79, 32, 39, 117, 175, 5, 116, 137, 213, 87, 12, 157, 210, 75, 150, 185, 251, 254, 188, 2, 0, 0, 0, 0, 0, 0, 1, 0, 0, 0, 0, 0, 0, 0, 0, 0, 0, 0, 0, 0, 0, 0, 0, 0, 0, 0, 0, 0, 0, 0, 0, 0, 0, 0, 0, 0, 0, 0, 0, 0, 0, 0, 0, 0, 0, 0, 0, 0, 0, 0, 0, 0, 0, 0, 0, 0, 0, 254, 100, 0, 0, 0, 0, 0, 0, 0, 1, 0, 0, 0, 0, 0, 0, 0, 0, 0, 0, 0, 0, 0, 0, 0, 0, 0, 0, 183, 193, 97, 0, 173, 221, 211, 210, 65, 151, 90, 52, 133, 85, 228, 114, 208, 55, 14, 189, 86, 127, 149, 187, 127, 35, 36, 219, 95, 234, 55, 159, 0, 0, 0, 50, 0, 0, 0, 0, 0, 0, 0, 3, 0, 0, 0, 0, 0, 0, 0, 0, 0, 0, 0, 0, 0, 0, 0, 0, 0, 0, 0, 0, 0, 0, 0, 0, 0, 0, 0, 0, 0, 0, 0, 0, 0, 0, 0, 0, 0, 0, 0, 1, 0, 0, 0, 0, 0, 0, 0, 0, 0, 0, 0, 0, 0, 0, 0, 0, 0, 0, 180, 191, 10, 126, 100, 207, 54, 199, 157, 240, 113, 186, 154, 143, 140, 79, 32, 39, 117, 175, 5, 116, 137, 213, 87, 12, 157, 210, 75, 150, 185, 251, 254], [134, 102, 2, 154, 104, 111, 86, 101, 37, 250, 201, 220, 36, 93, 219, 187, 63, 161, 113, 119, 185, 206, 20, 67, 156, 71, 13, 46, 79, 176, 134, 93])
theorem t40 : shaN d40.1 = d40.2 := by kernel_rfl
def d41 : List Nat × List Nat := ([2, 116, 120, 243, 74, 11, 118, 149, 27, 157, 137, 34, 40, 78, 200, 40, 68, 126, 34, 34, 106, 48, 98, 94, 44, 37, 43, 54, 255, 14, 253, 146, 7, 77, 10, 32, 0, 0, 0, 0, 0, 0, 0, 134, 102, 2, 154, 104, 111, 86, 101, 37, 250, 201, 220, 36, 93, 219, 187, 63, 161, 113, 119, 185, 206, 20, 67, 156, 71, 13, 46, 79, 176, 134, 93], [116, 21, 39, 7, 224, 171, 135, 208, 149, 114, 179, 136, 65, 213, 116, 114, 155, 96, 44, 135, 240, 172, 248, 124, 173, 242, 188, 46, 5, 124, 219, 170])
theorem t41 : shaN d41.1 = d41.2 := by kernel_rfl
def d42 : List Nat × List Nat := ([39, 75, 191, 83, 113, 53, 165, 204, 108, 251, 203, 77, 177, 71, 34, 182, 193, 175, 103, 36, 201, 47, 135, 105, 75, 37, 104, 69, 127, 216, 214, 254], [112, 37, 239, 202, 199, 91, 52, 88, 241, 252, 156, 185, 124, 69, 252, 216, 83, 234, 35, 13, 75, 210, 205, 178, 92, 142, 175, 104, 96, 135, 43, 231])
theorem t42 : shaN d42.1 = d42.2 := by kernel_rfl
def d43 : List Nat × List Nat := ([112, 37, 239, 202, 199, 91, 52, 88, 241, 252, 156, 185, 124, 69, 252, 216, 83, 234, 35, 13, 75, 210, 205, 178, 92, 142, 175, 104, 96, 135, 43, 231], [139, 239, 93, 57, 12, 143, 118, 5, 227, 40, 158, 150, 138, 130, 249, 175, 16, 127, 209, 64, 7, 159, 218, 125, 108, 235, 193, 42, 125, 228, 154, 203])
theorem t43 : shaN d43.1 = d43.2 := by kernel_rfl

def digTab : List (List Nat × List Nat) := [d0, d1, d2, d3, d4, d5, d6, d7, d8, d9, d10, d11, d12, d13, d14, d15, d16, d17, d18, d19, d20, d21, d22, d23, d24, d25, d26, d27, d28, d29, d30, d31, d32, d33, d34, d35, d36, d37, d38, d39, d40, d41, d42, d43]

theorem tab_ok : ∀ p ∈ digTab, shaN p.1 = p.2 := by
  simp only [digTab, List.forall_mem_cons]
  exact ⟨t0, t1, t2, t3, t4, t5, t6, t7, t8, t9, t10, t11, t12, t13, t14, t15, t16, t17, t18, t19, t20, t21, t22, t23, t24, t25, t26, t27, t28, t29, t30, t31, t32, t33, t34, t35, t36, t37, t38, t39, t40, t41, t42, t43, by simp⟩

def eqL : List Nat → List Nat → Bool
  | [], [] => true
  | x :: l, y :: r => match Nat.beq x y with
    | true => eqL l r
    | false => false
  | _, _ => false

theorem eqL_eq : ∀ {l r : List Nat}, eqL l r = true → l = r
  | [], [], _ => rfl
  | x :: l, y :: r, h => by
    unfold eqL at h
    split at h
    · rename_i e; rw [Nat.eq_of_beq_eq_true e, eqL_eq h]
    · cases h
  | [], _ :: _, h => by cases h
  | _ :: _, [], h => by cases h

def lookL (l : List Nat) : List (List Nat × List Nat) → Option (List Nat)
  | [] => none
  | p :: r => match eqL p.1 l with
    | true => some p.2
    | false => lookL l r

theorem lookL_ok {l d : List Nat} : ∀ {tb : List (List Nat × List Nat)}, (∀ p ∈ tb, shaN p.1 = p.2) → lookL l tb = some d → shaN l = d
  | [], _, h => by cases h
  | p :: r, ht, h => by
    unfold lookL at h
    split at h
    · rename_i e
      injection h with h; subst h
      rw [← eqL_eq e]
      exact ht p (by simp)
    · exact lookL_ok (fun q hq => ht q (by simp [hq])) h

/-- The digest, looked up first. -/
def shaT (l : List Nat) : List Nat := match lookL l digTab with
  | some d => d
  | none => shaN l

theorem shaT_eq (l : List Nat) : shaT l = shaN l := by
  unfold shaT
  split
  · rename_i d h; exact (lookL_ok tab_ok h).symm
  · rfl

end Go.HM.Cn

set_option maxRecDepth 100000
namespace Go.HM.Cn
open Go.Proofs Go.HM.Kec

/-! slices.Clone of bytes -/

noncomputable def Cc : GCtx := { C0 (fun _ _ => false) with item := fun _ => none }
theorem Cc_ok : KOk Cc := ⟨names_ok, fun _ _ _ h => (by cases h), fun _ _ _ _ _ h => (by cases h)⟩
theorem clone_cons (x : Bool) (c : Int) (cs : List Int) : runK Cc 5 54 [.bl x (c :: cs)] [] = some ([.bl false (c :: cs)], [0 + (cs.length + 1) ≤ 4294967296]) := by kernel_rfl
theorem clone_nil (x : Bool) : runK Cc 5 54 [.sl true (.bl x [])] [] = some ([.bl true []], []) := by kernel_rfl
theorem clone_none (x : Bool) : runK Cc 5 54 [.sl false (.bl x [])] [] = some ([.bl false []], [0 + 0 ≤ 4294967296]) := by kernel_rfl

/-- An empty slice is nil or not. -/
theorem split_nil {x : Bool} {f : FuncId} (h1 : PCall Tryz.prog f [.sl true (.bl x [])] [.bl true []]) (h2 : PCall Tryz.prog f [.sl false (.bl x [])] [.bl false []]) : PCall Tryz.prog f [.bl x []] [.bl false []] := by
  refine ⟨h1.1, fun U w vals hU hA => ?_⟩
  cases hA with | cons ha hA => cases hA with | nil =>
  rename_i v
  have hc : Tc w U (.bl x []) [v] := ha.cell rfl
  have weak : ∀ {w' : World} {u : Value}, TV w' U (.bl true []) u → TV w' U (.bl false []) u := by
    intro w' u hu
    have hu : Tc w' U (.bl true []) [u] := hu.cell rfl
    refine TV.of_cells ?_ rfl
    cases hu with
    | blnil => exact .blnil
    | bl a b c d => exact .bl a b (fun e => by cases e) d
    | bl0 a => exact .bl0 (fun e => by cases e)
  have key : ∃ base n c, v = .slice base n c := by
    cases hc with
    | blnil => exact ⟨_, _, _, rfl⟩
    | bl a b c d => exact ⟨_, _, _, rfl⟩
    | bl0 a => exact ⟨_, _, _, rfl⟩
  obtain ⟨base, n, c, rfl⟩ := key
  cases hb : base.isNone with
  | true =>
    refine (h1.2 U w [.slice base n c] hU (.cons (TV.of_cells (.sl hc hb rfl) rfl) .nil)).mono ?_
    rintro e w' ⟨v, rfl, hr, hk⟩
    exact ⟨v, rfl, weak hr, hk⟩
  | false => exact h2.2 U w [.slice base n c] hU (.cons (TV.of_cells (.sl hc hb rfl) rfl) .nil)

def KClone (ts : List T) : Option (List T) := match ts with
  | [.bl _ l] => match Nat.ble l.length 4294967296 with
    | true => some [.bl false l]
    | false => none
  | _ => none

theorem KClone_ok {ts rs : List T} (h : KClone ts = some rs) : PCall Tryz.prog 54 ts rs := by
  unfold KClone at h
  split at h
  · rename_i x l
    split at h
    · rename_i hle
      injection h with h; subst h
      have hle : l.length ≤ 4294967296 := by simpa using hle
      cases l with
      | nil => exact split_nil (runK_sound Cc_ok (clone_nil x) trivial) (runK_sound Cc_ok (clone_none x) ⟨by omega, trivial⟩)
      | cons c cs => exact runK_sound Cc_ok (clone_cons x c cs) ⟨by simp at hle; omega, trivial⟩
    · cases h
  · cases h

/-- The functions whose parameters hold places (by number), and some more. -/
def exF : List Nat := [8, 9, 10, 11, 12, 13, 14, 15, 16, 18, 19, 20, 21, 22, 23, 24, 25, 26, 30, 38, 39, 41, 42, 43, 45, 47, 48, 50, 51, 52, 55, 56, 57, 58, 59, 61, 76, 77, 82, 83, 84, 85, 86, 90, 105, 106, 110, 111, 112, 113, 123, 130, 131, 133, 134, 138, 147, 152, 165, 166, 167, 168, 169, 170, 171, 172, 173, 174, 146, 54, 153, 75]
noncomputable def prL (o : Oper) : Bool := pureCall Tryz.prog exF [] [("secrets.go:26", 171)] o || callTo [123, 147] o

/-- The program's digest, looked up first. -/
def KSumT (ts : List T) : Option (List T) := match ts with
  | [.lst x 1 ps] => match partsOf ps with
    | some qs => match Nat.ble qs.length 4294967296 && (bytesP qs).all isByteI with
      | true => some [.ba 32 (up (shaT ((bytesP qs).map Int.toNat)))]
      | false => none
    | none => none
  | _ => none

theorem KSumT_ok {ts rs : List T} (h : KSumT ts = some rs) : PCall Tryz.prog 75 ts rs := by
  refine KSumN_ok ?_
  unfold KSumT at h
  unfold KSumN
  split at h
  · split at h
    · split at h
      · rename_i hc
        simp only [shaT_eq] at h
        simp only [*, if_true]
      · cases h
    · cases h
  · cases h

/-- The reference's digest. -/
def KRefSum (ts : List T) : Option (List T) := match ts with
  | [.bl _ l] => match (Nat.beq l.length 32 || Nat.beq l.length 53 || Nat.beq l.length 63) && l.all isByteI with
    | true => some [.ba 32 (up (shaT (l.map Int.toNat)))]
    | false => none
  | _ => none

theorem KRefSum_ok {ts rs : List T} (h : KRefSum ts = some rs) : PCall Tryz.prog 72 ts rs := by
  unfold KRefSum at h
  split at h
  · rename_i x l
    split at h
    · rename_i hc
      simp only [Bool.and_eq_true, Bool.or_eq_true, Nat.beq_eq] at hc
      injection h with h; subst h
      obtain ⟨u1, u2⟩ := up_toNat hc.2
      have hm : l.length % 136 < 135 := by omega
      rw [shaT_eq, ← sha_N u2, u1, ← pad_sha hc.2 hm]
      rcases hc.1 with (e | e) | e
      · exact sum_ok_32 x l e
      · exact sum_ok_53 x l e
      · exact sum_ok_63 x l e
    · cases h
  · cases h

/-- What is known of calls on trees. -/
def KL (f : FuncId) (ts : List T) : Option (List T) := match Nat.beq f 75 with
  | true => KSumT ts
  | false => match Nat.beq f 54 with
    | true => KClone ts
    | false => match Nat.beq f 72 with
      | true => KRefSum ts
      | false => KRef f ts

theorem KL_ok {f : FuncId} {ts rs : List T} (h : KL f ts = some rs) : PCall Tryz.prog f ts rs := by
  unfold KL at h
  split at h
  · rename_i hf; rw [Nat.eq_of_beq_eq_true hf]; exact KSumT_ok h
  · split at h
    · rename_i hf; rw [Nat.eq_of_beq_eq_true hf]; exact KClone_ok h
    · split at h
      · rename_i hf; rw [Nat.eq_of_beq_eq_true hf]; exact KRefSum_ok h
      · exact KRef_ok _ _ _ h

/-- What is known of calls on memory: slices.Grow of an empty list without room; what reads only. -/
def KGw (K : FuncId → List T → Option (List T)) (f : FuncId) (s : List SObj) (vs : List V) : Option (List V × List SObj) := match Nat.beq f 153 with
  | true => match vs with
    | [.p (.lst true 36 []), .p (.int .i64 (.ofNat n))] => match n with
      | 0 => some ([.p (.lst true 36 [])], s)
      | k + 1 => match Nat.ble ((k + 1) * 64) 140737488355328 with
        | true => some ([.row s.length 0 (.lst false 36 [])], s ++ [.row 0 36])
        | false => none
    | _ => none
  | false => match memN f [75, 54] with
    | true => match rdAs s vs with
      | some ts => match K f ts with
        | some rs => match T.flats rs with
          | true => some (rs.map .p, s)
          | false => none
        | none => none
      | none => none
    | false => none

theorem KGw_ok {K : FuncId → List T → Option (List T)} (hK : ∀ f ts rs, K f ts = some rs → PCall Tryz.prog f ts rs) {f : FuncId} {s s' : List SObj} {vs rs : List V} (h : KGw K f s vs = some (rs, s')) : GCall Tryz.prog f s vs s' rs := by
  unfold KGw at h
  split at h
  · rename_i hf
    rw [Nat.eq_of_beq_eq_true hf]
    split at h
    · split at h
      · simp only [Option.some.injEq, Prod.mk.injEq] at h
        obtain ⟨rfl, rfl⟩ := h
        exact Up.grow_none s
      · rename_i k
        split at h
        · rename_i hle
          simp only [Option.some.injEq, Prod.mk.injEq] at h
          obtain ⟨rfl, rfl⟩ := h
          exact Up.grow_some s (k + 1) (by omega) (by simpa using hle)
        · cases h
    · cases h
  · split at h
    · split at h
      · rename_i ts hr
        split at h
        · rename_i rs' hk
          split at h
          · rename_i hfl
            simp only [Option.some.injEq, Prod.mk.injEq] at h
            obtain ⟨rfl, rfl⟩ := h
            exact GCall.read (hK _ _ _ hk) hr hfl
          · cases h
        · cases h
      · cases h
    · cases h

def KGL := KGw KL
theorem KGL_ok {f : FuncId} {s s' : List SObj} {vs rs : List V} (h : KGL f s vs = some (rs, s')) : GCall Tryz.prog f s vs s' rs := KGw_ok (fun _ _ _ h => KL_ok h) h

noncomputable def CL : GCtx := { P := Tryz.prog, pr := prL, K := KL, keep := fun f _ => Nat.beq f 94, frz := fun _ _ => [], item := fun _ => some (.res false), glob := fun _ _ => none, KG := KGL, fuel := 1000, vec := appAt ["ref.go:118", "ref.go:120"], al := fun ops => !balFirst prL ops.toList && !indepG (apS ops) (tch prL) ops }
theorem CL_ok : KOk CL := ⟨names_ok, fun _ _ _ h => KL_ok h, fun _ _ _ _ _ h => KGL_ok h⟩

end Go.HM.Cn

set_option maxRecDepth 100000
namespace Go.HM.Cn
open Go.Proofs Go.HM.Kec

def eqZ : List Int → List Int → Bool
  | [], [] => true
  | .ofNat x :: l, .ofNat y :: r => match Nat.beq x y with
    | true => eqZ l r
    | false => false
  | .negSucc x :: l, .negSucc y :: r => match Nat.beq x y with
    | true => eqZ l r
    | false => false
  | _, _ => false

theorem eqZ_eq : ∀ {l r : List Int}, eqZ l r = true → l = r
  | [], [], _ => rfl
  | .ofNat x :: l, .ofNat y :: r, h => by
    unfold eqZ at h
    split at h
    · rename_i e; rw [Nat.eq_of_beq_eq_true e, eqZ_eq h]
    · cases h
  | .negSucc x :: l, .negSucc y :: r, h => by
    unfold eqZ at h
    split at h
    · rename_i e; rw [Nat.eq_of_beq_eq_true e, eqZ_eq h]
    · cases h
  | .ofNat _ :: _, .negSucc _ :: _, h => by cases h
  | .negSucc _ :: _, .ofNat _ :: _, h => by cases h
  | [], _ :: _, h => by cases h
  | .ofNat _ :: _, [], h => by cases h
  | .negSucc _ :: _, [], h => by cases h

def eqBl : Bool → Bool → Bool
  | true, true => true
  | false, false => true
  | _, _ => false
theorem eqBl_eq : ∀ {a b : Bool}, eqBl a b = true → a = b := by decide

def eqKd : IntKind → IntKind → Bool
  | .i64, .i64 => true
  | .u64, .u64 => true
  | _, _ => false
theorem eqKd_eq : ∀ {a b : IntKind}, eqKd a b = true → a = b := by
  intro a b h
  cases a <;> cases b <;> first | rfl | (simp [eqKd] at h)
theorem eqZ_one {n m : Int} (h : eqZ [n] [m] = true) : n = m := by have := eqZ_eq h; simpa using this

mutual
def eqTq : T → T → Bool
  | .int k n, .int c m => match eqKd k c with
    | true => eqZ [n] [m]
    | false => false
  | .bool a, .bool b => eqBl a b
  | .ba n l, .ba m r => match Nat.beq n m with
    | true => eqZ l r
    | false => false
  | .bl a l, .bl b r => match eqBl a b with
    | true => eqZ l r
    | false => false
  | .agg l, .agg r => eqTqs l r
  | .lst a e l, .lst b c r => match eqBl a b, Nat.beq e c with
    | true, true => eqTqs l r
    | _, _ => false
  | _, _ => false
def eqTqs : List T → List T → Bool
  | [], [] => true
  | t :: l, u :: r => match eqTq t u with
    | true => eqTqs l r
    | false => false
  | _, _ => false
end

mutual
theorem eqTq_eq : ∀ {a b : T}, eqTq a b = true → a = b
  | .int k n, b, h => by
    cases b <;> simp only [eqTq, Bool.false_eq_true] at h
    split at h
    · rename_i e; rw [eqKd_eq e, eqZ_one h]
    · cases h
  | .bool a, b, h => by
    cases b <;> simp [eqTq] at h
    rw [eqBl_eq h]
  | .ba n l, b, h => by
    cases b <;> simp only [eqTq, Bool.false_eq_true] at h
    split at h
    · rename_i e; rw [Nat.eq_of_beq_eq_true e, eqZ_eq h]
    · cases h
  | .bl a l, b, h => by
    cases b <;> simp only [eqTq, Bool.false_eq_true] at h
    split at h
    · rename_i e; rw [eqBl_eq e, eqZ_eq h]
    · cases h
  | .agg l, b, h => by
    cases b <;> simp only [eqTq, Bool.false_eq_true] at h
    rw [eqTqs_eq h]
  | .lst a e l, b, h => by
    cases b <;> simp only [eqTq, Bool.false_eq_true] at h
    split at h
    · rename_i e1 e2; rw [eqBl_eq e1, Nat.eq_of_beq_eq_true e2, eqTqs_eq h]
    · cases h
  | .str _, _, h => by simp [eqTq] at h
  | .flt _ _, _, h => by simp [eqTq] at h
  | .rp _ _, _, h => by simp [eqTq] at h
  | .nilP, _, h => by simp [eqTq] at h
  | .nilM, _, h => by simp [eqTq] at h
  | .nilF, _, h => by simp [eqTq] at h
  | .nilI, _, h => by simp [eqTq] at h
  | .clo _ _, _, h => by simp [eqTq] at h
  | .sl _ _, _, h => by simp [eqTq] at h
theorem eqTqs_eq : ∀ {a b : List T}, eqTqs a b = true → a = b
  | [], [], _ => rfl
  | t :: l, u :: r, h => by
    unfold eqTqs at h
    split at h
    · rename_i e; rw [eqTq_eq e, eqTqs_eq h]
    · cases h
  | [], _ :: _, h => by simp [eqTqs] at h
  | _ :: _, [], h => by simp [eqTqs] at h
end

/-- Calls, what they were given, what came. -/
abbrev Tab := List (FuncId × List T × List T)
noncomputable def TabOk (tb : Tab) : Prop := ∀ e ∈ tb, PCall Tryz.prog e.1 e.2.1 e.2.2
theorem TabOk.nil : TabOk [] := fun _ h => by cases h
theorem TabOk.cons {e : FuncId × List T × List T} {tb : Tab} (h : PCall Tryz.prog e.1 e.2.1 e.2.2) (hs : TabOk tb) : TabOk (e :: tb) := fun x hx => by
  rcases List.mem_cons.1 hx with rfl | hx
  · exact h
  · exact hs x hx

def lookT (f : FuncId) (ts : List T) : Tab → Option (List T)
  | [] => none
  | e :: r => match Nat.beq e.1 f with
    | true => match eqTqs e.2.1 ts with
      | true => some e.2.2
      | false => lookT f ts r
    | false => lookT f ts r

theorem lookT_ok {f : FuncId} {ts rs : List T} : ∀ {tb : Tab}, TabOk tb → lookT f ts tb = some rs → PCall Tryz.prog f ts rs
  | [], _, h => by cases h
  | e :: r, ht, h => by
    have hr : TabOk r := fun x hx => ht x (List.mem_cons_of_mem _ hx)
    unfold lookT at h
    split at h
    · rename_i e1
      split at h
      · rename_i e2
        injection h with h; subst h
        rw [← Nat.eq_of_beq_eq_true e1, ← eqTqs_eq e2]
        exact ht e (by simp)
      · exact lookT_ok hr h
    · exact lookT_ok hr h

def KT (tb : Tab) (f : FuncId) (ts : List T) : Option (List T) := match memN f [121, 74, 34, 36, 6, 63, 27, 67, 78, 91, 65, 96, 68, 32, 46, 88] with
  | true => match lookT f ts tb with
    | some rs => some rs
    | none => KL f ts
  | false => KL f ts

theorem KT_ok {tb : Tab} (ht : TabOk tb) : ∀ f ts rs, KT tb f ts = some rs → PCall Tryz.prog f ts rs := by
  intro f ts rs h
  unfold KT at h
  split at h
  · split at h
    · rename_i rs' e
      injection h with h; subst h
      exact lookT_ok ht e
    · exact KL_ok h
  · exact KL_ok h

noncomputable def CT (tb : Tab) : GCtx := { CL with K := KT tb, KG := KGw (KT tb) }
theorem CT_ok {tb : Tab} (ht : TabOk tb) : KOk (CT tb) := ⟨names_ok, KT_ok ht, fun _ _ _ _ _ h => KGw_ok (KT_ok ht) h⟩

end Go.HM.Cn

set_option maxRecDepth 1000000
namespace Go.HM.Cn
open Go.Proofs Go.HM.Kec

noncomputable def tab0 : Tab := []
theorem tab0_ok : TabOk tab0 := TabOk.nil
def e0 : FuncId × List T × List T := (121, [.int .u64 1700], [.bl false [164, 6, 0, 0, 0, 0, 0, 0]])
theorem m0 : runK (CT tab0) 30 e0.1 e0.2.1 [] = some (e0.2.2, []) := by kernel_rfl
noncomputable def tab1 : Tab := e0 :: tab0
theorem tab1_ok : TabOk tab1 := TabOk.cons (runK_sound (CT_ok tab0_ok) m0 trivial) tab0_ok
def e1 : FuncId × List T × List T := (121, [.int .u64 0], [.bl false [0, 0, 0, 0, 0, 0, 0, 0]])
theorem m1 : runK (CT tab1) 30 e1.1 e1.2.1 [] = some (e1.2.2, []) := by kernel_rfl
noncomputable def tab2 : Tab := e1 :: tab1
theorem tab2_ok : TabOk tab2 := TabOk.cons (runK_sound (CT_ok tab1_ok) m1 trivial) tab1_ok
def e2 : FuncId × List T × List T := (74, [], [.agg [.int .i64 1, .int .i64 0, .int .i64 1, .agg [.ba 32 [183, 88, 42, 1, 155, 170, 175, 82, 21, 193, 130, 49, 40, 234, 65, 183, 80, 201, 140, 153, 185, 212, 46, 24, 108, 141, 225, 200, 22, 92, 32, 185], .int .i64 0], .int .i64 1000, .int .i64 700, .int .i64 3, .int .i64 1, .int .i64 10, .int .i64 5, .int .i64 900]])
theorem m2 : runK (CT tab2) 30 e2.1 e2.2.1 [] = some (e2.2.2, []) := by kernel_rfl
noncomputable def tab3 : Tab := e2 :: tab2
theorem tab3_ok : TabOk tab3 := TabOk.cons (runK_sound (CT_ok tab2_ok) m2 trivial) tab2_ok
def e3 : FuncId × List T × List T := (121, [.int .u64 8], [.bl false [8, 0, 0, 0, 0, 0, 0, 0]])
theorem m3 : runK (CT tab3) 30 e3.1 e3.2.1 [] = some (e3.2.2, []) := by kernel_rfl
noncomputable def tab4 : Tab := e3 :: tab3
theorem tab4_ok : TabOk tab4 := TabOk.cons (runK_sound (CT_ok tab3_ok) m3 trivial) tab3_ok
def e4 : FuncId × List T × List T := (34, [.int .i64 0], [.ba 32 [246, 60, 224, 49, 48, 74, 47, 187, 178, 34, 20, 34, 56, 14, 91, 64, 114, 229, 14, 152, 252, 186, 229, 72, 211, 93, 244, 199, 25, 175, 167, 226]])
theorem m4 : runK (CT tab4) 30 e4.1 e4.2.1 [] = some (e4.2.2, []) := by kernel_rfl
noncomputable def tab5 : Tab := e4 :: tab4
theorem tab5_ok : TabOk tab5 := TabOk.cons (runK_sound (CT_ok tab4_ok) m4 trivial) tab4_ok
def e5 : FuncId × List T × List T := (121, [.int .u64 1], [.bl false [1, 0, 0, 0, 0, 0, 0, 0]])
theorem m5 : runK (CT tab5) 30 e5.1 e5.2.1 [] = some (e5.2.2, []) := by kernel_rfl
noncomputable def tab6 : Tab := e5 :: tab5
theorem tab6_ok : TabOk tab6 := TabOk.cons (runK_sound (CT_ok tab5_ok) m5 trivial) tab5_ok
def e6 : FuncId × List T × List T := (34, [.int .i64 1], [.ba 32 [243, 74, 11, 118, 149, 27, 157, 137, 34, 40, 78, 200, 40, 68, 126, 34, 34, 106, 48, 98, 94, 44, 37, 43, 54, 255, 14, 253, 146, 7, 77, 10]])
theorem m6 : runK (CT tab6) 30 e6.1 e6.2.1 [] = some (e6.2.2, []) := by kernel_rfl
noncomputable def tab7 : Tab := e6 :: tab6
theorem tab7_ok : TabOk tab7 := TabOk.cons (runK_sound (CT_ok tab6_ok) m6 trivial) tab6_ok
def e7 : FuncId × List T × List T := (36, [.ba 32 [2, 5, 0, 0, 0, 0, 0, 0, 0, 0, 0, 0, 0, 0, 0, 0, 0, 0, 0, 0, 0, 0, 0, 0, 0, 0, 0, 0, 0, 0, 0, 0], .int .i64 0], [.ba 32 [60, 106, 242, 36, 30, 191, 240, 3, 74, 139, 111, 190, 84, 61, 1, 17, 64, 21, 179, 93, 248, 160, 106, 123, 179, 24, 243, 83, 81, 179, 28, 102]])
theorem m7 : runK (CT tab7) 30 e7.1 e7.2.1 [] = some (e7.2.2, []) := by kernel_rfl
noncomputable def tab8 : Tab := e7 :: tab7
theorem tab8_ok : TabOk tab8 := TabOk.cons (runK_sound (CT_ok tab7_ok) m7 trivial) tab7_ok
def e8 : FuncId × List T × List T := (36, [.ba 32 [2, 5, 0, 0, 0, 0, 0, 0, 0, 0, 0, 0, 0, 0, 0, 0, 0, 0, 0, 0, 0, 0, 0, 0, 0, 0, 0, 0, 0, 0, 0, 0], .int .i64 1], [.ba 32 [221, 172, 222, 201, 106, 255, 140, 37, 34, 71, 196, 213, 58, 126, 178, 146, 152, 147, 66, 182, 169, 22, 68, 220, 113, 185, 30, 250, 128, 22, 99, 8]])
theorem m8 : runK (CT tab8) 30 e8.1 e8.2.1 [] = some (e8.2.2, []) := by kernel_rfl
noncomputable def tab9 : Tab := e8 :: tab8
theorem tab9_ok : TabOk tab9 := TabOk.cons (runK_sound (CT_ok tab8_ok) m8 trivial) tab8_ok
def e9 : FuncId × List T × List T := (6, [.int .i64 0], [.agg [.int .i64 0, .ba 32 [1, 5, 0, 0, 0, 0, 0, 0, 0, 0, 0, 0, 0, 0, 0, 0, 0, 0, 0, 0, 0, 0, 0, 0, 0, 0, 0, 0, 0, 0, 0, 0], .ba 32 [246, 60, 224, 49, 48, 74, 47, 187, 178, 34, 20, 34, 56, 14, 91, 64, 114, 229, 14, 152, 252, 186, 229, 72, 211, 93, 244, 199, 25, 175, 167, 226], .ba 32 [243, 74, 11, 118, 149, 27, 157, 137, 34, 40, 78, 200, 40, 68, 126, 34, 34, 106, 48, 98, 94, 44, 37, 43, 54, 255, 14, 253, 146, 7, 77, 10], .agg [.ba 32 [45, 53, 95, 120, 183, 255, 122, 128, 163, 174, 156, 33, 163, 88, 111, 185, 220, 118, 200, 7, 135, 35, 207, 171, 97, 12, 252, 204, 162, 64, 235, 252], .ba 32 [53, 132, 197, 111, 53, 7, 52, 215, 135, 254, 174, 253, 30, 254, 194, 114, 251, 67, 99, 253, 102, 62, 180, 92, 28, 78, 38, 33, 183, 114, 107, 8]]]])
theorem m9 : runK (CT tab9) 30 e9.1 e9.2.1 [] = some (e9.2.2, []) := by kernel_rfl
noncomputable def tab10 : Tab := e9 :: tab9
theorem tab10_ok : TabOk tab10 := TabOk.cons (runK_sound (CT_ok tab9_ok) m9 trivial) tab9_ok
def e10 : FuncId × List T × List T := (63, [.lst true 1 [.int .i64 1, .int .i64 10]], [.int .i64 11, .int .i64 0])
theorem m10 : runK (CT tab10) 30 e10.1 e10.2.1 [] = some (e10.2.2, []) := by kernel_rfl
noncomputable def tab11 : Tab := e10 :: tab10
theorem tab11_ok : TabOk tab11 := TabOk.cons (runK_sound (CT_ok tab10_ok) m10 trivial) tab10_ok
def e11 : FuncId × List T × List T := (27, [.agg [.int .i64 1, .int .i64 0, .int .i64 1, .agg [.ba 32 [183, 88, 42, 1, 155, 170, 175, 82, 21, 193, 130, 49, 40, 234, 65, 183, 80, 201, 140, 153, 185, 212, 46, 24, 108, 141, 225, 200, 22, 92, 32, 185], .int .i64 0], .int .i64 1000, .int .i64 700, .int .i64 3, .int .i64 1, .int .i64 10, .int .i64 5, .int .i64 900]], [.bool true])
theorem m11 : runK (CT tab11) 30 e11.1 e11.2.1 [] = some (e11.2.2, []) := by kernel_rfl
noncomputable def tab12 : Tab := e11 :: tab11
theorem tab12_ok : TabOk tab12 := TabOk.cons (runK_sound (CT_ok tab11_ok) m11 trivial) tab11_ok
def e12 : FuncId × List T × List T := (67, [.ba 32 [1, 5, 0, 0, 0, 0, 0, 0, 0, 0, 0, 0, 0, 0, 0, 0, 0, 0, 0, 0, 0, 0, 0, 0, 0, 0, 0, 0, 0, 0, 0, 0], .int .i64 0], [.ba 32 [197, 135, 187, 202, 75, 131, 34, 29, 3, 37, 143, 169, 159, 29, 5, 228, 57, 205, 91, 120, 160, 107, 152, 30, 126, 119, 62, 97, 59, 120, 221, 206]])
theorem m12 : runK (CT tab12) 30 e12.1 e12.2.1 [] = some (e12.2.2, []) := by kernel_rfl
noncomputable def tab13 : Tab := e12 :: tab12
theorem tab13_ok : TabOk tab13 := TabOk.cons (runK_sound (CT_ok tab12_ok) m12 trivial) tab12_ok
def e13 : FuncId × List T × List T := (78, [.agg [.int .i64 1, .int .i64 0, .int .i64 1, .agg [.ba 32 [183, 88, 42, 1, 155, 170, 175, 82, 21, 193, 130, 49, 40, 234, 65, 183, 80, 201, 140, 153, 185, 212, 46, 24, 108, 141, 225, 200, 22, 92, 32, 185], .int .i64 0], .int .i64 1000, .int .i64 700, .int .i64 3, .int .i64 1, .int .i64 10, .int .i64 5, .int .i64 900], .lst true 137 [], .lst true 137 [], .int .i64 0, .int .i64 0], [.agg [.int .i64 1000, .int .i64 700, .lst false 36 []], .int .i64 0])
theorem m13 : runK (CT tab13) 30 e13.1 e13.2.1 [] = some (e13.2.2, []) := by kernel_rfl
noncomputable def tab14 : Tab := e13 :: tab13
theorem tab14_ok : TabOk tab14 := TabOk.cons (runK_sound (CT_ok tab13_ok) m13 trivial) tab13_ok
def e14 : FuncId × List T × List T := (63, [.lst true 1 [.int .i64 1000, .int .i64 700]], [.int .i64 1700, .int .i64 0])
theorem m14 : runK (CT tab14) 30 e14.1 e14.2.1 [] = some (e14.2.2, []) := by kernel_rfl
noncomputable def tab15 : Tab := e14 :: tab14
theorem tab15_ok : TabOk tab15 := TabOk.cons (runK_sound (CT_ok tab14_ok) m14 trivial) tab14_ok
def e15 : FuncId × List T × List T := (91, [.agg [.int .i64 1, .int .i64 0, .int .i64 1, .agg [.ba 32 [183, 88, 42, 1, 155, 170, 175, 82, 21, 193, 130, 49, 40, 234, 65, 183, 80, 201, 140, 153, 185, 212, 46, 24, 108, 141, 225, 200, 22, 92, 32, 185], .int .i64 0], .int .i64 1000, .int .i64 700, .int .i64 3, .int .i64 1, .int .i64 10, .int .i64 5, .int .i64 900], .agg [.int .i64 1000, .int .i64 700, .lst false 36 []]], [.bool true])
theorem m15 : runK (CT tab15) 30 e15.1 e15.2.1 [] = some (e15.2.2, []) := by kernel_rfl
noncomputable def tab16 : Tab := e15 :: tab15
theorem tab16_ok : TabOk tab16 := TabOk.cons (runK_sound (CT_ok tab15_ok) m15 trivial) tab15_ok
def e16 : FuncId × List T × List T := (65, [.agg [.int .i64 1, .int .i64 0, .int .i64 1, .agg [.ba 32 [183, 88, 42, 1, 155, 170, 175, 82, 21, 193, 130, 49, 40, 234, 65, 183, 80, 201, 140, 153, 185, 212, 46, 24, 108, 141, 225, 200, 22, 92, 32, 185], .int .i64 0], .int .i64 1000, .int .i64 700, .int .i64 3, .int .i64 1, .int .i64 10, .int .i64 5, .int .i64 900], .int .i64 0, .ba 32 [152, 129, 246, 80, 130, 203, 127, 51, 225, 65, 156, 6, 188, 195, 128, 57, 207, 254, 203, 218, 130, 130, 19, 218, 7, 56, 147, 243, 19, 154, 123, 150], .agg [.int .i64 1000, .int .i64 700, .lst false 36 []]], [.agg [.lst true 130 [.agg [.agg [.ba 32 [183, 88, 42, 1, 155, 170, 175, 82, 21, 193, 130, 49, 40, 234, 65, 183, 80, 201, 140, 153, 185, 212, 46, 24, 108, 141, 225, 200, 22, 92, 32, 185], .int .i64 0], .int .i64 0, .ba 32 [0, 0, 0, 0, 0, 0, 0, 0, 0, 0, 0, 0, 0, 0, 0, 0, 0, 0, 0, 0, 0, 0, 0, 0, 0, 0, 0, 0, 0, 0, 0, 0], .ba 32 [0, 0, 0, 0, 0, 0, 0, 0, 0, 0, 0, 0, 0, 0, 0, 0, 0, 0, 0, 0, 0, 0, 0, 0, 0, 0, 0, 0, 0, 0, 0, 0], .ba 32 [0, 0, 0, 0, 0, 0, 0, 0, 0, 0, 0, 0, 0, 0, 0, 0, 0, 0, 0, 0, 0, 0, 0, 0, 0, 0, 0, 0, 0, 0, 0, 0]]], .lst true 2 [.agg [.int .i64 999, .lst false 37 [.agg [.int .i64 0, .int .i64 0, .bool false, .int .i64 0, .int .i64 3, .ba 32 [0, 0, 0, 0, 0, 0, 0, 0, 0, 0, 0, 0, 0, 0, 0, 0, 0, 0, 0, 0, 0, 0, 0, 0, 0, 0, 0, 0, 0, 0, 0, 0]], .agg [.int .i64 1, .int .i64 0, .bool false, .int .i64 0, .int .i64 0, .ba 32 [152, 129, 246, 80, 130, 203, 127, 51, 225, 65, 156, 6, 188, 195, 128, 57, 207, 254, 203, 218, 130, 130, 19, 218, 7, 56, 147, 243, 19, 154, 123, 150]]]], .agg [.int .i64 700, .lst true 37 [.agg [.int .i64 1, .int .i64 0, .bool false, .int .i64 0, .int .i64 0, .ba 32 [0, 0, 0, 0, 0, 0, 0, 0, 0, 0, 0, 0, 0, 0, 0, 0, 0, 0, 0, 0, 0, 0, 0, 0, 0, 0, 0, 0, 0, 0, 0, 0]]]]]], .int .i64 0])
theorem m16 : runK (CT tab16) 30 e16.1 e16.2.1 [] = some (e16.2.2, []) := by kernel_rfl
noncomputable def tab17 : Tab := e16 :: tab16
theorem tab17_ok : TabOk tab17 := TabOk.cons (runK_sound (CT_ok tab16_ok) m16 trivial) tab16_ok
def e17 : FuncId × List T × List T := (96, [.int .u64 0], [.bl true [0, 0, 0, 0, 0, 0, 0, 0]])
theorem m17 : runK (CT tab17) 30 e17.1 e17.2.1 [] = some (e17.2.2, []) := by kernel_rfl
noncomputable def tab18 : Tab := e17 :: tab17
theorem tab18_ok : TabOk tab18 := TabOk.cons (runK_sound (CT_ok tab17_ok) m17 trivial) tab17_ok
def e18 : FuncId × List T × List T := (96, [.int .u64 999], [.bl true [231, 3, 0, 0, 0, 0, 0, 0]])
theorem m18 : runK (CT tab18) 30 e18.1 e18.2.1 [] = some (e18.2.2, []) := by kernel_rfl
noncomputable def tab19 : Tab := e18 :: tab18
theorem tab19_ok : TabOk tab19 := TabOk.cons (runK_sound (CT_ok tab18_ok) m18 trivial) tab18_ok
def e19 : FuncId × List T × List T := (96, [.int .u64 3], [.bl true [3, 0, 0, 0, 0, 0, 0, 0]])
theorem m19 : runK (CT tab19) 30 e19.1 e19.2.1 [] = some (e19.2.2, []) := by kernel_rfl
noncomputable def tab20 : Tab := e19 :: tab19
theorem tab20_ok : TabOk tab20 := TabOk.cons (runK_sound (CT_ok tab19_ok) m19 trivial) tab19_ok
def e20 : FuncId × List T × List T := (96, [.int .u64 700], [.bl true [188, 2, 0, 0, 0, 0, 0, 0]])
theorem m20 : runK (CT tab20) 30 e20.1 e20.2.1 [] = some (e20.2.2, []) := by kernel_rfl
noncomputable def tab21 : Tab := e20 :: tab20
theorem tab21_ok : TabOk tab21 := TabOk.cons (runK_sound (CT_ok tab20_ok) m20 trivial) tab20_ok
def e21 : FuncId × List T × List T := (68, [.agg [.lst true 130 [.agg [.agg [.ba 32 [183, 88, 42, 1, 155, 170, 175, 82, 21, 193, 130, 49, 40, 234, 65, 183, 80, 201, 140, 153, 185, 212, 46, 24, 108, 141, 225, 200, 22, 92, 32, 185], .int .i64 0], .int .i64 0, .ba 32 [0, 0, 0, 0, 0, 0, 0, 0, 0, 0, 0, 0, 0, 0, 0, 0, 0, 0, 0, 0, 0, 0, 0, 0, 0, 0, 0, 0, 0, 0, 0, 0], .ba 32 [0, 0, 0, 0, 0, 0, 0, 0, 0, 0, 0, 0, 0, 0, 0, 0, 0, 0, 0, 0, 0, 0, 0, 0, 0, 0, 0, 0, 0, 0, 0, 0], .ba 32 [0, 0, 0, 0, 0, 0, 0, 0, 0, 0, 0, 0, 0, 0, 0, 0, 0, 0, 0, 0, 0, 0, 0, 0, 0, 0, 0, 0, 0, 0, 0, 0]]], .lst true 2 [.agg [.int .i64 999, .lst false 37 [.agg [.int .i64 0, .int .i64 0, .bool false, .int .i64 0, .int .i64 3, .ba 32 [0, 0, 0, 0, 0, 0, 0, 0, 0, 0, 0, 0, 0, 0, 0, 0, 0, 0, 0, 0, 0, 0, 0, 0, 0, 0, 0, 0, 0, 0, 0, 0]], .agg [.int .i64 1, .int .i64 0, .bool false, .int .i64 0, .int .i64 0, .ba 32 [152, 129, 246, 80, 130, 203, 127, 51, 225, 65, 156, 6, 188, 195, 128, 57, 207, 254, 203, 218, 130, 130, 19, 218, 7, 56, 147, 243, 19, 154, 123, 150]]]], .agg [.int .i64 700, .lst true 37 [.agg [.int .i64 1, .int .i64 0, .bool false, .int .i64 0, .int .i64 0, .ba 32 [0, 0, 0, 0, 0, 0, 0, 0, 0, 0, 0, 0, 0, 0, 0, 0, 0, 0, 0, 0, 0, 0, 0, 0, 0, 0, 0, 0, 0, 0, 0, 0]]]]]]], [.ba 32 [16, 64, 148, 241, 194, 0, 72, 5, 232, 95, 40, 186, 15, 218, 200, 25, 48, 130, 78, 16, 209, 9, 41, 199, 42, 81, 227, 122, 183, 5, 97, 112]])
theorem m21 : runK (CT tab21) 30 e21.1 e21.2.1 [] = some (e21.2.2, []) := by kernel_rfl
noncomputable def tab22 : Tab := e21 :: tab21
theorem tab22_ok : TabOk tab22 := TabOk.cons (runK_sound (CT_ok tab21_ok) m21 trivial) tab21_ok
def e22 : FuncId × List T × List T := (96, [.int .u64 32], [.bl true [32, 0, 0, 0, 0, 0, 0, 0]])
theorem m22 : runK (CT tab22) 30 e22.1 e22.2.1 [] = some (e22.2.2, []) := by kernel_rfl
noncomputable def tab23 : Tab := e22 :: tab22
theorem tab23_ok : TabOk tab23 := TabOk.cons (runK_sound (CT_ok tab22_ok) m22 trivial) tab22_ok
def e23 : FuncId × List T × List T := (32, [.ba 32 [243, 74, 11, 118, 149, 27, 157, 137, 34, 40, 78, 200, 40, 68, 126, 34, 34, 106, 48, 98, 94, 44, 37, 43, 54, 255, 14, 253, 146, 7, 77, 10], .agg [.lst true 130 [.agg [.agg [.ba 32 [183, 88, 42, 1, 155, 170, 175, 82, 21, 193, 130, 49, 40, 234, 65, 183, 80, 201, 140, 153, 185, 212, 46, 24, 108, 141, 225, 200, 22, 92, 32, 185], .int .i64 0], .int .i64 0, .ba 32 [0, 0, 0, 0, 0, 0, 0, 0, 0, 0, 0, 0, 0, 0, 0, 0, 0, 0, 0, 0, 0, 0, 0, 0, 0, 0, 0, 0, 0, 0, 0, 0], .ba 32 [0, 0, 0, 0, 0, 0, 0, 0, 0, 0, 0, 0, 0, 0, 0, 0, 0, 0, 0, 0, 0, 0, 0, 0, 0, 0, 0, 0, 0, 0, 0, 0], .ba 32 [0, 0, 0, 0, 0, 0, 0, 0, 0, 0, 0, 0, 0, 0, 0, 0, 0, 0, 0, 0, 0, 0, 0, 0, 0, 0, 0, 0, 0, 0, 0, 0]]], .lst true 2 [.agg [.int .i64 999, .lst false 37 [.agg [.int .i64 0, .int .i64 0, .bool false, .int .i64 0, .int .i64 3, .ba 32 [0, 0, 0, 0, 0, 0, 0, 0, 0, 0, 0, 0, 0, 0, 0, 0, 0, 0, 0, 0, 0, 0, 0, 0, 0, 0, 0, 0, 0, 0, 0, 0]], .agg [.int .i64 1, .int .i64 0, .bool false, .int .i64 0, .int .i64 0, .ba 32 [152, 129, 246, 80, 130, 203, 127, 51, 225, 65, 156, 6, 188, 195, 128, 57, 207, 254, 203, 218, 130, 130, 19, 218, 7, 56, 147, 243, 19, 154, 123, 150]]]], .agg [.int .i64 700, .lst true 37 [.agg [.int .i64 1, .int .i64 0, .bool false, .int .i64 0, .int .i64 0, .ba 32 [0, 0, 0, 0, 0, 0, 0, 0, 0, 0, 0, 0, 0, 0, 0, 0, 0, 0, 0, 0, 0, 0, 0, 0, 0, 0, 0, 0, 0, 0, 0, 0]]]]]]], [.ba 32 [194, 84, 173, 52, 22, 214, 33, 212, 147, 69, 137, 46, 22, 65, 84, 223, 112, 169, 151, 188, 49, 152, 79, 110, 145, 186, 202, 242, 224, 166, 62, 155]])
theorem m23 : runK (CT tab23) 30 e23.1 e23.2.1 [] = some (e23.2.2, []) := by kernel_rfl
noncomputable def tab24 : Tab := e23 :: tab23
theorem tab24_ok : TabOk tab24 := TabOk.cons (runK_sound (CT_ok tab23_ok) m23 trivial) tab23_ok
def e24 : FuncId × List T × List T := (36, [.ba 32 [1, 5, 0, 0, 0, 0, 0, 0, 0, 0, 0, 0, 0, 0, 0, 0, 0, 0, 0, 0, 0, 0, 0, 0, 0, 0, 0, 0, 0, 0, 0, 0], .int .i64 0], [.ba 32 [197, 135, 187, 202, 75, 131, 34, 29, 3, 37, 143, 169, 159, 29, 5, 228, 57, 205, 91, 120, 160, 107, 152, 30, 126, 119, 62, 97, 59, 120, 221, 206]])
theorem m24 : runK (CT tab24) 30 e24.1 e24.2.1 [] = some (e24.2.2, []) := by kernel_rfl
noncomputable def tab25 : Tab := e24 :: tab24
theorem tab25_ok : TabOk tab25 := TabOk.cons (runK_sound (CT_ok tab24_ok) m24 trivial) tab24_ok
def e25 : FuncId × List T × List T := (36, [.ba 32 [1, 5, 0, 0, 0, 0, 0, 0, 0, 0, 0, 0, 0, 0, 0, 0, 0, 0, 0, 0, 0, 0, 0, 0, 0, 0, 0, 0, 0, 0, 0, 0], .int .i64 1], [.ba 32 [148, 206, 39, 111, 147, 61, 185, 187, 74, 104, 41, 49, 219, 185, 243, 161, 127, 4, 172, 219, 96, 32, 130, 47, 164, 113, 179, 31, 41, 77, 79, 6]])
theorem m25 : runK (CT tab25) 30 e25.1 e25.2.1 [] = some (e25.2.2, []) := by kernel_rfl
noncomputable def tab26 : Tab := e25 :: tab25
theorem tab26_ok : TabOk tab26 := TabOk.cons (runK_sound (CT_ok tab25_ok) m25 trivial) tab25_ok
def e26 : FuncId × List T × List T := (6, [.int .i64 1], [.agg [.int .i64 1, .ba 32 [2, 5, 0, 0, 0, 0, 0, 0, 0, 0, 0, 0, 0, 0, 0, 0, 0, 0, 0, 0, 0, 0, 0, 0, 0, 0, 0, 0, 0, 0, 0, 0], .ba 32 [243, 74, 11, 118, 149, 27, 157, 137, 34, 40, 78, 200, 40, 68, 126, 34, 34, 106, 48, 98, 94, 44, 37, 43, 54, 255, 14, 253, 146, 7, 77, 10], .ba 32 [246, 60, 224, 49, 48, 74, 47, 187, 178, 34, 20, 34, 56, 14, 91, 64, 114, 229, 14, 152, 252, 186, 229, 72, 211, 93, 244, 199, 25, 175, 167, 226], .agg [.ba 32 [152, 129, 246, 80, 130, 203, 127, 51, 225, 65, 156, 6, 188, 195, 128, 57, 207, 254, 203, 218, 130, 130, 19, 218, 7, 56, 147, 243, 19, 154, 123, 150], .ba 32 [180, 191, 10, 126, 100, 207, 54, 199, 157, 240, 113, 186, 154, 143, 140, 79, 32, 39, 117, 175, 5, 116, 137, 213, 87, 12, 157, 210, 75, 150, 185, 251]]]])
theorem m26 : runK (CT tab26) 30 e26.1 e26.2.1 [] = some (e26.2.2, []) := by kernel_rfl
noncomputable def tab27 : Tab := e26 :: tab26
theorem tab27_ok : TabOk tab27 := TabOk.cons (runK_sound (CT_ok tab26_ok) m26 trivial) tab26_ok
def e27 : FuncId × List T × List T := (67, [.ba 32 [2, 5, 0, 0, 0, 0, 0, 0, 0, 0, 0, 0, 0, 0, 0, 0, 0, 0, 0, 0, 0, 0, 0, 0, 0, 0, 0, 0, 0, 0, 0, 0], .int .i64 0], [.ba 32 [60, 106, 242, 36, 30, 191, 240, 3, 74, 139, 111, 190, 84, 61, 1, 17, 64, 21, 179, 93, 248, 160, 106, 123, 179, 24, 243, 83, 81, 179, 28, 102]])
theorem m27 : runK (CT tab27) 30 e27.1 e27.2.1 [] = some (e27.2.2, []) := by kernel_rfl
noncomputable def tab28 : Tab := e27 :: tab27
theorem tab28_ok : TabOk tab28 := TabOk.cons (runK_sound (CT_ok tab27_ok) m27 trivial) tab27_ok
def e28 : FuncId × List T × List T := (65, [.agg [.int .i64 1, .int .i64 0, .int .i64 1, .agg [.ba 32 [183, 88, 42, 1, 155, 170, 175, 82, 21, 193, 130, 49, 40, 234, 65, 183, 80, 201, 140, 153, 185, 212, 46, 24, 108, 141, 225, 200, 22, 92, 32, 185], .int .i64 0], .int .i64 1000, .int .i64 700, .int .i64 3, .int .i64 1, .int .i64 10, .int .i64 5, .int .i64 900], .int .i64 1, .ba 32 [45, 53, 95, 120, 183, 255, 122, 128, 163, 174, 156, 33, 163, 88, 111, 185, 220, 118, 200, 7, 135, 35, 207, 171, 97, 12, 252, 204, 162, 64, 235, 252], .agg [.int .i64 1000, .int .i64 700, .lst false 36 []]], [.agg [.lst true 130 [.agg [.agg [.ba 32 [183, 88, 42, 1, 155, 170, 175, 82, 21, 193, 130, 49, 40, 234, 65, 183, 80, 201, 140, 153, 185, 212, 46, 24, 108, 141, 225, 200, 22, 92, 32, 185], .int .i64 0], .int .i64 0, .ba 32 [0, 0, 0, 0, 0, 0, 0, 0, 0, 0, 0, 0, 0, 0, 0, 0, 0, 0, 0, 0, 0, 0, 0, 0, 0, 0, 0, 0, 0, 0, 0, 0], .ba 32 [0, 0, 0, 0, 0, 0, 0, 0, 0, 0, 0, 0, 0, 0, 0, 0, 0, 0, 0, 0, 0, 0, 0, 0, 0, 0, 0, 0, 0, 0, 0, 0], .ba 32 [0, 0, 0, 0, 0, 0, 0, 0, 0, 0, 0, 0, 0, 0, 0, 0, 0, 0, 0, 0, 0, 0, 0, 0, 0, 0, 0, 0, 0, 0, 0, 0]]], .lst true 2 [.agg [.int .i64 700, .lst false 37 [.agg [.int .i64 1, .int .i64 0, .bool false, .int .i64 0, .int .i64 3, .ba 32 [0, 0, 0, 0, 0, 0, 0, 0, 0, 0, 0, 0, 0, 0, 0, 0, 0, 0, 0, 0, 0, 0, 0, 0, 0, 0, 0, 0, 0, 0, 0, 0]], .agg [.int .i64 0, .int .i64 0, .bool false, .int .i64 0, .int .i64 0, .ba 32 [45, 53, 95, 120, 183, 255, 122, 128, 163, 174, 156, 33, 163, 88, 111, 185, 220, 118, 200, 7, 135, 35, 207, 171, 97, 12, 252, 204, 162, 64, 235, 252]]]], .agg [.int .i64 999, .lst true 37 [.agg [.int .i64 0, .int .i64 0, .bool false, .int .i64 0, .int .i64 0, .ba 32 [0, 0, 0, 0, 0, 0, 0, 0, 0, 0, 0, 0, 0, 0, 0, 0, 0, 0, 0, 0, 0, 0, 0, 0, 0, 0, 0, 0, 0, 0, 0, 0]]]]]], .int .i64 0])
theorem m28 : runK (CT tab28) 30 e28.1 e28.2.1 [] = some (e28.2.2, []) := by kernel_rfl
noncomputable def tab29 : Tab := e28 :: tab28
theorem tab29_ok : TabOk tab29 := TabOk.cons (runK_sound (CT_ok tab28_ok) m28 trivial) tab28_ok
def e29 : FuncId × List T × List T := (68, [.agg [.lst true 130 [.agg [.agg [.ba 32 [183, 88, 42, 1, 155, 170, 175, 82, 21, 193, 130, 49, 40, 234, 65, 183, 80, 201, 140, 153, 185, 212, 46, 24, 108, 141, 225, 200, 22, 92, 32, 185], .int .i64 0], .int .i64 0, .ba 32 [0, 0, 0, 0, 0, 0, 0, 0, 0, 0, 0, 0, 0, 0, 0, 0, 0, 0, 0, 0, 0, 0, 0, 0, 0, 0, 0, 0, 0, 0, 0, 0], .ba 32 [0, 0, 0, 0, 0, 0, 0, 0, 0, 0, 0, 0, 0, 0, 0, 0, 0, 0, 0, 0, 0, 0, 0, 0, 0, 0, 0, 0, 0, 0, 0, 0], .ba 32 [0, 0, 0, 0, 0, 0, 0, 0, 0, 0, 0, 0, 0, 0, 0, 0, 0, 0, 0, 0, 0, 0, 0, 0, 0, 0, 0, 0, 0, 0, 0, 0]]], .lst true 2 [.agg [.int .i64 700, .lst false 37 [.agg [.int .i64 1, .int .i64 0, .bool false, .int .i64 0, .int .i64 3, .ba 32 [0, 0, 0, 0, 0, 0, 0, 0, 0, 0, 0, 0, 0, 0, 0, 0, 0, 0, 0, 0, 0, 0, 0, 0, 0, 0, 0, 0, 0, 0, 0, 0]], .agg [.int .i64 0, .int .i64 0, .bool false, .int .i64 0, .int .i64 0, .ba 32 [45, 53, 95, 120, 183, 255, 122, 128, 163, 174, 156, 33, 163, 88, 111, 185, 220, 118, 200, 7, 135, 35, 207, 171, 97, 12, 252, 204, 162, 64, 235, 252]]]], .agg [.int .i64 999, .lst true 37 [.agg [.int .i64 0, .int .i64 0, .bool false, .int .i64 0, .int .i64 0, .ba 32 [0, 0, 0, 0, 0, 0, 0, 0, 0, 0, 0, 0, 0, 0, 0, 0, 0, 0, 0, 0, 0, 0, 0, 0, 0, 0, 0, 0, 0, 0, 0, 0]]]]]]], [.ba 32 [184, 58, 177, 172, 19, 6, 126, 199, 55, 237, 115, 21, 81, 45, 2, 45, 142, 9, 181, 7, 188, 26, 6, 204, 131, 76, 229, 207, 63, 244, 14, 74]])
theorem m29 : runK (CT tab29) 30 e29.1 e29.2.1 [] = some (e29.2.2, []) := by kernel_rfl
noncomputable def tab30 : Tab := e29 :: tab29
theorem tab30_ok : TabOk tab30 := TabOk.cons (runK_sound (CT_ok tab29_ok) m29 trivial) tab29_ok
def e30 : FuncId × List T × List T := (32, [.ba 32 [246, 60, 224, 49, 48, 74, 47, 187, 178, 34, 20, 34, 56, 14, 91, 64, 114, 229, 14, 152, 252, 186, 229, 72, 211, 93, 244, 199, 25, 175, 167, 226], .agg [.lst true 130 [.agg [.agg [.ba 32 [183, 88, 42, 1, 155, 170, 175, 82, 21, 193, 130, 49, 40, 234, 65, 183, 80, 201, 140, 153, 185, 212, 46, 24, 108, 141, 225, 200, 22, 92, 32, 185], .int .i64 0], .int .i64 0, .ba 32 [0, 0, 0, 0, 0, 0, 0, 0, 0, 0, 0, 0, 0, 0, 0, 0, 0, 0, 0, 0, 0, 0, 0, 0, 0, 0, 0, 0, 0, 0, 0, 0], .ba 32 [0, 0, 0, 0, 0, 0, 0, 0, 0, 0, 0, 0, 0, 0, 0, 0, 0, 0, 0, 0, 0, 0, 0, 0, 0, 0, 0, 0, 0, 0, 0, 0], .ba 32 [0, 0, 0, 0, 0, 0, 0, 0, 0, 0, 0, 0, 0, 0, 0, 0, 0, 0, 0, 0, 0, 0, 0, 0, 0, 0, 0, 0, 0, 0, 0, 0]]], .lst true 2 [.agg [.int .i64 700, .lst false 37 [.agg [.int .i64 1, .int .i64 0, .bool false, .int .i64 0, .int .i64 3, .ba 32 [0, 0, 0, 0, 0, 0, 0, 0, 0, 0, 0, 0, 0, 0, 0, 0, 0, 0, 0, 0, 0, 0, 0, 0, 0, 0, 0, 0, 0, 0, 0, 0]], .agg [.int .i64 0, .int .i64 0, .bool false, .int .i64 0, .int .i64 0, .ba 32 [45, 53, 95, 120, 183, 255, 122, 128, 163, 174, 156, 33, 163, 88, 111, 185, 220, 118, 200, 7, 135, 35, 207, 171, 97, 12, 252, 204, 162, 64, 235, 252]]]], .agg [.int .i64 999, .lst true 37 [.agg [.int .i64 0, .int .i64 0, .bool false, .int .i64 0, .int .i64 0, .ba 32 [0, 0, 0, 0, 0, 0, 0, 0, 0, 0, 0, 0, 0, 0, 0, 0, 0, 0, 0, 0, 0, 0, 0, 0, 0, 0, 0, 0, 0, 0, 0, 0]]]]]]], [.ba 32 [188, 125, 147, 60, 134, 76, 124, 69, 194, 214, 93, 194, 85, 69, 35, 205, 56, 222, 103, 137, 26, 255, 42, 204, 0, 95, 33, 193, 72, 8, 193, 221]])
theorem m30 : runK (CT tab30) 30 e30.1 e30.2.1 [] = some (e30.2.2, []) := by kernel_rfl
noncomputable def tab31 : Tab := e30 :: tab30
theorem tab31_ok : TabOk tab31 := TabOk.cons (runK_sound (CT_ok tab30_ok) m30 trivial) tab30_ok
def e31 : FuncId × List T × List T := (46, [.agg [.int .i64 6, .int .i64 1, .int .i64 0, .int .i64 0, .int .i64 0, .ba 32 [0, 0, 0, 0, 0, 0, 0, 0, 0, 0, 0, 0, 0, 0, 0, 0, 0, 0, 0, 0, 0, 0, 0, 0, 0, 0, 0, 0, 0, 0, 0, 0], .bl true [], .ba 32 [0, 0, 0, 0, 0, 0, 0, 0, 0, 0, 0, 0, 0, 0, 0, 0, 0, 0, 0, 0, 0, 0, 0, 0, 0, 0, 0, 0, 0, 0, 0, 0], .ba 32 [45, 53, 95, 120, 183, 255, 122, 128, 163, 174, 156, 33, 163, 88, 111, 185, 220, 118, 200, 7, 135, 35, 207, 171, 97, 12, 252, 204, 162, 64, 235, 252], .ba 32 [0, 0, 0, 0, 0, 0, 0, 0, 0, 0, 0, 0, 0, 0, 0, 0, 0, 0, 0, 0, 0, 0, 0, 0, 0, 0, 0, 0, 0, 0, 0, 0], .int .i64 0, .int .i64 0, .bl true []]], [.bool true])
theorem m31 : runK (CT tab31) 30 e31.1 e31.2.1 [] = some (e31.2.2, []) := by kernel_rfl
noncomputable def tab32 : Tab := e31 :: tab31
theorem tab32_ok : TabOk tab32 := TabOk.cons (runK_sound (CT_ok tab31_ok) m31 trivial) tab31_ok
def e32 : FuncId × List T × List T := (46, [.agg [.int .i64 6, .int .i64 1, .int .i64 0, .int .i64 0, .int .i64 0, .ba 32 [0, 0, 0, 0, 0, 0, 0, 0, 0, 0, 0, 0, 0, 0, 0, 0, 0, 0, 0, 0, 0, 0, 0, 0, 0, 0, 0, 0, 0, 0, 0, 0], .bl true [], .ba 32 [0, 0, 0, 0, 0, 0, 0, 0, 0, 0, 0, 0, 0, 0, 0, 0, 0, 0, 0, 0, 0, 0, 0, 0, 0, 0, 0, 0, 0, 0, 0, 0], .ba 32 [152, 129, 246, 80, 130, 203, 127, 51, 225, 65, 156, 6, 188, 195, 128, 57, 207, 254, 203, 218, 130, 130, 19, 218, 7, 56, 147, 243, 19, 154, 123, 150], .ba 32 [0, 0, 0, 0, 0, 0, 0, 0, 0, 0, 0, 0, 0, 0, 0, 0, 0, 0, 0, 0, 0, 0, 0, 0, 0, 0, 0, 0, 0, 0, 0, 0], .int .i64 0, .int .i64 0, .bl true []]], [.bool true])
theorem m32 : runK (CT tab32) 30 e32.1 e32.2.1 [] = some (e32.2.2, []) := by kernel_rfl
noncomputable def tab33 : Tab := e32 :: tab32
theorem tab33_ok : TabOk tab33 := TabOk.cons (runK_sound (CT_ok tab32_ok) m32 trivial) tab32_ok
def e33 : FuncId × List T × List T := (46, [.agg [.int .i64 1, .int .i64 1, .int .i64 0, .int .i64 100, .int .i64 50, .ba 32 [183, 193, 97, 0, 173, 221, 211, 210, 65, 151, 90, 52, 133, 85, 228, 114, 208, 55, 14, 189, 86, 127, 149, 187, 127, 35, 36, 219, 95, 234, 55, 159], .bl false (List.replicate 2112 0), .ba 32 [0, 0, 0, 0, 0, 0, 0, 0, 0, 0, 0, 0, 0, 0, 0, 0, 0, 0, 0, 0, 0, 0, 0, 0, 0, 0, 0, 0, 0, 0, 0, 0], .ba 32 [0, 0, 0, 0, 0, 0, 0, 0, 0, 0, 0, 0, 0, 0, 0, 0, 0, 0, 0, 0, 0, 0, 0, 0, 0, 0, 0, 0, 0, 0, 0, 0], .ba 32 [0, 0, 0, 0, 0, 0, 0, 0, 0, 0, 0, 0, 0, 0, 0, 0, 0, 0, 0, 0, 0, 0, 0, 0, 0, 0, 0, 0, 0, 0, 0, 0], .int .i64 0, .int .i64 0, .bl true []]], [.bool true])
theorem m33 : runK (CT tab33) 30 e33.1 e33.2.1 [] = some (e33.2.2, []) := by kernel_rfl
noncomputable def tab34 : Tab := e33 :: tab33
theorem tab34_ok : TabOk tab34 := TabOk.cons (runK_sound (CT_ok tab33_ok) m33 trivial) tab33_ok
def e34 : FuncId × List T × List T := (63, [.lst false 1 [.int .i64 10, .int .i64 1, .int .i64 100]], [.int .i64 111, .int .i64 0])
theorem m34 : runK (CT tab34) 30 e34.1 e34.2.1 [] = some (e34.2.2, []) := by kernel_rfl
noncomputable def tab35 : Tab := e34 :: tab34
theorem tab35_ok : TabOk tab35 := TabOk.cons (runK_sound (CT_ok tab34_ok) m34 trivial) tab34_ok
def e35 : FuncId × List T × List T := (88, [.agg [.int .i64 1, .int .i64 0, .int .i64 1, .agg [.ba 32 [183, 88, 42, 1, 155, 170, 175, 82, 21, 193, 130, 49, 40, 234, 65, 183, 80, 201, 140, 153, 185, 212, 46, 24, 108, 141, 225, 200, 22, 92, 32, 185], .int .i64 0], .int .i64 1000, .int .i64 700, .int .i64 3, .int .i64 1, .int .i64 10, .int .i64 5, .int .i64 900], .lst true 137 [], .lst true 137 [], .int .i64 0, .agg [.int .i64 1, .int .i64 1, .int .i64 0, .int .i64 100, .int .i64 50, .ba 32 [183, 193, 97, 0, 173, 221, 211, 210, 65, 151, 90, 52, 133, 85, 228, 114, 208, 55, 14, 189, 86, 127, 149, 187, 127, 35, 36, 219, 95, 234, 55, 159], .bl false (List.replicate 2112 0), .ba 32 [0, 0, 0, 0, 0, 0, 0, 0, 0, 0, 0, 0, 0, 0, 0, 0, 0, 0, 0, 0, 0, 0, 0, 0, 0, 0, 0, 0, 0, 0, 0, 0], .ba 32 [0, 0, 0, 0, 0, 0, 0, 0, 0, 0, 0, 0, 0, 0, 0, 0, 0, 0, 0, 0, 0, 0, 0, 0, 0, 0, 0, 0, 0, 0, 0, 0], .ba 32 [0, 0, 0, 0, 0, 0, 0, 0, 0, 0, 0, 0, 0, 0, 0, 0, 0, 0, 0, 0, 0, 0, 0, 0, 0, 0, 0, 0, 0, 0, 0, 0], .int .i64 0, .int .i64 0, .bl true []]], [.int .i64 0])
theorem m35 : runK (CT tab35) 30 e35.1 e35.2.1 [] = some (e35.2.2, []) := by kernel_rfl
noncomputable def tab36 : Tab := e35 :: tab35
theorem tab36_ok : TabOk tab36 := TabOk.cons (runK_sound (CT_ok tab35_ok) m35 trivial) tab35_ok
def e36 : FuncId × List T × List T := (78, [.agg [.int .i64 1, .int .i64 0, .int .i64 1, .agg [.ba 32 [183, 88, 42, 1, 155, 170, 175, 82, 21, 193, 130, 49, 40, 234, 65, 183, 80, 201, 140, 153, 185, 212, 46, 24, 108, 141, 225, 200, 22, 92, 32, 185], .int .i64 0], .int .i64 1000, .int .i64 700, .int .i64 3, .int .i64 1, .int .i64 10, .int .i64 5, .int .i64 900], .lst false 137 [.agg [.int .i64 1, .int .i64 1, .int .i64 0, .int .i64 100, .int .i64 50, .ba 32 [183, 193, 97, 0, 173, 221, 211, 210, 65, 151, 90, 52, 133, 85, 228, 114, 208, 55, 14, 189, 86, 127, 149, 187, 127, 35, 36, 219, 95, 234, 55, 159], .bl false (List.replicate 2112 0), .ba 32 [0, 0, 0, 0, 0, 0, 0, 0, 0, 0, 0, 0, 0, 0, 0, 0, 0, 0, 0, 0, 0, 0, 0, 0, 0, 0, 0, 0, 0, 0, 0, 0], .ba 32 [0, 0, 0, 0, 0, 0, 0, 0, 0, 0, 0, 0, 0, 0, 0, 0, 0, 0, 0, 0, 0, 0, 0, 0, 0, 0, 0, 0, 0, 0, 0, 0], .ba 32 [0, 0, 0, 0, 0, 0, 0, 0, 0, 0, 0, 0, 0, 0, 0, 0, 0, 0, 0, 0, 0, 0, 0, 0, 0, 0, 0, 0, 0, 0, 0, 0], .int .i64 0, .int .i64 0, .bl true []]], .lst true 137 [], .int .i64 1, .int .i64 0], [.agg [.int .i64 900, .int .i64 700, .lst false 36 [.agg [.int .i64 0, .int .i64 0, .int .i64 100, .ba 32 [183, 193, 97, 0, 173, 221, 211, 210, 65, 151, 90, 52, 133, 85, 228, 114, 208, 55, 14, 189, 86, 127, 149, 187, 127, 35, 36, 219, 95, 234, 55, 159], .int .i64 50]]], .int .i64 0])
theorem m36 : runK (CT tab36) 30 e36.1 e36.2.1 [] = some (e36.2.2, []) := by kernel_rfl
noncomputable def tab37 : Tab := e36 :: tab36
theorem tab37_ok : TabOk tab37 := TabOk.cons (runK_sound (CT_ok tab36_ok) m36 trivial) tab36_ok
def e37 : FuncId × List T × List T := (63, [.lst false 1 [.int .i64 900, .int .i64 700, .int .i64 100]], [.int .i64 1700, .int .i64 0])
theorem m37 : runK (CT tab37) 30 e37.1 e37.2.1 [] = some (e37.2.2, []) := by kernel_rfl
noncomputable def tab38 : Tab := e37 :: tab37
theorem tab38_ok : TabOk tab38 := TabOk.cons (runK_sound (CT_ok tab37_ok) m37 trivial) tab37_ok
def e38 : FuncId × List T × List T := (91, [.agg [.int .i64 1, .int .i64 0, .int .i64 1, .agg [.ba 32 [183, 88, 42, 1, 155, 170, 175, 82, 21, 193, 130, 49, 40, 234, 65, 183, 80, 201, 140, 153, 185, 212, 46, 24, 108, 141, 225, 200, 22, 92, 32, 185], .int .i64 0], .int .i64 1000, .int .i64 700, .int .i64 3, .int .i64 1, .int .i64 10, .int .i64 5, .int .i64 900], .agg [.int .i64 900, .int .i64 700, .lst false 36 [.agg [.int .i64 0, .int .i64 0, .int .i64 100, .ba 32 [183, 193, 97, 0, 173, 221, 211, 210, 65, 151, 90, 52, 133, 85, 228, 114, 208, 55, 14, 189, 86, 127, 149, 187, 127, 35, 36, 219, 95, 234, 55, 159], .int .i64 50]]]], [.bool true])
theorem m38 : runK (CT tab38) 30 e38.1 e38.2.1 [] = some (e38.2.2, []) := by kernel_rfl
noncomputable def tab39 : Tab := e38 :: tab38
theorem tab39_ok : TabOk tab39 := TabOk.cons (runK_sound (CT_ok tab38_ok) m38 trivial) tab38_ok
def e39 : FuncId × List T × List T := (65, [.agg [.int .i64 1, .int .i64 0, .int .i64 1, .agg [.ba 32 [183, 88, 42, 1, 155, 170, 175, 82, 21, 193, 130, 49, 40, 234, 65, 183, 80, 201, 140, 153, 185, 212, 46, 24, 108, 141, 225, 200, 22, 92, 32, 185], .int .i64 0], .int .i64 1000, .int .i64 700, .int .i64 3, .int .i64 1, .int .i64 10, .int .i64 5, .int .i64 900], .int .i64 1, .ba 32 [53, 132, 197, 111, 53, 7, 52, 215, 135, 254, 174, 253, 30, 254, 194, 114, 251, 67, 99, 253, 102, 62, 180, 92, 28, 78, 38, 33, 183, 114, 107, 8], .agg [.int .i64 900, .int .i64 700, .lst false 36 [.agg [.int .i64 0, .int .i64 0, .int .i64 100, .ba 32 [183, 193, 97, 0, 173, 221, 211, 210, 65, 151, 90, 52, 133, 85, 228, 114, 208, 55, 14, 189, 86, 127, 149, 187, 127, 35, 36, 219, 95, 234, 55, 159], .int .i64 50]]]], [.agg [.lst true 130 [.agg [.agg [.ba 32 [183, 88, 42, 1, 155, 170, 175, 82, 21, 193, 130, 49, 40, 234, 65, 183, 80, 201, 140, 153, 185, 212, 46, 24, 108, 141, 225, 200, 22, 92, 32, 185], .int .i64 0], .int .i64 0, .ba 32 [0, 0, 0, 0, 0, 0, 0, 0, 0, 0, 0, 0, 0, 0, 0, 0, 0, 0, 0, 0, 0, 0, 0, 0, 0, 0, 0, 0, 0, 0, 0, 0], .ba 32 [0, 0, 0, 0, 0, 0, 0, 0, 0, 0, 0, 0, 0, 0, 0, 0, 0, 0, 0, 0, 0, 0, 0, 0, 0, 0, 0, 0, 0, 0, 0, 0], .ba 32 [0, 0, 0, 0, 0, 0, 0, 0, 0, 0, 0, 0, 0, 0, 0, 0, 0, 0, 0, 0, 0, 0, 0, 0, 0, 0, 0, 0, 0, 0, 0, 0]]], .lst false 2 [.agg [.int .i64 700, .lst false 37 [.agg [.int .i64 1, .int .i64 0, .bool false, .int .i64 0, .int .i64 3, .ba 32 [0, 0, 0, 0, 0, 0, 0, 0, 0, 0, 0, 0, 0, 0, 0, 0, 0, 0, 0, 0, 0, 0, 0, 0, 0, 0, 0, 0, 0, 0, 0, 0]], .agg [.int .i64 0, .int .i64 0, .bool false, .int .i64 0, .int .i64 0, .ba 32 [53, 132, 197, 111, 53, 7, 52, 215, 135, 254, 174, 253, 30, 254, 194, 114, 251, 67, 99, 253, 102, 62, 180, 92, 28, 78, 38, 33, 183, 114, 107, 8]]]], .agg [.int .i64 899, .lst true 37 [.agg [.int .i64 0, .int .i64 0, .bool false, .int .i64 0, .int .i64 0, .ba 32 [0, 0, 0, 0, 0, 0, 0, 0, 0, 0, 0, 0, 0, 0, 0, 0, 0, 0, 0, 0, 0, 0, 0, 0, 0, 0, 0, 0, 0, 0, 0, 0]]]], .agg [.int .i64 100, .lst false 37 [.agg [.int .i64 1, .int .i64 0, .bool false, .int .i64 0, .int .i64 3, .ba 32 [183, 193, 97, 0, 173, 221, 211, 210, 65, 151, 90, 52, 133, 85, 228, 114, 208, 55, 14, 189, 86, 127, 149, 187, 127, 35, 36, 219, 95, 234, 55, 159]], .agg [.int .i64 0, .int .i64 0, .bool false, .int .i64 50, .int .i64 0, .ba 32 [0, 0, 0, 0, 0, 0, 0, 0, 0, 0, 0, 0, 0, 0, 0, 0, 0, 0, 0, 0, 0, 0, 0, 0, 0, 0, 0, 0, 0, 0, 0, 0]], .agg [.int .i64 0, .int .i64 0, .bool false, .int .i64 0, .int .i64 0, .ba 32 [53, 132, 197, 111, 53, 7, 52, 215, 135, 254, 174, 253, 30, 254, 194, 114, 251, 67, 99, 253, 102, 62, 180, 92, 28, 78, 38, 33, 183, 114, 107, 8]]]]]], .int .i64 0])
theorem m39 : runK (CT tab39) 30 e39.1 e39.2.1 [] = some (e39.2.2, []) := by kernel_rfl
noncomputable def tab40 : Tab := e39 :: tab39
theorem tab40_ok : TabOk tab40 := TabOk.cons (runK_sound (CT_ok tab39_ok) m39 trivial) tab39_ok
def e40 : FuncId × List T × List T := (96, [.int .u64 899], [.bl true [131, 3, 0, 0, 0, 0, 0, 0]])
theorem m40 : runK (CT tab40) 30 e40.1 e40.2.1 [] = some (e40.2.2, []) := by kernel_rfl
noncomputable def tab41 : Tab := e40 :: tab40
theorem tab41_ok : TabOk tab41 := TabOk.cons (runK_sound (CT_ok tab40_ok) m40 trivial) tab40_ok
def e41 : FuncId × List T × List T := (96, [.int .u64 100], [.bl true [100, 0, 0, 0, 0, 0, 0, 0]])
theorem m41 : runK (CT tab41) 30 e41.1 e41.2.1 [] = some (e41.2.2, []) := by kernel_rfl
noncomputable def tab42 : Tab := e41 :: tab41
theorem tab42_ok : TabOk tab42 := TabOk.cons (runK_sound (CT_ok tab41_ok) m41 trivial) tab41_ok
def e42 : FuncId × List T × List T := (96, [.int .u64 50], [.bl true [50, 0, 0, 0, 0, 0, 0, 0]])
theorem m42 : runK (CT tab42) 30 e42.1 e42.2.1 [] = some (e42.2.2, []) := by kernel_rfl
noncomputable def tab43 : Tab := e42 :: tab42
theorem tab43_ok : TabOk tab43 := TabOk.cons (runK_sound (CT_ok tab42_ok) m42 trivial) tab42_ok
def e43 : FuncId × List T × List T := (68, [.agg [.lst true 130 [.agg [.agg [.ba 32 [183, 88, 42, 1, 155, 170, 175, 82, 21, 193, 130, 49, 40, 234, 65, 183, 80, 201, 140, 153, 185, 212, 46, 24, 108, 141, 225, 200, 22, 92, 32, 185], .int .i64 0], .int .i64 0, .ba 32 [0, 0, 0, 0, 0, 0, 0, 0, 0, 0, 0, 0, 0, 0, 0, 0, 0, 0, 0, 0, 0, 0, 0, 0, 0, 0, 0, 0, 0, 0, 0, 0], .ba 32 [0, 0, 0, 0, 0, 0, 0, 0, 0, 0, 0, 0, 0, 0, 0, 0, 0, 0, 0, 0, 0, 0, 0, 0, 0, 0, 0, 0, 0, 0, 0, 0], .ba 32 [0, 0, 0, 0, 0, 0, 0, 0, 0, 0, 0, 0, 0, 0, 0, 0, 0, 0, 0, 0, 0, 0, 0, 0, 0, 0, 0, 0, 0, 0, 0, 0]]], .lst false 2 [.agg [.int .i64 700, .lst false 37 [.agg [.int .i64 1, .int .i64 0, .bool false, .int .i64 0, .int .i64 3, .ba 32 [0, 0, 0, 0, 0, 0, 0, 0, 0, 0, 0, 0, 0, 0, 0, 0, 0, 0, 0, 0, 0, 0, 0, 0, 0, 0, 0, 0, 0, 0, 0, 0]], .agg [.int .i64 0, .int .i64 0, .bool false, .int .i64 0, .int .i64 0, .ba 32 [53, 132, 197, 111, 53, 7, 52, 215, 135, 254, 174, 253, 30, 254, 194, 114, 251, 67, 99, 253, 102, 62, 180, 92, 28, 78, 38, 33, 183, 114, 107, 8]]]], .agg [.int .i64 899, .lst true 37 [.agg [.int .i64 0, .int .i64 0, .bool false, .int .i64 0, .int .i64 0, .ba 32 [0, 0, 0, 0, 0, 0, 0, 0, 0, 0, 0, 0, 0, 0, 0, 0, 0, 0, 0, 0, 0, 0, 0, 0, 0, 0, 0, 0, 0, 0, 0, 0]]]], .agg [.int .i64 100, .lst false 37 [.agg [.int .i64 1, .int .i64 0, .bool false, .int .i64 0, .int .i64 3, .ba 32 [183, 193, 97, 0, 173, 221, 211, 210, 65, 151, 90, 52, 133, 85, 228, 114, 208, 55, 14, 189, 86, 127, 149, 187, 127, 35, 36, 219, 95, 234, 55, 159]], .agg [.int .i64 0, .int .i64 0, .bool false, .int .i64 50, .int .i64 0, .ba 32 [0, 0, 0, 0, 0, 0, 0, 0, 0, 0, 0, 0, 0, 0, 0, 0, 0, 0, 0, 0, 0, 0, 0, 0, 0, 0, 0, 0, 0, 0, 0, 0]], .agg [.int .i64 0, .int .i64 0, .bool false, .int .i64 0, .int .i64 0, .ba 32 [53, 132, 197, 111, 53, 7, 52, 215, 135, 254, 174, 253, 30, 254, 194, 114, 251, 67, 99, 253, 102, 62, 180, 92, 28, 78, 38, 33, 183, 114, 107, 8]]]]]]], [.ba 32 [41, 219, 74, 86, 58, 188, 188, 160, 137, 114, 1, 43, 41, 51, 191, 97, 80, 240, 231, 88, 61, 179, 35, 165, 122, 197, 48, 147, 110, 58, 200, 175]])
theorem m43 : runK (CT tab43) 30 e43.1 e43.2.1 [] = some (e43.2.2, []) := by kernel_rfl
noncomputable def tab44 : Tab := e43 :: tab43
theorem tab44_ok : TabOk tab44 := TabOk.cons (runK_sound (CT_ok tab43_ok) m43 trivial) tab43_ok
def e44 : FuncId × List T × List T := (32, [.ba 32 [246, 60, 224, 49, 48, 74, 47, 187, 178, 34, 20, 34, 56, 14, 91, 64, 114, 229, 14, 152, 252, 186, 229, 72, 211, 93, 244, 199, 25, 175, 167, 226], .agg [.lst true 130 [.agg [.agg [.ba 32 [183, 88, 42, 1, 155, 170, 175, 82, 21, 193, 130, 49, 40, 234, 65, 183, 80, 201, 140, 153, 185, 212, 46, 24, 108, 141, 225, 200, 22, 92, 32, 185], .int .i64 0], .int .i64 0, .ba 32 [0, 0, 0, 0, 0, 0, 0, 0, 0, 0, 0, 0, 0, 0, 0, 0, 0, 0, 0, 0, 0, 0, 0, 0, 0, 0, 0, 0, 0, 0, 0, 0], .ba 32 [0, 0, 0, 0, 0, 0, 0, 0, 0, 0, 0, 0, 0, 0, 0, 0, 0, 0, 0, 0, 0, 0, 0, 0, 0, 0, 0, 0, 0, 0, 0, 0], .ba 32 [0, 0, 0, 0, 0, 0, 0, 0, 0, 0, 0, 0, 0, 0, 0, 0, 0, 0, 0, 0, 0, 0, 0, 0, 0, 0, 0, 0, 0, 0, 0, 0]]], .lst false 2 [.agg [.int .i64 700, .lst false 37 [.agg [.int .i64 1, .int .i64 0, .bool false, .int .i64 0, .int .i64 3, .ba 32 [0, 0, 0, 0, 0, 0, 0, 0, 0, 0, 0, 0, 0, 0, 0, 0, 0, 0, 0, 0, 0, 0, 0, 0, 0, 0, 0, 0, 0, 0, 0, 0]], .agg [.int .i64 0, .int .i64 0, .bool false, .int .i64 0, .int .i64 0, .ba 32 [53, 132, 197, 111, 53, 7, 52, 215, 135, 254, 174, 253, 30, 254, 194, 114, 251, 67, 99, 253, 102, 62, 180, 92, 28, 78, 38, 33, 183, 114, 107, 8]]]], .agg [.int .i64 899, .lst true 37 [.agg [.int .i64 0, .int .i64 0, .bool false, .int .i64 0, .int .i64 0, .ba 32 [0, 0, 0, 0, 0, 0, 0, 0, 0, 0, 0, 0, 0, 0, 0, 0, 0, 0, 0, 0, 0, 0, 0, 0, 0, 0, 0, 0, 0, 0, 0, 0]]]], .agg [.int .i64 100, .lst false 37 [.agg [.int .i64 1, .int .i64 0, .bool false, .int .i64 0, .int .i64 3, .ba 32 [183, 193, 97, 0, 173, 221, 211, 210, 65, 151, 90, 52, 133, 85, 228, 114, 208, 55, 14, 189, 86, 127, 149, 187, 127, 35, 36, 219, 95, 234, 55, 159]], .agg [.int .i64 0, .int .i64 0, .bool false, .int .i64 50, .int .i64 0, .ba 32 [0, 0, 0, 0, 0, 0, 0, 0, 0, 0, 0, 0, 0, 0, 0, 0, 0, 0, 0, 0, 0, 0, 0, 0, 0, 0, 0, 0, 0, 0, 0, 0]], .agg [.int .i64 0, .int .i64 0, .bool false, .int .i64 0, .int .i64 0, .ba 32 [53, 132, 197, 111, 53, 7, 52, 215, 135, 254, 174, 253, 30, 254, 194, 114, 251, 67, 99, 253, 102, 62, 180, 92, 28, 78, 38, 33, 183, 114, 107, 8]]]]]]], [.ba 32 [180, 53, 107, 222, 104, 27, 181, 214, 152, 192, 99, 197, 228, 234, 119, 30, 228, 148, 211, 156, 169, 244, 69, 210, 23, 10, 197, 243, 73, 23, 166, 251]])
theorem m44 : runK (CT tab44) 30 e44.1 e44.2.1 [] = some (e44.2.2, []) := by kernel_rfl
noncomputable def tab45 : Tab := e44 :: tab44
theorem tab45_ok : TabOk tab45 := TabOk.cons (runK_sound (CT_ok tab44_ok) m44 trivial) tab44_ok
def e45 : FuncId × List T × List T := (46, [.agg [.int .i64 1, .int .i64 1, .int .i64 0, .int .i64 100, .int .i64 50, .ba 32 [183, 193, 97, 0, 173, 221, 211, 210, 65, 151, 90, 52, 133, 85, 228, 114, 208, 55, 14, 189, 86, 127, 149, 187, 127, 35, 36, 219, 95, 234, 55, 159], .bl false (List.replicate 2112 0), .ba 32 [0, 0, 0, 0, 0, 0, 0, 0, 0, 0, 0, 0, 0, 0, 0, 0, 0, 0, 0, 0, 0, 0, 0, 0, 0, 0, 0, 0, 0, 0, 0, 0], .ba 32 [0, 0, 0, 0, 0, 0, 0, 0, 0, 0, 0, 0, 0, 0, 0, 0, 0, 0, 0, 0, 0, 0, 0, 0, 0, 0, 0, 0, 0, 0, 0, 0], .ba 32 [0, 0, 0, 0, 0, 0, 0, 0, 0, 0, 0, 0, 0, 0, 0, 0, 0, 0, 0, 0, 0, 0, 0, 0, 0, 0, 0, 0, 0, 0, 0, 0], .int .i64 0, .int .i64 0, .bl false []]], [.bool true])
theorem m45 : runK (CT tab45) 30 e45.1 e45.2.1 [] = some (e45.2.2, []) := by kernel_rfl
noncomputable def tab46 : Tab := e45 :: tab45
theorem tab46_ok : TabOk tab46 := TabOk.cons (runK_sound (CT_ok tab45_ok) m45 trivial) tab45_ok
def e46 : FuncId × List T × List T := (88, [.agg [.int .i64 1, .int .i64 0, .int .i64 1, .agg [.ba 32 [183, 88, 42, 1, 155, 170, 175, 82, 21, 193, 130, 49, 40, 234, 65, 183, 80, 201, 140, 153, 185, 212, 46, 24, 108, 141, 225, 200, 22, 92, 32, 185], .int .i64 0], .int .i64 1000, .int .i64 700, .int .i64 3, .int .i64 1, .int .i64 10, .int .i64 5, .int .i64 900], .lst true 137 [], .lst true 137 [], .int .i64 0, .agg [.int .i64 1, .int .i64 1, .int .i64 0, .int .i64 100, .int .i64 50, .ba 32 [183, 193, 97, 0, 173, 221, 211, 210, 65, 151, 90, 52, 133, 85, 228, 114, 208, 55, 14, 189, 86, 127, 149, 187, 127, 35, 36, 219, 95, 234, 55, 159], .bl false (List.replicate 2112 0), .ba 32 [0, 0, 0, 0, 0, 0, 0, 0, 0, 0, 0, 0, 0, 0, 0, 0, 0, 0, 0, 0, 0, 0, 0, 0, 0, 0, 0, 0, 0, 0, 0, 0], .ba 32 [0, 0, 0, 0, 0, 0, 0, 0, 0, 0, 0, 0, 0, 0, 0, 0, 0, 0, 0, 0, 0, 0, 0, 0, 0, 0, 0, 0, 0, 0, 0, 0], .ba 32 [0, 0, 0, 0, 0, 0, 0, 0, 0, 0, 0, 0, 0, 0, 0, 0, 0, 0, 0, 0, 0, 0, 0, 0, 0, 0, 0, 0, 0, 0, 0, 0], .int .i64 0, .int .i64 0, .bl false []]], [.int .i64 0])
theorem m46 : runK (CT tab46) 30 e46.1 e46.2.1 [] = some (e46.2.2, []) := by kernel_rfl
noncomputable def tab47 : Tab := e46 :: tab46
theorem tab47_ok : TabOk tab47 := TabOk.cons (runK_sound (CT_ok tab46_ok) m46 trivial) tab46_ok
def e47 : FuncId × List T × List T := (46, [.agg [.int .i64 4, .int .i64 1, .int .i64 0, .int .i64 0, .int .i64 0, .ba 32 [0, 0, 0, 0, 0, 0, 0, 0, 0, 0, 0, 0, 0, 0, 0, 0, 0, 0, 0, 0, 0, 0, 0, 0, 0, 0, 0, 0, 0, 0, 0, 0], .bl true [], .ba 32 [0, 0, 0, 0, 0, 0, 0, 0, 0, 0, 0, 0, 0, 0, 0, 0, 0, 0, 0, 0, 0, 0, 0, 0, 0, 0, 0, 0, 0, 0, 0, 0], .ba 32 [0, 0, 0, 0, 0, 0, 0, 0, 0, 0, 0, 0, 0, 0, 0, 0, 0, 0, 0, 0, 0, 0, 0, 0, 0, 0, 0, 0, 0, 0, 0, 0], .ba 32 [180, 53, 107, 222, 104, 27, 181, 214, 152, 192, 99, 197, 228, 234, 119, 30, 228, 148, 211, 156, 169, 244, 69, 210, 23, 10, 197, 243, 73, 23, 166, 251], .int .i64 1, .int .i64 0, .bl true []]], [.bool true])
theorem m47 : runK (CT tab47) 30 e47.1 e47.2.1 [] = some (e47.2.2, []) := by kernel_rfl
noncomputable def tab48 : Tab := e47 :: tab47
theorem tab48_ok : TabOk tab48 := TabOk.cons (runK_sound (CT_ok tab47_ok) m47 trivial) tab47_ok
def e48 : FuncId × List T × List T := (67, [.ba 32 [2, 5, 0, 0, 0, 0, 0, 0, 0, 0, 0, 0, 0, 0, 0, 0, 0, 0, 0, 0, 0, 0, 0, 0, 0, 0, 0, 0, 0, 0, 0, 0], .int .i64 1], [.ba 32 [221, 172, 222, 201, 106, 255, 140, 37, 34, 71, 196, 213, 58, 126, 178, 146, 152, 147, 66, 182, 169, 22, 68, 220, 113, 185, 30, 250, 128, 22, 99, 8]])
theorem m48 : runK (CT tab48) 30 e48.1 e48.2.1 [] = some (e48.2.2, []) := by kernel_rfl
noncomputable def tab49 : Tab := e48 :: tab48
theorem tab49_ok : TabOk tab49 := TabOk.cons (runK_sound (CT_ok tab48_ok) m48 trivial) tab48_ok
def e49 : FuncId × List T × List T := (78, [.agg [.int .i64 1, .int .i64 0, .int .i64 1, .agg [.ba 32 [183, 88, 42, 1, 155, 170, 175, 82, 21, 193, 130, 49, 40, 234, 65, 183, 80, 201, 140, 153, 185, 212, 46, 24, 108, 141, 225, 200, 22, 92, 32, 185], .int .i64 0], .int .i64 1000, .int .i64 700, .int .i64 3, .int .i64 1, .int .i64 10, .int .i64 5, .int .i64 900], .lst false 137 [.agg [.int .i64 1, .int .i64 1, .int .i64 0, .int .i64 100, .int .i64 50, .ba 32 [183, 193, 97, 0, 173, 221, 211, 210, 65, 151, 90, 52, 133, 85, 228, 114, 208, 55, 14, 189, 86, 127, 149, 187, 127, 35, 36, 219, 95, 234, 55, 159], .bl false (List.replicate 2112 0), .ba 32 [0, 0, 0, 0, 0, 0, 0, 0, 0, 0, 0, 0, 0, 0, 0, 0, 0, 0, 0, 0, 0, 0, 0, 0, 0, 0, 0, 0, 0, 0, 0, 0], .ba 32 [0, 0, 0, 0, 0, 0, 0, 0, 0, 0, 0, 0, 0, 0, 0, 0, 0, 0, 0, 0, 0, 0, 0, 0, 0, 0, 0, 0, 0, 0, 0, 0], .ba 32 [0, 0, 0, 0, 0, 0, 0, 0, 0, 0, 0, 0, 0, 0, 0, 0, 0, 0, 0, 0, 0, 0, 0, 0, 0, 0, 0, 0, 0, 0, 0, 0], .int .i64 0, .int .i64 0, .bl false []]], .lst true 137 [], .int .i64 1, .int .i64 0], [.agg [.int .i64 900, .int .i64 700, .lst false 36 [.agg [.int .i64 0, .int .i64 0, .int .i64 100, .ba 32 [183, 193, 97, 0, 173, 221, 211, 210, 65, 151, 90, 52, 133, 85, 228, 114, 208, 55, 14, 189, 86, 127, 149, 187, 127, 35, 36, 219, 95, 234, 55, 159], .int .i64 50]]], .int .i64 0])
theorem m49 : runK (CT tab49) 30 e49.1 e49.2.1 [] = some (e49.2.2, []) := by kernel_rfl
noncomputable def tab50 : Tab := e49 :: tab49
theorem tab50_ok : TabOk tab50 := TabOk.cons (runK_sound (CT_ok tab49_ok) m49 trivial) tab49_ok
def e50 : FuncId × List T × List T := (67, [.ba 32 [2, 5, 0, 0, 0, 0, 0, 0, 0, 0, 0, 0, 0, 0, 0, 0, 0, 0, 0, 0, 0, 0, 0, 0, 0, 0, 0, 0, 0, 0, 0, 0], .int .i64 2], [.ba 32 [127, 29, 250, 168, 78, 16, 235, 163, 252, 22, 205, 225, 61, 45, 176, 74, 64, 194, 99, 222, 83, 253, 23, 9, 139, 137, 96, 167, 240, 46, 158, 237]])
theorem m50 : runK (CT tab50) 30 e50.1 e50.2.1 [] = some (e50.2.2, []) := by kernel_rfl
noncomputable def tab51 : Tab := e50 :: tab50
theorem tab51_ok : TabOk tab51 := TabOk.cons (runK_sound (CT_ok tab50_ok) m50 trivial) tab50_ok
def e51 : FuncId × List T × List T := (46, [.agg [.int .i64 5, .int .i64 1, .int .i64 0, .int .i64 0, .int .i64 0, .ba 32 [0, 0, 0, 0, 0, 0, 0, 0, 0, 0, 0, 0, 0, 0, 0, 0, 0, 0, 0, 0, 0, 0, 0, 0, 0, 0, 0, 0, 0, 0, 0, 0], .bl true [], .ba 32 [60, 106, 242, 36, 30, 191, 240, 3, 74, 139, 111, 190, 84, 61, 1, 17, 64, 21, 179, 93, 248, 160, 106, 123, 179, 24, 243, 83, 81, 179, 28, 102], .ba 32 [158, 81, 224, 118, 68, 50, 102, 34, 99, 110, 156, 110, 238, 148, 69, 216, 218, 84, 59, 220, 250, 25, 37, 143, 32, 232, 130, 184, 91, 43, 218, 97], .ba 32 [0, 0, 0, 0, 0, 0, 0, 0, 0, 0, 0, 0, 0, 0, 0, 0, 0, 0, 0, 0, 0, 0, 0, 0, 0, 0, 0, 0, 0, 0, 0, 0], .int .i64 0, .int .i64 0, .bl true []]], [.bool true])
theorem m51 : runK (CT tab51) 30 e51.1 e51.2.1 [] = some (e51.2.2, []) := by kernel_rfl
noncomputable def tab52 : Tab := e51 :: tab51
theorem tab52_ok : TabOk tab52 := TabOk.cons (runK_sound (CT_ok tab51_ok) m51 trivial) tab51_ok
def e52 : FuncId × List T × List T := (65, [.agg [.int .i64 1, .int .i64 0, .int .i64 1, .agg [.ba 32 [183, 88, 42, 1, 155, 170, 175, 82, 21, 193, 130, 49, 40, 234, 65, 183, 80, 201, 140, 153, 185, 212, 46, 24, 108, 141, 225, 200, 22, 92, 32, 185], .int .i64 0], .int .i64 1000, .int .i64 700, .int .i64 3, .int .i64 1, .int .i64 10, .int .i64 5, .int .i64 900], .int .i64 0, .ba 32 [180, 191, 10, 126, 100, 207, 54, 199, 157, 240, 113, 186, 154, 143, 140, 79, 32, 39, 117, 175, 5, 116, 137, 213, 87, 12, 157, 210, 75, 150, 185, 251], .agg [.int .i64 900, .int .i64 700, .lst false 36 [.agg [.int .i64 0, .int .i64 0, .int .i64 100, .ba 32 [183, 193, 97, 0, 173, 221, 211, 210, 65, 151, 90, 52, 133, 85, 228, 114, 208, 55, 14, 189, 86, 127, 149, 187, 127, 35, 36, 219, 95, 234, 55, 159], .int .i64 50]]]], [.agg [.lst true 130 [.agg [.agg [.ba 32 [183, 88, 42, 1, 155, 170, 175, 82, 21, 193, 130, 49, 40, 234, 65, 183, 80, 201, 140, 153, 185, 212, 46, 24, 108, 141, 225, 200, 22, 92, 32, 185], .int .i64 0], .int .i64 0, .ba 32 [0, 0, 0, 0, 0, 0, 0, 0, 0, 0, 0, 0, 0, 0, 0, 0, 0, 0, 0, 0, 0, 0, 0, 0, 0, 0, 0, 0, 0, 0, 0, 0], .ba 32 [0, 0, 0, 0, 0, 0, 0, 0, 0, 0, 0, 0, 0, 0, 0, 0, 0, 0, 0, 0, 0, 0, 0, 0, 0, 0, 0, 0, 0, 0, 0, 0], .ba 32 [0, 0, 0, 0, 0, 0, 0, 0, 0, 0, 0, 0, 0, 0, 0, 0, 0, 0, 0, 0, 0, 0, 0, 0, 0, 0, 0, 0, 0, 0, 0, 0]]], .lst false 2 [.agg [.int .i64 899, .lst false 37 [.agg [.int .i64 0, .int .i64 0, .bool false, .int .i64 0, .int .i64 3, .ba 32 [0, 0, 0, 0, 0, 0, 0, 0, 0, 0, 0, 0, 0, 0, 0, 0, 0, 0, 0, 0, 0, 0, 0, 0, 0, 0, 0, 0, 0, 0, 0, 0]], .agg [.int .i64 1, .int .i64 0, .bool false, .int .i64 0, .int .i64 0, .ba 32 [180, 191, 10, 126, 100, 207, 54, 199, 157, 240, 113, 186, 154, 143, 140, 79, 32, 39, 117, 175, 5, 116, 137, 213, 87, 12, 157, 210, 75, 150, 185, 251]]]], .agg [.int .i64 700, .lst true 37 [.agg [.int .i64 1, .int .i64 0, .bool false, .int .i64 0, .int .i64 0, .ba 32 [0, 0, 0, 0, 0, 0, 0, 0, 0, 0, 0, 0, 0, 0, 0, 0, 0, 0, 0, 0, 0, 0, 0, 0, 0, 0, 0, 0, 0, 0, 0, 0]]]], .agg [.int .i64 100, .lst false 37 [.agg [.int .i64 1, .int .i64 0, .bool false, .int .i64 0, .int .i64 0, .ba 32 [183, 193, 97, 0, 173, 221, 211, 210, 65, 151, 90, 52, 133, 85, 228, 114, 208, 55, 14, 189, 86, 127, 149, 187, 127, 35, 36, 219, 95, 234, 55, 159]], .agg [.int .i64 0, .int .i64 0, .bool false, .int .i64 50, .int .i64 3, .ba 32 [0, 0, 0, 0, 0, 0, 0, 0, 0, 0, 0, 0, 0, 0, 0, 0, 0, 0, 0, 0, 0, 0, 0, 0, 0, 0, 0, 0, 0, 0, 0, 0]], .agg [.int .i64 1, .int .i64 0, .bool false, .int .i64 0, .int .i64 0, .ba 32 [180, 191, 10, 126, 100, 207, 54, 199, 157, 240, 113, 186, 154, 143, 140, 79, 32, 39, 117, 175, 5, 116, 137, 213, 87, 12, 157, 210, 75, 150, 185, 251]]]]]], .int .i64 0])
theorem m52 : runK (CT tab52) 30 e52.1 e52.2.1 [] = some (e52.2.2, []) := by kernel_rfl
noncomputable def tab53 : Tab := e52 :: tab52
theorem tab53_ok : TabOk tab53 := TabOk.cons (runK_sound (CT_ok tab52_ok) m52 trivial) tab52_ok
def e53 : FuncId × List T × List T := (68, [.agg [.lst true 130 [.agg [.agg [.ba 32 [183, 88, 42, 1, 155, 170, 175, 82, 21, 193, 130, 49, 40, 234, 65, 183, 80, 201, 140, 153, 185, 212, 46, 24, 108, 141, 225, 200, 22, 92, 32, 185], .int .i64 0], .int .i64 0, .ba 32 [0, 0, 0, 0, 0, 0, 0, 0, 0, 0, 0, 0, 0, 0, 0, 0, 0, 0, 0, 0, 0, 0, 0, 0, 0, 0, 0, 0, 0, 0, 0, 0], .ba 32 [0, 0, 0, 0, 0, 0, 0, 0, 0, 0, 0, 0, 0, 0, 0, 0, 0, 0, 0, 0, 0, 0, 0, 0, 0, 0, 0, 0, 0, 0, 0, 0], .ba 32 [0, 0, 0, 0, 0, 0, 0, 0, 0, 0, 0, 0, 0, 0, 0, 0, 0, 0, 0, 0, 0, 0, 0, 0, 0, 0, 0, 0, 0, 0, 0, 0]]], .lst false 2 [.agg [.int .i64 899, .lst false 37 [.agg [.int .i64 0, .int .i64 0, .bool false, .int .i64 0, .int .i64 3, .ba 32 [0, 0, 0, 0, 0, 0, 0, 0, 0, 0, 0, 0, 0, 0, 0, 0, 0, 0, 0, 0, 0, 0, 0, 0, 0, 0, 0, 0, 0, 0, 0, 0]], .agg [.int .i64 1, .int .i64 0, .bool false, .int .i64 0, .int .i64 0, .ba 32 [180, 191, 10, 126, 100, 207, 54, 199, 157, 240, 113, 186, 154, 143, 140, 79, 32, 39, 117, 175, 5, 116, 137, 213, 87, 12, 157, 210, 75, 150, 185, 251]]]], .agg [.int .i64 700, .lst true 37 [.agg [.int .i64 1, .int .i64 0, .bool false, .int .i64 0, .int .i64 0, .ba 32 [0, 0, 0, 0, 0, 0, 0, 0, 0, 0, 0, 0, 0, 0, 0, 0, 0, 0, 0, 0, 0, 0, 0, 0, 0, 0, 0, 0, 0, 0, 0, 0]]]], .agg [.int .i64 100, .lst false 37 [.agg [.int .i64 1, .int .i64 0, .bool false, .int .i64 0, .int .i64 0, .ba 32 [183, 193, 97, 0, 173, 221, 211, 210, 65, 151, 90, 52, 133, 85, 228, 114, 208, 55, 14, 189, 86, 127, 149, 187, 127, 35, 36, 219, 95, 234, 55, 159]], .agg [.int .i64 0, .int .i64 0, .bool false, .int .i64 50, .int .i64 3, .ba 32 [0, 0, 0, 0, 0, 0, 0, 0, 0, 0, 0, 0, 0, 0, 0, 0, 0, 0, 0, 0, 0, 0, 0, 0, 0, 0, 0, 0, 0, 0, 0, 0]], .agg [.int .i64 1, .int .i64 0, .bool false, .int .i64 0, .int .i64 0, .ba 32 [180, 191, 10, 126, 100, 207, 54, 199, 157, 240, 113, 186, 154, 143, 140, 79, 32, 39, 117, 175, 5, 116, 137, 213, 87, 12, 157, 210, 75, 150, 185, 251]]]]]]], [.ba 32 [134, 102, 2, 154, 104, 111, 86, 101, 37, 250, 201, 220, 36, 93, 219, 187, 63, 161, 113, 119, 185, 206, 20, 67, 156, 71, 13, 46, 79, 176, 134, 93]])
theorem m53 : runK (CT tab53) 30 e53.1 e53.2.1 [] = some (e53.2.2, []) := by kernel_rfl
noncomputable def tab54 : Tab := e53 :: tab53
theorem tab54_ok : TabOk tab54 := TabOk.cons (runK_sound (CT_ok tab53_ok) m53 trivial) tab53_ok
def e54 : FuncId × List T × List T := (32, [.ba 32 [243, 74, 11, 118, 149, 27, 157, 137, 34, 40, 78, 200, 40, 68, 126, 34, 34, 106, 48, 98, 94, 44, 37, 43, 54, 255, 14, 253, 146, 7, 77, 10], .agg [.lst true 130 [.agg [.agg [.ba 32 [183, 88, 42, 1, 155, 170, 175, 82, 21, 193, 130, 49, 40, 234, 65, 183, 80, 201, 140, 153, 185, 212, 46, 24, 108, 141, 225, 200, 22, 92, 32, 185], .int .i64 0], .int .i64 0, .ba 32 [0, 0, 0, 0, 0, 0, 0, 0, 0, 0, 0, 0, 0, 0, 0, 0, 0, 0, 0, 0, 0, 0, 0, 0, 0, 0, 0, 0, 0, 0, 0, 0], .ba 32 [0, 0, 0, 0, 0, 0, 0, 0, 0, 0, 0, 0, 0, 0, 0, 0, 0, 0, 0, 0, 0, 0, 0, 0, 0, 0, 0, 0, 0, 0, 0, 0], .ba 32 [0, 0, 0, 0, 0, 0, 0, 0, 0, 0, 0, 0, 0, 0, 0, 0, 0, 0, 0, 0, 0, 0, 0, 0, 0, 0, 0, 0, 0, 0, 0, 0]]], .lst false 2 [.agg [.int .i64 899, .lst false 37 [.agg [.int .i64 0, .int .i64 0, .bool false, .int .i64 0, .int .i64 3, .ba 32 [0, 0, 0, 0, 0, 0, 0, 0, 0, 0, 0, 0, 0, 0, 0, 0, 0, 0, 0, 0, 0, 0, 0, 0, 0, 0, 0, 0, 0, 0, 0, 0]], .agg [.int .i64 1, .int .i64 0, .bool false, .int .i64 0, .int .i64 0, .ba 32 [180, 191, 10, 126, 100, 207, 54, 199, 157, 240, 113, 186, 154, 143, 140, 79, 32, 39, 117, 175, 5, 116, 137, 213, 87, 12, 157, 210, 75, 150, 185, 251]]]], .agg [.int .i64 700, .lst true 37 [.agg [.int .i64 1, .int .i64 0, .bool false, .int .i64 0, .int .i64 0, .ba 32 [0, 0, 0, 0, 0, 0, 0, 0, 0, 0, 0, 0, 0, 0, 0, 0, 0, 0, 0, 0, 0, 0, 0, 0, 0, 0, 0, 0, 0, 0, 0, 0]]]], .agg [.int .i64 100, .lst false 37 [.agg [.int .i64 1, .int .i64 0, .bool false, .int .i64 0, .int .i64 0, .ba 32 [183, 193, 97, 0, 173, 221, 211, 210, 65, 151, 90, 52, 133, 85, 228, 114, 208, 55, 14, 189, 86, 127, 149, 187, 127, 35, 36, 219, 95, 234, 55, 159]], .agg [.int .i64 0, .int .i64 0, .bool false, .int .i64 50, .int .i64 3, .ba 32 [0, 0, 0, 0, 0, 0, 0, 0, 0, 0, 0, 0, 0, 0, 0, 0, 0, 0, 0, 0, 0, 0, 0, 0, 0, 0, 0, 0, 0, 0, 0, 0]], .agg [.int .i64 1, .int .i64 0, .bool false, .int .i64 0, .int .i64 0, .ba 32 [180, 191, 10, 126, 100, 207, 54, 199, 157, 240, 113, 186, 154, 143, 140, 79, 32, 39, 117, 175, 5, 116, 137, 213, 87, 12, 157, 210, 75, 150, 185, 251]]]]]]], [.ba 32 [116, 21, 39, 7, 224, 171, 135, 208, 149, 114, 179, 136, 65, 213, 116, 114, 155, 96, 44, 135, 240, 172, 248, 124, 173, 242, 188, 46, 5, 124, 219, 170]])
theorem m54 : runK (CT tab54) 30 e54.1 e54.2.1 [] = some (e54.2.2, []) := by kernel_rfl
noncomputable def tab55 : Tab := e54 :: tab54
theorem tab55_ok : TabOk tab55 := TabOk.cons (runK_sound (CT_ok tab54_ok) m54 trivial) tab54_ok
def e55 : FuncId × List T × List T := (46, [.agg [.int .i64 4, .int .i64 1, .int .i64 0, .int .i64 0, .int .i64 0, .ba 32 [0, 0, 0, 0, 0, 0, 0, 0, 0, 0, 0, 0, 0, 0, 0, 0, 0, 0, 0, 0, 0, 0, 0, 0, 0, 0, 0, 0, 0, 0, 0, 0], .bl true [], .ba 32 [0, 0, 0, 0, 0, 0, 0, 0, 0, 0, 0, 0, 0, 0, 0, 0, 0, 0, 0, 0, 0, 0, 0, 0, 0, 0, 0, 0, 0, 0, 0, 0], .ba 32 [0, 0, 0, 0, 0, 0, 0, 0, 0, 0, 0, 0, 0, 0, 0, 0, 0, 0, 0, 0, 0, 0, 0, 0, 0, 0, 0, 0, 0, 0, 0, 0], .ba 32 [116, 21, 39, 7, 224, 171, 135, 208, 149, 114, 179, 136, 65, 213, 116, 114, 155, 96, 44, 135, 240, 172, 248, 124, 173, 242, 188, 46, 5, 124, 219, 170], .int .i64 1, .int .i64 0, .bl true []]], [.bool true])
theorem m55 : runK (CT tab55) 30 e55.1 e55.2.1 [] = some (e55.2.2, []) := by kernel_rfl
noncomputable def tab56 : Tab := e55 :: tab55
theorem tab56_ok : TabOk tab56 := TabOk.cons (runK_sound (CT_ok tab55_ok) m55 trivial) tab55_ok
def e56 : FuncId × List T × List T := (67, [.ba 32 [1, 5, 0, 0, 0, 0, 0, 0, 0, 0, 0, 0, 0, 0, 0, 0, 0, 0, 0, 0, 0, 0, 0, 0, 0, 0, 0, 0, 0, 0, 0, 0], .int .i64 1], [.ba 32 [148, 206, 39, 111, 147, 61, 185, 187, 74, 104, 41, 49, 219, 185, 243, 161, 127, 4, 172, 219, 96, 32, 130, 47, 164, 113, 179, 31, 41, 77, 79, 6]])
theorem m56 : runK (CT tab56) 30 e56.1 e56.2.1 [] = some (e56.2.2, []) := by kernel_rfl
noncomputable def tab57 : Tab := e56 :: tab56
theorem tab57_ok : TabOk tab57 := TabOk.cons (runK_sound (CT_ok tab56_ok) m56 trivial) tab56_ok
def e57 : FuncId × List T × List T := (67, [.ba 32 [1, 5, 0, 0, 0, 0, 0, 0, 0, 0, 0, 0, 0, 0, 0, 0, 0, 0, 0, 0, 0, 0, 0, 0, 0, 0, 0, 0, 0, 0, 0, 0], .int .i64 2], [.ba 32 [112, 37, 239, 202, 199, 91, 52, 88, 241, 252, 156, 185, 124, 69, 252, 216, 83, 234, 35, 13, 75, 210, 205, 178, 92, 142, 175, 104, 96, 135, 43, 231]])
theorem m57 : runK (CT tab57) 30 e57.1 e57.2.1 [] = some (e57.2.2, []) := by kernel_rfl
noncomputable def tab58 : Tab := e57 :: tab57
theorem tab58_ok : TabOk tab58 := TabOk.cons (runK_sound (CT_ok tab57_ok) m57 trivial) tab57_ok
def e58 : FuncId × List T × List T := (46, [.agg [.int .i64 5, .int .i64 1, .int .i64 0, .int .i64 0, .int .i64 0, .ba 32 [0, 0, 0, 0, 0, 0, 0, 0, 0, 0, 0, 0, 0, 0, 0, 0, 0, 0, 0, 0, 0, 0, 0, 0, 0, 0, 0, 0, 0, 0, 0, 0], .bl true [], .ba 32 [197, 135, 187, 202, 75, 131, 34, 29, 3, 37, 143, 169, 159, 29, 5, 228, 57, 205, 91, 120, 160, 107, 152, 30, 126, 119, 62, 97, 59, 120, 221, 206], .ba 32 [139, 239, 93, 57, 12, 143, 118, 5, 227, 40, 158, 150, 138, 130, 249, 175, 16, 127, 209, 64, 7, 159, 218, 125, 108, 235, 193, 42, 125, 228, 154, 203], .ba 32 [0, 0, 0, 0, 0, 0, 0, 0, 0, 0, 0, 0, 0, 0, 0, 0, 0, 0, 0, 0, 0, 0, 0, 0, 0, 0, 0, 0, 0, 0, 0, 0], .int .i64 0, .int .i64 0, .bl true []]], [.bool true])
theorem m58 : runK (CT tab58) 30 e58.1 e58.2.1 [] = some (e58.2.2, []) := by kernel_rfl
noncomputable def tab59 : Tab := e58 :: tab58
theorem tab59_ok : TabOk tab59 := TabOk.cons (runK_sound (CT_ok tab58_ok) m58 trivial) tab58_ok
end Go.HM.Cn
