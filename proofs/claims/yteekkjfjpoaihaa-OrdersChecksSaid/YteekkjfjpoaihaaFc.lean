/- The compile of the program's functions. -/
import Derived.Test.YteekkjfjpoaihaaFa
import Derived.Test.YteekkjfjpoaihaaFb
import Derived.Test.YteekkjfjpoaihaaEt
set_option linter.all false
namespace Go.Proofs.Yteekkjfjpoaihaa.Eng
open Go Go.Proofs

def FL : List (Nat × XFn) := [(3, x3), (4, x4), (5, x5), (6, x6), (7, x7), (8, x8), (9, x9), (10, x10), (11, x11), (12, x12), (13, x13), (14, x14), (15, x15), (16, x16), (17, x17), (18, x18), (19, x19), (20, x20), (21, x21), (22, x22), (23, x23), (24, x24), (25, x25), (26, x26), (27, x27), (28, x28), (29, x29), (30, x30), (31, x31), (32, x32), (33, x33), (34, x34), (35, x35), (36, x36), (37, x37), (38, x38), (39, x39), (40, x40), (41, x41), (42, x42), (43, x43), (44, x44), (45, x45), (46, x46), (47, x47), (48, x48), (49, x49), (50, x50), (51, x51), (52, x52), (53, x53), (54, x54), (55, x55), (56, x56), (57, x57), (58, x58), (59, x59), (60, x60), (61, x61), (62, x62), (63, x63), (64, x64), (65, x65), (66, x66), (67, x67), (68, x68), (69, x69), (70, x70), (71, x71), (72, x72), (73, x73), (74, x74), (75, x75), (76, x76), (77, x77), (78, x78), (79, x79), (80, x80), (81, x81), (82, x82), (83, x83), (84, x84), (85, x85), (86, x86), (87, x87), (88, x88), (89, x89), (90, x90), (91, x91), (92, x92), (93, x93), (94, x94), (95, x95), (96, x96), (97, x97), (98, x98), (99, x99), (100, x100), (101, x101), (102, x102), (103, x103), (104, x104), (105, x105), (106, x106), (107, x107), (108, x108), (109, x109), (112, x112), (113, x113), (114, x114), (115, x115), (116, x116), (117, x117), (118, x118), (119, x119), (122, x122), (124, x124), (125, x125)]
noncomputable def F : FuncId → Option XFn := alGet FL

theorem c3 : compFn T Try.f3 = some x3 := by kernel_rfl
theorem c4 : compFn T Try.f4 = some x4 := by kernel_rfl
theorem c5 : compFn T Try.f5 = some x5 := by kernel_rfl
theorem c6 : compFn T Try.f6 = some x6 := by kernel_rfl
theorem c7 : compFn T Try.f7 = some x7 := by kernel_rfl
theorem c8 : compFn T Try.f8 = some x8 := by kernel_rfl
theorem c9 : compFn T Try.f9 = some x9 := by kernel_rfl
theorem c10 : compFn T Try.f10 = some x10 := by kernel_rfl
theorem c11 : compFn T Try.f11 = some x11 := by kernel_rfl
theorem c12 : compFn T Try.f12 = some x12 := by kernel_rfl
theorem c13 : compFn T Try.f13 = some x13 := by kernel_rfl
theorem c14 : compFn T Try.f14 = some x14 := by kernel_rfl
theorem c15 : compFn T Try.f15 = some x15 := by kernel_rfl
theorem c16 : compFn T Try.f16 = some x16 := by kernel_rfl
theorem c17 : compFn T Try.f17 = some x17 := by kernel_rfl
theorem c18 : compFn T Try.f18 = some x18 := by kernel_rfl
theorem c19 : compFn T Try.f19 = some x19 := by kernel_rfl
theorem c20 : compFn T Try.f20 = some x20 := by kernel_rfl
theorem c21 : compFn T Try.f21 = some x21 := by kernel_rfl
theorem c22 : compFn T Try.f22 = some x22 := by kernel_rfl
theorem c23 : compFn T Try.f23 = some x23 := by kernel_rfl
theorem c24 : compFn T Try.f24 = some x24 := by kernel_rfl
theorem c25 : compFn T Try.f25 = some x25 := by kernel_rfl
theorem c26 : compFn T Try.f26 = some x26 := by kernel_rfl
theorem c27 : compFn T Try.f27 = some x27 := by kernel_rfl
theorem c28 : compFn T Try.f28 = some x28 := by kernel_rfl
theorem c29 : compFn T Try.f29 = some x29 := by kernel_rfl
theorem c30 : compFn T Try.f30 = some x30 := by kernel_rfl
theorem c31 : compFn T Try.f31 = some x31 := by kernel_rfl
theorem c32 : compFn T Try.f32 = some x32 := by kernel_rfl
theorem c33 : compFn T Try.f33 = some x33 := by kernel_rfl
theorem c34 : compFn T Try.f34 = some x34 := by kernel_rfl
theorem c35 : compFn T Try.f35 = some x35 := by kernel_rfl
theorem c36 : compFn T Try.f36 = some x36 := by kernel_rfl
theorem c37 : compFn T Try.f37 = some x37 := by kernel_rfl
theorem c38 : compFn T Try.f38 = some x38 := by kernel_rfl
theorem c39 : compFn T Try.f39 = some x39 := by kernel_rfl
theorem c40 : compFn T Try.f40 = some x40 := by kernel_rfl
theorem c41 : compFn T Try.f41 = some x41 := by kernel_rfl
theorem c42 : compFn T Try.f42 = some x42 := by kernel_rfl
theorem c43 : compFn T Try.f43 = some x43 := by kernel_rfl
theorem c44 : compFn T Try.f44 = some x44 := by kernel_rfl
theorem c45 : compFn T Try.f45 = some x45 := by kernel_rfl
theorem c46 : compFn T Try.f46 = some x46 := by kernel_rfl
theorem c47 : compFn T Try.f47 = some x47 := by kernel_rfl
theorem c48 : compFn T Try.f48 = some x48 := by kernel_rfl
theorem c49 : compFn T Try.f49 = some x49 := by kernel_rfl
theorem c50 : compFn T Try.f50 = some x50 := by kernel_rfl
theorem c51 : compFn T Try.f51 = some x51 := by kernel_rfl
theorem c52 : compFn T Try.f52 = some x52 := by kernel_rfl
theorem c53 : compFn T Try.f53 = some x53 := by kernel_rfl
theorem c54 : compFn T Try.f54 = some x54 := by kernel_rfl
theorem c55 : compFn T Try.f55 = some x55 := by kernel_rfl
theorem c56 : compFn T Try.f56 = some x56 := by kernel_rfl
theorem c57 : compFn T Try.f57 = some x57 := by kernel_rfl
theorem c58 : compFn T Try.f58 = some x58 := by kernel_rfl
theorem c59 : compFn T Try.f59 = some x59 := by kernel_rfl
theorem c60 : compFn T Try.f60 = some x60 := by kernel_rfl
theorem c61 : compFn T Try.f61 = some x61 := by kernel_rfl
theorem c62 : compFn T Try.f62 = some x62 := by kernel_rfl
theorem c63 : compFn T Try.f63 = some x63 := by kernel_rfl
theorem c64 : compFn T Try.f64 = some x64 := by kernel_rfl
theorem c65 : compFn T Try.f65 = some x65 := by kernel_rfl
theorem c66 : compFn T Try.f66 = some x66 := by kernel_rfl
theorem c67 : compFn T Try.f67 = some x67 := by kernel_rfl
theorem c68 : compFn T Try.f68 = some x68 := by kernel_rfl
theorem c69 : compFn T Try.f69 = some x69 := by kernel_rfl
theorem c70 : compFn T Try.f70 = some x70 := by kernel_rfl
theorem c71 : compFn T Try.f71 = some x71 := by kernel_rfl
theorem c72 : compFn T Try.f72 = some x72 := by kernel_rfl
theorem c73 : compFn T Try.f73 = some x73 := by kernel_rfl
theorem c74 : compFn T Try.f74 = some x74 := by kernel_rfl
theorem c75 : compFn T Try.f75 = some x75 := by kernel_rfl
theorem c76 : compFn T Try.f76 = some x76 := by kernel_rfl
theorem c77 : compFn T Try.f77 = some x77 := by kernel_rfl
theorem c78 : compFn T Try.f78 = some x78 := by kernel_rfl
theorem c79 : compFn T Try.f79 = some x79 := by kernel_rfl
theorem c80 : compFn T Try.f80 = some x80 := by kernel_rfl
theorem c81 : compFn T Try.f81 = some x81 := by kernel_rfl
theorem c82 : compFn T Try.f82 = some x82 := by kernel_rfl
theorem c83 : compFn T Try.f83 = some x83 := by kernel_rfl
theorem c84 : compFn T Try.f84 = some x84 := by kernel_rfl
theorem c85 : compFn T Try.f85 = some x85 := by kernel_rfl
theorem c86 : compFn T Try.f86 = some x86 := by kernel_rfl
theorem c87 : compFn T Try.f87 = some x87 := by kernel_rfl
theorem c88 : compFn T Try.f88 = some x88 := by kernel_rfl
theorem c89 : compFn T Try.f89 = some x89 := by kernel_rfl
theorem c90 : compFn T Try.f90 = some x90 := by kernel_rfl
theorem c91 : compFn T Try.f91 = some x91 := by kernel_rfl
theorem c92 : compFn T Try.f92 = some x92 := by kernel_rfl
theorem c93 : compFn T Try.f93 = some x93 := by kernel_rfl
theorem c94 : compFn T Try.f94 = some x94 := by kernel_rfl
theorem c95 : compFn T Try.f95 = some x95 := by kernel_rfl
theorem c96 : compFn T Try.f96 = some x96 := by kernel_rfl
theorem c97 : compFn T Try.f97 = some x97 := by kernel_rfl
theorem c98 : compFn T Try.f98 = some x98 := by kernel_rfl
theorem c99 : compFn T Try.f99 = some x99 := by kernel_rfl
theorem c100 : compFn T Try.f100 = some x100 := by kernel_rfl
theorem c101 : compFn T Try.f101 = some x101 := by kernel_rfl
theorem c102 : compFn T Try.f102 = some x102 := by kernel_rfl
theorem c103 : compFn T Try.f103 = some x103 := by kernel_rfl
theorem c104 : compFn T Try.f104 = some x104 := by kernel_rfl
theorem c105 : compFn T Try.f105 = some x105 := by kernel_rfl
theorem c106 : compFn T Try.f106 = some x106 := by kernel_rfl
theorem c107 : compFn T Try.f107 = some x107 := by kernel_rfl
theorem c108 : compFn T Try.f108 = some x108 := by kernel_rfl
theorem c109 : compFn T Try.f109 = some x109 := by kernel_rfl
theorem c112 : compFn T Try.f112 = some x112 := by kernel_rfl
theorem c113 : compFn T Try.f113 = some x113 := by kernel_rfl
theorem c114 : compFn T Try.f114 = some x114 := by kernel_rfl
theorem c115 : compFn T Try.f115 = some x115 := by kernel_rfl
theorem c116 : compFn T Try.f116 = some x116 := by kernel_rfl
theorem c117 : compFn T Try.f117 = some x117 := by kernel_rfl
theorem c118 : compFn T Try.f118 = some x118 := by kernel_rfl
theorem c119 : compFn T Try.f119 = some x119 := by kernel_rfl
theorem c122 : compFn T Try.f122 = some x122 := by kernel_rfl
theorem c124 : compFn T Try.f124 = some x124 := by kernel_rfl
theorem c125 : compFn T Try.f125 = some x125 := by kernel_rfl

end Go.Proofs.Yteekkjfjpoaihaa.Eng
