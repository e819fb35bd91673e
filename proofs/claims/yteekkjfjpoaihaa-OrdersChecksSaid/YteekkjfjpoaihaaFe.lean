/- The program's functions, each with its small code. -/
import Derived.Test.YteekkjfjpoaihaaFd
set_option linter.all false
namespace Go.Proofs.Yteekkjfjpoaihaa.Eng
open Go Go.Proofs

theorem funOK {f : FuncId} {fn : Func} {x : XFn} (h1 : PP.funcs[f]? = some fn) (h2 : fn.body.isNone = false) (h3 : (fn.name == "runtime.NumGoroutine") = false) (h4 : compFn T fn = some x) : FunOK PP T f x := ⟨⟨fn, h1, h2, h3⟩, fn, h1, h4⟩

theorem o3 : FunOK PP T 3 x3 := funOK Try.func3 (by kernel_rfl) (by kernel_rfl) c3
theorem o4 : FunOK PP T 4 x4 := funOK Try.func4 (by kernel_rfl) (by kernel_rfl) c4
theorem o5 : FunOK PP T 5 x5 := funOK Try.func5 (by kernel_rfl) (by kernel_rfl) c5
theorem o6 : FunOK PP T 6 x6 := funOK Try.func6 (by kernel_rfl) (by kernel_rfl) c6
theorem o7 : FunOK PP T 7 x7 := funOK Try.func7 (by kernel_rfl) (by kernel_rfl) c7
theorem o8 : FunOK PP T 8 x8 := funOK Try.func8 (by kernel_rfl) (by kernel_rfl) c8
theorem o9 : FunOK PP T 9 x9 := funOK Try.func9 (by kernel_rfl) (by kernel_rfl) c9
theorem o10 : FunOK PP T 10 x10 := funOK Try.func10 (by kernel_rfl) (by kernel_rfl) c10
theorem o11 : FunOK PP T 11 x11 := funOK Try.func11 (by kernel_rfl) (by kernel_rfl) c11
theorem o12 : FunOK PP T 12 x12 := funOK Try.func12 (by kernel_rfl) (by kernel_rfl) c12
theorem o13 : FunOK PP T 13 x13 := funOK Try.func13 (by kernel_rfl) (by kernel_rfl) c13
theorem o14 : FunOK PP T 14 x14 := funOK Try.func14 (by kernel_rfl) (by kernel_rfl) c14
theorem o15 : FunOK PP T 15 x15 := funOK Try.func15 (by kernel_rfl) (by kernel_rfl) c15
theorem o16 : FunOK PP T 16 x16 := funOK Try.func16 (by kernel_rfl) (by kernel_rfl) c16
theorem o17 : FunOK PP T 17 x17 := funOK Try.func17 (by kernel_rfl) (by kernel_rfl) c17
theorem o18 : FunOK PP T 18 x18 := funOK Try.func18 (by kernel_rfl) (by kernel_rfl) c18
theorem o19 : FunOK PP T 19 x19 := funOK Try.func19 (by kernel_rfl) (by kernel_rfl) c19
theorem o20 : FunOK PP T 20 x20 := funOK Try.func20 (by kernel_rfl) (by kernel_rfl) c20
theorem o21 : FunOK PP T 21 x21 := funOK Try.func21 (by kernel_rfl) (by kernel_rfl) c21
theorem o22 : FunOK PP T 22 x22 := funOK Try.func22 (by kernel_rfl) (by kernel_rfl) c22
theorem o23 : FunOK PP T 23 x23 := funOK Try.func23 (by kernel_rfl) (by kernel_rfl) c23
theorem o24 : FunOK PP T 24 x24 := funOK Try.func24 (by kernel_rfl) (by kernel_rfl) c24
theorem o25 : FunOK PP T 25 x25 := funOK Try.func25 (by kernel_rfl) (by kernel_rfl) c25
theorem o26 : FunOK PP T 26 x26 := funOK Try.func26 (by kernel_rfl) (by kernel_rfl) c26
theorem o27 : FunOK PP T 27 x27 := funOK Try.func27 (by kernel_rfl) (by kernel_rfl) c27
theorem o28 : FunOK PP T 28 x28 := funOK Try.func28 (by kernel_rfl) (by kernel_rfl) c28
theorem o29 : FunOK PP T 29 x29 := funOK Try.func29 (by kernel_rfl) (by kernel_rfl) c29
theorem o30 : FunOK PP T 30 x30 := funOK Try.func30 (by kernel_rfl) (by kernel_rfl) c30
theorem o31 : FunOK PP T 31 x31 := funOK Try.func31 (by kernel_rfl) (by kernel_rfl) c31
theorem o32 : FunOK PP T 32 x32 := funOK Try.func32 (by kernel_rfl) (by kernel_rfl) c32
theorem o33 : FunOK PP T 33 x33 := funOK Try.func33 (by kernel_rfl) (by kernel_rfl) c33
theorem o34 : FunOK PP T 34 x34 := funOK Try.func34 (by kernel_rfl) (by kernel_rfl) c34
theorem o35 : FunOK PP T 35 x35 := funOK Try.func35 (by kernel_rfl) (by kernel_rfl) c35
theorem o36 : FunOK PP T 36 x36 := funOK Try.func36 (by kernel_rfl) (by kernel_rfl) c36
theorem o37 : FunOK PP T 37 x37 := funOK Try.func37 (by kernel_rfl) (by kernel_rfl) c37
theorem o38 : FunOK PP T 38 x38 := funOK Try.func38 (by kernel_rfl) (by kernel_rfl) c38
theorem o39 : FunOK PP T 39 x39 := funOK Try.func39 (by kernel_rfl) (by kernel_rfl) c39
theorem o40 : FunOK PP T 40 x40 := funOK Try.func40 (by kernel_rfl) (by kernel_rfl) c40
theorem o41 : FunOK PP T 41 x41 := funOK Try.func41 (by kernel_rfl) (by kernel_rfl) c41
theorem o42 : FunOK PP T 42 x42 := funOK Try.func42 (by kernel_rfl) (by kernel_rfl) c42
theorem o43 : FunOK PP T 43 x43 := funOK Try.func43 (by kernel_rfl) (by kernel_rfl) c43
theorem o44 : FunOK PP T 44 x44 := funOK Try.func44 (by kernel_rfl) (by kernel_rfl) c44
theorem o45 : FunOK PP T 45 x45 := funOK Try.func45 (by kernel_rfl) (by kernel_rfl) c45
theorem o46 : FunOK PP T 46 x46 := funOK Try.func46 (by kernel_rfl) (by kernel_rfl) c46
theorem o47 : FunOK PP T 47 x47 := funOK Try.func47 (by kernel_rfl) (by kernel_rfl) c47
theorem o48 : FunOK PP T 48 x48 := funOK Try.func48 (by kernel_rfl) (by kernel_rfl) c48
theorem o49 : FunOK PP T 49 x49 := funOK Try.func49 (by kernel_rfl) (by kernel_rfl) c49
theorem o50 : FunOK PP T 50 x50 := funOK Try.func50 (by kernel_rfl) (by kernel_rfl) c50
theorem o51 : FunOK PP T 51 x51 := funOK Try.func51 (by kernel_rfl) (by kernel_rfl) c51
theorem o52 : FunOK PP T 52 x52 := funOK Try.func52 (by kernel_rfl) (by kernel_rfl) c52
theorem o53 : FunOK PP T 53 x53 := funOK Try.func53 (by kernel_rfl) (by kernel_rfl) c53
theorem o54 : FunOK PP T 54 x54 := funOK Try.func54 (by kernel_rfl) (by kernel_rfl) c54
theorem o55 : FunOK PP T 55 x55 := funOK Try.func55 (by kernel_rfl) (by kernel_rfl) c55
theorem o56 : FunOK PP T 56 x56 := funOK Try.func56 (by kernel_rfl) (by kernel_rfl) c56
theorem o57 : FunOK PP T 57 x57 := funOK Try.func57 (by kernel_rfl) (by kernel_rfl) c57
theorem o58 : FunOK PP T 58 x58 := funOK Try.func58 (by kernel_rfl) (by kernel_rfl) c58
theorem o59 : FunOK PP T 59 x59 := funOK Try.func59 (by kernel_rfl) (by kernel_rfl) c59
theorem o60 : FunOK PP T 60 x60 := funOK Try.func60 (by kernel_rfl) (by kernel_rfl) c60
theorem o61 : FunOK PP T 61 x61 := funOK Try.func61 (by kernel_rfl) (by kernel_rfl) c61
theorem o62 : FunOK PP T 62 x62 := funOK Try.func62 (by kernel_rfl) (by kernel_rfl) c62
theorem o63 : FunOK PP T 63 x63 := funOK Try.func63 (by kernel_rfl) (by kernel_rfl) c63
theorem o64 : FunOK PP T 64 x64 := funOK Try.func64 (by kernel_rfl) (by kernel_rfl) c64
theorem o65 : FunOK PP T 65 x65 := funOK Try.func65 (by kernel_rfl) (by kernel_rfl) c65
theorem o66 : FunOK PP T 66 x66 := funOK Try.func66 (by kernel_rfl) (by kernel_rfl) c66
theorem o67 : FunOK PP T 67 x67 := funOK Try.func67 (by kernel_rfl) (by kernel_rfl) c67
theorem o68 : FunOK PP T 68 x68 := funOK Try.func68 (by kernel_rfl) (by kernel_rfl) c68
theorem o69 : FunOK PP T 69 x69 := funOK Try.func69 (by kernel_rfl) (by kernel_rfl) c69
theorem o70 : FunOK PP T 70 x70 := funOK Try.func70 (by kernel_rfl) (by kernel_rfl) c70
theorem o71 : FunOK PP T 71 x71 := funOK Try.func71 (by kernel_rfl) (by kernel_rfl) c71
theorem o72 : FunOK PP T 72 x72 := funOK Try.func72 (by kernel_rfl) (by kernel_rfl) c72
theorem o73 : FunOK PP T 73 x73 := funOK Try.func73 (by kernel_rfl) (by kernel_rfl) c73
theorem o74 : FunOK PP T 74 x74 := funOK Try.func74 (by kernel_rfl) (by kernel_rfl) c74
theorem o75 : FunOK PP T 75 x75 := funOK Try.func75 (by kernel_rfl) (by kernel_rfl) c75
theorem o76 : FunOK PP T 76 x76 := funOK Try.func76 (by kernel_rfl) (by kernel_rfl) c76
theorem o77 : FunOK PP T 77 x77 := funOK Try.func77 (by kernel_rfl) (by kernel_rfl) c77
theorem o78 : FunOK PP T 78 x78 := funOK Try.func78 (by kernel_rfl) (by kernel_rfl) c78
theorem o79 : FunOK PP T 79 x79 := funOK Try.func79 (by kernel_rfl) (by kernel_rfl) c79
theorem o80 : FunOK PP T 80 x80 := funOK Try.func80 (by kernel_rfl) (by kernel_rfl) c80
theorem o81 : FunOK PP T 81 x81 := funOK Try.func81 (by kernel_rfl) (by kernel_rfl) c81
theorem o82 : FunOK PP T 82 x82 := funOK Try.func82 (by kernel_rfl) (by kernel_rfl) c82
theorem o83 : FunOK PP T 83 x83 := funOK Try.func83 (by kernel_rfl) (by kernel_rfl) c83
theorem o84 : FunOK PP T 84 x84 := funOK Try.func84 (by kernel_rfl) (by kernel_rfl) c84
theorem o85 : FunOK PP T 85 x85 := funOK Try.func85 (by kernel_rfl) (by kernel_rfl) c85
theorem o86 : FunOK PP T 86 x86 := funOK Try.func86 (by kernel_rfl) (by kernel_rfl) c86
theorem o87 : FunOK PP T 87 x87 := funOK Try.func87 (by kernel_rfl) (by kernel_rfl) c87
theorem o88 : FunOK PP T 88 x88 := funOK Try.func88 (by kernel_rfl) (by kernel_rfl) c88
theorem o89 : FunOK PP T 89 x89 := funOK Try.func89 (by kernel_rfl) (by kernel_rfl) c89
theorem o90 : FunOK PP T 90 x90 := funOK Try.func90 (by kernel_rfl) (by kernel_rfl) c90
theorem o91 : FunOK PP T 91 x91 := funOK Try.func91 (by kernel_rfl) (by kernel_rfl) c91
theorem o92 : FunOK PP T 92 x92 := funOK Try.func92 (by kernel_rfl) (by kernel_rfl) c92
theorem o93 : FunOK PP T 93 x93 := funOK Try.func93 (by kernel_rfl) (by kernel_rfl) c93
theorem o94 : FunOK PP T 94 x94 := funOK Try.func94 (by kernel_rfl) (by kernel_rfl) c94
theorem o95 : FunOK PP T 95 x95 := funOK Try.func95 (by kernel_rfl) (by kernel_rfl) c95
theorem o96 : FunOK PP T 96 x96 := funOK Try.func96 (by kernel_rfl) (by kernel_rfl) c96
theorem o97 : FunOK PP T 97 x97 := funOK Try.func97 (by kernel_rfl) (by kernel_rfl) c97
theorem o98 : FunOK PP T 98 x98 := funOK Try.func98 (by kernel_rfl) (by kernel_rfl) c98
theorem o99 : FunOK PP T 99 x99 := funOK Try.func99 (by kernel_rfl) (by kernel_rfl) c99
theorem o100 : FunOK PP T 100 x100 := funOK Try.func100 (by kernel_rfl) (by kernel_rfl) c100
theorem o101 : FunOK PP T 101 x101 := funOK Try.func101 (by kernel_rfl) (by kernel_rfl) c101
theorem o102 : FunOK PP T 102 x102 := funOK Try.func102 (by kernel_rfl) (by kernel_rfl) c102
theorem o103 : FunOK PP T 103 x103 := funOK Try.func103 (by kernel_rfl) (by kernel_rfl) c103
theorem o104 : FunOK PP T 104 x104 := funOK Try.func104 (by kernel_rfl) (by kernel_rfl) c104
theorem o105 : FunOK PP T 105 x105 := funOK Try.func105 (by kernel_rfl) (by kernel_rfl) c105
theorem o106 : FunOK PP T 106 x106 := funOK Try.func106 (by kernel_rfl) (by kernel_rfl) c106
theorem o107 : FunOK PP T 107 x107 := funOK Try.func107 (by kernel_rfl) (by kernel_rfl) c107
theorem o108 : FunOK PP T 108 x108 := funOK Try.func108 (by kernel_rfl) (by kernel_rfl) c108
theorem o109 : FunOK PP T 109 x109 := funOK Try.func109 (by kernel_rfl) (by kernel_rfl) c109
theorem o112 : FunOK PP T 112 x112 := funOK Try.func112 (by kernel_rfl) (by kernel_rfl) c112
theorem o113 : FunOK PP T 113 x113 := funOK Try.func113 (by kernel_rfl) (by kernel_rfl) c113
theorem o114 : FunOK PP T 114 x114 := funOK Try.func114 (by kernel_rfl) (by kernel_rfl) c114
theorem o115 : FunOK PP T 115 x115 := funOK Try.func115 (by kernel_rfl) (by kernel_rfl) c115
theorem o116 : FunOK PP T 116 x116 := funOK Try.func116 (by kernel_rfl) (by kernel_rfl) c116
theorem o117 : FunOK PP T 117 x117 := funOK Try.func117 (by kernel_rfl) (by kernel_rfl) c117
theorem o118 : FunOK PP T 118 x118 := funOK Try.func118 (by kernel_rfl) (by kernel_rfl) c118
theorem o119 : FunOK PP T 119 x119 := funOK Try.func119 (by kernel_rfl) (by kernel_rfl) c119
theorem o122 : FunOK PP T 122 x122 := funOK Try.func122 (by kernel_rfl) (by kernel_rfl) c122
theorem o124 : FunOK PP T 124 x124 := funOK Try.func124 (by kernel_rfl) (by kernel_rfl) c124
theorem o125 : FunOK PP T 125 x125 := funOK Try.func125 (by kernel_rfl) (by kernel_rfl) c125

theorem fl_nil : ∀ p ∈ ([] : List (Nat × XFn)), FunOK PP T p.1 p.2 := fun _ h => by cases h
theorem fl_cons {f : Nat} {x : XFn} {l : List (Nat × XFn)} (h : FunOK PP T f x) (hl : ∀ p ∈ l, FunOK PP T p.1 p.2) : ∀ p ∈ (f, x) :: l, FunOK PP T p.1 p.2 := fun p hp => by
  rcases List.mem_cons.1 hp with rfl | hp
  · exact h
  · exact hl p hp
theorem FL_ok : ∀ p ∈ FL, FunOK PP T p.1 p.2 := by
  unfold FL
  refine fl_cons o3 ?_
  refine fl_cons o4 ?_
  refine fl_cons o5 ?_
  refine fl_cons o6 ?_
  refine fl_cons o7 ?_
  refine fl_cons o8 ?_
  refine fl_cons o9 ?_
  refine fl_cons o10 ?_
  refine fl_cons o11 ?_
  refine fl_cons o12 ?_
  refine fl_cons o13 ?_
  refine fl_cons o14 ?_
  refine fl_cons o15 ?_
  refine fl_cons o16 ?_
  refine fl_cons o17 ?_
  refine fl_cons o18 ?_
  refine fl_cons o19 ?_
  refine fl_cons o20 ?_
  refine fl_cons o21 ?_
  refine fl_cons o22 ?_
  refine fl_cons o23 ?_
  refine fl_cons o24 ?_
  refine fl_cons o25 ?_
  refine fl_cons o26 ?_
  refine fl_cons o27 ?_
  refine fl_cons o28 ?_
  refine fl_cons o29 ?_
  refine fl_cons o30 ?_
  refine fl_cons o31 ?_
  refine fl_cons o32 ?_
  refine fl_cons o33 ?_
  refine fl_cons o34 ?_
  refine fl_cons o35 ?_
  refine fl_cons o36 ?_
  refine fl_cons o37 ?_
  refine fl_cons o38 ?_
  refine fl_cons o39 ?_
  refine fl_cons o40 ?_
  refine fl_cons o41 ?_
  refine fl_cons o42 ?_
  refine fl_cons o43 ?_
  refine fl_cons o44 ?_
  refine fl_cons o45 ?_
  refine fl_cons o46 ?_
  refine fl_cons o47 ?_
  refine fl_cons o48 ?_
  refine fl_cons o49 ?_
  refine fl_cons o50 ?_
  refine fl_cons o51 ?_
  refine fl_cons o52 ?_
  refine fl_cons o53 ?_
  refine fl_cons o54 ?_
  refine fl_cons o55 ?_
  refine fl_cons o56 ?_
  refine fl_cons o57 ?_
  refine fl_cons o58 ?_
  refine fl_cons o59 ?_
  refine fl_cons o60 ?_
  refine fl_cons o61 ?_
  refine fl_cons o62 ?_
  refine fl_cons o63 ?_
  refine fl_cons o64 ?_
  refine fl_cons o65 ?_
  refine fl_cons o66 ?_
  refine fl_cons o67 ?_
  refine fl_cons o68 ?_
  refine fl_cons o69 ?_
  refine fl_cons o70 ?_
  refine fl_cons o71 ?_
  refine fl_cons o72 ?_
  refine fl_cons o73 ?_
  refine fl_cons o74 ?_
  refine fl_cons o75 ?_
  refine fl_cons o76 ?_
  refine fl_cons o77 ?_
  refine fl_cons o78 ?_
  refine fl_cons o79 ?_
  refine fl_cons o80 ?_
  refine fl_cons o81 ?_
  refine fl_cons o82 ?_
  refine fl_cons o83 ?_
  refine fl_cons o84 ?_
  refine fl_cons o85 ?_
  refine fl_cons o86 ?_
  refine fl_cons o87 ?_
  refine fl_cons o88 ?_
  refine fl_cons o89 ?_
  refine fl_cons o90 ?_
  refine fl_cons o91 ?_
  refine fl_cons o92 ?_
  refine fl_cons o93 ?_
  refine fl_cons o94 ?_
  refine fl_cons o95 ?_
  refine fl_cons o96 ?_
  refine fl_cons o97 ?_
  refine fl_cons o98 ?_
  refine fl_cons o99 ?_
  refine fl_cons o100 ?_
  refine fl_cons o101 ?_
  refine fl_cons o102 ?_
  refine fl_cons o103 ?_
  refine fl_cons o104 ?_
  refine fl_cons o105 ?_
  refine fl_cons o106 ?_
  refine fl_cons o107 ?_
  refine fl_cons o108 ?_
  refine fl_cons o109 ?_
  refine fl_cons o112 ?_
  refine fl_cons o113 ?_
  refine fl_cons o114 ?_
  refine fl_cons o115 ?_
  refine fl_cons o116 ?_
  refine fl_cons o117 ?_
  refine fl_cons o118 ?_
  refine fl_cons o119 ?_
  refine fl_cons o122 ?_
  refine fl_cons o124 ?_
  refine fl_cons o125 ?_
  exact fl_nil

theorem F_ok (f : FuncId) (x : XFn) (h : F f = some x) : FunOK PP T f x := by
  unfold F at h
  have := FL_ok (f, x) (alGet_mem h)
  exact this

end Go.Proofs.Yteekkjfjpoaihaa.Eng
