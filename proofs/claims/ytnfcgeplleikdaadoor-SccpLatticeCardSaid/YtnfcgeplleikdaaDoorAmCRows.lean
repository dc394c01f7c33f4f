/- Each function is the program's. -/
import Derived.Test.YtnfcgeplleikdaaDoorAmCCode
import Derived.Test.YtnfcgeplleikdaaDoorRows
set_option maxRecDepth 100000
namespace Am.C
open Am Go.Proofs
theorem r3 : RowOK Tryd.prog 3 c3 := ⟨Tryd.f3, Tryd.func3, by kernel_rfl, by kernel_rfl⟩
theorem r4 : RowOK Tryd.prog 4 c4 := ⟨Tryd.f4, Tryd.func4, by kernel_rfl, by kernel_rfl⟩
theorem r5 : RowOK Tryd.prog 5 c5 := ⟨Tryd.f5, Tryd.func5, by kernel_rfl, by kernel_rfl⟩
theorem r6 : RowOK Tryd.prog 6 c6 := ⟨Tryd.f6, Tryd.func6, by kernel_rfl, by kernel_rfl⟩
theorem r7 : RowOK Tryd.prog 7 c7 := ⟨Tryd.f7, Tryd.func7, by kernel_rfl, by kernel_rfl⟩
theorem r8 : RowOK Tryd.prog 8 c8 := ⟨Tryd.f8, Tryd.func8, by kernel_rfl, by kernel_rfl⟩
theorem r9 : RowOK Tryd.prog 9 c9 := ⟨Tryd.f9, Tryd.func9, by kernel_rfl, by kernel_rfl⟩
theorem r10 : RowOK Tryd.prog 10 c10 := ⟨Tryd.f10, Tryd.func10, by kernel_rfl, by kernel_rfl⟩
theorem r11 : RowOK Tryd.prog 11 c11 := ⟨Tryd.f11, Tryd.func11, by kernel_rfl, by kernel_rfl⟩
theorem r12 : RowOK Tryd.prog 12 c12 := ⟨Tryd.f12, Tryd.func12, by kernel_rfl, by kernel_rfl⟩
theorem r13 : RowOK Tryd.prog 13 c13 := ⟨Tryd.f13, Tryd.func13, by kernel_rfl, by kernel_rfl⟩
theorem r14 : RowOK Tryd.prog 14 c14 := ⟨Tryd.f14, Tryd.func14, by kernel_rfl, by kernel_rfl⟩
theorem r15 : RowOK Tryd.prog 15 c15 := ⟨Tryd.f15, Tryd.func15, by kernel_rfl, by kernel_rfl⟩
theorem r16 : RowOK Tryd.prog 16 c16 := ⟨Tryd.f16, Tryd.func16, by kernel_rfl, by kernel_rfl⟩
theorem r17 : RowOK Tryd.prog 17 c17 := ⟨Tryd.f17, Tryd.func17, by kernel_rfl, by kernel_rfl⟩
theorem r18 : RowOK Tryd.prog 18 c18 := ⟨Tryd.f18, Tryd.func18, by kernel_rfl, by kernel_rfl⟩
theorem r19 : RowOK Tryd.prog 19 c19 := ⟨Tryd.f19, Tryd.func19, by kernel_rfl, by kernel_rfl⟩
theorem r20 : RowOK Tryd.prog 20 c20 := ⟨Tryd.f20, Tryd.func20, by kernel_rfl, by kernel_rfl⟩
theorem r21 : RowOK Tryd.prog 21 c21 := ⟨Tryd.f21, Tryd.func21, by kernel_rfl, by kernel_rfl⟩
theorem r22 : RowOK Tryd.prog 22 c22 := ⟨Tryd.f22, Tryd.func22, by kernel_rfl, by kernel_rfl⟩
theorem r23 : RowOK Tryd.prog 23 c23 := ⟨Tryd.f23, Tryd.func23, by kernel_rfl, by kernel_rfl⟩
theorem r24 : RowOK Tryd.prog 24 c24 := ⟨Tryd.f24, Tryd.func24, by kernel_rfl, by kernel_rfl⟩
theorem r25 : RowOK Tryd.prog 25 c25 := ⟨Tryd.f25, Tryd.func25, by kernel_rfl, by kernel_rfl⟩
theorem r26 : RowOK Tryd.prog 26 c26 := ⟨Tryd.f26, Tryd.func26, by kernel_rfl, by kernel_rfl⟩
theorem r27 : RowOK Tryd.prog 27 c27 := ⟨Tryd.f27, Tryd.func27, by kernel_rfl, by kernel_rfl⟩
theorem r28 : RowOK Tryd.prog 28 c28 := ⟨Tryd.f28, Tryd.func28, by kernel_rfl, by kernel_rfl⟩
theorem r29 : RowOK Tryd.prog 29 c29 := ⟨Tryd.f29, Tryd.func29, by kernel_rfl, by kernel_rfl⟩
theorem r30 : RowOK Tryd.prog 30 c30 := ⟨Tryd.f30, Tryd.func30, by kernel_rfl, by kernel_rfl⟩
theorem r31 : RowOK Tryd.prog 31 c31 := ⟨Tryd.f31, Tryd.func31, by kernel_rfl, by kernel_rfl⟩
theorem r32 : RowOK Tryd.prog 32 c32 := ⟨Tryd.f32, Tryd.func32, by kernel_rfl, by kernel_rfl⟩
theorem r33 : RowOK Tryd.prog 33 c33 := ⟨Tryd.f33, Tryd.func33, by kernel_rfl, by kernel_rfl⟩
theorem r34 : RowOK Tryd.prog 34 c34 := ⟨Tryd.f34, Tryd.func34, by kernel_rfl, by kernel_rfl⟩
theorem r35 : RowOK Tryd.prog 35 c35 := ⟨Tryd.f35, Tryd.func35, by kernel_rfl, by kernel_rfl⟩
theorem r36 : RowOK Tryd.prog 36 c36 := ⟨Tryd.f36, Tryd.func36, by kernel_rfl, by kernel_rfl⟩
theorem r37 : RowOK Tryd.prog 37 c37 := ⟨Tryd.f37, Tryd.func37, by kernel_rfl, by kernel_rfl⟩
theorem r38 : RowOK Tryd.prog 38 c38 := ⟨Tryd.f38, Tryd.func38, by kernel_rfl, by kernel_rfl⟩
theorem r39 : RowOK Tryd.prog 39 c39 := ⟨Tryd.f39, Tryd.func39, by kernel_rfl, by kernel_rfl⟩
theorem r40 : RowOK Tryd.prog 40 c40 := ⟨Tryd.f40, Tryd.func40, by kernel_rfl, by kernel_rfl⟩
theorem r41 : RowOK Tryd.prog 41 c41 := ⟨Tryd.f41, Tryd.func41, by kernel_rfl, by kernel_rfl⟩
theorem r42 : RowOK Tryd.prog 42 c42 := ⟨Tryd.f42, Tryd.func42, by kernel_rfl, by kernel_rfl⟩
theorem r43 : RowOK Tryd.prog 43 c43 := ⟨Tryd.f43, Tryd.func43, by kernel_rfl, by kernel_rfl, by kernel_rfl, by show Go.Extern.find _ = some _; kernel_rfl⟩
theorem r45 : RowOK Tryd.prog 45 c45 := ⟨Tryd.f45, Tryd.func45, by kernel_rfl, by kernel_rfl⟩
theorem r46 : RowOK Tryd.prog 46 c46 := ⟨Tryd.f46, Tryd.func46, by kernel_rfl, by kernel_rfl⟩
theorem r47 : RowOK Tryd.prog 47 c47 := ⟨Tryd.f47, Tryd.func47, by kernel_rfl, by kernel_rfl⟩
theorem r48 : RowOK Tryd.prog 48 c48 := ⟨Tryd.f48, Tryd.func48, by kernel_rfl, by kernel_rfl⟩
theorem r49 : RowOK Tryd.prog 49 c49 := ⟨Tryd.f49, Tryd.func49, by kernel_rfl, by kernel_rfl⟩
theorem r50 : RowOK Tryd.prog 50 c50 := ⟨Tryd.f50, Tryd.func50, by kernel_rfl, by kernel_rfl⟩
theorem r51 : RowOK Tryd.prog 51 c51 := ⟨Tryd.f51, Tryd.func51, by kernel_rfl, by kernel_rfl⟩
theorem r52 : RowOK Tryd.prog 52 c52 := ⟨Tryd.f52, Tryd.func52, by kernel_rfl, by kernel_rfl⟩
theorem r53 : RowOK Tryd.prog 53 c53 := ⟨Tryd.f53, Tryd.func53, by kernel_rfl, by kernel_rfl⟩
theorem r54 : RowOK Tryd.prog 54 c54 := ⟨Tryd.f54, Tryd.func54, by kernel_rfl, by kernel_rfl⟩
theorem r55 : RowOK Tryd.prog 55 c55 := ⟨Tryd.f55, Tryd.func55, by kernel_rfl, by kernel_rfl⟩
theorem r56 : RowOK Tryd.prog 56 c56 := ⟨Tryd.f56, Tryd.func56, by kernel_rfl, by kernel_rfl⟩
theorem r57 : RowOK Tryd.prog 57 c57 := ⟨Tryd.f57, Tryd.func57, by kernel_rfl, by kernel_rfl⟩
theorem r58 : RowOK Tryd.prog 58 c58 := ⟨Tryd.f58, Tryd.func58, by kernel_rfl, by kernel_rfl⟩
theorem r59 : RowOK Tryd.prog 59 c59 := ⟨Tryd.f59, Tryd.func59, by kernel_rfl, by kernel_rfl⟩
theorem r60 : RowOK Tryd.prog 60 c60 := ⟨Tryd.f60, Tryd.func60, by kernel_rfl, by kernel_rfl⟩
theorem r61 : RowOK Tryd.prog 61 c61 := ⟨Tryd.f61, Tryd.func61, by kernel_rfl, by kernel_rfl⟩
theorem r62 : RowOK Tryd.prog 62 c62 := ⟨Tryd.f62, Tryd.func62, by kernel_rfl, by kernel_rfl⟩
theorem r64 : RowOK Tryd.prog 64 c64 := ⟨Tryd.f64, Tryd.func64, by kernel_rfl, by kernel_rfl, by kernel_rfl, by show Go.Extern.find _ = some _; kernel_rfl⟩
theorem r65 : RowOK Tryd.prog 65 c65 := ⟨Tryd.f65, Tryd.func65, by kernel_rfl, by kernel_rfl⟩
theorem r66 : RowOK Tryd.prog 66 c66 := ⟨Tryd.f66, Tryd.func66, by kernel_rfl, by kernel_rfl⟩
theorem r67 : RowOK Tryd.prog 67 c67 := ⟨Tryd.f67, Tryd.func67, by kernel_rfl, by kernel_rfl⟩
theorem r68 : RowOK Tryd.prog 68 c68 := ⟨Tryd.f68, Tryd.func68, by kernel_rfl, by kernel_rfl⟩
theorem r69 : RowOK Tryd.prog 69 c69 := ⟨Tryd.f69, Tryd.func69, by kernel_rfl, by kernel_rfl⟩
theorem r70 : RowOK Tryd.prog 70 c70 := ⟨Tryd.f70, Tryd.func70, by kernel_rfl, by kernel_rfl⟩
theorem r71 : RowOK Tryd.prog 71 c71 := ⟨Tryd.f71, Tryd.func71, by kernel_rfl, by kernel_rfl⟩
theorem r72 : RowOK Tryd.prog 72 c72 := ⟨Tryd.f72, Tryd.func72, by kernel_rfl, by kernel_rfl⟩
theorem r73 : RowOK Tryd.prog 73 c73 := ⟨Tryd.f73, Tryd.func73, by kernel_rfl, by kernel_rfl⟩
theorem r74 : RowOK Tryd.prog 74 c74 := ⟨Tryd.f74, Tryd.func74, by kernel_rfl, by kernel_rfl⟩
theorem r75 : RowOK Tryd.prog 75 c75 := ⟨Tryd.f75, Tryd.func75, by kernel_rfl, by kernel_rfl⟩
theorem r76 : RowOK Tryd.prog 76 c76 := ⟨Tryd.f76, Tryd.func76, by kernel_rfl, by kernel_rfl⟩
theorem r77 : RowOK Tryd.prog 77 c77 := ⟨Tryd.f77, Tryd.func77, by kernel_rfl, by kernel_rfl⟩
theorem r78 : RowOK Tryd.prog 78 c78 := ⟨Tryd.f78, Tryd.func78, by kernel_rfl, by kernel_rfl⟩
theorem r79 : RowOK Tryd.prog 79 c79 := ⟨Tryd.f79, Tryd.func79, by kernel_rfl, by kernel_rfl⟩
theorem r80 : RowOK Tryd.prog 80 c80 := ⟨Tryd.f80, Tryd.func80, by kernel_rfl, by kernel_rfl⟩
theorem r81 : RowOK Tryd.prog 81 c81 := ⟨Tryd.f81, Tryd.func81, by kernel_rfl, by kernel_rfl⟩
theorem r82 : RowOK Tryd.prog 82 c82 := ⟨Tryd.f82, Tryd.func82, by kernel_rfl, by kernel_rfl⟩
theorem r83 : RowOK Tryd.prog 83 c83 := ⟨Tryd.f83, Tryd.func83, by kernel_rfl, by kernel_rfl⟩
theorem r84 : RowOK Tryd.prog 84 c84 := ⟨Tryd.f84, Tryd.func84, by kernel_rfl, by kernel_rfl⟩
theorem r86 : RowOK Tryd.prog 86 c86 := ⟨Tryd.f86, Tryd.func86, by kernel_rfl, by kernel_rfl⟩
theorem r87 : RowOK Tryd.prog 87 c87 := ⟨Tryd.f87, Tryd.func87, by kernel_rfl, by kernel_rfl⟩
theorem r88 : RowOK Tryd.prog 88 c88 := ⟨Tryd.f88, Tryd.func88, by kernel_rfl, by kernel_rfl⟩
theorem r89 : RowOK Tryd.prog 89 c89 := ⟨Tryd.f89, Tryd.func89, by kernel_rfl, by kernel_rfl⟩
theorem r90 : RowOK Tryd.prog 90 c90 := ⟨Tryd.f90, Tryd.func90, by kernel_rfl, by kernel_rfl⟩
theorem r91 : RowOK Tryd.prog 91 c91 := ⟨Tryd.f91, Tryd.func91, by kernel_rfl, by kernel_rfl⟩
theorem r92 : RowOK Tryd.prog 92 c92 := ⟨Tryd.f92, Tryd.func92, by kernel_rfl, by kernel_rfl⟩
theorem r95 : RowOK Tryd.prog 95 c95 := ⟨Tryd.f95, Tryd.func95, by kernel_rfl, by kernel_rfl⟩
theorem rows : codes.All (RowOK Tryd.prog) := ⟨r48, ⟨r25, ⟨r14, ⟨r8, ⟨r5, ⟨r4, ⟨r3, trivial, trivial⟩, trivial⟩, ⟨r7, ⟨r6, trivial, trivial⟩, trivial⟩⟩, ⟨r11, ⟨r10, ⟨r9, trivial, trivial⟩, trivial⟩, ⟨r13, ⟨r12, trivial, trivial⟩, trivial⟩⟩⟩, ⟨r20, ⟨r17, ⟨r16, ⟨r15, trivial, trivial⟩, trivial⟩, ⟨r19, ⟨r18, trivial, trivial⟩, trivial⟩⟩, ⟨r23, ⟨r22, ⟨r21, trivial, trivial⟩, trivial⟩, ⟨r24, trivial, trivial⟩⟩⟩⟩, ⟨r36, ⟨r31, ⟨r28, ⟨r27, ⟨r26, trivial, trivial⟩, trivial⟩, ⟨r30, ⟨r29, trivial, trivial⟩, trivial⟩⟩, ⟨r34, ⟨r33, ⟨r32, trivial, trivial⟩, trivial⟩, ⟨r35, trivial, trivial⟩⟩⟩, ⟨r42, ⟨r39, ⟨r38, ⟨r37, trivial, trivial⟩, trivial⟩, ⟨r41, ⟨r40, trivial, trivial⟩, trivial⟩⟩, ⟨r46, ⟨r45, ⟨r43, trivial, trivial⟩, trivial⟩, ⟨r47, trivial, trivial⟩⟩⟩⟩⟩, ⟨r71, ⟨r59, ⟨r54, ⟨r51, ⟨r50, ⟨r49, trivial, trivial⟩, trivial⟩, ⟨r53, ⟨r52, trivial, trivial⟩, trivial⟩⟩, ⟨r57, ⟨r56, ⟨r55, trivial, trivial⟩, trivial⟩, ⟨r58, trivial, trivial⟩⟩⟩, ⟨r66, ⟨r62, ⟨r61, ⟨r60, trivial, trivial⟩, trivial⟩, ⟨r65, ⟨r64, trivial, trivial⟩, trivial⟩⟩, ⟨r69, ⟨r68, ⟨r67, trivial, trivial⟩, trivial⟩, ⟨r70, trivial, trivial⟩⟩⟩⟩, ⟨r82, ⟨r77, ⟨r74, ⟨r73, ⟨r72, trivial, trivial⟩, trivial⟩, ⟨r76, ⟨r75, trivial, trivial⟩, trivial⟩⟩, ⟨r80, ⟨r79, ⟨r78, trivial, trivial⟩, trivial⟩, ⟨r81, trivial, trivial⟩⟩⟩, ⟨r89, ⟨r86, ⟨r84, ⟨r83, trivial, trivial⟩, trivial⟩, ⟨r88, ⟨r87, trivial, trivial⟩, trivial⟩⟩, ⟨r92, ⟨r91, ⟨r90, trivial, trivial⟩, trivial⟩, ⟨r95, trivial, trivial⟩⟩⟩⟩⟩⟩
end Am.C
