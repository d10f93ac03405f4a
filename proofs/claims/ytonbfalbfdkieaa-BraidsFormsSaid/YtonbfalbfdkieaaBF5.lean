/- Laid together: The table of functions for the reckoner. What all functions of a seat share: runs, leads, calls. Contracts of the library, laid at this program by the kit's tool. The reckoner: what calls of strings.Join and strings.Repeat come to. No program is named. Words of normal forms: least words of simple braids, permutations (plain). No program is named. slices.Sort of an owned sequence of ints, as a contract. What laws share: from a call's end to the statement's; closed calls that return true. The reference's words of normal forms: line, inverse, least, permutation. The program's test of permutations: slices.Sorted of slices.Values. The program's least words, inverses. Contracts of strings.Repeat, strings.Join over data. No program is named. slices.Repeat of ints. The reference's word of a normal form. The program's word of a normal form. awake, of the braids: it returns true, and leaves all that was there alone. From a call that leaves all that was there alone to a statement's closing condition. No program is named. From calls with arguments that are only read to a statement's closing condition; data that came in, whatever its shape. No program is named. -/
import Derived.Test.YtonbfalbfdkieaaChecked
import Derived.Shelf.Sort.Plain
import Derived.Shelf.Bits.Mul64
import Derived.Shelf.Slices.Clone
import Derived.Shelf.Slices.In.SortNone
import Derived.Test.YtonbfalbfdkieaaProg
import Derived.Below
import Derived.Lib.Join
import Derived.Lib.Repeat
import Derived.ProofKit
import Derived.ReadAgain
import Derived.OpenShut
import Derived.Test.YtonbfalbfdkieaaBF4
set_option linter.unusedSimpArgs false
set_option linter.unusedVariables false
namespace Go.Proofs.Ytonbfalbfdkieaa.Ev
open Go.Proofs
noncomputable def ft0 : Tr FI := .nil
theorem ft0Ok : FTok Try.prog ft0 := FTok.nil _
noncomputable def ft1 : Tr FI := ft0.put 2 (some (ofFunc Try.f2))
theorem ft1Ok : FTok Try.prog ft1 := ft0Ok.add (by kernel_rfl) Try.func2 (by kernel_rfl) (by kernel_rfl)
noncomputable def ft2 : Tr FI := ft1.put 3 (some (ofFunc Try.f3))
theorem ft2Ok : FTok Try.prog ft2 := ft1Ok.add (by kernel_rfl) Try.func3 (by kernel_rfl) (by kernel_rfl)
noncomputable def ft3 : Tr FI := ft2.put 4 (some (ofFunc Try.f4))
theorem ft3Ok : FTok Try.prog ft3 := ft2Ok.add (by kernel_rfl) Try.func4 (by kernel_rfl) (by kernel_rfl)
noncomputable def ft4 : Tr FI := ft3.put 5 (some (ofFunc Try.f5))
theorem ft4Ok : FTok Try.prog ft4 := ft3Ok.add (by kernel_rfl) Try.func5 (by kernel_rfl) (by kernel_rfl)
noncomputable def ft5 : Tr FI := ft4.put 6 (some (ofFunc Try.f6))
theorem ft5Ok : FTok Try.prog ft5 := ft4Ok.add (by kernel_rfl) Try.func6 (by kernel_rfl) (by kernel_rfl)
noncomputable def ft6 : Tr FI := ft5.put 7 (some (ofFunc Try.f7))
theorem ft6Ok : FTok Try.prog ft6 := ft5Ok.add (by kernel_rfl) Try.func7 (by kernel_rfl) (by kernel_rfl)
noncomputable def ft7 : Tr FI := ft6.put 8 (some (ofFunc Try.f8))
theorem ft7Ok : FTok Try.prog ft7 := ft6Ok.add (by kernel_rfl) Try.func8 (by kernel_rfl) (by kernel_rfl)
noncomputable def ft8 : Tr FI := ft7.put 9 (some (ofFunc Try.f9))
theorem ft8Ok : FTok Try.prog ft8 := ft7Ok.add (by kernel_rfl) Try.func9 (by kernel_rfl) (by kernel_rfl)
noncomputable def ft9 : Tr FI := ft8.put 10 (some (ofFunc Try.f10))
theorem ft9Ok : FTok Try.prog ft9 := ft8Ok.add (by kernel_rfl) Try.func10 (by kernel_rfl) (by kernel_rfl)
noncomputable def ft10 : Tr FI := ft9.put 11 (some (ofFunc Try.f11))
theorem ft10Ok : FTok Try.prog ft10 := ft9Ok.add (by kernel_rfl) Try.func11 (by kernel_rfl) (by kernel_rfl)
noncomputable def ft11 : Tr FI := ft10.put 12 (some (ofFunc Try.f12))
theorem ft11Ok : FTok Try.prog ft11 := ft10Ok.add (by kernel_rfl) Try.func12 (by kernel_rfl) (by kernel_rfl)
noncomputable def ft12 : Tr FI := ft11.put 13 (some (ofFunc Try.f13))
theorem ft12Ok : FTok Try.prog ft12 := ft11Ok.add (by kernel_rfl) Try.func13 (by kernel_rfl) (by kernel_rfl)
noncomputable def ft13 : Tr FI := ft12.put 14 (some (ofFunc Try.f14))
theorem ft13Ok : FTok Try.prog ft13 := ft12Ok.add (by kernel_rfl) Try.func14 (by kernel_rfl) (by kernel_rfl)
noncomputable def ft14 : Tr FI := ft13.put 15 (some (ofFunc Try.f15))
theorem ft14Ok : FTok Try.prog ft14 := ft13Ok.add (by kernel_rfl) Try.func15 (by kernel_rfl) (by kernel_rfl)
noncomputable def ft15 : Tr FI := ft14.put 16 (some (ofFunc Try.f16))
theorem ft15Ok : FTok Try.prog ft15 := ft14Ok.add (by kernel_rfl) Try.func16 (by kernel_rfl) (by kernel_rfl)
noncomputable def ft16 : Tr FI := ft15.put 17 (some (ofFunc Try.f17))
theorem ft16Ok : FTok Try.prog ft16 := ft15Ok.add (by kernel_rfl) Try.func17 (by kernel_rfl) (by kernel_rfl)
noncomputable def ft17 : Tr FI := ft16.put 18 (some (ofFunc Try.f18))
theorem ft17Ok : FTok Try.prog ft17 := ft16Ok.add (by kernel_rfl) Try.func18 (by kernel_rfl) (by kernel_rfl)
noncomputable def ft18 : Tr FI := ft17.put 19 (some (ofFunc Try.f19))
theorem ft18Ok : FTok Try.prog ft18 := ft17Ok.add (by kernel_rfl) Try.func19 (by kernel_rfl) (by kernel_rfl)
noncomputable def ft19 : Tr FI := ft18.put 20 (some (ofFunc Try.f20))
theorem ft19Ok : FTok Try.prog ft19 := ft18Ok.add (by kernel_rfl) Try.func20 (by kernel_rfl) (by kernel_rfl)
noncomputable def ft20 : Tr FI := ft19.put 21 (some (ofFunc Try.f21))
theorem ft20Ok : FTok Try.prog ft20 := ft19Ok.add (by kernel_rfl) Try.func21 (by kernel_rfl) (by kernel_rfl)
noncomputable def ft21 : Tr FI := ft20.put 22 (some (ofFunc Try.f22))
theorem ft21Ok : FTok Try.prog ft21 := ft20Ok.add (by kernel_rfl) Try.func22 (by kernel_rfl) (by kernel_rfl)
noncomputable def ft22 : Tr FI := ft21.put 23 (some (ofFunc Try.f23))
theorem ft22Ok : FTok Try.prog ft22 := ft21Ok.add (by kernel_rfl) Try.func23 (by kernel_rfl) (by kernel_rfl)
noncomputable def ft23 : Tr FI := ft22.put 24 (some (ofFunc Try.f24))
theorem ft23Ok : FTok Try.prog ft23 := ft22Ok.add (by kernel_rfl) Try.func24 (by kernel_rfl) (by kernel_rfl)
noncomputable def ft24 : Tr FI := ft23.put 25 (some (ofFunc Try.f25))
theorem ft24Ok : FTok Try.prog ft24 := ft23Ok.add (by kernel_rfl) Try.func25 (by kernel_rfl) (by kernel_rfl)
noncomputable def ft25 : Tr FI := ft24.put 26 (some (ofFunc Try.f26))
theorem ft25Ok : FTok Try.prog ft25 := ft24Ok.add (by kernel_rfl) Try.func26 (by kernel_rfl) (by kernel_rfl)
noncomputable def ft26 : Tr FI := ft25.put 27 (some (ofFunc Try.f27))
theorem ft26Ok : FTok Try.prog ft26 := ft25Ok.add (by kernel_rfl) Try.func27 (by kernel_rfl) (by kernel_rfl)
noncomputable def ft27 : Tr FI := ft26.put 28 (some (ofFunc Try.f28))
theorem ft27Ok : FTok Try.prog ft27 := ft26Ok.add (by kernel_rfl) Try.func28 (by kernel_rfl) (by kernel_rfl)
noncomputable def ft28 : Tr FI := ft27.put 29 (some (ofFunc Try.f29))
theorem ft28Ok : FTok Try.prog ft28 := ft27Ok.add (by kernel_rfl) Try.func29 (by kernel_rfl) (by kernel_rfl)
noncomputable def ft29 : Tr FI := ft28.put 30 (some (ofFunc Try.f30))
theorem ft29Ok : FTok Try.prog ft29 := ft28Ok.add (by kernel_rfl) Try.func30 (by kernel_rfl) (by kernel_rfl)
noncomputable def ft30 : Tr FI := ft29.put 31 (some (ofFunc Try.f31))
theorem ft30Ok : FTok Try.prog ft30 := ft29Ok.add (by kernel_rfl) Try.func31 (by kernel_rfl) (by kernel_rfl)
noncomputable def ft31 : Tr FI := ft30.put 32 (some (ofFunc Try.f32))
theorem ft31Ok : FTok Try.prog ft31 := ft30Ok.add (by kernel_rfl) Try.func32 (by kernel_rfl) (by kernel_rfl)
noncomputable def ft32 : Tr FI := ft31.put 33 (some (ofFunc Try.f33))
theorem ft32Ok : FTok Try.prog ft32 := ft31Ok.add (by kernel_rfl) Try.func33 (by kernel_rfl) (by kernel_rfl)
noncomputable def ft33 : Tr FI := ft32.put 34 (some (ofFunc Try.f34))
theorem ft33Ok : FTok Try.prog ft33 := ft32Ok.add (by kernel_rfl) Try.func34 (by kernel_rfl) (by kernel_rfl)
noncomputable def ft34 : Tr FI := ft33.put 35 (some (ofFunc Try.f35))
theorem ft34Ok : FTok Try.prog ft34 := ft33Ok.add (by kernel_rfl) Try.func35 (by kernel_rfl) (by kernel_rfl)
noncomputable def ft35 : Tr FI := ft34.put 36 (some (ofFunc Try.f36))
theorem ft35Ok : FTok Try.prog ft35 := ft34Ok.add (by kernel_rfl) Try.func36 (by kernel_rfl) (by kernel_rfl)
noncomputable def ft36 : Tr FI := ft35.put 37 (some (ofFunc Try.f37))
theorem ft36Ok : FTok Try.prog ft36 := ft35Ok.add (by kernel_rfl) Try.func37 (by kernel_rfl) (by kernel_rfl)
noncomputable def ft37 : Tr FI := ft36.put 38 (some (ofFunc Try.f38))
theorem ft37Ok : FTok Try.prog ft37 := ft36Ok.add (by kernel_rfl) Try.func38 (by kernel_rfl) (by kernel_rfl)
noncomputable def ft38 : Tr FI := ft37.put 39 (some (ofFunc Try.f39))
theorem ft38Ok : FTok Try.prog ft38 := ft37Ok.add (by kernel_rfl) Try.func39 (by kernel_rfl) (by kernel_rfl)
noncomputable def ft39 : Tr FI := ft38.put 40 (some (ofFunc Try.f40))
theorem ft39Ok : FTok Try.prog ft39 := ft38Ok.add (by kernel_rfl) Try.func40 (by kernel_rfl) (by kernel_rfl)
noncomputable def ft40 : Tr FI := ft39.put 41 (some (ofFunc Try.f41))
theorem ft40Ok : FTok Try.prog ft40 := ft39Ok.add (by kernel_rfl) Try.func41 (by kernel_rfl) (by kernel_rfl)
noncomputable def ft41 : Tr FI := ft40.put 42 (some (ofFunc Try.f42))
theorem ft41Ok : FTok Try.prog ft41 := ft40Ok.add (by kernel_rfl) Try.func42 (by kernel_rfl) (by kernel_rfl)
noncomputable def ft42 : Tr FI := ft41.put 43 (some (ofFunc Try.f43))
theorem ft42Ok : FTok Try.prog ft42 := ft41Ok.add (by kernel_rfl) Try.func43 (by kernel_rfl) (by kernel_rfl)
noncomputable def ft43 : Tr FI := ft42.put 44 (some (ofFunc Try.f44))
theorem ft43Ok : FTok Try.prog ft43 := ft42Ok.add (by kernel_rfl) Try.func44 (by kernel_rfl) (by kernel_rfl)
noncomputable def ft44 : Tr FI := ft43.put 45 (some (ofFunc Try.f45))
theorem ft44Ok : FTok Try.prog ft44 := ft43Ok.add (by kernel_rfl) Try.func45 (by kernel_rfl) (by kernel_rfl)
noncomputable def ft45 : Tr FI := ft44.put 46 (some (ofFunc Try.f46))
theorem ft45Ok : FTok Try.prog ft45 := ft44Ok.add (by kernel_rfl) Try.func46 (by kernel_rfl) (by kernel_rfl)
noncomputable def ft46 : Tr FI := ft45.put 47 (some (ofFunc Try.f47))
theorem ft46Ok : FTok Try.prog ft46 := ft45Ok.add (by kernel_rfl) Try.func47 (by kernel_rfl) (by kernel_rfl)
noncomputable def ft47 : Tr FI := ft46.put 48 (some (ofFunc Try.f48))
theorem ft47Ok : FTok Try.prog ft47 := ft46Ok.add (by kernel_rfl) Try.func48 (by kernel_rfl) (by kernel_rfl)
noncomputable def ft48 : Tr FI := ft47.put 49 (some (ofFunc Try.f49))
theorem ft48Ok : FTok Try.prog ft48 := ft47Ok.add (by kernel_rfl) Try.func49 (by kernel_rfl) (by kernel_rfl)
noncomputable def ft49 : Tr FI := ft48.put 50 (some (ofFunc Try.f50))
theorem ft49Ok : FTok Try.prog ft49 := ft48Ok.add (by kernel_rfl) Try.func50 (by kernel_rfl) (by kernel_rfl)
noncomputable def ft50 : Tr FI := ft49.put 51 (some (ofFunc Try.f51))
theorem ft50Ok : FTok Try.prog ft50 := ft49Ok.add (by kernel_rfl) Try.func51 (by kernel_rfl) (by kernel_rfl)
noncomputable def ft51 : Tr FI := ft50.put 52 (some (ofFunc Try.f52))
theorem ft51Ok : FTok Try.prog ft51 := ft50Ok.add (by kernel_rfl) Try.func52 (by kernel_rfl) (by kernel_rfl)
noncomputable def ft52 : Tr FI := ft51.put 53 (some (ofFunc Try.f53))
theorem ft52Ok : FTok Try.prog ft52 := ft51Ok.add (by kernel_rfl) Try.func53 (by kernel_rfl) (by kernel_rfl)
noncomputable def ft53 : Tr FI := ft52.put 54 (some (ofFunc Try.f54))
theorem ft53Ok : FTok Try.prog ft53 := ft52Ok.add (by kernel_rfl) Try.func54 (by kernel_rfl) (by kernel_rfl)
noncomputable def ft54 : Tr FI := ft53.put 55 (some (ofFunc Try.f55))
theorem ft54Ok : FTok Try.prog ft54 := ft53Ok.add (by kernel_rfl) Try.func55 (by kernel_rfl) (by kernel_rfl)
noncomputable def ft55 : Tr FI := ft54.put 56 (some (ofFunc Try.f56))
theorem ft55Ok : FTok Try.prog ft55 := ft54Ok.add (by kernel_rfl) Try.func56 (by kernel_rfl) (by kernel_rfl)
noncomputable def ft56 : Tr FI := ft55.put 57 (some (ofFunc Try.f57))
theorem ft56Ok : FTok Try.prog ft56 := ft55Ok.add (by kernel_rfl) Try.func57 (by kernel_rfl) (by kernel_rfl)
noncomputable def ft57 : Tr FI := ft56.put 58 (some (ofFunc Try.f58))
theorem ft57Ok : FTok Try.prog ft57 := ft56Ok.add (by kernel_rfl) Try.func58 (by kernel_rfl) (by kernel_rfl)
noncomputable def ft58 : Tr FI := ft57.put 59 (some (ofFunc Try.f59))
theorem ft58Ok : FTok Try.prog ft58 := ft57Ok.add (by kernel_rfl) Try.func59 (by kernel_rfl) (by kernel_rfl)
noncomputable def ft59 : Tr FI := ft58.put 60 (some (ofFunc Try.f60))
theorem ft59Ok : FTok Try.prog ft59 := ft58Ok.add (by kernel_rfl) Try.func60 (by kernel_rfl) (by kernel_rfl)
noncomputable def ft60 : Tr FI := ft59.put 61 (some (ofFunc Try.f61))
theorem ft60Ok : FTok Try.prog ft60 := ft59Ok.add (by kernel_rfl) Try.func61 (by kernel_rfl) (by kernel_rfl)
noncomputable def ft61 : Tr FI := ft60.put 62 (some (ofFunc Try.f62))
theorem ft61Ok : FTok Try.prog ft61 := ft60Ok.add (by kernel_rfl) Try.func62 (by kernel_rfl) (by kernel_rfl)
noncomputable def ft62 : Tr FI := ft61.put 63 (some (ofFunc Try.f63))
theorem ft62Ok : FTok Try.prog ft62 := ft61Ok.add (by kernel_rfl) Try.func63 (by kernel_rfl) (by kernel_rfl)
noncomputable def ft63 : Tr FI := ft62.put 64 (some (ofFunc Try.f64))
theorem ft63Ok : FTok Try.prog ft63 := ft62Ok.add (by kernel_rfl) Try.func64 (by kernel_rfl) (by kernel_rfl)
noncomputable def ft64 : Tr FI := ft63.put 65 (some (ofFunc Try.f65))
theorem ft64Ok : FTok Try.prog ft64 := ft63Ok.add (by kernel_rfl) Try.func65 (by kernel_rfl) (by kernel_rfl)
noncomputable def ft65 : Tr FI := ft64.put 66 (some (ofFunc Try.f66))
theorem ft65Ok : FTok Try.prog ft65 := ft64Ok.add (by kernel_rfl) Try.func66 (by kernel_rfl) (by kernel_rfl)
noncomputable def ft66 : Tr FI := ft65.put 67 (some (ofFunc Try.f67))
theorem ft66Ok : FTok Try.prog ft66 := ft65Ok.add (by kernel_rfl) Try.func67 (by kernel_rfl) (by kernel_rfl)
noncomputable def ft67 : Tr FI := ft66.put 68 (some (ofFunc Try.f68))
theorem ft67Ok : FTok Try.prog ft67 := ft66Ok.add (by kernel_rfl) Try.func68 (by kernel_rfl) (by kernel_rfl)
noncomputable def ft68 : Tr FI := ft67.put 69 (some (ofFunc Try.f69))
theorem ft68Ok : FTok Try.prog ft68 := ft67Ok.add (by kernel_rfl) Try.func69 (by kernel_rfl) (by kernel_rfl)
noncomputable def ft69 : Tr FI := ft68.put 70 (some (ofFunc Try.f70))
theorem ft69Ok : FTok Try.prog ft69 := ft68Ok.add (by kernel_rfl) Try.func70 (by kernel_rfl) (by kernel_rfl)
noncomputable def ft70 : Tr FI := ft69.put 71 (some (ofFunc Try.f71))
theorem ft70Ok : FTok Try.prog ft70 := ft69Ok.add (by kernel_rfl) Try.func71 (by kernel_rfl) (by kernel_rfl)
noncomputable def ft71 : Tr FI := ft70.put 72 (some (ofFunc Try.f72))
theorem ft71Ok : FTok Try.prog ft71 := ft70Ok.add (by kernel_rfl) Try.func72 (by kernel_rfl) (by kernel_rfl)
noncomputable def ft72 : Tr FI := ft71.put 73 (some (ofFunc Try.f73))
theorem ft72Ok : FTok Try.prog ft72 := ft71Ok.add (by kernel_rfl) Try.func73 (by kernel_rfl) (by kernel_rfl)
noncomputable def ft73 : Tr FI := ft72.put 74 (some (ofFunc Try.f74))
theorem ft73Ok : FTok Try.prog ft73 := ft72Ok.add (by kernel_rfl) Try.func74 (by kernel_rfl) (by kernel_rfl)
noncomputable def ft74 : Tr FI := ft73.put 75 (some (ofFunc Try.f75))
theorem ft74Ok : FTok Try.prog ft74 := ft73Ok.add (by kernel_rfl) Try.func75 (by kernel_rfl) (by kernel_rfl)
noncomputable def ft75 : Tr FI := ft74.put 76 (some (ofFunc Try.f76))
theorem ft75Ok : FTok Try.prog ft75 := ft74Ok.add (by kernel_rfl) Try.func76 (by kernel_rfl) (by kernel_rfl)
noncomputable def ft76 : Tr FI := ft75.put 77 (some (ofFunc Try.f77))
theorem ft76Ok : FTok Try.prog ft76 := ft75Ok.add (by kernel_rfl) Try.func77 (by kernel_rfl) (by kernel_rfl)
noncomputable def ft77 : Tr FI := ft76.put 78 (some (ofFunc Try.f78))
theorem ft77Ok : FTok Try.prog ft77 := ft76Ok.add (by kernel_rfl) Try.func78 (by kernel_rfl) (by kernel_rfl)
noncomputable def ft78 : Tr FI := ft77.put 79 (some (ofFunc Try.f79))
theorem ft78Ok : FTok Try.prog ft78 := ft77Ok.add (by kernel_rfl) Try.func79 (by kernel_rfl) (by kernel_rfl)
noncomputable def ft79 : Tr FI := ft78.put 80 (some (ofFunc Try.f80))
theorem ft79Ok : FTok Try.prog ft79 := ft78Ok.add (by kernel_rfl) Try.func80 (by kernel_rfl) (by kernel_rfl)
noncomputable def ft80 : Tr FI := ft79.put 81 (some (ofFunc Try.f81))
theorem ft80Ok : FTok Try.prog ft80 := ft79Ok.add (by kernel_rfl) Try.func81 (by kernel_rfl) (by kernel_rfl)
noncomputable def ft81 : Tr FI := ft80.put 82 (some (ofFunc Try.f82))
theorem ft81Ok : FTok Try.prog ft81 := ft80Ok.add (by kernel_rfl) Try.func82 (by kernel_rfl) (by kernel_rfl)
noncomputable def ft82 : Tr FI := ft81.put 83 (some (ofFunc Try.f83))
theorem ft82Ok : FTok Try.prog ft82 := ft81Ok.add (by kernel_rfl) Try.func83 (by kernel_rfl) (by kernel_rfl)
noncomputable def ft83 : Tr FI := ft82.put 84 (some (ofFunc Try.f84))
theorem ft83Ok : FTok Try.prog ft83 := ft82Ok.add (by kernel_rfl) Try.func84 (by kernel_rfl) (by kernel_rfl)
noncomputable def ft84 : Tr FI := ft83.put 85 (some (ofFunc Try.f85))
theorem ft84Ok : FTok Try.prog ft84 := ft83Ok.add (by kernel_rfl) Try.func85 (by kernel_rfl) (by kernel_rfl)
noncomputable def ft85 : Tr FI := ft84.put 86 (some (ofFunc Try.f86))
theorem ft85Ok : FTok Try.prog ft85 := ft84Ok.add (by kernel_rfl) Try.func86 (by kernel_rfl) (by kernel_rfl)
noncomputable def ft86 : Tr FI := ft85.put 87 (some (ofFunc Try.f87))
theorem ft86Ok : FTok Try.prog ft86 := ft85Ok.add (by kernel_rfl) Try.func87 (by kernel_rfl) (by kernel_rfl)
noncomputable def ft87 : Tr FI := ft86.put 88 (some (ofFunc Try.f88))
theorem ft87Ok : FTok Try.prog ft87 := ft86Ok.add (by kernel_rfl) Try.func88 (by kernel_rfl) (by kernel_rfl)
noncomputable def ft88 : Tr FI := ft87.put 89 (some (ofFunc Try.f89))
theorem ft88Ok : FTok Try.prog ft88 := ft87Ok.add (by kernel_rfl) Try.func89 (by kernel_rfl) (by kernel_rfl)
noncomputable def ft89 : Tr FI := ft88.put 90 (some (ofFunc Try.f90))
theorem ft89Ok : FTok Try.prog ft89 := ft88Ok.add (by kernel_rfl) Try.func90 (by kernel_rfl) (by kernel_rfl)
noncomputable def ft90 : Tr FI := ft89.put 91 (some (ofFunc Try.f91))
theorem ft90Ok : FTok Try.prog ft90 := ft89Ok.add (by kernel_rfl) Try.func91 (by kernel_rfl) (by kernel_rfl)
noncomputable def ft91 : Tr FI := ft90.put 92 (some (ofFunc Try.f92))
theorem ft91Ok : FTok Try.prog ft91 := ft90Ok.add (by kernel_rfl) Try.func92 (by kernel_rfl) (by kernel_rfl)
noncomputable def ft92 : Tr FI := ft91.put 93 (some (ofFunc Try.f93))
theorem ft92Ok : FTok Try.prog ft92 := ft91Ok.add (by kernel_rfl) Try.func93 (by kernel_rfl) (by kernel_rfl)
noncomputable def ft93 : Tr FI := ft92.put 94 (some (ofFunc Try.f94))
theorem ft93Ok : FTok Try.prog ft93 := ft92Ok.add (by kernel_rfl) Try.func94 (by kernel_rfl) (by kernel_rfl)
noncomputable def ft94 : Tr FI := ft93.put 95 (some (ofFunc Try.f95))
theorem ft94Ok : FTok Try.prog ft94 := ft93Ok.add (by kernel_rfl) Try.func95 (by kernel_rfl) (by kernel_rfl)
noncomputable def ft95 : Tr FI := ft94.put 96 (some (ofFunc Try.f96))
theorem ft95Ok : FTok Try.prog ft95 := ft94Ok.add (by kernel_rfl) Try.func96 (by kernel_rfl) (by kernel_rfl)
noncomputable def ft96 : Tr FI := ft95.put 97 (some (ofFunc Try.f97))
theorem ft96Ok : FTok Try.prog ft96 := ft95Ok.add (by kernel_rfl) Try.func97 (by kernel_rfl) (by kernel_rfl)
noncomputable def ft97 : Tr FI := ft96.put 98 (some (ofFunc Try.f98))
theorem ft97Ok : FTok Try.prog ft97 := ft96Ok.add (by kernel_rfl) Try.func98 (by kernel_rfl) (by kernel_rfl)
noncomputable def ft98 : Tr FI := ft97.put 99 (some (ofFunc Try.f99))
theorem ft98Ok : FTok Try.prog ft98 := ft97Ok.add (by kernel_rfl) Try.func99 (by kernel_rfl) (by kernel_rfl)
noncomputable def ft99 : Tr FI := ft98.put 100 (some (ofFunc Try.f100))
theorem ft99Ok : FTok Try.prog ft99 := ft98Ok.add (by kernel_rfl) Try.func100 (by kernel_rfl) (by kernel_rfl)
noncomputable def ft100 : Tr FI := ft99.put 101 (some (ofFunc Try.f101))
theorem ft100Ok : FTok Try.prog ft100 := ft99Ok.add (by kernel_rfl) Try.func101 (by kernel_rfl) (by kernel_rfl)
noncomputable def ft101 : Tr FI := ft100.put 102 (some (ofFunc Try.f102))
theorem ft101Ok : FTok Try.prog ft101 := ft100Ok.add (by kernel_rfl) Try.func102 (by kernel_rfl) (by kernel_rfl)
noncomputable def ft102 : Tr FI := ft101.put 103 (some (ofFunc Try.f103))
theorem ft102Ok : FTok Try.prog ft102 := ft101Ok.add (by kernel_rfl) Try.func103 (by kernel_rfl) (by kernel_rfl)
noncomputable def ft103 : Tr FI := ft102.put 104 (some (ofFunc Try.f104))
theorem ft103Ok : FTok Try.prog ft103 := ft102Ok.add (by kernel_rfl) Try.func104 (by kernel_rfl) (by kernel_rfl)
noncomputable def ft104 : Tr FI := ft103.put 105 (some (ofFunc Try.f105))
theorem ft104Ok : FTok Try.prog ft104 := ft103Ok.add (by kernel_rfl) Try.func105 (by kernel_rfl) (by kernel_rfl)
noncomputable def ft105 : Tr FI := ft104.put 106 (some (ofFunc Try.f106))
theorem ft105Ok : FTok Try.prog ft105 := ft104Ok.add (by kernel_rfl) Try.func106 (by kernel_rfl) (by kernel_rfl)
noncomputable def ft106 : Tr FI := ft105.put 107 (some (ofFunc Try.f107))
theorem ft106Ok : FTok Try.prog ft106 := ft105Ok.add (by kernel_rfl) Try.func107 (by kernel_rfl) (by kernel_rfl)
noncomputable def ft107 : Tr FI := ft106.put 108 (some (ofFunc Try.f108))
theorem ft107Ok : FTok Try.prog ft107 := ft106Ok.add (by kernel_rfl) Try.func108 (by kernel_rfl) (by kernel_rfl)
noncomputable def ft108 : Tr FI := ft107.put 109 (some (ofFunc Try.f109))
theorem ft108Ok : FTok Try.prog ft108 := ft107Ok.add (by kernel_rfl) Try.func109 (by kernel_rfl) (by kernel_rfl)
noncomputable def ft109 : Tr FI := ft108.put 110 (some (ofFunc Try.f110))
theorem ft109Ok : FTok Try.prog ft109 := ft108Ok.add (by kernel_rfl) Try.func110 (by kernel_rfl) (by kernel_rfl)
noncomputable def ft110 : Tr FI := ft109.put 111 (some (ofFunc Try.f111))
theorem ft110Ok : FTok Try.prog ft110 := ft109Ok.add (by kernel_rfl) Try.func111 (by kernel_rfl) (by kernel_rfl)
noncomputable def ft111 : Tr FI := ft110.put 112 (some (ofFunc Try.f112))
theorem ft111Ok : FTok Try.prog ft111 := ft110Ok.add (by kernel_rfl) Try.func112 (by kernel_rfl) (by kernel_rfl)
noncomputable def ft112 : Tr FI := ft111.put 113 (some (ofFunc Try.f113))
theorem ft112Ok : FTok Try.prog ft112 := ft111Ok.add (by kernel_rfl) Try.func113 (by kernel_rfl) (by kernel_rfl)
noncomputable def ft113 : Tr FI := ft112.put 114 (some (ofFunc Try.f114))
theorem ft113Ok : FTok Try.prog ft113 := ft112Ok.add (by kernel_rfl) Try.func114 (by kernel_rfl) (by kernel_rfl)
noncomputable def ft114 : Tr FI := ft113.put 115 (some (ofFunc Try.f115))
theorem ft114Ok : FTok Try.prog ft114 := ft113Ok.add (by kernel_rfl) Try.func115 (by kernel_rfl) (by kernel_rfl)
noncomputable def ft115 : Tr FI := ft114.put 116 (some (ofFunc Try.f116))
theorem ft115Ok : FTok Try.prog ft115 := ft114Ok.add (by kernel_rfl) Try.func116 (by kernel_rfl) (by kernel_rfl)
noncomputable def ft116 : Tr FI := ft115.put 117 (some (ofFunc Try.f117))
theorem ft116Ok : FTok Try.prog ft116 := ft115Ok.add (by kernel_rfl) Try.func117 (by kernel_rfl) (by kernel_rfl)
noncomputable def ft117 : Tr FI := ft116.put 118 (some (ofFunc Try.f118))
theorem ft117Ok : FTok Try.prog ft117 := ft116Ok.add (by kernel_rfl) Try.func118 (by kernel_rfl) (by kernel_rfl)
noncomputable def ft118 : Tr FI := ft117.put 119 (some (ofFunc Try.f119))
theorem ft118Ok : FTok Try.prog ft118 := ft117Ok.add (by kernel_rfl) Try.func119 (by kernel_rfl) (by kernel_rfl)
noncomputable def ft119 : Tr FI := ft118.put 120 (some (ofFunc Try.f120))
theorem ft119Ok : FTok Try.prog ft119 := ft118Ok.add (by kernel_rfl) Try.func120 (by kernel_rfl) (by kernel_rfl)
noncomputable def ft120 : Tr FI := ft119.put 121 (some (ofFunc Try.f121))
theorem ft120Ok : FTok Try.prog ft120 := ft119Ok.add (by kernel_rfl) Try.func121 (by kernel_rfl) (by kernel_rfl)
noncomputable def ft121 : Tr FI := ft120.put 122 (some (ofFunc Try.f122))
theorem ft121Ok : FTok Try.prog ft121 := ft120Ok.add (by kernel_rfl) Try.func122 (by kernel_rfl) (by kernel_rfl)
noncomputable def ft122 : Tr FI := ft121.put 123 (some (ofFunc Try.f123))
theorem ft122Ok : FTok Try.prog ft122 := ft121Ok.add (by kernel_rfl) Try.func123 (by kernel_rfl) (by kernel_rfl)
noncomputable def ft123 : Tr FI := ft122.put 124 (some (ofFunc Try.f124))
theorem ft123Ok : FTok Try.prog ft123 := ft122Ok.add (by kernel_rfl) Try.func124 (by kernel_rfl) (by kernel_rfl)
noncomputable def ft124 : Tr FI := ft123.put 125 (some (ofFunc Try.f125))
theorem ft124Ok : FTok Try.prog ft124 := ft123Ok.add (by kernel_rfl) Try.func125 (by kernel_rfl) (by kernel_rfl)
noncomputable def ft125 : Tr FI := ft124.put 126 (some (ofFunc Try.f126))
theorem ft125Ok : FTok Try.prog ft125 := ft124Ok.add (by kernel_rfl) Try.func126 (by kernel_rfl) (by kernel_rfl)
noncomputable def ft126 : Tr FI := ft125.put 127 (some (ofFunc Try.f127))
theorem ft126Ok : FTok Try.prog ft126 := ft125Ok.add (by kernel_rfl) Try.func127 (by kernel_rfl) (by kernel_rfl)
noncomputable def ft127 : Tr FI := ft126.put 128 (some (ofFunc Try.f128))
theorem ft127Ok : FTok Try.prog ft127 := ft126Ok.add (by kernel_rfl) Try.func128 (by kernel_rfl) (by kernel_rfl)
noncomputable def ft128 : Tr FI := ft127.put 129 (some (ofFunc Try.f129))
theorem ft128Ok : FTok Try.prog ft128 := ft127Ok.add (by kernel_rfl) Try.func129 (by kernel_rfl) (by kernel_rfl)
noncomputable def ft129 : Tr FI := ft128.put 130 (some (ofFunc Try.f130))
theorem ft129Ok : FTok Try.prog ft129 := ft128Ok.add (by kernel_rfl) Try.func130 (by kernel_rfl) (by kernel_rfl)
noncomputable def ft130 : Tr FI := ft129.put 131 (some (ofFunc Try.f131))
theorem ft130Ok : FTok Try.prog ft130 := ft129Ok.add (by kernel_rfl) Try.func131 (by kernel_rfl) (by kernel_rfl)
noncomputable def ft131 : Tr FI := ft130.put 132 (some (ofFunc Try.f132))
theorem ft131Ok : FTok Try.prog ft131 := ft130Ok.add (by kernel_rfl) Try.func132 (by kernel_rfl) (by kernel_rfl)
noncomputable def ft132 : Tr FI := ft131.put 133 (some (ofFunc Try.f133))
theorem ft132Ok : FTok Try.prog ft132 := ft131Ok.add (by kernel_rfl) Try.func133 (by kernel_rfl) (by kernel_rfl)
noncomputable def ft133 : Tr FI := ft132.put 134 (some (ofFunc Try.f134))
theorem ft133Ok : FTok Try.prog ft133 := ft132Ok.add (by kernel_rfl) Try.func134 (by kernel_rfl) (by kernel_rfl)
noncomputable def ft134 : Tr FI := ft133.put 135 (some (ofFunc Try.f135))
theorem ft134Ok : FTok Try.prog ft134 := ft133Ok.add (by kernel_rfl) Try.func135 (by kernel_rfl) (by kernel_rfl)
noncomputable def ft135 : Tr FI := ft134.put 136 (some (ofFunc Try.f136))
theorem ft135Ok : FTok Try.prog ft135 := ft134Ok.add (by kernel_rfl) Try.func136 (by kernel_rfl) (by kernel_rfl)
noncomputable def ft136 : Tr FI := ft135.put 137 (some (ofFunc Try.f137))
theorem ft136Ok : FTok Try.prog ft136 := ft135Ok.add (by kernel_rfl) Try.func137 (by kernel_rfl) (by kernel_rfl)
noncomputable def ft137 : Tr FI := ft136.put 138 (some (ofFunc Try.f138))
theorem ft137Ok : FTok Try.prog ft137 := ft136Ok.add (by kernel_rfl) Try.func138 (by kernel_rfl) (by kernel_rfl)
noncomputable def ft138 : Tr FI := ft137.put 139 (some (ofFunc Try.f139))
theorem ft138Ok : FTok Try.prog ft138 := ft137Ok.add (by kernel_rfl) Try.func139 (by kernel_rfl) (by kernel_rfl)
noncomputable def ft139 : Tr FI := ft138.put 140 (some (ofFunc Try.f140))
theorem ft139Ok : FTok Try.prog ft139 := ft138Ok.add (by kernel_rfl) Try.func140 (by kernel_rfl) (by kernel_rfl)
noncomputable def ft140 : Tr FI := ft139.put 141 (some (ofFunc Try.f141))
theorem ft140Ok : FTok Try.prog ft140 := ft139Ok.add (by kernel_rfl) Try.func141 (by kernel_rfl) (by kernel_rfl)
noncomputable def ft141 : Tr FI := ft140.put 142 (some (ofFunc Try.f142))
theorem ft141Ok : FTok Try.prog ft141 := ft140Ok.add (by kernel_rfl) Try.func142 (by kernel_rfl) (by kernel_rfl)
noncomputable def ft142 : Tr FI := ft141.put 143 (some (ofFunc Try.f143))
theorem ft142Ok : FTok Try.prog ft142 := ft141Ok.add (by kernel_rfl) Try.func143 (by kernel_rfl) (by kernel_rfl)
noncomputable def ft143 : Tr FI := ft142.put 144 (some (ofFunc Try.f144))
theorem ft143Ok : FTok Try.prog ft143 := ft142Ok.add (by kernel_rfl) Try.func144 (by kernel_rfl) (by kernel_rfl)
noncomputable def ft144 : Tr FI := ft143.put 145 (some (ofFunc Try.f145))
theorem ft144Ok : FTok Try.prog ft144 := ft143Ok.add (by kernel_rfl) Try.func145 (by kernel_rfl) (by kernel_rfl)
noncomputable def ft145 : Tr FI := ft144.put 146 (some (ofFunc Try.f146))
theorem ft145Ok : FTok Try.prog ft145 := ft144Ok.add (by kernel_rfl) Try.func146 (by kernel_rfl) (by kernel_rfl)
noncomputable def ft146 : Tr FI := ft145.put 147 (some (ofFunc Try.f147))
theorem ft146Ok : FTok Try.prog ft146 := ft145Ok.add (by kernel_rfl) Try.func147 (by kernel_rfl) (by kernel_rfl)
noncomputable def ft147 : Tr FI := ft146.put 148 (some (ofFunc Try.f148))
theorem ft147Ok : FTok Try.prog ft147 := ft146Ok.add (by kernel_rfl) Try.func148 (by kernel_rfl) (by kernel_rfl)
noncomputable def ft148 : Tr FI := ft147.put 149 (some (ofFunc Try.f149))
theorem ft148Ok : FTok Try.prog ft148 := ft147Ok.add (by kernel_rfl) Try.func149 (by kernel_rfl) (by kernel_rfl)
noncomputable def ft149 : Tr FI := ft148.put 150 (some (ofFunc Try.f150))
theorem ft149Ok : FTok Try.prog ft149 := ft148Ok.add (by kernel_rfl) Try.func150 (by kernel_rfl) (by kernel_rfl)
noncomputable def ft150 : Tr FI := ft149.put 151 (some (ofFunc Try.f151))
theorem ft150Ok : FTok Try.prog ft150 := ft149Ok.add (by kernel_rfl) Try.func151 (by kernel_rfl) (by kernel_rfl)
noncomputable def ft151 : Tr FI := ft150.put 152 (some (ofFunc Try.f152))
theorem ft151Ok : FTok Try.prog ft151 := ft150Ok.add (by kernel_rfl) Try.func152 (by kernel_rfl) (by kernel_rfl)
noncomputable def ft152 : Tr FI := ft151.put 153 (some (ofFunc Try.f153))
theorem ft152Ok : FTok Try.prog ft152 := ft151Ok.add (by kernel_rfl) Try.func153 (by kernel_rfl) (by kernel_rfl)
noncomputable def ft153 : Tr FI := ft152.put 154 (some (ofFunc Try.f154))
theorem ft153Ok : FTok Try.prog ft153 := ft152Ok.add (by kernel_rfl) Try.func154 (by kernel_rfl) (by kernel_rfl)
noncomputable def ft154 : Tr FI := ft153.put 155 (some (ofFunc Try.f155))
theorem ft154Ok : FTok Try.prog ft154 := ft153Ok.add (by kernel_rfl) Try.func155 (by kernel_rfl) (by kernel_rfl)
noncomputable def ft155 : Tr FI := ft154.put 156 (some (ofFunc Try.f156))
theorem ft155Ok : FTok Try.prog ft155 := ft154Ok.add (by kernel_rfl) Try.func156 (by kernel_rfl) (by kernel_rfl)
noncomputable def ft156 : Tr FI := ft155.put 157 (some (ofFunc Try.f157))
theorem ft156Ok : FTok Try.prog ft156 := ft155Ok.add (by kernel_rfl) Try.func157 (by kernel_rfl) (by kernel_rfl)
noncomputable def ft157 : Tr FI := ft156.put 158 (some (ofFunc Try.f158))
theorem ft157Ok : FTok Try.prog ft157 := ft156Ok.add (by kernel_rfl) Try.func158 (by kernel_rfl) (by kernel_rfl)
noncomputable def ft158 : Tr FI := ft157.put 159 (some (ofFunc Try.f159))
theorem ft158Ok : FTok Try.prog ft158 := ft157Ok.add (by kernel_rfl) Try.func159 (by kernel_rfl) (by kernel_rfl)
noncomputable def ft159 : Tr FI := ft158.put 160 (some (ofFunc Try.f160))
theorem ft159Ok : FTok Try.prog ft159 := ft158Ok.add (by kernel_rfl) Try.func160 (by kernel_rfl) (by kernel_rfl)
noncomputable def ft160 : Tr FI := ft159.put 161 (some (ofFunc Try.f161))
theorem ft160Ok : FTok Try.prog ft160 := ft159Ok.add (by kernel_rfl) Try.func161 (by kernel_rfl) (by kernel_rfl)
noncomputable def ft161 : Tr FI := ft160.put 162 (some (ofFunc Try.f162))
theorem ft161Ok : FTok Try.prog ft161 := ft160Ok.add (by kernel_rfl) Try.func162 (by kernel_rfl) (by kernel_rfl)
noncomputable def ft162 : Tr FI := ft161.put 163 (some (ofFunc Try.f163))
theorem ft162Ok : FTok Try.prog ft162 := ft161Ok.add (by kernel_rfl) Try.func163 (by kernel_rfl) (by kernel_rfl)
noncomputable def ft163 : Tr FI := ft162.put 164 (some (ofFunc Try.f164))
theorem ft163Ok : FTok Try.prog ft163 := ft162Ok.add (by kernel_rfl) Try.func164 (by kernel_rfl) (by kernel_rfl)
noncomputable def ft164 : Tr FI := ft163.put 165 (some (ofFunc Try.f165))
theorem ft164Ok : FTok Try.prog ft164 := ft163Ok.add (by kernel_rfl) Try.func165 (by kernel_rfl) (by kernel_rfl)
noncomputable def ft165 : Tr FI := ft164.put 166 (some (ofFunc Try.f166))
theorem ft165Ok : FTok Try.prog ft165 := ft164Ok.add (by kernel_rfl) Try.func166 (by kernel_rfl) (by kernel_rfl)
noncomputable def ft166 : Tr FI := ft165.put 167 (some (ofFunc Try.f167))
theorem ft166Ok : FTok Try.prog ft166 := ft165Ok.add (by kernel_rfl) Try.func167 (by kernel_rfl) (by kernel_rfl)
noncomputable def ft167 : Tr FI := ft166.put 168 (some (ofFunc Try.f168))
theorem ft167Ok : FTok Try.prog ft167 := ft166Ok.add (by kernel_rfl) Try.func168 (by kernel_rfl) (by kernel_rfl)
noncomputable def ft168 : Tr FI := ft167.put 169 (some (ofFunc Try.f169))
theorem ft168Ok : FTok Try.prog ft168 := ft167Ok.add (by kernel_rfl) Try.func169 (by kernel_rfl) (by kernel_rfl)
noncomputable def ft169 : Tr FI := ft168.put 170 (some (ofFunc Try.f170))
theorem ft169Ok : FTok Try.prog ft169 := ft168Ok.add (by kernel_rfl) Try.func170 (by kernel_rfl) (by kernel_rfl)
noncomputable def ft170 : Tr FI := ft169.put 171 (some (ofFunc Try.f171))
theorem ft170Ok : FTok Try.prog ft170 := ft169Ok.add (by kernel_rfl) Try.func171 (by kernel_rfl) (by kernel_rfl)
noncomputable def ft171 : Tr FI := ft170.put 172 (some (ofFunc Try.f172))
theorem ft171Ok : FTok Try.prog ft171 := ft170Ok.add (by kernel_rfl) Try.func172 (by kernel_rfl) (by kernel_rfl)
noncomputable def ft172 : Tr FI := ft171.put 173 (some (ofFunc Try.f173))
theorem ft172Ok : FTok Try.prog ft172 := ft171Ok.add (by kernel_rfl) Try.func173 (by kernel_rfl) (by kernel_rfl)
noncomputable def ft173 : Tr FI := ft172.put 174 (some (ofFunc Try.f174))
theorem ft173Ok : FTok Try.prog ft173 := ft172Ok.add (by kernel_rfl) Try.func174 (by kernel_rfl) (by kernel_rfl)
noncomputable def ft174 : Tr FI := ft173.put 175 (some (ofFunc Try.f175))
theorem ft174Ok : FTok Try.prog ft174 := ft173Ok.add (by kernel_rfl) Try.func175 (by kernel_rfl) (by kernel_rfl)
noncomputable def ft175 : Tr FI := ft174.put 176 (some (ofFunc Try.f176))
theorem ft175Ok : FTok Try.prog ft175 := ft174Ok.add (by kernel_rfl) Try.func176 (by kernel_rfl) (by kernel_rfl)
noncomputable def ft176 : Tr FI := ft175.put 177 (some (ofFunc Try.f177))
theorem ft176Ok : FTok Try.prog ft176 := ft175Ok.add (by kernel_rfl) Try.func177 (by kernel_rfl) (by kernel_rfl)
noncomputable def ft177 : Tr FI := ft176.put 178 (some (ofFunc Try.f178))
theorem ft177Ok : FTok Try.prog ft177 := ft176Ok.add (by kernel_rfl) Try.func178 (by kernel_rfl) (by kernel_rfl)
noncomputable def ft178 : Tr FI := ft177.put 179 (some (ofFunc Try.f179))
theorem ft178Ok : FTok Try.prog ft178 := ft177Ok.add (by kernel_rfl) Try.func179 (by kernel_rfl) (by kernel_rfl)
noncomputable def ft179 : Tr FI := ft178.put 180 (some (ofFunc Try.f180))
theorem ft179Ok : FTok Try.prog ft179 := ft178Ok.add (by kernel_rfl) Try.func180 (by kernel_rfl) (by kernel_rfl)
noncomputable def ft180 : Tr FI := ft179.put 181 (some (ofFunc Try.f181))
theorem ft180Ok : FTok Try.prog ft180 := ft179Ok.add (by kernel_rfl) Try.func181 (by kernel_rfl) (by kernel_rfl)
noncomputable def ft181 : Tr FI := ft180.put 182 (some (ofFunc Try.f182))
theorem ft181Ok : FTok Try.prog ft181 := ft180Ok.add (by kernel_rfl) Try.func182 (by kernel_rfl) (by kernel_rfl)
noncomputable def ft182 : Tr FI := ft181.put 183 (some (ofFunc Try.f183))
theorem ft182Ok : FTok Try.prog ft182 := ft181Ok.add (by kernel_rfl) Try.func183 (by kernel_rfl) (by kernel_rfl)
noncomputable def ft183 : Tr FI := ft182.put 184 (some (ofFunc Try.f184))
theorem ft183Ok : FTok Try.prog ft183 := ft182Ok.add (by kernel_rfl) Try.func184 (by kernel_rfl) (by kernel_rfl)
noncomputable def ft184 : Tr FI := ft183.put 185 (some (ofFunc Try.f185))
theorem ft184Ok : FTok Try.prog ft184 := ft183Ok.add (by kernel_rfl) Try.func185 (by kernel_rfl) (by kernel_rfl)
noncomputable def ft185 : Tr FI := ft184.put 186 (some (ofFunc Try.f186))
theorem ft185Ok : FTok Try.prog ft185 := ft184Ok.add (by kernel_rfl) Try.func186 (by kernel_rfl) (by kernel_rfl)
noncomputable def ft186 : Tr FI := ft185.put 187 (some (ofFunc Try.f187))
theorem ft186Ok : FTok Try.prog ft186 := ft185Ok.add (by kernel_rfl) Try.func187 (by kernel_rfl) (by kernel_rfl)
noncomputable def ft187 : Tr FI := ft186.put 188 (some (ofFunc Try.f188))
theorem ft187Ok : FTok Try.prog ft187 := ft186Ok.add (by kernel_rfl) Try.func188 (by kernel_rfl) (by kernel_rfl)
noncomputable def ft188 : Tr FI := ft187.put 189 (some (ofFunc Try.f189))
theorem ft188Ok : FTok Try.prog ft188 := ft187Ok.add (by kernel_rfl) Try.func189 (by kernel_rfl) (by kernel_rfl)
noncomputable def ft189 : Tr FI := ft188.put 190 (some (ofFunc Try.f190))
theorem ft189Ok : FTok Try.prog ft189 := ft188Ok.add (by kernel_rfl) Try.func190 (by kernel_rfl) (by kernel_rfl)
noncomputable def ft190 : Tr FI := ft189.put 191 (some (ofFunc Try.f191))
theorem ft190Ok : FTok Try.prog ft190 := ft189Ok.add (by kernel_rfl) Try.func191 (by kernel_rfl) (by kernel_rfl)
noncomputable def ft191 : Tr FI := ft190.put 192 (some (ofFunc Try.f192))
theorem ft191Ok : FTok Try.prog ft191 := ft190Ok.add (by kernel_rfl) Try.func192 (by kernel_rfl) (by kernel_rfl)
noncomputable def ft192 : Tr FI := ft191.put 193 (some (ofFunc Try.f193))
theorem ft192Ok : FTok Try.prog ft192 := ft191Ok.add (by kernel_rfl) Try.func193 (by kernel_rfl) (by kernel_rfl)
noncomputable def ft193 : Tr FI := ft192.put 194 (some (ofFunc Try.f194))
theorem ft193Ok : FTok Try.prog ft193 := ft192Ok.add (by kernel_rfl) Try.func194 (by kernel_rfl) (by kernel_rfl)
noncomputable def ft194 : Tr FI := ft193.put 195 (some (ofFunc Try.f195))
theorem ft194Ok : FTok Try.prog ft194 := ft193Ok.add (by kernel_rfl) Try.func195 (by kernel_rfl) (by kernel_rfl)
noncomputable def ft195 : Tr FI := ft194.put 196 (some (ofFunc Try.f196))
theorem ft195Ok : FTok Try.prog ft195 := ft194Ok.add (by kernel_rfl) Try.func196 (by kernel_rfl) (by kernel_rfl)
noncomputable def ft196 : Tr FI := ft195.put 197 (some (ofFunc Try.f197))
theorem ft196Ok : FTok Try.prog ft196 := ft195Ok.add (by kernel_rfl) Try.func197 (by kernel_rfl) (by kernel_rfl)
noncomputable def ft197 : Tr FI := ft196.put 198 (some (ofFunc Try.f198))
theorem ft197Ok : FTok Try.prog ft197 := ft196Ok.add (by kernel_rfl) Try.func198 (by kernel_rfl) (by kernel_rfl)
noncomputable def ft198 : Tr FI := ft197.put 199 (some (ofFunc Try.f199))
theorem ft198Ok : FTok Try.prog ft198 := ft197Ok.add (by kernel_rfl) Try.func199 (by kernel_rfl) (by kernel_rfl)
noncomputable def ft199 : Tr FI := ft198.put 200 (some (ofFunc Try.f200))
theorem ft199Ok : FTok Try.prog ft199 := ft198Ok.add (by kernel_rfl) Try.func200 (by kernel_rfl) (by kernel_rfl)
noncomputable def ft200 : Tr FI := ft199.put 201 (some (ofFunc Try.f201))
theorem ft200Ok : FTok Try.prog ft200 := ft199Ok.add (by kernel_rfl) Try.func201 (by kernel_rfl) (by kernel_rfl)
noncomputable def ft201 : Tr FI := ft200.put 202 (some (ofFunc Try.f202))
theorem ft201Ok : FTok Try.prog ft201 := ft200Ok.add (by kernel_rfl) Try.func202 (by kernel_rfl) (by kernel_rfl)
noncomputable def ft202 : Tr FI := ft201.put 203 (some (ofFunc Try.f203))
theorem ft202Ok : FTok Try.prog ft202 := ft201Ok.add (by kernel_rfl) Try.func203 (by kernel_rfl) (by kernel_rfl)
noncomputable def ft203 : Tr FI := ft202.put 204 (some (ofFunc Try.f204))
theorem ft203Ok : FTok Try.prog ft203 := ft202Ok.add (by kernel_rfl) Try.func204 (by kernel_rfl) (by kernel_rfl)
noncomputable def ft204 : Tr FI := ft203.put 205 (some (ofFunc Try.f205))
theorem ft204Ok : FTok Try.prog ft204 := ft203Ok.add (by kernel_rfl) Try.func205 (by kernel_rfl) (by kernel_rfl)
noncomputable def ft205 : Tr FI := ft204.put 206 (some (ofFunc Try.f206))
theorem ft205Ok : FTok Try.prog ft205 := ft204Ok.add (by kernel_rfl) Try.func206 (by kernel_rfl) (by kernel_rfl)
noncomputable def ft206 : Tr FI := ft205.put 207 (some (ofFunc Try.f207))
theorem ft206Ok : FTok Try.prog ft206 := ft205Ok.add (by kernel_rfl) Try.func207 (by kernel_rfl) (by kernel_rfl)
noncomputable def ft207 : Tr FI := ft206.put 208 (some (ofFunc Try.f208))
theorem ft207Ok : FTok Try.prog ft207 := ft206Ok.add (by kernel_rfl) Try.func208 (by kernel_rfl) (by kernel_rfl)
noncomputable def ft208 : Tr FI := ft207.put 209 (some (ofFunc Try.f209))
theorem ft208Ok : FTok Try.prog ft208 := ft207Ok.add (by kernel_rfl) Try.func209 (by kernel_rfl) (by kernel_rfl)
noncomputable def ft209 : Tr FI := ft208.put 210 (some (ofFunc Try.f210))
theorem ft209Ok : FTok Try.prog ft209 := ft208Ok.add (by kernel_rfl) Try.func210 (by kernel_rfl) (by kernel_rfl)
noncomputable def ft210 : Tr FI := ft209.put 211 (some (ofFunc Try.f211))
theorem ft210Ok : FTok Try.prog ft210 := ft209Ok.add (by kernel_rfl) Try.func211 (by kernel_rfl) (by kernel_rfl)
noncomputable def ft211 : Tr FI := ft210.put 214 (some (ofFunc Try.f214))
theorem ft211Ok : FTok Try.prog ft211 := ft210Ok.add (by kernel_rfl) Try.func214 (by kernel_rfl) (by kernel_rfl)
noncomputable def ft212 : Tr FI := ft211.put 215 (some (ofFunc Try.f215))
theorem ft212Ok : FTok Try.prog ft212 := ft211Ok.add (by kernel_rfl) Try.func215 (by kernel_rfl) (by kernel_rfl)
noncomputable def ft213 : Tr FI := ft212.put 216 (some (ofFunc Try.f216))
theorem ft213Ok : FTok Try.prog ft213 := ft212Ok.add (by kernel_rfl) Try.func216 (by kernel_rfl) (by kernel_rfl)
noncomputable def ft214 : Tr FI := ft213.put 217 (some (ofFunc Try.f217))
theorem ft214Ok : FTok Try.prog ft214 := ft213Ok.add (by kernel_rfl) Try.func217 (by kernel_rfl) (by kernel_rfl)
noncomputable def ft215 : Tr FI := ft214.put 218 (some (ofFunc Try.f218))
theorem ft215Ok : FTok Try.prog ft215 := ft214Ok.add (by kernel_rfl) Try.func218 (by kernel_rfl) (by kernel_rfl)
noncomputable def ft216 : Tr FI := ft215.put 219 (some (ofFunc Try.f219))
theorem ft216Ok : FTok Try.prog ft216 := ft215Ok.add (by kernel_rfl) Try.func219 (by kernel_rfl) (by kernel_rfl)
noncomputable def ft217 : Tr FI := ft216.put 220 (some (ofFunc Try.f220))
theorem ft217Ok : FTok Try.prog ft217 := ft216Ok.add (by kernel_rfl) Try.func220 (by kernel_rfl) (by kernel_rfl)
noncomputable def ft218 : Tr FI := ft217.put 221 (some (ofFunc Try.f221))
theorem ft218Ok : FTok Try.prog ft218 := ft217Ok.add (by kernel_rfl) Try.func221 (by kernel_rfl) (by kernel_rfl)
noncomputable def ft219 : Tr FI := ft218.put 222 (some (ofFunc Try.f222))
theorem ft219Ok : FTok Try.prog ft219 := ft218Ok.add (by kernel_rfl) Try.func222 (by kernel_rfl) (by kernel_rfl)
noncomputable def ft220 : Tr FI := ft219.put 223 (some (ofFunc Try.f223))
theorem ft220Ok : FTok Try.prog ft220 := ft219Ok.add (by kernel_rfl) Try.func223 (by kernel_rfl) (by kernel_rfl)
noncomputable def ft221 : Tr FI := ft220.put 224 (some (ofFunc Try.f224))
theorem ft221Ok : FTok Try.prog ft221 := ft220Ok.add (by kernel_rfl) Try.func224 (by kernel_rfl) (by kernel_rfl)
noncomputable def ft222 : Tr FI := ft221.put 225 (some (ofFunc Try.f225))
theorem ft222Ok : FTok Try.prog ft222 := ft221Ok.add (by kernel_rfl) Try.func225 (by kernel_rfl) (by kernel_rfl)
noncomputable def ft223 : Tr FI := ft222.put 226 (some (ofFunc Try.f226))
theorem ft223Ok : FTok Try.prog ft223 := ft222Ok.add (by kernel_rfl) Try.func226 (by kernel_rfl) (by kernel_rfl)
noncomputable def ft224 : Tr FI := ft223.put 227 (some (ofFunc Try.f227))
theorem ft224Ok : FTok Try.prog ft224 := ft223Ok.add (by kernel_rfl) Try.func227 (by kernel_rfl) (by kernel_rfl)
noncomputable def ft225 : Tr FI := ft224.put 228 (some (ofFunc Try.f228))
theorem ft225Ok : FTok Try.prog ft225 := ft224Ok.add (by kernel_rfl) Try.func228 (by kernel_rfl) (by kernel_rfl)
noncomputable def ft226 : Tr FI := ft225.put 229 (some (ofFunc Try.f229))
theorem ft226Ok : FTok Try.prog ft226 := ft225Ok.add (by kernel_rfl) Try.func229 (by kernel_rfl) (by kernel_rfl)
noncomputable def ft227 : Tr FI := ft226.put 230 (some (ofFunc Try.f230))
theorem ft227Ok : FTok Try.prog ft227 := ft226Ok.add (by kernel_rfl) Try.func230 (by kernel_rfl) (by kernel_rfl)
noncomputable def ft228 : Tr FI := ft227.put 231 (some (ofFunc Try.f231))
theorem ft228Ok : FTok Try.prog ft228 := ft227Ok.add (by kernel_rfl) Try.func231 (by kernel_rfl) (by kernel_rfl)
noncomputable def ft : Tr FI := (.node none (.node none (.node none (.node none (.node none (.node none (.node none (.node none .nil (.node (some (ofFunc Try.f128)) .nil .nil)) (.node (some (ofFunc Try.f64)) .nil (.node (some (ofFunc Try.f192)) .nil .nil))) (.node (some (ofFunc Try.f32)) (.node none .nil (.node (some (ofFunc Try.f160)) .nil .nil)) (.node (some (ofFunc Try.f96)) .nil (.node (some (ofFunc Try.f224)) .nil .nil)))) (.node (some (ofFunc Try.f16)) (.node none (.node none .nil (.node (some (ofFunc Try.f144)) .nil .nil)) (.node (some (ofFunc Try.f80)) .nil (.node (some (ofFunc Try.f208)) .nil .nil))) (.node (some (ofFunc Try.f48)) (.node none .nil (.node (some (ofFunc Try.f176)) .nil .nil)) (.node (some (ofFunc Try.f112)) .nil .nil)))) (.node (some (ofFunc Try.f8)) (.node none (.node none (.node none .nil (.node (some (ofFunc Try.f136)) .nil .nil)) (.node (some (ofFunc Try.f72)) .nil (.node (some (ofFunc Try.f200)) .nil .nil))) (.node (some (ofFunc Try.f40)) (.node none .nil (.node (some (ofFunc Try.f168)) .nil .nil)) (.node (some (ofFunc Try.f104)) .nil .nil))) (.node (some (ofFunc Try.f24)) (.node none (.node none .nil (.node (some (ofFunc Try.f152)) .nil .nil)) (.node (some (ofFunc Try.f88)) .nil (.node (some (ofFunc Try.f216)) .nil .nil))) (.node (some (ofFunc Try.f56)) (.node none .nil (.node (some (ofFunc Try.f184)) .nil .nil)) (.node (some (ofFunc Try.f120)) .nil .nil))))) (.node (some (ofFunc Try.f4)) (.node none (.node none (.node none (.node none .nil (.node (some (ofFunc Try.f132)) .nil .nil)) (.node (some (ofFunc Try.f68)) .nil (.node (some (ofFunc Try.f196)) .nil .nil))) (.node (some (ofFunc Try.f36)) (.node none .nil (.node (some (ofFunc Try.f164)) .nil .nil)) (.node (some (ofFunc Try.f100)) .nil (.node (some (ofFunc Try.f228)) .nil .nil)))) (.node (some (ofFunc Try.f20)) (.node none (.node none .nil (.node (some (ofFunc Try.f148)) .nil .nil)) (.node (some (ofFunc Try.f84)) .nil .nil)) (.node (some (ofFunc Try.f52)) (.node none .nil (.node (some (ofFunc Try.f180)) .nil .nil)) (.node (some (ofFunc Try.f116)) .nil .nil)))) (.node (some (ofFunc Try.f12)) (.node none (.node none (.node none .nil (.node (some (ofFunc Try.f140)) .nil .nil)) (.node (some (ofFunc Try.f76)) .nil (.node (some (ofFunc Try.f204)) .nil .nil))) (.node (some (ofFunc Try.f44)) (.node none .nil (.node (some (ofFunc Try.f172)) .nil .nil)) (.node (some (ofFunc Try.f108)) .nil .nil))) (.node (some (ofFunc Try.f28)) (.node none (.node none .nil (.node (some (ofFunc Try.f156)) .nil .nil)) (.node (some (ofFunc Try.f92)) .nil (.node (some (ofFunc Try.f220)) .nil .nil))) (.node (some (ofFunc Try.f60)) (.node none .nil (.node (some (ofFunc Try.f188)) .nil .nil)) (.node (some (ofFunc Try.f124)) .nil .nil)))))) (.node (some (ofFunc Try.f2)) (.node none (.node none (.node none (.node none (.node none .nil (.node (some (ofFunc Try.f130)) .nil .nil)) (.node (some (ofFunc Try.f66)) .nil (.node (some (ofFunc Try.f194)) .nil .nil))) (.node (some (ofFunc Try.f34)) (.node none .nil (.node (some (ofFunc Try.f162)) .nil .nil)) (.node (some (ofFunc Try.f98)) .nil (.node (some (ofFunc Try.f226)) .nil .nil)))) (.node (some (ofFunc Try.f18)) (.node none (.node none .nil (.node (some (ofFunc Try.f146)) .nil .nil)) (.node (some (ofFunc Try.f82)) .nil (.node (some (ofFunc Try.f210)) .nil .nil))) (.node (some (ofFunc Try.f50)) (.node none .nil (.node (some (ofFunc Try.f178)) .nil .nil)) (.node (some (ofFunc Try.f114)) .nil .nil)))) (.node (some (ofFunc Try.f10)) (.node none (.node none (.node none .nil (.node (some (ofFunc Try.f138)) .nil .nil)) (.node (some (ofFunc Try.f74)) .nil (.node (some (ofFunc Try.f202)) .nil .nil))) (.node (some (ofFunc Try.f42)) (.node none .nil (.node (some (ofFunc Try.f170)) .nil .nil)) (.node (some (ofFunc Try.f106)) .nil .nil))) (.node (some (ofFunc Try.f26)) (.node none (.node none .nil (.node (some (ofFunc Try.f154)) .nil .nil)) (.node (some (ofFunc Try.f90)) .nil (.node (some (ofFunc Try.f218)) .nil .nil))) (.node (some (ofFunc Try.f58)) (.node none .nil (.node (some (ofFunc Try.f186)) .nil .nil)) (.node (some (ofFunc Try.f122)) .nil .nil))))) (.node (some (ofFunc Try.f6)) (.node none (.node none (.node none (.node none .nil (.node (some (ofFunc Try.f134)) .nil .nil)) (.node (some (ofFunc Try.f70)) .nil (.node (some (ofFunc Try.f198)) .nil .nil))) (.node (some (ofFunc Try.f38)) (.node none .nil (.node (some (ofFunc Try.f166)) .nil .nil)) (.node (some (ofFunc Try.f102)) .nil (.node (some (ofFunc Try.f230)) .nil .nil)))) (.node (some (ofFunc Try.f22)) (.node none (.node none .nil (.node (some (ofFunc Try.f150)) .nil .nil)) (.node (some (ofFunc Try.f86)) .nil (.node (some (ofFunc Try.f214)) .nil .nil))) (.node (some (ofFunc Try.f54)) (.node none .nil (.node (some (ofFunc Try.f182)) .nil .nil)) (.node (some (ofFunc Try.f118)) .nil .nil)))) (.node (some (ofFunc Try.f14)) (.node none (.node none (.node none .nil (.node (some (ofFunc Try.f142)) .nil .nil)) (.node (some (ofFunc Try.f78)) .nil (.node (some (ofFunc Try.f206)) .nil .nil))) (.node (some (ofFunc Try.f46)) (.node none .nil (.node (some (ofFunc Try.f174)) .nil .nil)) (.node (some (ofFunc Try.f110)) .nil .nil))) (.node (some (ofFunc Try.f30)) (.node none (.node none .nil (.node (some (ofFunc Try.f158)) .nil .nil)) (.node (some (ofFunc Try.f94)) .nil (.node (some (ofFunc Try.f222)) .nil .nil))) (.node (some (ofFunc Try.f62)) (.node none .nil (.node (some (ofFunc Try.f190)) .nil .nil)) (.node (some (ofFunc Try.f126)) .nil .nil))))))) (.node none (.node none (.node none (.node none (.node none (.node none (.node none .nil (.node (some (ofFunc Try.f129)) .nil .nil)) (.node (some (ofFunc Try.f65)) .nil (.node (some (ofFunc Try.f193)) .nil .nil))) (.node (some (ofFunc Try.f33)) (.node none .nil (.node (some (ofFunc Try.f161)) .nil .nil)) (.node (some (ofFunc Try.f97)) .nil (.node (some (ofFunc Try.f225)) .nil .nil)))) (.node (some (ofFunc Try.f17)) (.node none (.node none .nil (.node (some (ofFunc Try.f145)) .nil .nil)) (.node (some (ofFunc Try.f81)) .nil (.node (some (ofFunc Try.f209)) .nil .nil))) (.node (some (ofFunc Try.f49)) (.node none .nil (.node (some (ofFunc Try.f177)) .nil .nil)) (.node (some (ofFunc Try.f113)) .nil .nil)))) (.node (some (ofFunc Try.f9)) (.node none (.node none (.node none .nil (.node (some (ofFunc Try.f137)) .nil .nil)) (.node (some (ofFunc Try.f73)) .nil (.node (some (ofFunc Try.f201)) .nil .nil))) (.node (some (ofFunc Try.f41)) (.node none .nil (.node (some (ofFunc Try.f169)) .nil .nil)) (.node (some (ofFunc Try.f105)) .nil .nil))) (.node (some (ofFunc Try.f25)) (.node none (.node none .nil (.node (some (ofFunc Try.f153)) .nil .nil)) (.node (some (ofFunc Try.f89)) .nil (.node (some (ofFunc Try.f217)) .nil .nil))) (.node (some (ofFunc Try.f57)) (.node none .nil (.node (some (ofFunc Try.f185)) .nil .nil)) (.node (some (ofFunc Try.f121)) .nil .nil))))) (.node (some (ofFunc Try.f5)) (.node none (.node none (.node none (.node none .nil (.node (some (ofFunc Try.f133)) .nil .nil)) (.node (some (ofFunc Try.f69)) .nil (.node (some (ofFunc Try.f197)) .nil .nil))) (.node (some (ofFunc Try.f37)) (.node none .nil (.node (some (ofFunc Try.f165)) .nil .nil)) (.node (some (ofFunc Try.f101)) .nil (.node (some (ofFunc Try.f229)) .nil .nil)))) (.node (some (ofFunc Try.f21)) (.node none (.node none .nil (.node (some (ofFunc Try.f149)) .nil .nil)) (.node (some (ofFunc Try.f85)) .nil .nil)) (.node (some (ofFunc Try.f53)) (.node none .nil (.node (some (ofFunc Try.f181)) .nil .nil)) (.node (some (ofFunc Try.f117)) .nil .nil)))) (.node (some (ofFunc Try.f13)) (.node none (.node none (.node none .nil (.node (some (ofFunc Try.f141)) .nil .nil)) (.node (some (ofFunc Try.f77)) .nil (.node (some (ofFunc Try.f205)) .nil .nil))) (.node (some (ofFunc Try.f45)) (.node none .nil (.node (some (ofFunc Try.f173)) .nil .nil)) (.node (some (ofFunc Try.f109)) .nil .nil))) (.node (some (ofFunc Try.f29)) (.node none (.node none .nil (.node (some (ofFunc Try.f157)) .nil .nil)) (.node (some (ofFunc Try.f93)) .nil (.node (some (ofFunc Try.f221)) .nil .nil))) (.node (some (ofFunc Try.f61)) (.node none .nil (.node (some (ofFunc Try.f189)) .nil .nil)) (.node (some (ofFunc Try.f125)) .nil .nil)))))) (.node (some (ofFunc Try.f3)) (.node none (.node none (.node none (.node none (.node none .nil (.node (some (ofFunc Try.f131)) .nil .nil)) (.node (some (ofFunc Try.f67)) .nil (.node (some (ofFunc Try.f195)) .nil .nil))) (.node (some (ofFunc Try.f35)) (.node none .nil (.node (some (ofFunc Try.f163)) .nil .nil)) (.node (some (ofFunc Try.f99)) .nil (.node (some (ofFunc Try.f227)) .nil .nil)))) (.node (some (ofFunc Try.f19)) (.node none (.node none .nil (.node (some (ofFunc Try.f147)) .nil .nil)) (.node (some (ofFunc Try.f83)) .nil (.node (some (ofFunc Try.f211)) .nil .nil))) (.node (some (ofFunc Try.f51)) (.node none .nil (.node (some (ofFunc Try.f179)) .nil .nil)) (.node (some (ofFunc Try.f115)) .nil .nil)))) (.node (some (ofFunc Try.f11)) (.node none (.node none (.node none .nil (.node (some (ofFunc Try.f139)) .nil .nil)) (.node (some (ofFunc Try.f75)) .nil (.node (some (ofFunc Try.f203)) .nil .nil))) (.node (some (ofFunc Try.f43)) (.node none .nil (.node (some (ofFunc Try.f171)) .nil .nil)) (.node (some (ofFunc Try.f107)) .nil .nil))) (.node (some (ofFunc Try.f27)) (.node none (.node none .nil (.node (some (ofFunc Try.f155)) .nil .nil)) (.node (some (ofFunc Try.f91)) .nil (.node (some (ofFunc Try.f219)) .nil .nil))) (.node (some (ofFunc Try.f59)) (.node none .nil (.node (some (ofFunc Try.f187)) .nil .nil)) (.node (some (ofFunc Try.f123)) .nil .nil))))) (.node (some (ofFunc Try.f7)) (.node none (.node none (.node none (.node none .nil (.node (some (ofFunc Try.f135)) .nil .nil)) (.node (some (ofFunc Try.f71)) .nil (.node (some (ofFunc Try.f199)) .nil .nil))) (.node (some (ofFunc Try.f39)) (.node none .nil (.node (some (ofFunc Try.f167)) .nil .nil)) (.node (some (ofFunc Try.f103)) .nil (.node (some (ofFunc Try.f231)) .nil .nil)))) (.node (some (ofFunc Try.f23)) (.node none (.node none .nil (.node (some (ofFunc Try.f151)) .nil .nil)) (.node (some (ofFunc Try.f87)) .nil (.node (some (ofFunc Try.f215)) .nil .nil))) (.node (some (ofFunc Try.f55)) (.node none .nil (.node (some (ofFunc Try.f183)) .nil .nil)) (.node (some (ofFunc Try.f119)) .nil .nil)))) (.node (some (ofFunc Try.f15)) (.node none (.node none (.node none .nil (.node (some (ofFunc Try.f143)) .nil .nil)) (.node (some (ofFunc Try.f79)) .nil (.node (some (ofFunc Try.f207)) .nil .nil))) (.node (some (ofFunc Try.f47)) (.node none .nil (.node (some (ofFunc Try.f175)) .nil .nil)) (.node (some (ofFunc Try.f111)) .nil .nil))) (.node (some (ofFunc Try.f31)) (.node none (.node none .nil (.node (some (ofFunc Try.f159)) .nil .nil)) (.node (some (ofFunc Try.f95)) .nil (.node (some (ofFunc Try.f223)) .nil .nil))) (.node (some (ofFunc Try.f63)) (.node none .nil (.node (some (ofFunc Try.f191)) .nil .nil)) (.node (some (ofFunc Try.f127)) .nil .nil))))))))
theorem ftOk : FTok Try.prog ft := (show ft228 = ft by kernel_rfl) ▸ ft228Ok
end Go.Proofs.Ytonbfalbfdkieaa.Ev
namespace Go.Proofs.Ytonbfalbfdkieaa.Ev
open Go.Proofs
noncomputable def dr4 := drD Try.prog ft 16 4
noncomputable def sub4 : Sub := exSub (fun f => exStep Try.prog ft f (drD Try.prog ft 16 3)) ft 16
theorem mix : Try.prog.follows .mixedOrders = true := by kernel_rfl
theorem dr4Ok : DrOk Try.prog dr4 := drD_ok mix ftOk 16 4
theorem sub4Ok : LoudOk Try.prog sub4 := loudOk ftOk (fun fid cs w0 γ s m hM => exStep_ok ftOk (drD_ok mix ftOk 16 3) hM) 16
theorem bc_t {α : Type} (x y : α) : bc true x y = x := rfl
theorem bc_f {α : Type} (x y : α) : bc false x y = y := rfl
theorem nn_ok (b : Bool) : bc b true (bc b false true) = true := by cases b <;> rfl
theorem dt {p : Prop} [Decidable p] (h : p) : decide p = true := decide_eq_true h
theorem df {p : Prop} [Decidable p] (h : ¬ p) : decide p = false := decide_eq_false h
theorem bltD {a b : Nat} (h : a < b) : Nat.blt a b = true := by unfold Nat.blt; exact Nat.ble_eq_true_of_le h
theorem bltN {a b : Nat} (h : ¬ a < b) : Nat.blt a b = false := by
  cases e : Nat.blt a b with
  | false => rfl
  | true => exact absurd (blt_lt e) h
theorem ble_of {a b : Nat} (h : a ≤ b) : Nat.ble a b = true := Nat.ble_eq_true_of_le h
theorem bleN {a b : Nat} (h : ¬ a ≤ b) : Nat.ble a b = false := by
  cases e : Nat.ble a b with
  | false => rfl
  | true => exact absurd (Nat.le_of_ble_eq_true e) h
theorem beqD {a b : Nat} (h : a = b) : Nat.beq a b = true := by subst h; exact Nat.beq_refl a
theorem ofn (n : Nat) : Int.ofNat n = (n : Int) := rfl
theorem to_nat (i : Nat) : Int.toNat (i : Int) = i := Int.toNat_natCast i
theorem wrap_in (x : Int) (h1 : -4611686018427387904 ≤ x) (h2 : x < 4611686018427387904) : IntKind.i64.wrap x = x := IntWalk.i64_in _ (by omega)
theorem getD_at {α : Type} {l : List α} {d : α} {i : Nat} (h : i < l.length) : l.getD i d = l[i] := by rw [List.getD_eq_getElem?_getD, List.getElem?_eq_getElem h]; rfl

noncomputable def ent (f : FuncId) (args : List EV) : EF := Option.rec ⟨f, 0, .nil, [], [], none, false⟩ (fun e => e) (exEnter ft f args)
noncomputable def st0 (f : FuncId) (args : List EV) : ES := ⟨ent f args, [], .nil, 0⟩

noncomputable abbrev iv (n : Int) : EV := .v (.int .i64 n)
noncomputable abbrev bv (b : Bool) : EV := .v (.bool b)
noncomputable abbrev il (l : List Int) : EV := .lst (.ints .i64 l)

noncomputable def RZs (f : FuncId) (ct : Tr ZCC) (ps : PLs) (lk : List Nat) (own : Bool) (s : ES) : ZF := runZ (stepZ Try.prog ft f dr4 sub4 ct) (atPs ps) (endP lk ps own) 600 s

noncomputable abbrev RZ (f : FuncId) (ct : Tr ZCC) (p : ES → Bool) (lk : List Nat) (ls : List SZ) (own : Bool) (s : ES) : ZF := RZs f ct [(p, ls)] lk own s
theorem leadsZ {f : FuncId} {ct : Tr ZCC} (hct : ZCtsOk Try.prog ct) {ps : PLs} {lk : List Nat} {own : Bool} {s : ES} {r : NS} (h : RZs f ct ps lk own s = .at r) : LeadsZ Try.prog s (stOf r) :=
  leadsF (f := f) mix ftOk dr4Ok sub4Ok hct endP_ok h
theorem callsZ {γ : G} {w : World} {f : FuncId} {ct : Tr ZCC} (hct : ZCtsOk Try.prog ct) {ps : PLs} {lk : List Nat} {own : Bool} {s : ES} {args : List EV} {us : Array Value} {a : EV} {K : List (Nat × EK)} {n' : Nat} (he : (exEnter ft f args).isSome = true) (hargs : ECL γ args us.toList) (hN : ∀ i, γ i = none) (hfz : FzAt γ w)
    (hl : LeadsZ Try.prog (st0 f args) s) (hd : RZs f ct ps lk own s = .done a K n') :
    Calls Try.prog f us w fun e w' => ∃ γ' x, e = .returned x ∧ EC γ' a x ∧ HR γ' (Bs.ofG w γ) (mkT K) n' w' := by
  obtain ⟨e, he⟩ := Option.isSome_iff_exists.1 he
  have : ent f args = e := by unfold ent; rw [he]
  unfold st0 at hl
  rw [this] at hl
  exact callsF mix ftOk dr4Ok sub4Ok hct endP_ok he hargs hN hfz hl hd

def Weak (a a' : EV) : Prop := ∀ γ x, EC γ a x → EC γ a' x
theorem Weak.refl (a : EV) : Weak a a := fun _ _ h => h
theorem Weak.nil (sh : List Sh) : Weak (.v (.slice none 0 0)) (.lst (.recs sh [])) := fun γ x h => by
  rw [ec_v h]
  exact .lst _ _ (.empty _ _ none 0 rfl (Nat.zero_le _) fun _ => rfl)
theorem Weak.nilI (k : IntKind) : Weak (.v (.slice none 0 0)) (.lst (.ints k [])) := fun γ x h => by
  rw [ec_v h]
  exact .lst _ _ (.empty _ _ none 0 rfl (Nat.zero_le _) fun _ => rfl)
inductive WeakL : List EV → List EV → Prop
  | nil : WeakL [] []
  | cons {a b : EV} {l r : List EV} (h : Weak a b) (t : WeakL l r) : WeakL (a :: l) (b :: r)
theorem WeakL.ok {γ : G} : ∀ {l r : List EV} {vs : List Value}, WeakL l r → ECL γ l vs → ECL γ r vs
  | _, _, vs, .nil, h => h
  | _, _, vs, .cons h t, k => by
    obtain ⟨x, ys, rfl, h1, h2⟩ := ECL.inv k
    exact ECL.cons (h _ _ h1) (t.ok h2)
theorem Weak.tup {l r : List EV} (h : WeakL l r) : Weak (.tup l) (.tup r) := fun γ x k => by
  cases k with
  | tup _ vs h1 h2 => have := h.ok (γ := γ) ⟨h1, h2⟩; exact .tup _ vs this.1 this.2
theorem Weak.agg {l r : List EV} (h : WeakL l r) : Weak (.agg l) (.agg r) := fun γ x k => by
  cases k with
  | agg _ vs h1 h2 => have := h.ok (γ := γ) ⟨h1, h2⟩; exact .agg _ vs this.1 this.2
theorem Weak.trans {a b c : EV} (h : Weak a b) (k : Weak b c) : Weak a c := fun γ x e => k γ x (h γ x e)

def EndZ (f : FuncId) (ct : Tr ZCC) (own : Bool) (s : ES) (a : EV) (K : List (Nat × EK)) (n : Nat) : Prop := ∃ ps lk s' a', LeadsZ Try.prog s s' ∧ RZs f ct ps lk own s' = .done a' K n ∧ Weak a' a
theorem EndZ.done {f : FuncId} {ct : Tr ZCC} {own : Bool} {s : ES} {a : EV} {K : List (Nat × EK)} {n : Nat} {ps : PLs} {lk : List Nat} (h : RZs f ct ps lk own s = .done a K n) : EndZ f ct own s a K n := ⟨ps, lk, s, a, LeadsZ.refl s, h, Weak.refl a⟩
theorem EndZ.weak {f : FuncId} {ct : Tr ZCC} {own : Bool} {s : ES} {a b : EV} {K : List (Nat × EK)} {n : Nat} (h : EndZ f ct own s a K n) (k : Weak a b) : EndZ f ct own s b K n := by
  obtain ⟨ps, lk, t, a', h1, h2, h3⟩ := h
  exact ⟨ps, lk, t, a', h1, h2, h3.trans k⟩
theorem EndZ.lead {f : FuncId} {ct : Tr ZCC} {own : Bool} {s s' : ES} {a : EV} {K : List (Nat × EK)} {n : Nat} (h : LeadsZ Try.prog s s') (k : EndZ f ct own s' a K n) : EndZ f ct own s a K n := by
  obtain ⟨ps, lk, t, a', h1, h2, h3⟩ := k
  exact ⟨ps, lk, t, a', h.trans h1, h2, h3⟩
theorem EndZ.at {f : FuncId} {ct : Tr ZCC} (hct : ZCtsOk Try.prog ct) {own own' : Bool} {s : ES} {r : NS} {a : EV} {K : List (Nat × EK)} {n : Nat} {ps : PLs} {lk : List Nat} (h : RZs f ct ps lk own' s = .at r) (k : EndZ f ct own (stOf r) a K n) : EndZ f ct own s a K n := k.lead (leadsZ hct h)
theorem EndZ.calls {γ : G} {w : World} {f : FuncId} {ct : Tr ZCC} {own : Bool} {args : List EV} {a : EV} {K : List (Nat × EK)} {n' : Nat} (h : EndZ f ct own (st0 f args) a K n') (hct : ZCtsOk Try.prog ct) {us : Array Value} (he : (exEnter ft f args).isSome = true) (hargs : ECL γ args us.toList) (hN : ∀ i, γ i = none) (hfz : FzAt γ w) :
    Calls Try.prog f us w fun e w' => ∃ γ' x, e = .returned x ∧ EC γ' a x ∧ HR γ' (Bs.ofG w γ) (mkT K) n' w' := by
  obtain ⟨ps, lk, t, a', h1, h2, h3⟩ := h
  refine (callsZ hct he hargs hN hfz h1 h2).mono fun e w' ⟨γ', x, k1, k2, k3⟩ => ⟨γ', x, k1, h3 γ' x k2, k3⟩

noncomputable def st0m (f : FuncId) (args : List EV) (K0 : List (Nat × EK)) (m : Nat) : ES := ⟨ent f args, [], mkT K0, m⟩

noncomputable def RMs (k : Nat) (f : FuncId) (ct : Tr ZCC) (ps : PLs) (lk : List Nat) (nl : NLs) (s : ES) : ZF := runZ (stepZ Try.prog ft f dr4 sub4 ct) (atPs ps) (endM k lk ps nl) 600 s
theorem leadsMZ {k : Nat} {f : FuncId} {ct : Tr ZCC} (hct : ZCtsOk Try.prog ct) {ps : PLs} {lk : List Nat} {s : ES} {r : NS} {nl : NLs} (h : RMs k f ct ps lk nl s = .at r) : LeadsM Try.prog k s (stOf r) :=
  leadsM (f := f) mix ftOk dr4Ok sub4Ok hct h
def EndM (k : Nat) (f : FuncId) (ct : Tr ZCC) (s : ES) (a : EV) (K : List (Nat × EK)) (n : Nat) : Prop := ∃ ps lk nl s', LeadsM Try.prog k s s' ∧ RMs k f ct ps lk nl s' = .done a K n
theorem EndM.done {k : Nat} {f : FuncId} {ct : Tr ZCC} {s : ES} {a : EV} {K : List (Nat × EK)} {n : Nat} {ps : PLs} {lk : List Nat} {nl : NLs} (h : RMs k f ct ps lk nl s = .done a K n) : EndM k f ct s a K n := ⟨ps, lk, nl, s, LeadsM.refl k s, h⟩
theorem EndM.lead {k : Nat} {f : FuncId} {ct : Tr ZCC} {s s' : ES} {a : EV} {K : List (Nat × EK)} {n : Nat} (h : LeadsM Try.prog k s s') (g : EndM k f ct s' a K n) : EndM k f ct s a K n := by
  obtain ⟨ps, lk, nl, t, h1, h2⟩ := g
  exact ⟨ps, lk, nl, t, h.trans h1, h2⟩
theorem EndM.at {k : Nat} {f : FuncId} {ct : Tr ZCC} (hct : ZCtsOk Try.prog ct) {s : ES} {r : NS} {a : EV} {K : List (Nat × EK)} {n : Nat} {ps : PLs} {lk : List Nat} {nl : NLs} (h : RMs k f ct ps lk nl s = .at r) (g : EndM k f ct (stOf r) a K n) : EndM k f ct s a K n := g.lead (leadsMZ hct h)
theorem EndM.calls {k : Nat} {γ : G} {w0 : Bs} {w : World} {f : FuncId} {ct : Tr ZCC} {args : List EV} {K0 : List (Nat × EK)} {m0 : Nat} {a : EV} {K : List (Nat × EK)} {n' : Nat} (h : EndM k f ct (st0m f args K0 m0) a K n') (hct : ZCtsOk Try.prog ct) {us : Array Value} (he : (exEnter ft f args).isSome = true) (hres : ∀ i, ¬ w0.res i) (hargs : ECL γ args us.toList) (hH : HR γ w0 (mkT K0) m0 w) :
    Calls Try.prog f us w fun e w' => ∃ γ' x, e = .returned x ∧ EC γ' a x ∧ HR γ' w0 (mkT K) n' w' ∧ ∀ j p, j < k → γ j = some p → γ' j = some p := by
  obtain ⟨ps, lk, nl, t, h1, h2⟩ := h
  obtain ⟨e, he⟩ := Option.isSome_iff_exists.1 he
  have : ent f args = e := by unfold ent; rw [he]
  unfold st0m at h1
  rw [this] at h1
  exact callsM mix ftOk dr4Ok sub4Ok hct he hres hargs hH h1 h2
theorem bc_b (b : Bool) : bc b true false = b := by cases b <;> rfl
theorem bc_same {α : Type} (b : Bool) (x : α) : bc b x x = x := by cases b <;> rfl

noncomputable def ZMT.or (a b : ZMT) : ZMT := fun ax K m => match a ax K m with
  | some r => some r
  | none => b ax K m
theorem ZMtOk.or {P : Program} {g : FuncId} {a b : ZMT} (ha : ZMtOk P g a) (hb : ZMtOk P g b) : ZMtOk P g (a.or b) := fun γ w0 w us ax K0 m r hs => by
  unfold ZMT.or at hs
  split at hs
  · rename_i r' hr
    injection hs with hs; subst hs
    exact ha γ w0 w us ax K0 m _ hr
  · exact hb γ w0 w us ax K0 m r hs
noncomputable def ZCT.or (a b : ZCT) : ZCT := fun ax => match a ax with
  | some r => some r
  | none => b ax
theorem ZCtOk.or {P : Program} {g : FuncId} {a b : ZCT} (ha : ZCtOk P g a) (hb : ZCtOk P g b) : ZCtOk P g (a.or b) := fun γ w us ax r hs => by
  unfold ZCT.or at hs
  split at hs
  · rename_i r' hr
    injection hs with hs; subst hs
    exact ha γ w us ax _ hr
  · exact hb γ w us ax r hs
theorem noN {α : Type} {x r : α} {b : Bool} (h : bc b (some x) none = some r) : b = true ∧ x = r := by
  cases b
  · cases h
  · exact ⟨rfl, Option.some.inj h⟩
end Go.Proofs.Ytonbfalbfdkieaa.Ev
namespace Go.Proofs
open Go.Shelf
def Try.lays189_ren : Go.Shelf.Ren := ⟨fun | 189 => 189 | 125 => 209 | 257 => 208 | 128 => 223 | 129 => 224 | 294 => 214 | 295 => 215 | 296 => 216 | 297 => 217 | 298 => 218 | 299 => 219 | 216 => 220 | 300 => 221 | 301 => 222 | 328 => 225 | 329 => 226 | 330 => 227 | 331 => 228 | 332 => 229 | 215 => 230 | 343 => 231 | n => n, fun | 28 => 34 | 3 => 3 | 46 => 201 | 0 => 0 | 51 => 230 | 53 => 233 | 4 => 4 | 183 => 244 | 182 => 243 | 131 => 247 | 5 => 5 | 9 => 9 | 218 => 251 | 222 => 255 | 228 => 257 | 229 => 154 | n => n, fun | n => n⟩
theorem Try.lays189 : Go.Proofs.Lays.n189 Try.prog Try.lays189_ren := {
  mixed := by kernel_rfl
  f125 := Try.func209.trans (congrArg some (by kernel_rfl))
  f128 := Try.func223.trans (congrArg some (by kernel_rfl))
  f129 := Try.func224.trans (congrArg some (by kernel_rfl))
  f189 := Try.func189.trans (congrArg some (by kernel_rfl))
  f215 := Try.func230.trans (congrArg some (by kernel_rfl))
  f216 := Try.func220.trans (congrArg some (by kernel_rfl))
  f257 := Try.func208.trans (congrArg some (by kernel_rfl))
  f294 := Try.func214.trans (congrArg some (by kernel_rfl))
  f295 := Try.func215.trans (congrArg some (by kernel_rfl))
  f296 := Try.func216.trans (congrArg some (by kernel_rfl))
  f297 := Try.func217.trans (congrArg some (by kernel_rfl))
  f298 := Try.func218.trans (congrArg some (by kernel_rfl))
  f299 := Try.func219.trans (congrArg some (by kernel_rfl))
  f300 := Try.func221.trans (congrArg some (by kernel_rfl))
  f301 := Try.func222.trans (congrArg some (by kernel_rfl))
  f328 := Try.func225.trans (congrArg some (by kernel_rfl))
  f329 := Try.func226.trans (congrArg some (by kernel_rfl))
  f330 := Try.func227.trans (congrArg some (by kernel_rfl))
  f331 := Try.func228.trans (congrArg some (by kernel_rfl))
  f332 := Try.func229.trans (congrArg some (by kernel_rfl))
  f343 := Try.func231.trans (congrArg some (by kernel_rfl))
  t0 := Try.underlying0
  a0 := Try.isAgg0
  z0 := Try.sizeOf0
  v0 := Try.zeroValue0
  t3 := Try.underlying3
  a3 := Try.isAgg3
  z3 := Try.sizeOf3
  v3 := Try.zeroValue3
  t4 := Try.underlying4
  a4 := Try.isAgg4
  z4 := Try.sizeOf4
  v4 := Try.zeroValue4
  t5 := Try.underlying5
  a5 := Try.isAgg5
  z5 := Try.sizeOf5
  v5 := Try.zeroValue5
  t9 := Try.underlying9
  a9 := Try.isAgg9
  z9 := Try.sizeOf9
  v9 := Try.zeroValue9
  t28 := Try.underlying34
  a28 := Try.isAgg34
  z28 := Try.sizeOf34
  v28 := Try.zeroValue34
  t46 := Try.underlying201
  a46 := Try.isAgg201
  z46 := Try.sizeOf201
  v46 := Try.zeroValue201
  t51 := Try.underlying230
  a51 := Try.isAgg230
  z51 := Try.sizeOf230
  v51 := Try.zeroValue230
  t53 := Try.underlying233
  a53 := Try.isAgg233
  z53 := Try.sizeOf233
  v53 := Try.zeroValue233
  t131 := Try.underlying247
  a131 := Try.isAgg247
  z131 := Try.sizeOf247
  v131 := Try.zeroValue247
  t182 := Try.underlying243
  a182 := Try.isAgg243
  z182 := Try.sizeOf243
  v182 := Try.zeroValue243
  t183 := Try.underlying244
  a183 := Try.isAgg244
  z183 := Try.sizeOf244
  v183 := Try.zeroValue244
  t218 := Try.underlying251
  a218 := Try.isAgg251
  z218 := Try.sizeOf251
  v218 := Try.zeroValue251
  t222 := Try.underlying255
  a222 := Try.isAgg255
  z222 := Try.sizeOf255
  v222 := Try.zeroValue255
  t228 := Try.underlying257
  a228 := Try.isAgg257
  z228 := Try.sizeOf257
  v228 := Try.zeroValue257
  t229 := Try.underlying154
  a229 := Try.isAgg154
  z229 := Try.sizeOf154
  v229 := Try.zeroValue154 }
open Go.Sort Go.RowKit in
theorem Try.slices_Sort_int (blk off cap : Nat) (zs : List Int) (w : World) (hH : Holds (Value.int .i64) w blk off zs.toArray) (hblk : blk < w.heap.size) (hsz : zs.length < 4611686018427387904) :
    Calls Try.prog 189 #[.slice (some ⟨blk, off, none⟩) zs.length cap] w fun e w' =>
      e = .returned (.tuple #[]) ∧ ∃ n os, w' = grow (putRow (Value.int .i64) (Sort.ahead w n) blk off (zs.mergeSort fun x y => decide (x ≤ y)).toArray) os := Any.slices_Sort_int Try.lays189 blk off cap zs w hH hblk hsz
def Try.lays212_ren : Go.Shelf.Ren := ⟨fun | 212 => 177 | 263 => 202 | 264 => 203 | n => n, fun | 46 => 201 | 51 => 230 | 146 => 231 | 53 => 233 | 148 => 234 | n => n, fun | n => n⟩
theorem Try.lays212 : Go.Proofs.Lays.n212 Try.prog Try.lays212_ren := {
  mixed := by kernel_rfl
  f212 := Try.func177.trans (congrArg some (by kernel_rfl))
  f263 := Try.func202.trans (congrArg some (by kernel_rfl))
  f264 := Try.func203.trans (congrArg some (by kernel_rfl))
  t46 := Try.underlying201
  a46 := Try.isAgg201
  z46 := Try.sizeOf201
  v46 := Try.zeroValue201
  t51 := Try.underlying230
  a51 := Try.isAgg230
  z51 := Try.sizeOf230
  v51 := Try.zeroValue230
  t53 := Try.underlying233
  a53 := Try.isAgg233
  z53 := Try.sizeOf233
  v53 := Try.zeroValue233
  t146 := Try.underlying231
  a146 := Try.isAgg231
  z146 := Try.sizeOf231
  v146 := Try.zeroValue231
  t148 := Try.underlying234
  a148 := Try.isAgg234
  z148 := Try.sizeOf234
  v148 := Try.zeroValue234 }
open Go.RowKit Go.Lib in
theorem Try.bits_Mul (x y : Nat) (hx : x < 18446744073709551616) (hy : y < 18446744073709551616) (w : World) :
    Calls Try.prog 177 #[.int .u64 x, .int .u64 y] w fun e w' => e = .returned (.tuple #[.int .u64 ((x * y / 18446744073709551616 : Nat) : Int), .int .u64 ((x * y % 18446744073709551616 : Nat) : Int)]) ∧ w' = w := Any.bits_Mul Try.lays212 x y hx hy w
open Go.RowKit Go.Sort in
theorem Try.slices_Sort_int_none (p : Option Addr) (cap : Nat) (w : World) :
    Calls Try.prog 189 #[.slice p 0 cap] w fun e w' => e = .returned (.tuple #[]) ∧ w' = w := Any.slices_Sort_int_none Try.lays189 p cap w
end Go.Proofs
namespace Go.Proofs.Ytonbfalbfdkieaa.Ev
open Go.RowKit
variable {P : Program} {γ γ' : G} {w0 : Bs} {w w' : World} {H H' : Tr EK} {n n' : Nat}


theorem HR.below (h : HR γ w0 H n w) (b : Below w.heap.size w w') : HR γ w0 H n w' := by
  refine ⟨fun i k hk => ?_, h.inj0, h.fresh, h.rsv, fun i p e => Nat.lt_of_lt_of_le (h.lt i p e) b.size, ?_, h.fzq rfl (fun k hk _ => b.block k hk) (fun i ki b m hi ni ei => .inr ⟨i, ki, b, m, hi, ni, ei, rfl⟩) fun _ _ hk _ => hk⟩
  · refine (h.hp0 i k hk).imp id fun ⟨c, m, h1, h2, h3⟩ => ?_
    exact ⟨c, m, h1, h2, EK.ok_mono (GLe.refl γ) (b.block c.k (h.lt i _ h1)) h3⟩
  · refine ⟨b.os.trans h.stays.os, b.tape.trans h.stays.tape, b.output.trans h.stays.output, Nat.le_trans h.stays.size b.size, fun k hk => ?_⟩
    have h1 := w0.lt k hk
    have h2 := h.stays.size
    exact (b.block k (by omega)).trans (h.stays.block k hk)
end Go.Proofs.Ytonbfalbfdkieaa.Ev
namespace Go.Proofs.Ytonbfalbfdkieaa.Ev


noncomputable def swp (p : List Int) (k : Nat) : List Int := (p.set k (p.getD (k + 1) 0)).set (k + 1) (p.getD k 0)
theorem swp_len (p : List Int) (k : Nat) : (swp p k).length = p.length := by unfold swp; simp
theorem gset {l : List Int} {i j : Nat} {v : Int} : (l.set i v).getD j 0 = if j = i ∧ i < l.length then v else l.getD j 0 := by
  rw [List.getD_eq_getElem?_getD, List.getD_eq_getElem?_getD, List.getElem?_set]
  by_cases h : i = j
  · subst h
    by_cases h2 : i < l.length
    · simp [h2]
    · simp [h2]
  · rw [if_neg h, if_neg (fun e => h e.1.symm)]
theorem swp_get {p : List Int} {k j : Nat} (h : k + 1 < p.length) : (swp p k).getD j 0 = if j = k + 1 then p.getD k 0 else if j = k then p.getD (k + 1) 0 else p.getD j 0 := by
  unfold swp
  rw [gset, gset]
  have e : (p.set k (p.getD (k + 1) 0)).length = p.length := by simp
  rw [e]
  by_cases h1 : j = k + 1
  · rw [if_pos ⟨h1, h⟩, if_pos h1]
  · rw [if_neg (fun e => h1 e.1), if_neg h1]
    by_cases h2 : j = k
    · rw [if_pos ⟨h2, by omega⟩, if_pos h2]
    · rw [if_neg (fun e => h2 e.1), if_neg h2]

noncomputable def lwG : Nat → List Int → Nat → List Int
  | 0, _, _ => []
  | f + 1, p, k => if k + 1 < p.length then (if p.getD (k + 1) 0 < p.getD k 0 then ((k + 1 : Nat) : Int) :: lwG f (swp p k) 0 else lwG f p (k + 1)) else []

noncomputable def wsF : Nat → List Int → Int
  | _, [] => 0
  | k, x :: q => (k : Int) * x + wsF (k + 1) q
theorem wsF_set : ∀ (p : List Int) (k j : Nat) (v : Int), j < p.length → wsF k (p.set j v) = wsF k p + ((k + j : Nat) : Int) * v - ((k + j : Nat) : Int) * p.getD j 0
  | [], _, _, _, h => by simp at h
  | x :: q, k, 0, v, _ => by
    show (k : Int) * v + wsF (k + 1) q = (k : Int) * x + wsF (k + 1) q + ((k + 0 : Nat) : Int) * v - ((k + 0 : Nat) : Int) * x
    rw [show ((k + 0 : Nat) : Int) = (k : Int) from rfl]; omega
  | x :: q, k, j + 1, v, h => by
    have := wsF_set q (k + 1) j v (by simp at h; omega)
    show (k : Int) * x + wsF (k + 1) (q.set j v) = (k : Int) * x + wsF (k + 1) q + ((k + (j + 1) : Nat) : Int) * v - ((k + (j + 1) : Nat) : Int) * q.getD j 0
    rw [this, show k + 1 + j = k + (j + 1) by omega]
    omega
theorem wsF_swp {p : List Int} {k : Nat} (h : k + 1 < p.length) : wsF 0 (swp p k) = wsF 0 p + p.getD k 0 - p.getD (k + 1) 0 := by
  have h1 := wsF_set (p.set k (p.getD (k + 1) 0)) 0 (k + 1) (p.getD k 0) (by simp; omega)
  have h2 := wsF_set p 0 k (p.getD (k + 1) 0) (by omega)
  unfold swp
  rw [h1, h2, gset, if_neg (fun e => absurd e.1 (by omega))]
  rw [Nat.zero_add, Nat.zero_add]
  have e : ((k + 1 : Nat) : Int) = (k : Int) + 1 := by omega
  rw [e, Int.add_mul, Int.add_mul]
  omega

def InR (p : List Int) : Prop := p.length ≤ 12 ∧ ∀ x, x ∈ p → 0 ≤ x ∧ x < 12
theorem getD_mem' {p : List Int} {j : Nat} (h : j < p.length) : p.getD j 0 ∈ p := by
  rw [List.getD_eq_getElem?_getD, List.getElem?_eq_getElem h]; exact List.getElem_mem h
theorem InR.swp {p : List Int} {k : Nat} (h : InR p) (hk : k + 1 < p.length) : InR (swp p k) := ⟨by rw [swp_len]; exact h.1, fun x hx => by
  unfold Ev.swp at hx
  rcases List.mem_or_eq_of_mem_set hx with h1 | rfl
  · rcases List.mem_or_eq_of_mem_set h1 with h2 | rfl
    · exact h.2 x h2
    · exact h.2 _ (getD_mem' hk)
  · exact h.2 _ (getD_mem' (by omega))⟩
theorem wsF_le : ∀ (p : List Int) (k : Nat), k + p.length ≤ 12 → (∀ x, x ∈ p → 0 ≤ x ∧ x < 12) → wsF k p ≤ 144 * (p.length : Int)
  | [], _, _, _ => by show (0 : Int) ≤ 144 * ((0 : Nat) : Int); omega
  | x :: q, k, h, hx => by
    have h1 := wsF_le q (k + 1) (by simp at h; omega) (fun y hy => hx y (List.mem_cons_of_mem _ hy))
    have h2 := hx x List.mem_cons_self
    have h3 : (k : Int) * x ≤ 12 * 12 := Int.mul_le_mul (by simp at h; omega) (by omega) h2.1 (by omega)
    show (k : Int) * x + wsF (k + 1) q ≤ 144 * ((q.length + 1 : Nat) : Int)
    omega
theorem InR.ws {p : List Int} (h : InR p) : wsF 0 p ≤ 1728 := by
  have := wsF_le p 0 (by have := h.1; omega) h.2
  have := h.1
  omega

noncomputable def msr (p : List Int) (k : Nat) : Nat := (1728 - wsF 0 p).toNat * 13 + (12 - k)
theorem msr_swp {p : List Int} {k k' : Nat} (h : InR p) (hk : k + 1 < p.length) (hd : p.getD (k + 1) 0 < p.getD k 0) : msr (swp p k) k' < msr p k := by
  have h1 := wsF_swp hk
  have h2 := (h.swp hk).ws
  have h3 := h.1
  unfold msr
  omega
theorem msr_next {p : List Int} {k : Nat} (h : InR p) (hk : k + 1 < p.length) : msr p (k + 1) < msr p k := by
  have h3 := h.1
  unfold msr
  omega
theorem lwG_enough : ∀ (f g : Nat) (p : List Int) (k : Nat), InR p → msr p k ≤ f → msr p k ≤ g → lwG (f + 1) p k = lwG (g + 1) p k
  | f, g, p, k, h, hf, hg => by
    unfold lwG
    by_cases h1 : k + 1 < p.length
    · rw [if_pos h1, if_pos h1]
      by_cases h2 : p.getD (k + 1) 0 < p.getD k 0
      · rw [if_pos h2, if_pos h2]
        have := msr_swp (k' := 0) h h1 h2
        obtain ⟨f, rfl⟩ : ∃ f', f = f' + 1 := ⟨f - 1, by omega⟩
        obtain ⟨g, rfl⟩ : ∃ g', g = g' + 1 := ⟨g - 1, by omega⟩
        rw [lwG_enough f g (swp p k) 0 (h.swp h1) (by omega) (by omega)]
      · rw [if_neg h2, if_neg h2]
        have := msr_next h h1
        obtain ⟨f, rfl⟩ : ∃ f', f = f' + 1 := ⟨f - 1, by omega⟩
        obtain ⟨g, rfl⟩ : ∃ g', g = g' + 1 := ⟨g - 1, by omega⟩
        exact lwG_enough f g p (k + 1) h (by omega) (by omega)
    · rw [if_neg h1, if_neg h1]

noncomputable def lwo (p : List Int) : List Int := lwG (msr p 0 + 1) p 0
theorem lwo_fuel {p : List Int} {f : Nat} (h : InR p) (hf : msr p 0 ≤ f) : lwG (f + 1) p 0 = lwo p := lwG_enough f _ p 0 h hf (Nat.le_refl _)
theorem lwG_len : ∀ (f : Nat) (p : List Int) (k : Nat), InR p → (lwG f p k).length ≤ (1728 - wsF 0 p).toNat
  | 0, p, k, h => by show 0 ≤ _; omega
  | f + 1, p, k, h => by
    unfold lwG
    by_cases h1 : k + 1 < p.length
    · rw [if_pos h1]
      by_cases h2 : p.getD (k + 1) 0 < p.getD k 0
      · rw [if_pos h2]
        have := lwG_len f (swp p k) 0 (h.swp h1)
        have h3 := wsF_swp h1
        have h4 := (h.swp h1).ws
        rw [List.length_cons]
        omega
      · rw [if_neg h2]; exact lwG_len f p (k + 1) h
    · rw [if_neg h1]; show 0 ≤ _; omega
theorem wsF_nn : ∀ (p : List Int) (k : Nat), (∀ x, x ∈ p → 0 ≤ x ∧ x < 12) → 0 ≤ wsF k p
  | [], _, _ => Int.le_refl _
  | x :: q, k, hx => by
    have h1 := wsF_nn q (k + 1) (fun y hy => hx y (List.mem_cons_of_mem _ hy))
    have h2 := hx x List.mem_cons_self
    have h3 : 0 ≤ (k : Int) * x := Int.mul_nonneg (by omega) h2.1
    show 0 ≤ (k : Int) * x + wsF (k + 1) q
    omega
theorem lwo_len {p : List Int} (h : InR p) : (lwo p).length ≤ 1728 := by
  have := lwG_len (msr p 0 + 1) p 0 h
  have := wsF_nn p 0 h.2
  unfold lwo
  omega
theorem lwG_mem : ∀ (f : Nat) (p : List Int) (k : Nat), InR p → ∀ x, x ∈ lwG f p k → 1 ≤ x ∧ x ≤ 12
  | 0, p, k, h, x, hx => by cases hx
  | f + 1, p, k, h, x, hx => by
    unfold lwG at hx
    by_cases h1 : k + 1 < p.length
    · rw [if_pos h1] at hx
      by_cases h2 : p.getD (k + 1) 0 < p.getD k 0
      · rw [if_pos h2] at hx
        rcases List.mem_cons.1 hx with rfl | hx
        · have := h.1; omega
        · exact lwG_mem f (swp p k) 0 (h.swp h1) x hx
      · rw [if_neg h2] at hx; exact lwG_mem f p (k + 1) h x hx
    · rw [if_neg h1] at hx; cases hx
theorem lwo_mem {p : List Int} (h : InR p) {x : Int} (hx : x ∈ lwo p) : 1 ≤ x ∧ x ≤ 12 := lwG_mem _ p 0 h x hx

def Dis (p : List Int) : Prop := ∀ a b, a < p.length → b < p.length → p.getD a 0 = p.getD b 0 → a = b
theorem Dis.swp {p : List Int} {k : Nat} (h : Dis p) (hk : k + 1 < p.length) : Dis (swp p k) := fun a b ha hb e => by
  rw [swp_len] at ha hb
  rw [swp_get hk, swp_get hk] at e
  have h1 := h (if a = k + 1 then k else if a = k then k + 1 else a) (if b = k + 1 then k else if b = k then k + 1 else b) (by split <;> (try split) <;> omega) (by split <;> (try split) <;> omega) (by
    revert e
    by_cases a1 : a = k + 1 <;> by_cases a2 : a = k <;> by_cases b1 : b = k + 1 <;> by_cases b2 : b = k <;> simp [a1, a2, b1, b2] <;> omega)
  split at h1 <;> (try split at h1) <;> (try split at h1) <;> (try split at h1) <;> omega

def Asc (p : List Int) (k : Nat) : Prop := ∀ j, j < k → j + 1 < p.length → ¬ p.getD (j + 1) 0 < p.getD j 0

theorem lwG_skip : ∀ (d : Nat) (p : List Int) (k f : Nat), InR p → Asc p (k + d) → (k + d = 0 ∨ k + d < p.length) → msr p k ≤ f → lwG (f + 1) p k = lwG (f + 1) p (k + d)
  | 0, p, k, f, _, _, _, _ => rfl
  | d + 1, p, k, f, h, ha, hl, hf => by
    have h1 : k + 1 < p.length := by omega
    have h2 := ha k (by omega) h1
    have h3 := msr_next h h1
    obtain ⟨f, rfl⟩ : ∃ f', f = f' + 1 := ⟨f - 1, by omega⟩
    have h4 := lwG_skip d p (k + 1) f h (by rw [show k + 1 + d = k + (d + 1) by omega]; exact ha) (by omega) (by omega)
    rw [show k + 1 + d = k + (d + 1) by omega] at h4
    have h5 : lwG (f + 1 + 1) p k = lwG (f + 1) p (k + 1) := by
      rw [lwG]
      rw [if_pos h1, if_neg h2]
    rw [h5, h4]
    have : msr p (k + (d + 1)) ≤ f := by
      have : msr p (k + (d + 1)) ≤ msr p (k + 1) := by unfold msr; omega
      omega
    exact lwG_enough f (f + 1) p (k + (d + 1)) h this (by omega)
theorem lwo_desc {p : List Int} {k : Nat} (h : InR p) (ha : Asc p k) (h1 : k + 1 < p.length) (h2 : p.getD (k + 1) 0 < p.getD k 0) : lwo p = ((k + 1 : Nat) : Int) :: lwo (swp p k) := by
  have h3 := lwG_skip k p 0 (msr p 0) h (by rw [Nat.zero_add]; exact ha) (by omega) (Nat.le_refl _)
  rw [Nat.zero_add] at h3
  unfold lwo
  rw [h3, lwG, if_pos h1, if_pos h2]
  have h4 := msr_swp (k' := 0) h h1 h2
  have h5 : msr p k ≤ msr p 0 := by unfold msr; omega
  obtain ⟨m, hm⟩ : ∃ m, msr p 0 = m + 1 := ⟨msr p 0 - 1, by omega⟩
  rw [hm]
  rw [lwo_fuel (h.swp h1) (by omega)]
  rfl
theorem lwo_asc {p : List Int} {k : Nat} (h : InR p) (ha : Asc p k) (hk : k = 0 ∨ k < p.length) (h1 : p.length ≤ k + 1) : lwo p = [] := by
  have h3 := lwG_skip k p 0 (msr p 0) h (by rw [Nat.zero_add]; exact ha) (by omega) (Nat.le_refl _)
  rw [Nat.zero_add] at h3
  unfold lwo
  rw [h3, lwG, if_neg (by omega)]
theorem Asc.next {p : List Int} {k : Nat} (ha : Asc p k) (h : ¬ p.getD (k + 1) 0 < p.getD k 0) : Asc p (k + 1) := fun j hj hl => by
  by_cases e : j = k
  · subst e; exact h
  · exact ha j (by omega) hl
theorem Asc.swp {p : List Int} {k : Nat} (ha : Asc p k) (h1 : k + 1 < p.length) : Asc (swp p k) (k - 1) := fun j hj hl => by
  rw [swp_get h1, swp_get h1, if_neg (by omega), if_neg (by omega), if_neg (by omega), if_neg (by omega)]
  rw [swp_len] at hl
  exact ha j (by omega) hl
theorem Asc.zero (p : List Int) : Asc p 0 := fun j hj _ => by omega


noncomputable def prF (n : Nat) : List Bool → List Int → Bool
  | _, [] => true
  | seen, x :: q => if x < 0 then false else if (n : Int) ≤ x then false else if seen.getD x.toNat false = true then false else prF n (seen.set x.toNat true) q
theorem gsetB {l : List Bool} {i j : Nat} {v : Bool} : (l.set i v).getD j false = if j = i ∧ i < l.length then v else l.getD j false := by
  rw [List.getD_eq_getElem?_getD, List.getD_eq_getElem?_getD, List.getElem?_set]
  by_cases h : i = j
  · subst h
    by_cases h2 : i < l.length
    · simp [h2]
    · simp [h2]
  · rw [if_neg h, if_neg (fun e => h e.1.symm)]
theorem prF_iff (n : Nat) : ∀ (q : List Int) (seen : List Bool), seen.length = n → (prF n seen q = true ↔ q.Nodup ∧ ∀ x, x ∈ q → 0 ≤ x ∧ x < n ∧ seen.getD x.toNat false = false)
  | [], seen, _ => by simp [prF]
  | x :: q, seen, hs => by
    unfold prF
    by_cases h1 : x < 0
    · rw [if_pos h1]
      exact ⟨fun h => (by cases h), fun h => (by have := h.2 x List.mem_cons_self; omega)⟩
    rw [if_neg h1]
    by_cases h2 : (n : Int) ≤ x
    · rw [if_pos h2]
      exact ⟨fun h => (by cases h), fun h => (by have := h.2 x List.mem_cons_self; omega)⟩
    rw [if_neg h2]
    by_cases h3 : seen.getD x.toNat false = true
    · rw [if_pos h3]
      exact ⟨fun h => (by cases h), fun h => (by have := (h.2 x List.mem_cons_self).2.2; rw [h3] at this; cases this)⟩
    rw [if_neg h3]
    have h3 : seen.getD x.toNat false = false := by simpa using h3
    rw [prF_iff n q (seen.set x.toNat true) (by simpa using hs)]
    rw [List.nodup_cons]
    constructor
    · rintro ⟨k1, k2⟩
      refine ⟨⟨fun hx => ?_, k1⟩, fun y hy => ?_⟩
      · have := (k2 x hx).2.2
        rw [gsetB, if_pos ⟨rfl, by omega⟩] at this
        cases this
      · rcases List.mem_cons.1 hy with rfl | hy
        · exact ⟨by omega, by omega, h3⟩
        · obtain ⟨a1, a2, a3⟩ := k2 y hy
          refine ⟨a1, a2, ?_⟩
          rw [gsetB] at a3
          split at a3
          · cases a3
          · exact a3
    · rintro ⟨⟨k1, k2⟩, k3⟩
      refine ⟨k2, fun y hy => ?_⟩
      obtain ⟨a1, a2, a3⟩ := k3 y (List.mem_cons_of_mem _ hy)
      refine ⟨a1, a2, ?_⟩
      rw [gsetB, if_neg (fun e => ?_)]
      · exact a3
      · have h4 := k3 x List.mem_cons_self
        have : y = x := by omega
        exact k1 (this ▸ hy)

noncomputable def srt (p : List Int) : List Int := p.mergeSort (fun x y => decide (x ≤ y))
noncomputable def plF : Nat → List Int → Bool
  | _, [] => true
  | i, x :: q => if (i : Int) ≠ x then false else plF (i + 1) q
theorem plF_iff : ∀ (q : List Int) (i : Nat), plF i q = true ↔ ∀ j, j < q.length → q.getD j 0 = ((i + j : Nat) : Int)
  | [], i => by simp [plF]
  | x :: q, i => by
    unfold plF
    by_cases h : (i : Int) ≠ x
    · rw [if_pos h]
      exact ⟨fun e => (by cases e), fun e => absurd (e 0 (by simp)) (fun e2 => h e2.symm)⟩
    rw [if_neg h, plF_iff q (i + 1)]
    constructor
    · intro k j hj
      cases j with
      | zero => show x = _; omega
      | succ j =>
        have := k j (by simp at hj; omega)
        show q.getD j 0 = _
        rw [this]; omega
    · intro k j hj
      have := k (j + 1) (by simp; omega)
      rw [show (x :: q).getD (j + 1) 0 = q.getD j 0 from rfl] at this
      rw [this]; omega
theorem srt_perm (p : List Int) : (srt p).Perm p := List.mergeSort_perm p _
theorem srt_pair (p : List Int) : (srt p).Pairwise (fun x y => x ≤ y) := by
  have := List.pairwise_mergeSort (le := fun x y : Int => decide (x ≤ y)) (fun a b c h1 h2 => by
    have h1 := of_decide_eq_true h1; have h2 := of_decide_eq_true h2; exact decide_eq_true (Int.le_trans h1 h2)) (fun a b => by
    rcases Int.le_total a b with h | h
    · simp [h]
    · simp [h]) p
  exact this.imp fun h => of_decide_eq_true h

theorem lt_lo : ∀ (q : List Int) (b : Int), q.Pairwise (fun x y => x < y) → (∀ x, x ∈ q → b ≤ x) → ∀ j, j < q.length → b + (j : Int) ≤ q.getD j 0
  | [], _, _, _, j, h => by simp at h
  | x :: q, b, hp, hb, 0, h => by have := hb x List.mem_cons_self; show b + ((0 : Nat) : Int) ≤ x; omega
  | x :: q, b, hp, hb, j + 1, h => by
    obtain ⟨h1, h2⟩ := List.pairwise_cons.1 hp
    have h0 := hb x List.mem_cons_self
    have := lt_lo q (b + 1) h2 (fun y hy => by have := h1 y hy; omega) j (by simp at h; omega)
    show b + ((j + 1 : Nat) : Int) ≤ q.getD j 0
    omega
theorem lt_hi : ∀ (q : List Int) (b : Int), q.Pairwise (fun x y => x < y) → (∀ x, x ∈ q → x < b) → ∀ j, j < q.length → q.getD j 0 ≤ b - ((q.length - j : Nat) : Int)
  | [], _, _, _, j, h => by simp at h
  | x :: q, b, hp, hb, 0, h => by
    obtain ⟨h1, h2⟩ := List.pairwise_cons.1 hp
    have h0 := hb x List.mem_cons_self
    show x ≤ b - ((q.length + 1 - 0 : Nat) : Int)
    by_cases e : 0 < q.length
    · have h3 := lt_hi q b h2 (fun y hy => hb y (List.mem_cons_of_mem _ hy)) 0 e
      have h4 := h1 (q.getD 0 0) (getD_mem' e)
      omega
    · omega
  | x :: q, b, hp, hb, j + 1, h => by
    obtain ⟨h1, h2⟩ := List.pairwise_cons.1 hp
    have h3 := lt_hi q b h2 (fun y hy => hb y (List.mem_cons_of_mem _ hy)) j (by simp at h; omega)
    show q.getD j 0 ≤ b - ((q.length + 1 - (j + 1) : Nat) : Int)
    rw [show q.length + 1 - (j + 1) = q.length - j by omega]
    exact h3

theorem perm_same (p : List Int) (n : Nat) (hl : p.length = n) : plF 0 (srt p) = prF n (List.replicate n false) p := by
  apply Bool.eq_iff_iff.2
  rw [plF_iff, prF_iff n p _ (by simp)]
  have hperm := srt_perm p
  have hlen : (srt p).length = n := by rw [hperm.length_eq, hl]
  have hrep : ∀ j : Nat, (List.replicate n false).getD j false = false := fun j => by
    rw [List.getD_eq_getElem?_getD, List.getElem?_replicate]
    split <;> rfl
  constructor
  · intro h
    have hmem : ∀ x, x ∈ srt p → 0 ≤ x ∧ x < n := fun x hx => by
      obtain ⟨j, hj, rfl⟩ := List.mem_iff_getElem.1 hx
      have := h j hj
      rw [List.getD_eq_getElem?_getD, List.getElem?_eq_getElem hj] at this
      simp only [Option.getD_some] at this
      rw [this]; omega
    refine ⟨hperm.nodup_iff.1 ?_, fun x hx => ?_⟩
    · rw [List.nodup_iff_pairwise_ne, List.pairwise_iff_getElem]
      intro a b ha hb hab e
      have h1 := h a ha
      have h2 := h b hb
      rw [List.getD_eq_getElem?_getD, List.getElem?_eq_getElem ha] at h1
      rw [List.getD_eq_getElem?_getD, List.getElem?_eq_getElem hb] at h2
      simp only [Option.getD_some] at h1 h2
      omega
    · obtain ⟨h1, h2⟩ := hmem x (hperm.mem_iff.2 hx)
      exact ⟨h1, h2, hrep _⟩
  · rintro ⟨h1, h2⟩ j hj
    have hnd : (srt p).Nodup := hperm.nodup_iff.2 h1
    have hlt : (srt p).Pairwise (fun x y => x < y) := by
      have := List.Pairwise.and (srt_pair p) hnd
      exact this.imp fun {a b} h => by have := h.1; have := h.2; omega
    have hlo := lt_lo _ 0 hlt (fun x hx => (h2 x (hperm.mem_iff.1 hx)).1) j hj
    have hhi := lt_hi _ n hlt (fun x hx => (h2 x (hperm.mem_iff.1 hx)).2.1) j hj
    omega

theorem prF_dis {p : List Int} {n : Nat} (hl : p.length = n) (hn : n ≤ 12) (h : prF n (List.replicate n false) p = true) : InR p ∧ Dis p := by
  rw [prF_iff n p _ (by simp)] at h
  refine ⟨⟨by omega, fun x hx => by have := h.2 x hx; omega⟩, fun a b ha hb e => ?_⟩
  rw [List.getD_eq_getElem?_getD, List.getElem?_eq_getElem ha, List.getD_eq_getElem?_getD, List.getElem?_eq_getElem hb] at e
  simp only [Option.getD_some] at e
  exact (List.getElem_inj h.1).1 e


noncomputable def dlt (n : Nat) : List Int := (List.range n).map fun (a : Nat) => (n : Int) - 1 - (a : Int)
theorem dlt_len (n : Nat) : (dlt n).length = n := by unfold dlt; simp
theorem dlt_get {n a : Nat} (h : a < n) : (dlt n).getD a 0 = (n : Int) - 1 - (a : Int) := by
  unfold dlt
  rw [List.getD_eq_getElem?_getD, List.getElem?_map, List.getElem?_range h]
  rfl
theorem dlt_inR {n : Nat} (h : n ≤ 12) : InR (dlt n) := ⟨by rw [dlt_len]; exact h, fun x hx => by
  unfold dlt at hx
  obtain ⟨a, ha, rfl⟩ := List.mem_map.1 hx
  have := List.mem_range.1 ha
  omega⟩
theorem dlt_dis (n : Nat) : Dis (dlt n) := fun a b ha hb e => by
  rw [dlt_len] at ha hb
  rw [dlt_get ha, dlt_get hb] at e
  omega
theorem dlt_one : lwo (dlt 1) = [] := lwo_asc (k := 0) (dlt_inR (by omega)) (Asc.zero _) (.inl rfl) (by rw [dlt_len]; omega)
theorem dlt_more {n : Nat} (h : 2 ≤ n) (h2 : n ≤ 12) : 0 < (lwo (dlt n)).length := by
  rw [lwo_desc (k := 0) (dlt_inR h2) (Asc.zero _) (by rw [dlt_len]; omega) (by rw [dlt_get (by omega), dlt_get (by omega)]; omega)]
  simp

noncomputable def repI (d : List Int) : Nat → List Int
  | 0 => []
  | c + 1 => d ++ repI d c
theorem repI_len (d : List Int) : ∀ c, (repI d c).length = c * d.length
  | 0 => by simp [repI]
  | c + 1 => by rw [repI, List.length_append, repI_len d c, Nat.succ_mul]; omega
noncomputable def lp1 (d : List Int) : Nat → List Int → List Int
  | 0, out => out
  | c + 1, out => if 0 < d.length then (if out.length ≤ 400 then lp1 d c (out ++ d) else out) else out
noncomputable def lp2 : List (List Int) → List Int → List Int
  | [], out => out
  | p :: q, out => if out.length ≤ 400 then lp2 q (out ++ lwo p) else out
noncomputable def lp3 : List (List Int) → List Int → Option (List Int)
  | [], out => some out
  | p :: q, out => if 400 < (out ++ lwo p).length then none else lp3 q (out ++ lwo p)
theorem lp1_fit (d : List Int) : ∀ (c : Nat) (out : List Int), c * d.length + out.length ≤ 400 → lp1 d c out = out ++ repI d c
  | 0, out, _ => by simp [lp1, repI]
  | c + 1, out, h => by
    unfold lp1 repI
    rw [Nat.succ_mul] at h
    by_cases h1 : 0 < d.length
    · rw [if_pos h1, if_pos (by omega), lp1_fit d c (out ++ d) (by rw [List.length_append]; omega), List.append_assoc]
    · rw [if_neg h1]
      have e : d = [] := List.eq_nil_of_length_eq_zero (by omega)
      subst e
      have : ∀ c, repI [] c = [] := fun c => List.eq_nil_of_length_eq_zero (by rw [repI_len]; simp)
      rw [this]; simp
theorem lp1_long (d : List Int) : ∀ (c : Nat) (out : List Int), 400 < c * d.length + out.length → 400 < (lp1 d c out).length
  | 0, out, h => by unfold lp1; omega
  | c + 1, out, h => by
    unfold lp1
    rw [Nat.succ_mul] at h
    by_cases h1 : 0 < d.length
    · rw [if_pos h1]
      by_cases h2 : out.length ≤ 400
      · rw [if_pos h2]
        exact lp1_long d c (out ++ d) (by rw [List.length_append]; omega)
      · rw [if_neg h2]; omega
    · rw [if_neg h1]
      have e : d.length = 0 := by omega
      rw [e, Nat.mul_zero] at h
      omega
theorem lp1_none : ∀ (c : Nat) (out : List Int), lp1 [] c out = out
  | 0, out => rfl
  | c + 1, out => by unfold lp1; rw [if_neg (by simp)]
theorem lp1_le {d : List Int} (hd : d.length ≤ 2000) : ∀ (c : Nat) (out : List Int), out.length ≤ 2400 → (lp1 d c out).length ≤ 2400
  | 0, out, h => h
  | c + 1, out, h => by
    unfold lp1
    split
    · split
      · exact lp1_le hd c _ (by rw [List.length_append]; omega)
      · exact h
    · exact h
theorem lp2_long (F : List (List Int)) (out : List Int) (h : 400 < out.length) : lp2 F out = out := by
  cases F with
  | nil => rfl
  | cons p q => unfold lp2; rw [if_neg (by omega)]
theorem lp3_some : ∀ (F : List (List Int)) (out r : List Int), out.length ≤ 400 → lp3 F out = some r → lp2 F out = r ∧ r.length ≤ 400
  | [], out, r, h, e => by injection e with e; subst e; exact ⟨rfl, h⟩
  | p :: q, out, r, h, e => by
    unfold lp3 at e
    by_cases h1 : 400 < (out ++ lwo p).length
    · rw [if_pos h1] at e; cases e
    · rw [if_neg h1] at e
      unfold lp2
      rw [if_pos h]
      exact lp3_some q _ r (by omega) e
theorem lp3_none : ∀ (F : List (List Int)) (out : List Int), out.length ≤ 400 → lp3 F out = none → 400 < (lp2 F out).length
  | [], out, h, e => by cases e
  | p :: q, out, h, e => by
    unfold lp3 at e
    unfold lp2
    rw [if_pos h]
    by_cases h1 : 400 < (out ++ lwo p).length
    · rw [lp2_long _ _ h1]; exact h1
    · rw [if_neg h1] at e
      exact lp3_none q _ (by omega) e
noncomputable instance (p : List Int) : Decidable (Dis p) := Classical.propDecidable _

def Sml (l : List Int) : Prop := ∀ x, x ∈ l → -1000 ≤ x ∧ x ≤ 1000
instance (p : List Int) : Decidable (InR p) := inferInstanceAs (Decidable (p.length ≤ 12 ∧ ∀ x, x ∈ p → 0 ≤ x ∧ x < 12))
instance (l : List Int) : Decidable (Sml l) := inferInstanceAs (Decidable (∀ x, x ∈ l → -1000 ≤ x ∧ x ≤ 1000))
end Go.Proofs.Ytonbfalbfdkieaa.Ev
namespace Go.Proofs.Ytonbfalbfdkieaa.Ev
open Go.Proofs Go.RowKit Go.Sort
theorem srt_len (l : List Int) : (srt l).length = l.length := (srt_perm l).length_eq
theorem ints_enc (k : IntKind) (l : List Int) : (SyC.ints k l).enc = l.map fun x => EV.v (.int k x) := rfl

theorem HR.putInts {γ : G} {w0 : Bs} {H : Tr EK} {n : Nat} {w : World} (h : HR γ w0 H n w) {i : Nat} (hi : Nat.ble i 65535 = true) {ty : TypeId} {k : IntKind} {l l' : List Int} {nn : Bool} (hg : H.get i = some (.seq ty (.ints k l) nn)) {b : Pl} {m : Nat} (hγ : γ i = some (b, m)) (hl : l'.length = l.length) (hn : ¬ (EK.seq ty (.ints k l) nn).Nil) (q : Nat) :
    HR γ w0 (H.put i (some (.seq ty (.ints k l') nn))) n (Go.Sort.putRow (Value.int k) (Go.Sort.ahead w q) b.k b.s l'.toArray) := by
  obtain ⟨b2, m2, e1, e2, ca, ⟨fz, e3, e3'⟩, e4, e5, e6⟩ := h.hp i _ hg hn
  rw [hγ] at e1
  simp only [Option.some.injEq, Prod.mk.injEq] at e1
  obtain ⟨rfl, rfl⟩ := e1
  have hw : ∀ c, (Go.Sort.putRow (Value.int k) (Go.Sort.ahead w q) b.k b.s l'.toArray).heap[c]? = if b.k = c then some (.cells (Go.Sort.putCells (Value.int k) b.s l'.toArray ca) ty fz) else w.heap[c]? := fun c => by
    unfold Go.Sort.putRow Go.Sort.mapBlock
    show (w.heap.modify b.k _)[c]? = _
    rw [Array.getElem?_modify]
    by_cases hc : b.k = c
    · subst hc
      rw [if_pos rfl, if_pos rfl, e3]
      rfl
    · rw [if_neg hc, if_neg hc]
  have hsz : (Go.Sort.putRow (Value.int k) (Go.Sort.ahead w q) b.k b.s l'.toArray).heap.size = w.heap.size := by
    unfold Go.Sort.putRow Go.Sort.mapBlock
    show (w.heap.modify b.k _).size = _
    simp [Go.Sort.ahead]
  have hcs : (Go.Sort.putCells (Value.int k) b.s l'.toArray ca).size = ca.size := by unfold Go.Sort.putCells; simp
  have hle : (SyC.ints k l').enc.length = (SyC.ints k l).enc.length := by rw [ints_enc, ints_enc, List.length_map, List.length_map, hl]
  refine h.turn hi hg hγ _ (fun c hc => by rw [hw, if_neg (fun e => hc e.symm)]) hsz rfl rfl rfl ?_ hn
  refine ⟨_, ⟨fz, by rw [hw, if_pos rfl], e3'.imp id fun e => by rw [hcs]; exact e⟩, by rw [hcs]; exact e4, by rw [hle]; exact e5, ?_, ?_⟩
  · have hcl : (Go.Sort.putCells (Value.int k) b.s l'.toArray ca).toList.length = ca.size := (Array.length_toList).trans hcs
    rw [List.length_take, List.length_drop, hcl, hle]
    omega
  · intro j a x ha hx
    rw [ints_enc, List.getElem?_map] at ha
    have hj : j < l'.length := by
      rcases Nat.lt_or_ge j l'.length with hj | hj
      · exact hj
      · rw [List.getElem?_eq_none hj] at ha; cases ha
    rw [List.getElem?_eq_getElem hj] at ha
    injection ha with ha
    subst ha
    rw [List.getElem?_take, if_pos (by rw [ints_enc, List.length_map]; exact hj), List.getElem?_drop, Array.getElem?_toList] at hx
    unfold Go.Sort.putCells at hx
    rw [Array.getElem?_mapIdx] at hx
    have hlt : b.s + j < ca.size := by
      rw [ints_enc, List.length_map] at e5
      omega
    rw [Array.getElem?_eq_getElem hlt] at hx
    simp only [Option.map_some, Option.some.injEq] at hx
    rw [if_pos ⟨by omega, by simp; omega⟩] at hx
    have : l'.toArray[b.s + j - b.s]! = l'[j] := by
      rw [show b.s + j - b.s = j by omega]
      simp [hj]
    rw [this] at hx
    subst hx
    exact .v _
noncomputable def spSort : ZMT := fun ax K0 m => match ax, K0 with
  | [.slO 0 1 len nn], [(0, .seq ty (.ints .i64 l) nn')] => bc (Nat.beq m 1) (some ⟨bc (Nat.beq len l.length) (bc (Nat.ble len 65536) (bc nn nn' true) false) false, .tup [], [(0, .seq ty (.ints .i64 (srt l)) nn')], 1, 1⟩) none
  | _, _ => none
theorem spSort_ok : ZMtOk Try.prog 189 spSort := fun γ w0 w us ax K0 m r hs hc hres hax hH => by
  unfold spSort at hs
  split at hs
  case h_2 => cases hs
  rename_i len nn ty l nn'
  obtain ⟨hm, rfl⟩ := noN hs
  have hm := Nat.eq_of_beq_eq_true hm
  subst hm
  obtain ⟨hc1, hc2⟩ := bcT (show bc (Nat.beq len l.length) (bc (Nat.ble len 65536) (bc nn nn' true) false) false = true from hc)
  obtain ⟨hc2, hc3⟩ := bcT hc2
  have hc1 := Nat.eq_of_beq_eq_true hc1
  have hc2 := Nat.le_of_ble_eq_true hc2
  subst hc1
  obtain ⟨x, r1, e1, hx, hcr⟩ := ECL.inv hax
  have e3 : r1 = [] := by apply List.eq_nil_of_length_eq_zero; have := hcr.1; simpa using this.symm
  subst e3
  have eu : us = #[x] := by apply Array.ext'; simpa using e1
  rw [eu]
  have hg : (mkT [(0, EK.seq ty (.ints .i64 l) nn')]).get 0 = some (.seq ty (.ints .i64 l) nn') := rfl
  cases hx with
  | slO _ _ _ _ _ hx =>
  cases nn with
  | false =>
    obtain ⟨rfl, hl⟩ := hx.1 rfl
    have hl : l = [] := List.eq_nil_of_length_eq_zero hl
    subst hl
    refine (Try.slices_Sort_int_none none 0 w).mono ?_
    rintro e w' ⟨rfl, rfl⟩
    exact ⟨γ, _, rfl, .tup [] [] rfl (fun j a x h => by simp at h), by rw [show srt [] = [] from List.eq_nil_of_length_eq_zero (by rw [srt_len]; rfl)]; exact hH, fun j p _ h => h⟩
  | true =>
    obtain ⟨b, mm, c, g1, rfl, g2, g3, g4⟩ := hx.2 rfl
    have hnn : nn' = true := hc3
    subst hnn
    have hn : ¬ (EK.seq ty (.ints .i64 l) true).Nil := fun e => by cases e.1
    obtain ⟨b2, m2, q1, q2, ca, q3, q4, q5, q6⟩ := hH.hp 0 _ hg hn
    rw [g1] at q1
    simp only [Option.some.injEq, Prod.mk.injEq] at q1
    obtain ⟨rfl, rfl⟩ := q1
    have hholds : Go.Sort.Holds (Value.int .i64) w b.k b.s l.toArray := fun j hj => by
      have hj : j < l.length := by simpa using hj
      obtain ⟨c1, c2⟩ := cell_of (off := j) q3
      have hlt : b.s + j < ca.size := by rw [ints_enc, List.length_map] at q5; omega
      refine ⟨?_, c2 hlt⟩
      rw [show (⟨b.k, b.s + j, none⟩ : Addr) = b.at j from rfl, c1, Array.getElem?_eq_getElem hlt]
      have h1 := q6.2 j (.v (.int .i64 l[j])) ca[b.s + j] (by rw [ints_enc, List.getElem?_map, List.getElem?_eq_getElem hj]; rfl) (by
        rw [List.getElem?_take, if_pos (by rw [ints_enc, List.length_map]; exact hj), List.getElem?_drop, Array.getElem?_toList, Array.getElem?_eq_getElem hlt])
      rw [ec_v h1]
      simp [hj]
    have hblk := hH.lt 0 _ g1
    refine (Try.slices_Sort_int b.k b.s c l w hholds hblk (by omega)).mono ?_
    rintro e w' ⟨rfl, q, os, rfl⟩
    have h1 := hH.putInts (l' := srt l) rfl hg g1 (srt_len l) hn q
    have hsz : (Go.Sort.putRow (Value.int .i64) (Go.Sort.ahead w q) b.k b.s (srt l).toArray).heap.size = w.heap.size := by
      unfold Go.Sort.putRow Go.Sort.mapBlock
      show (w.heap.modify b.k _).size = _
      simp [Go.Sort.ahead]
    have hb : Below (Go.Sort.putRow (Value.int .i64) (Go.Sort.ahead w q) b.k b.s (srt l).toArray).heap.size (Go.Sort.putRow (Value.int .i64) (Go.Sort.ahead w q) b.k b.s (srt l).toArray) (Go.Sort.grow (Go.Sort.putRow (Value.int .i64) (Go.Sort.ahead w q) b.k b.s (srt l).toArray) os) :=
      ⟨rfl, rfl, rfl, by rw [Go.Sort.size_grow]; omega, fun k hk => Go.Sort.heap_grow_old _ _ hk⟩
    refine ⟨γ, _, rfl, .tup [] [] rfl (fun j a x h => by simp at h), ?_, fun j p _ h => h⟩
    refine (h1.below hb).congr fun j k hj => ?_
    rw [Tr.get_put (by rfl)]
    by_cases hj0 : j = 0
    · subst hj0
      rw [if_pos rfl]; exact hj
    · rw [if_neg hj0]
      have := mkT_get hj
      simp at this
      exact absurd this.1 hj0
noncomputable def ctSo : Tr ZCC := Tr.nil.put 189 (some (mC spSort))
theorem ctSo_ok : ZCtsOk Try.prog ctSo := (ZCtsOk.nil _).addM rfl spSort_ok
end Go.Proofs.Ytonbfalbfdkieaa.Ev
namespace Go.Proofs.Ytonbfalbfdkieaa.Ev
open Go.Proofs
theorem closed_ct {P : Program} {f : FuncId} {γ : G} {w : World} {us : Array Value} (h : Calls P f #[] w fun e w' => e = .returned (.bool true) ∧ Stays w w') (hax : ECL γ [] us.toList) (hfz : FzAt γ w) : Calls P f us w fun e w' => ∃ γ' x, e = .returned x ∧ EC γ' (bv true) x ∧ HR γ' (Bs.ofG w γ) (mkT (zseqs [])) 0 w' := by
  have hu : us = #[] := by
    have := hax.1
    apply Array.toList_inj.1
    exact List.eq_nil_of_length_eq_zero this.symm
  subst hu
  refine h.mono ?_
  rintro e w' ⟨rfl, hs⟩
  refine ⟨⟨fun _ => none, γ.fz, fun _ _ _ => none⟩, _, rfl, .v _, ⟨(fun i k hk => by cases hk), (fun i j ki kj hi => by cases hi), (fun _ _ => rfl), (fun i hi => hi.elim), (fun i p hp => by cases hp), ⟨hs.os, hs.tape, hs.output, hs.size, hs.block⟩, ⟨fun k a hk => ?_, fun k hk => hk, .none (fun _ _ _ p e => by cases (show (none : Option (Nat × Nat × Nat)) = some p from e)) (fun i k hi => by cases hi)⟩⟩⟩
  obtain ⟨ty, fz, h1⟩ := hfz k a hk
  have hk2 := (Array.getElem?_eq_some_iff.1 h1).1
  exact ⟨⟨ty, fz, (hs.block k hk2).trans h1⟩, .inl ⟨a, hk⟩, fun i ki b m hi => by cases hi⟩
noncomputable def spTrue : ZCT := fun ax => match ax with
  | [] => some ⟨true, bv true, [], 0⟩
  | _ => none
theorem spTrue_ok {P : Program} {f : FuncId} (h : ∀ w, Calls P f #[] w fun e w' => e = .returned (.bool true) ∧ Stays w w') : ZCtOk P f spTrue := fun γ w us ax r hs hc hax hN hfz => by
  unfold spTrue at hs
  split at hs
  case h_2 => cases hs
  obtain ⟨rfl⟩ := Option.some.inj hs
  exact closed_ct (h w) hax hfz
theorem law_of {P : Program} {f : FuncId} {γ : G} {w : World} {us : Array Value} {K : List (Nat × EK)} {n : Nat} (h : Calls P f us w fun e w' => ∃ γ' x, e = .returned x ∧ EC γ' (bv true) x ∧ HR γ' (Bs.ofG w γ) (mkT K) n w') : Calls P f us w fun e w' => e = .returned (.bool true) ∧ Stays w w' := h.mono fun e w' ⟨γ', x, h1, h2, h3⟩ => ⟨by rw [h1, ec_v h2], staysOf h3.stays⟩
end Go.Proofs.Ytonbfalbfdkieaa.Ev
namespace Go.Proofs.Ytonbfalbfdkieaa.Ev
open Go.Proofs

noncomputable def lin (n : Nat) : List Int := (List.range n).map fun (a : Nat) => (a : Int)
theorem lin_len (n : Nat) : (lin n).length = n := by unfold lin; simp
theorem lin_succ (n : Nat) : lin (n + 1) = lin n ++ [(n : Int)] := by unfold lin; rw [List.range_succ, List.map_append]; rfl
noncomputable def invl (l : List Int) : List Int := (l.map fun x => -x).reverse
theorem invl_len (l : List Int) : (invl l).length = l.length := by unfold invl; simp
namespace RLin
noncomputable def RUN (s : ES) : ZF := RZ 105 .nil (atS 0 105 3) [] [[(0,none),(3,some (1, 3, .ints .i64 [])),(4,none)]] false s

noncomputable def sL (n : Int) (q : List Int) (nn : Bool) (i : Int) : NS := ⟨[⟨105, 15, [(0, (EV.v (Value.int IntKind.i64 (n)))), (3, EV.slO 0 1 q.length nn), (4, iv i)], [.it (.code (nav [1, 1, 0, 1, 0, 0, 0] (bodyOf Try.f105))), .it (.code (nav [1, 1, 0, 1, 0, 0, 1] (bodyOf Try.f105))), .it (.inLoop (nav [1, 1, 0, 1, 0, 0] (bodyOf Try.f105))), .it (.inBlock 0), .it (.code (nav [1, 1, 1] (bodyOf Try.f105)))], [], Option.none⟩], [(0, EK.seq 3 (.ints .i64 q) nn)], 1⟩
theorem in_t (n : Int) : RUN (st0 105 [iv n]) = (.at (sL (n) ([]) (false) ((0 : Int)))) := by kernel_rfl
theorem step_t (n : Int) (q : List Int) (nn : Bool) (i : Int) : RUN (stOf (sL n q nn i)) = (bc (decide (i < n)) (bc (bc (Nat.beq (List.length q) (List.length q)) (bc (Nat.ble (List.length q + List.length (List.map (fun r => U.int (List.headD r (U.i (0 : Int)))) [[U.i i]])) (65536 : Nat)) (bc nn true (bc nn false true)) false) false) (.at (sL (n) (q ++ List.map (fun r => U.int (List.headD r (U.i (0 : Int)))) [[U.i i]]) (bc nn true (Nat.blt (0 : Nat) (List.length (List.map (fun r => U.int (List.headD r (U.i (0 : Int)))) [[U.i i]])))) (IntKind.wrap IntKind.i64 (i + (1 : Int))))) .bad) (bc (Nat.beq (List.length q) (List.length q)) (.done (EV.lst (SyC.ints IntKind.i64 (q))) [] 0) .bad)) := by kernel_rfl
theorem step {n i : Nat} {q : List Int} {nn : Bool} (hi : i < n) (hn : n ≤ 12) (hq : q.length = i) : RUN (stOf (sL n q nn i)) = .at (sL n (q ++ [(i : Int)]) (bc nn true true) (i + 1 : Nat)) := by
  rw [step_t]
  simp (disch := omega) only [Nat.add_eq, eqSy_self, eqN_self, bc_same, List.length_cons, ofn, wrap_in, dt, df, bltD, bltN, ble_of, bleN, beqD, bc_t, bc_f, nn_ok, Nat.zero_add, to_nat, Int.zero_add, Int.sub_zero, Int.sub_self, Int.cast_ofNat_Int, Int.natCast_zero, Int.toNat_zero, List.take_zero, List.nil_append, List.length_append, List.length_nil, List.map_cons, List.map_nil]
  rfl
end RLin
namespace RLin
noncomputable def RUNo (s : ES) : ZF := RZ 105 .nil (atS 0 105 3) [] [[(0,none),(3,some (1, 3, .ints .i64 [])),(4,none)]] true s

theorem stepo_t (n : Int) (q : List Int) (nn : Bool) (i : Int) : RUNo (stOf (sL n q nn i)) = (bc (decide (i < n)) (bc (bc (Nat.beq (List.length q) (List.length q)) (bc (Nat.ble (List.length q + List.length (List.map (fun r => U.int (List.headD r (U.i (0 : Int)))) [[U.i i]])) (65536 : Nat)) (bc nn true (bc nn false true)) false) false) (.at (sL (n) (q ++ List.map (fun r => U.int (List.headD r (U.i (0 : Int)))) [[U.i i]]) (bc nn true (Nat.blt (0 : Nat) (List.length (List.map (fun r => U.int (List.headD r (U.i (0 : Int)))) [[U.i i]])))) (IntKind.wrap IntKind.i64 (i + (1 : Int))))) .bad) (.done (EV.slO 0 1 (List.length q) (nn)) [(0, (EK.seq 3 (SyC.ints IntKind.i64 (q)) (nn)))] 1)) := by kernel_rfl
theorem lasto {n i : Nat} {q : List Int} (hi : n ≤ i) : RUNo (stOf (sL n q true i)) = .done (.slO 0 1 q.length true) (zseqs [(0, 3, .ints .i64 q, true)]) 1 := by
  rw [stepo_t]
  simp (disch := omega) only [Nat.add_eq, eqSy_self, eqN_self, bc_same, List.length_cons, ofn, wrap_in, dt, df, bltD, bltN, ble_of, bleN, beqD, bc_t, bc_f, nn_ok, Nat.zero_add, to_nat, Int.zero_add, Int.sub_zero, Int.sub_self, Int.cast_ofNat_Int, Int.natCast_zero, Int.toNat_zero, List.take_zero, List.nil_append, List.length_append, List.length_nil]
  rfl
theorem loopo {n : Nat} (hn : n ≤ 12) : ∀ (k i : Nat), i + k = n → EndZ 105 .nil true (stOf (sL n (lin i) true i)) (.slO 0 1 (lin n).length true) (zseqs [(0, 3, .ints .i64 (lin n), true)]) 1
  | 0, i, h => by
    obtain rfl : i = n := by omega
    exact .done (lasto (Nat.le_refl _))
  | k + 1, i, h => by
    have h1 := step (nn := true) (show i < n by omega) hn (lin_len i)
    rw [← lin_succ] at h1
    exact .at (.nil _) h1 (loopo hn k (i + 1) (by omega))
end RLin
noncomputable def spRLin : ZCT := fun ax => match ax with
  | [.v (.int .i64 n)] => some ⟨decide (1 ≤ n ∧ n ≤ 12), .slO 0 1 (lin n.toNat).length true, [(0, 3, .ints .i64 (lin n.toNat), true)], 1⟩
  | _ => none
theorem spRLin_ok : ZCtOk Try.prog 105 spRLin := fun γ w us ax r hs hc hax hN hfz => by
  unfold spRLin at hs
  split at hs
  case h_2 => cases hs
  rename_i n
  obtain ⟨rfl⟩ := Option.some.inj hs
  have hc_0 : decide (1 ≤ n ∧ n ≤ 12) = true := hc
  have hc := of_decide_eq_true hc_0
  exact EndZ.calls (by
    obtain ⟨n, rfl⟩ := Int.eq_ofNat_of_zero_le (show 0 ≤ n by omega)
    refine .at (.nil _) (RLin.in_t n) ?_
    have h1 := RLin.step (nn := false) (q := lin 0) (show 0 < n by omega) (by omega) (lin_len 0)
    rw [← lin_succ] at h1
    exact .at (.nil _) h1 (RLin.loopo (by omega) (n - 1) 1 (by omega))) (.nil _) (by kernel_rfl) hax hN hfz
namespace RInv
noncomputable def RUN (s : ES) : ZF := RZ 107 .nil (atS 0 107 3) [] [[(0,none),(3,some (1, 3, .ints .i64 [])),(4,none)]] false s

noncomputable def sL (l q : List Int) (nn : Bool) (i : Int) : NS := ⟨[⟨107, 21, [(0, (EV.lst (SyC.ints IntKind.i64 (l)))), (3, EV.slO 0 1 q.length nn), (4, iv i)], [.it (.code (nav [1, 1, 0, 1, 0, 0, 0] (bodyOf Try.f107))), .it (.code (nav [1, 1, 0, 1, 0, 0, 1] (bodyOf Try.f107))), .it (.inLoop (nav [1, 1, 0, 1, 0, 0] (bodyOf Try.f107))), .it (.inBlock 0), .it (.code (nav [1, 1, 1] (bodyOf Try.f107)))], [], Option.none⟩], [(0, EK.seq 3 (.ints .i64 q) nn)], 1⟩
theorem in_t (l : List Int) : RUN (st0 107 [il l]) = (.at (sL (l) ([]) (false) (IntKind.wrap IntKind.i64 (Int.ofNat (List.length l) - (1 : Int))))) := by kernel_rfl
theorem step_t (l q : List Int) (nn : Bool) (i : Int) : RUN (stOf (sL l q nn i)) = (bc (decide ((0 : Int) ≤ i)) (bc (bc (bc (decide ((0 : Int) ≤ i)) (Nat.blt (Int.toNat i) (List.length l)) false) true false) (bc (bc (Nat.blt (Int.toNat i) (List.length l)) true false) (bc (bc (Nat.beq (List.length q) (List.length q)) (bc (Nat.ble (List.length q + List.length (List.map (fun r => U.int (List.headD r (U.i (0 : Int)))) [[U.i (IntKind.wrap IntKind.i64 ((0 : Int) - List.getD l (Int.toNat i) (0 : Int)))]])) (65536 : Nat)) (bc nn true (bc nn false true)) false) false) (.at (sL (l) (q ++ List.map (fun r => U.int (List.headD r (U.i (0 : Int)))) [[U.i (IntKind.wrap IntKind.i64 ((0 : Int) - List.getD l (Int.toNat i) (0 : Int)))]]) (bc nn true (Nat.blt (0 : Nat) (List.length (List.map (fun r => U.int (List.headD r (U.i (0 : Int)))) [[U.i (IntKind.wrap IntKind.i64 ((0 : Int) - List.getD l (Int.toNat i) (0 : Int)))]])))) (IntKind.wrap IntKind.i64 (i - (1 : Int))))) .bad) .bad) .bad) (bc (Nat.beq (List.length q) (List.length q)) (.done (EV.lst (SyC.ints IntKind.i64 (q))) [] 0) .bad)) := by kernel_rfl
theorem step {l q : List Int} {i : Nat} {nn : Bool} (hi : i < l.length) (hl : l.length ≤ 2000) (hq : q.length + i < l.length) (hx : Sml l) : RUN (stOf (sL l q nn i)) = .at (sL l (q ++ [- l.getD i 0]) (bc nn true true) ((i : Int) - 1)) := by
  rw [step_t]
  have h1 := hx (l.getD i 0) (getD_mem' hi)
  simp (disch := omega) only [Nat.add_eq, eqSy_self, eqN_self, bc_same, List.length_cons, ofn, wrap_in, dt, df, bltD, bltN, ble_of, bleN, beqD, bc_t, bc_f, nn_ok, Nat.zero_add, to_nat, Int.zero_add, Int.sub_zero, Int.sub_self, Int.cast_ofNat_Int, Int.natCast_zero, Int.toNat_zero, List.take_zero, List.nil_append, List.length_append, List.length_nil, List.map_cons, List.map_nil, Int.zero_sub]
  rfl
theorem last {l q : List Int} {nn : Bool} : RUN (stOf (sL l q nn (-1))) = .done (il q) [] 0 := by
  rw [step_t]
  simp (disch := omega) only [Nat.add_eq, eqSy_self, eqN_self, bc_same, List.length_cons, ofn, wrap_in, dt, df, bltD, bltN, ble_of, bleN, beqD, bc_t, bc_f, nn_ok, Nat.zero_add, to_nat, Int.zero_add, Int.sub_zero, Int.sub_self, Int.cast_ofNat_Int, Int.natCast_zero, Int.toNat_zero, List.take_zero, List.nil_append, List.length_append, List.length_nil]
theorem loop {l : List Int} (hl : l.length ≤ 2000) (hx : Sml l) : ∀ (i : Nat) (q : List Int) (nn : Bool), i ≤ l.length → q.length + i ≤ l.length → EndZ 107 .nil false (stOf (sL l q nn ((i : Int) - 1))) (il (q ++ ((l.take i).map fun x => -x).reverse)) [] 0
  | 0, q, nn, hi, h => by
    rw [List.take_zero, List.map_nil, List.reverse_nil, List.append_nil]
    exact .done last
  | i + 1, q, nn, hi, h => by
    have h1 := step (q := q) (nn := nn) (show i < l.length by omega) hl (by omega) hx
    rw [show (((i + 1 : Nat) : Int) - 1) = (i : Int) by omega]
    have h2 := loop hl hx i (q ++ [- l.getD i 0]) (bc nn true true) (by omega) (by simp; omega)
    rw [getD_at (show i < l.length by omega)] at h2 h1
    have e : q ++ ((l.take (i + 1)).map fun x => -x).reverse = (q ++ [-l[i]]) ++ ((l.take i).map fun x => -x).reverse := by
      rw [List.take_succ_eq_append_getElem (show i < l.length by omega), List.map_append, List.reverse_append, List.append_assoc]
      rfl
    rw [e]
    exact .at (.nil _) h1 h2
end RInv
noncomputable def spRInv : ZCT := fun ax => match ax with
  | [.lst (.ints .i64 l)] => some ⟨decide (l.length ≤ 2000 ∧ Sml l), il (invl l), [], 0⟩
  | _ => none
theorem spRInv_ok : ZCtOk Try.prog 107 spRInv := fun γ w us ax r hs hc hax hN hfz => by
  unfold spRInv at hs
  split at hs
  case h_2 => cases hs
  rename_i l
  obtain ⟨rfl⟩ := Option.some.inj hs
  have hc_0 : decide (l.length ≤ 2000 ∧ Sml l) = true := hc
  have hc := of_decide_eq_true hc_0
  exact EndZ.calls (by
    have h := RInv.in_t l
    simp (disch := omega) only [Nat.add_eq, eqSy_self, eqN_self, bc_same, List.length_cons, ofn, wrap_in, dt, df, bltD, bltN, ble_of, bleN, beqD, bc_t, bc_f, nn_ok, Nat.zero_add, to_nat, Int.zero_add, Int.sub_zero, Int.sub_self, Int.cast_ofNat_Int, Int.natCast_zero, Int.toNat_zero, List.take_zero, List.nil_append, List.length_append, List.length_nil] at h
    have h2 := RInv.loop hc.1 hc.2 l.length [] false (Nat.le_refl _) (by simp)
    rw [List.take_length, List.nil_append] at h2
    exact .at (.nil _) h h2) (.nil _) (by kernel_rfl) hax hN hfz
namespace RPer
noncomputable def RUN (s : ES) : ZF := RZ 104 .nil (atS 0 104 3) [] [[(0,none),(1,none),(5,none),(6,none)]] false s

noncomputable def sL (p : List Int) (n : Int) (z : Nat) (d : List Bool) (i : Int) : NS := ⟨[⟨104, 47, [(0, (EV.lst (SyC.ints IntKind.i64 (p)))), (1, (EV.v (Value.int IntKind.i64 (n)))), (5, EV.slO 0 1 z true), (6, iv i)], [.it (.code (nav [1, 1, 0, 1, 0, 0, 0] (bodyOf Try.f104))), .it (.code (nav [1, 1, 0, 1, 0, 0, 1] (bodyOf Try.f104))), .it (.inLoop (nav [1, 1, 0, 1, 0, 0] (bodyOf Try.f104))), .it (.inBlock 0), .it (.code (nav [1, 1, 1] (bodyOf Try.f104)))], [], Option.none⟩], [(0, EK.seq 4 (.bools d) true)], 1⟩
theorem in_t (p : List Int) (n : Int) : RUN (st0 104 [il p, iv n]) = (bc (bc (decide ((0 : Int) ≤ n)) (bc (decide (n ≤ n)) (decide (n ≤ (65536 : Int))) false) false) (.at (sL (p) (n) (List.length (List.replicate (Int.toNat n) false)) (List.replicate (Int.toNat n) false) ((0 : Int)))) .bad) := by kernel_rfl
theorem step_t (p : List Int) (n : Int) (z : Nat) (d : List Bool) (i : Int) : RUN (stOf (sL p n z d i)) = (bc (decide (i < Int.ofNat (List.length p))) (bc (bc (bc (decide ((0 : Int) ≤ i)) (Nat.blt (Int.toNat i) (List.length p)) false) true false) (bc (bc (Nat.blt (Int.toNat i) (List.length p)) true false) (bc (decide (List.getD p (Int.toNat i) (0 : Int) < (0 : Int))) (.done (EV.v (Value.bool false)) [] 0) (bc (bc (bc (decide ((0 : Int) ≤ i)) (Nat.blt (Int.toNat i) (List.length p)) false) true false) (bc (bc (Nat.blt (Int.toNat i) (List.length p)) true false) (bc (decide (n ≤ List.getD p (Int.toNat i) (0 : Int))) (.done (EV.v (Value.bool false)) [] 0) (bc (bc (bc (decide ((0 : Int) ≤ i)) (Nat.blt (Int.toNat i) (List.length p)) false) true false) (bc (bc (Nat.blt (Int.toNat i) (List.length p)) true false) (bc (bc (bc (decide ((0 : Int) ≤ List.getD p (Int.toNat i) (0 : Int))) (Nat.blt (Int.toNat (List.getD p (Int.toNat i) (0 : Int))) z) false) true false) (bc (bc (Nat.blt (Int.toNat (List.getD p (Int.toNat i) (0 : Int))) (List.length d)) true false) (bc (List.getD d (Int.toNat (List.getD p (Int.toNat i) (0 : Int))) false) (.done (EV.v (Value.bool false)) [] 0) (bc (bc (bc (decide ((0 : Int) ≤ i)) (Nat.blt (Int.toNat i) (List.length p)) false) true false) (bc (bc (Nat.blt (Int.toNat i) (List.length p)) true false) (bc (bc (bc (decide ((0 : Int) ≤ List.getD p (Int.toNat i) (0 : Int))) (Nat.blt (Int.toNat (List.getD p (Int.toNat i) (0 : Int))) z) false) true false) (bc (Nat.blt (Int.toNat (List.getD p (Int.toNat i) (0 : Int))) (List.length d)) (.at (sL (p) (n) (z) (List.set d (Int.toNat (List.getD p (Int.toNat i) (0 : Int))) true) (IntKind.wrap IntKind.i64 (i + (1 : Int))))) .bad) .bad) .bad) .bad)) .bad) .bad) .bad) .bad)) .bad) .bad)) .bad) .bad) (.done (EV.v (Value.bool (Int.ofNat (List.length p) == n))) [] 0)) := by kernel_rfl
theorem step {p : List Int} {n i : Nat} {d : List Bool} (hi : i < p.length) (hp : p.length ≤ 100) (hn : n ≤ 12) (hd : d.length = n) : RUN (stOf (sL p n n d i)) = if p.getD i 0 < 0 then .done (bv false) [] 0 else if (n : Int) ≤ p.getD i 0 then .done (bv false) [] 0 else if d.getD (p.getD i 0).toNat false = true then .done (bv false) [] 0 else .at (sL p n n (d.set (p.getD i 0).toNat true) (i + 1 : Nat)) := by
  rw [step_t]
  by_cases h1 : p.getD i 0 < 0
  · rw [if_pos h1]
    simp (disch := omega) only [Nat.add_eq, eqSy_self, eqN_self, bc_same, List.length_cons, ofn, wrap_in, dt, df, bltD, bltN, ble_of, bleN, beqD, bc_t, bc_f, nn_ok, Nat.zero_add, to_nat, Int.zero_add, Int.sub_zero, Int.sub_self, Int.cast_ofNat_Int, Int.natCast_zero, Int.toNat_zero, List.take_zero, List.nil_append, List.length_append, List.length_nil]
  rw [if_neg h1]
  by_cases h2 : (n : Int) ≤ p.getD i 0
  · rw [if_pos h2]
    simp (disch := omega) only [Nat.add_eq, eqSy_self, eqN_self, bc_same, List.length_cons, ofn, wrap_in, dt, df, bltD, bltN, ble_of, bleN, beqD, bc_t, bc_f, nn_ok, Nat.zero_add, to_nat, Int.zero_add, Int.sub_zero, Int.sub_self, Int.cast_ofNat_Int, Int.natCast_zero, Int.toNat_zero, List.take_zero, List.nil_append, List.length_append, List.length_nil]
  rw [if_neg h2]
  simp (disch := omega) only [Nat.add_eq, eqSy_self, eqN_self, bc_same, List.length_cons, ofn, wrap_in, dt, df, bltD, bltN, ble_of, bleN, beqD, bc_t, bc_f, nn_ok, Nat.zero_add, to_nat, Int.zero_add, Int.sub_zero, Int.sub_self, Int.cast_ofNat_Int, Int.natCast_zero, Int.toNat_zero, List.take_zero, List.nil_append, List.length_append, List.length_nil]
  cases d.getD (p.getD i 0).toNat false <;> rfl
theorem last {p : List Int} {n : Int} {z i : Nat} {d : List Bool} (hi : p.length ≤ i) : RUN (stOf (sL p n z d i)) = .done (bv ((p.length : Int) == n)) [] 0 := by
  rw [step_t]
  simp (disch := omega) only [Nat.add_eq, eqSy_self, eqN_self, bc_same, List.length_cons, ofn, wrap_in, dt, df, bltD, bltN, ble_of, bleN, beqD, bc_t, bc_f, nn_ok, Nat.zero_add, to_nat, Int.zero_add, Int.sub_zero, Int.sub_self, Int.cast_ofNat_Int, Int.natCast_zero, Int.toNat_zero, List.take_zero, List.nil_append, List.length_append, List.length_nil]
theorem loop {p : List Int} {n : Nat} (hp : p.length ≤ 100) (hn : n ≤ 12) : ∀ (k i : Nat) (d : List Bool), i + k = p.length → d.length = n → EndZ 104 .nil false (stOf (sL p n n d i)) (bv (bc (prF n d (p.drop i)) ((p.length : Int) == n) false)) [] 0
  | 0, i, d, h, hd => by
    rw [List.drop_eq_nil_of_le (by omega)]
    exact .done (last (by omega))
  | k + 1, i, d, h, hd => by
    have hi : i < p.length := by omega
    have h1 := step hi hp hn hd
    rw [List.drop_eq_getElem_cons hi]
    rw [getD_at hi] at h1
    unfold prF
    by_cases a1 : p[i] < 0
    · rw [if_pos a1] at h1 ⊢; exact .done h1
    rw [if_neg a1] at h1 ⊢
    by_cases a2 : (n : Int) ≤ p[i]
    · rw [if_pos a2] at h1 ⊢; exact .done h1
    rw [if_neg a2] at h1 ⊢
    by_cases a3 : d.getD p[i].toNat false = true
    · rw [if_pos a3] at h1 ⊢; exact .done h1
    rw [if_neg a3] at h1 ⊢
    exact .at (.nil _) h1 (loop hp hn k (i + 1) _ (by omega) (by simpa using hd))
end RPer

noncomputable def prm (n : Nat) (p : List Int) : Bool := bc (prF n (List.replicate n false) p) ((p.length : Int) == n) false
noncomputable def spRPer : ZCT := fun ax => match ax with
  | [.lst (.ints .i64 p), .v (.int .i64 n)] => some ⟨decide (p.length ≤ 100 ∧ 0 ≤ n ∧ n ≤ 12), bv (prm n.toNat p), [], 0⟩
  | _ => none
theorem spRPer_ok : ZCtOk Try.prog 104 spRPer := fun γ w us ax r hs hc hax hN hfz => by
  unfold spRPer at hs
  split at hs
  case h_2 => cases hs
  rename_i p n
  obtain ⟨rfl⟩ := Option.some.inj hs
  have hc_0 : decide (p.length ≤ 100 ∧ 0 ≤ n ∧ n ≤ 12) = true := hc
  have hc := of_decide_eq_true hc_0
  exact EndZ.calls (by
    obtain ⟨hp, h0, h1⟩ := hc
    obtain ⟨n, rfl⟩ := Int.eq_ofNat_of_zero_le h0
    have h := RPer.in_t p n
    rw [show (Int.toNat (n : Int)) = n from rfl] at h
    simp (disch := omega) only [Nat.add_eq, eqSy_self, eqN_self, bc_same, List.length_cons, ofn, wrap_in, dt, df, bltD, bltN, ble_of, bleN, beqD, bc_t, bc_f, nn_ok, Nat.zero_add, to_nat, Int.zero_add, Int.sub_zero, Int.sub_self, Int.cast_ofNat_Int, Int.natCast_zero, Int.toNat_zero, List.take_zero, List.nil_append, List.length_append, List.length_nil, List.length_replicate] at h
    exact .at (.nil _) h (RPer.loop hp (by omega) p.length 0 _ (by omega) (by simp))) (.nil _) (by kernel_rfl) hax hN hfz
namespace RLst
noncomputable def RUN (s : ES) : ZF := RZ 106 .nil (atS 0 106 4) [] [[(0,none),(3,some (1, 3, .ints .i64 [])),(4,none)]] false s

noncomputable def sL (z : Nat) (p q : List Int) (nn : Bool) (i : Int) : NS := ⟨[⟨106, 38, [(0, EV.slO 0 1 z true), (3, EV.slO 1 1 q.length nn), (4, iv i)], [.it (.code (nav [1, 1, 1, 0, 1, 0, 0, 0] (bodyOf Try.f106))), .it (.code (nav [1, 1, 1, 0, 1, 0, 0, 1] (bodyOf Try.f106))), .it (.inLoop (nav [1, 1, 1, 0, 1, 0, 0] (bodyOf Try.f106))), .it (.inBlock 0), .it (.code (nav [1, 1, 1, 1] (bodyOf Try.f106)))], [], Option.none⟩], [(0, EK.seq 3 (.ints .i64 p) true), (1, EK.seq 3 (.ints .i64 q) nn)], 2⟩
theorem in_t (p : List Int) : RUN (st0 106 [il p]) = (bc (bc (Nat.ble ((0 : Nat) + List.length p) (65536 : Nat)) true false) (.at (sL (List.length ([] ++ p)) ([] ++ p) ([]) (false) ((1 : Int)))) .bad) := by kernel_rfl
theorem step_t (z : Nat) (p q : List Int) (nn : Bool) (i : Int) : RUN (stOf (sL z p q nn i)) = (bc (decide (i < Int.ofNat z)) (bc (bc (bc (bc (bc (decide ((0 : Int) ≤ IntKind.wrap IntKind.i64 (i - (1 : Int)))) (Nat.blt (Int.toNat (IntKind.wrap IntKind.i64 (i - (1 : Int)))) z) false) true false) (bc (bc (Nat.blt (Int.toNat (IntKind.wrap IntKind.i64 (i - (1 : Int)))) (List.length p)) true false) (bc (bc (bc (decide ((0 : Int) ≤ i)) (Nat.blt (Int.toNat i) z) false) true false) (bc (bc (Nat.blt (Int.toNat i) (List.length p)) true false) true false) false) false) false) true false) (bc (decide (List.getD p (Int.toNat i) (0 : Int) < List.getD p (Int.toNat (IntKind.wrap IntKind.i64 (i - (1 : Int)))) (0 : Int))) (bc (bc (bc (bc (bc (decide ((0 : Int) ≤ i)) (Nat.blt (Int.toNat i) z) false) true false) (bc (bc (Nat.blt (Int.toNat i) (List.length p)) true false) (bc (bc (bc (decide ((0 : Int) ≤ IntKind.wrap IntKind.i64 (i - (1 : Int)))) (Nat.blt (Int.toNat (IntKind.wrap IntKind.i64 (i - (1 : Int)))) z) false) true false) (bc (bc (Nat.blt (Int.toNat (IntKind.wrap IntKind.i64 (i - (1 : Int)))) (List.length p)) true false) (bc (bc (bc (decide ((0 : Int) ≤ IntKind.wrap IntKind.i64 (i - (1 : Int)))) (Nat.blt (Int.toNat (IntKind.wrap IntKind.i64 (i - (1 : Int)))) z) false) true false) (bc (Nat.blt (Int.toNat (IntKind.wrap IntKind.i64 (i - (1 : Int)))) (List.length p)) (bc (bc (bc (decide ((0 : Int) ≤ i)) (Nat.blt (Int.toNat i) z) false) true false) (bc (Nat.blt (Int.toNat i) (List.length (List.set p (Int.toNat (IntKind.wrap IntKind.i64 (i - (1 : Int)))) (List.getD p (Int.toNat i) (0 : Int))))) true false) false) false) false) false) false) false) false) true false) (bc (bc (Nat.beq (List.length q) (List.length q)) (bc (Nat.ble (List.length q + List.length (List.map (fun r => U.int (List.headD r (U.i (0 : Int)))) [[U.i i]])) (65536 : Nat)) (bc nn true (bc nn false true)) false) false) (.at (sL (z) (List.set (List.set p (Int.toNat (IntKind.wrap IntKind.i64 (i - (1 : Int)))) (List.getD p (Int.toNat i) (0 : Int))) (Int.toNat i) (List.getD p (Int.toNat (IntKind.wrap IntKind.i64 (i - (1 : Int)))) (0 : Int))) (q ++ List.map (fun r => U.int (List.headD r (U.i (0 : Int)))) [[U.i i]]) (bc nn true (Nat.blt (0 : Nat) (List.length (List.map (fun r => U.int (List.headD r (U.i (0 : Int)))) [[U.i i]])))) (IntKind.wrap IntKind.i64 ((0 : Int) + (1 : Int))))) .bad) .bad) (.at (sL (z) (p) (q) (nn) (IntKind.wrap IntKind.i64 (i + (1 : Int)))))) .bad) (bc (Nat.beq (List.length q) (List.length q)) (.done (EV.lst (SyC.ints IntKind.i64 (q))) [] 0) .bad)) := by kernel_rfl
theorem step {p q : List Int} {nn : Bool} {k : Nat} (hk : k + 1 < p.length) (hp : p.length ≤ 12) (hq : q.length ≤ 2000) : RUN (stOf (sL p.length p q nn (k + 1 : Nat))) = if p.getD (k + 1) 0 < p.getD k 0 then .at (sL p.length (swp p k) (q ++ [((k + 1 : Nat) : Int)]) (bc nn true true) (0 + 1 : Nat)) else .at (sL p.length p q nn (k + 1 + 1 : Nat)) := by
  rw [step_t]
  have e1 : ((k + 1 : Nat) : Int) - 1 = (k : Int) := by omega
  rw [e1]
  by_cases h1 : p.getD (k + 1) 0 < p.getD k 0
  · rw [if_pos h1]
    simp (disch := omega) only [Nat.add_eq, eqSy_self, eqN_self, bc_same, List.length_cons, ofn, wrap_in, dt, df, bltD, bltN, ble_of, bleN, beqD, bc_t, bc_f, nn_ok, Nat.zero_add, to_nat, Int.zero_add, Int.sub_zero, Int.sub_self, Int.cast_ofNat_Int, Int.natCast_zero, Int.toNat_zero, List.take_zero, List.nil_append, List.length_append, List.length_nil, List.map_cons, List.map_nil, List.length_set]
    rfl
  · rw [if_neg h1]
    simp (disch := omega) only [Nat.add_eq, eqSy_self, eqN_self, bc_same, List.length_cons, ofn, wrap_in, dt, df, bltD, bltN, ble_of, bleN, beqD, bc_t, bc_f, nn_ok, Nat.zero_add, to_nat, Int.zero_add, Int.sub_zero, Int.sub_self, Int.cast_ofNat_Int, Int.natCast_zero, Int.toNat_zero, List.take_zero, List.nil_append, List.length_append, List.length_nil]
    rfl
theorem last {p q : List Int} {nn : Bool} {k : Nat} (hk : p.length ≤ k + 1) : RUN (stOf (sL p.length p q nn (k + 1 : Nat))) = .done (il q) [] 0 := by
  rw [step_t]
  simp (disch := omega) only [Nat.add_eq, eqSy_self, eqN_self, bc_same, List.length_cons, ofn, wrap_in, dt, df, bltD, bltN, ble_of, bleN, beqD, bc_t, bc_f, nn_ok, Nat.zero_add, to_nat, Int.zero_add, Int.sub_zero, Int.sub_self, Int.cast_ofNat_Int, Int.natCast_zero, Int.toNat_zero, List.take_zero, List.nil_append, List.length_append, List.length_nil]
theorem loop (z : Nat) : ∀ (f : Nat) (p q : List Int) (nn : Bool) (k : Nat), p.length = z → InR p → Asc p k → (k = 0 ∨ k < p.length) → msr p k < f → q.length + (lwo p).length ≤ 1800 → EndZ 106 .nil false (stOf (sL z p q nn (k + 1 : Nat))) (il (q ++ lwo p)) [] 0
  | 0, p, q, nn, k, hz, h, ha, hk, hf, hq => by omega
  | f + 1, p, q, nn, k, hz, h, ha, hk, hf, hq => by
    subst hz
    by_cases h1 : k + 1 < p.length
    · have hs := step (q := q) (nn := nn) h1 h.1 (by omega)
      by_cases h2 : p.getD (k + 1) 0 < p.getD k 0
      · rw [if_pos h2] at hs
        have h3 := lwo_desc h ha h1 h2
        rw [h3] at hq ⊢
        rw [List.length_cons] at hq
        have := msr_swp (k' := 0) h h1 h2
        have hg := loop p.length f (swp p k) (q ++ [((k + 1 : Nat) : Int)]) (bc nn true true) 0 (swp_len p k) (h.swp h1) (Asc.zero _) (.inl rfl) (by omega) (by rw [List.length_append]; simp; omega)
        rw [List.append_assoc] at hg
        exact .at (.nil _) hs hg
      · rw [if_neg h2] at hs
        have := msr_next h h1
        exact .at (.nil _) hs (loop p.length f p q nn (k + 1) rfl h (ha.next h2) (.inr (by omega)) (by omega) hq)
    · rw [lwo_asc h ha hk (by omega), List.append_nil]
      exact .done (last (by omega))
end RLst
noncomputable def spRLst : ZCT := fun ax => match ax with
  | [.lst (.ints .i64 p)] => some ⟨decide (InR p), il (lwo p), [], 0⟩
  | _ => none
theorem spRLst_ok : ZCtOk Try.prog 106 spRLst := fun γ w us ax r hs hc hax hN hfz => by
  unfold spRLst at hs
  split at hs
  case h_2 => cases hs
  rename_i p
  obtain ⟨rfl⟩ := Option.some.inj hs
  have hc_0 : decide (InR p) = true := hc
  have hc := of_decide_eq_true hc_0
  exact EndZ.calls (by
    have h := RLst.in_t p
    have := hc.1
    rw [List.nil_append] at h
    simp (disch := omega) only [Nat.add_eq, eqSy_self, eqN_self, bc_same, List.length_cons, ofn, wrap_in, dt, df, bltD, bltN, ble_of, bleN, beqD, bc_t, bc_f, nn_ok, Nat.zero_add, to_nat, Int.zero_add, Int.sub_zero, Int.sub_self, Int.cast_ofNat_Int, Int.natCast_zero, Int.toNat_zero, List.take_zero, List.nil_append, List.length_append, List.length_nil] at h
    have h2 := RLst.loop p.length _ p [] false 0 rfl hc (Asc.zero _) (.inl rfl) (Nat.lt_succ_self _) (by have := lwo_len hc; simp; omega)
    exact .at (.nil _) h h2) (.nil _) (by kernel_rfl) hax hN hfz
end Go.Proofs.Ytonbfalbfdkieaa.Ev
namespace Go.Proofs.Ytonbfalbfdkieaa.Ev
open Go.Proofs
namespace PPer
noncomputable def RUN (s : ES) : ZF := RZs 149 ctSo [(atS 4 210 1, [[(0,none),(5,none),(6,none),(7,none)],[(2,some (1, 3, .ints .i64 []))],[],[],[]]), (atS 0 149 3, [[(9,none),(10,none),(11,none)]])] [2] false s

noncomputable def sV (p q : List Int) (nn : Bool) (i : Int) : NS := ⟨[⟨210, 16, [(0, (EV.yl 0)), (5, (EV.lst (SyC.ints IntKind.i64 (p)))), (6, (EV.v (Value.int IntKind.i64 (Int.ofNat (List.length p))))), (7, iv i)], [.it (.code (nav [1, 0, 0] (bodyOf Try.f210))), .it (.inLoop (nav [1, 0, 0] (bodyOf Try.f210))), .it (.inBlock 0)], [], Option.none⟩, ⟨155, 13, [(2, (EV.ptr 1 0))], [(.inRF 0), .it (.inBlock 0), .it (.code (nav [1, 1] (bodyOf Try.f155)))], [(DE.mk 2)], Option.none⟩, ⟨88, 5, [], [.ops (opsOf (nav [1, 0] (bodyOf Try.f88))) ((opsOf (nav [1, 0] (bodyOf Try.f88))).toList.drop 1), .it (.code (nav [1, 1] (bodyOf Try.f88)))], [], Option.none⟩, ⟨187, 9, [], [.ops (opsOf (nav [1, 0] (bodyOf Try.f187))) ((opsOf (nav [1, 0] (bodyOf Try.f187))).toList.drop 1), .it (.code (nav [1, 1] (bodyOf Try.f187)))], [], Option.none⟩, ⟨149, 20, [], [.ops (opsOf (nav [1, 0] (bodyOf Try.f149))) ((opsOf (nav [1, 0] (bodyOf Try.f149))).toList.drop 2), .it (.code (nav [1, 1] (bodyOf Try.f149)))], [], Option.none⟩], [(0, (EK.loop LoopState.ready Option.none 155 13 (Tr.node Option.none (Tr.node Option.none Tr.nil (Tr.node (Option.some (EV.ptr 1 0)) Tr.nil Tr.nil)) Tr.nil) (Array.mk [7]) (nav [1, 0, 1, 0, 0] (bodyOf Try.f155)) (nav [1, 0, 1, 0, 1] (bodyOf Try.f155)) 2)), (1, EK.cells 34 [EV.slO 3 1 q.length nn] true), (2, (EK.dfr true)), (3, EK.seq 3 (.ints .i64 q) nn)], 4⟩
noncomputable def sF (q : List Int) (nn : Bool) (m : Nat) (z i : Int) : NS := ⟨[⟨149, 20, [(9, EV.slO 0 1 m nn), (10, iv z), (11, iv i)], [.it (.code (nav [1, 1, 0, 1, 0, 0] (bodyOf Try.f149))), .it (.inLoop (nav [1, 1, 0, 1, 0, 0] (bodyOf Try.f149))), .it (.inBlock 0), .it (.code (nav [1, 1, 1] (bodyOf Try.f149)))], [], Option.none⟩], [(0, EK.seq 3 (.ints .i64 q) nn)], 1⟩
theorem last_t (q : List Int) (nn : Bool) (m : Nat) (z i : Int) : RUN (stOf (sF q nn m z i)) = (bc (decide (i < z)) (bc (bc (bc (decide ((0 : Int) ≤ i)) (Nat.blt (Int.toNat i) m) false) true false) (bc (bc (Nat.blt (Int.toNat i) (List.length q)) true false) (bc (i != List.getD q (Int.toNat i) (0 : Int)) (.done (EV.v (Value.bool false)) [] 0) (.at (sF (q) (nn) (m) (z) (IntKind.wrap IntKind.i64 (i + (1 : Int)))))) .bad) .bad) (.done (EV.v (Value.bool true)) [] 0)) := by kernel_rfl
theorem step_t (p q : List Int) (nn : Bool) (i : Int) : RUN (stOf (sV p q nn i)) = (bc (decide (i < Int.ofNat (List.length p))) (bc (bc (bc (decide ((0 : Int) ≤ i)) (Nat.blt (Int.toNat i) (List.length p)) false) true false) (bc (bc (Nat.blt (Int.toNat i) (List.length p)) true false) (bc (bc (Nat.beq (List.length q) (List.length q)) (bc (Nat.ble (List.length q + List.length (List.map (fun r => U.int (List.headD r (U.i (0 : Int)))) [[U.i (List.getD p (Int.toNat i) (0 : Int))]])) (65536 : Nat)) (bc nn true (bc nn false true)) false) false) (.at (sV (p) (q ++ List.map (fun r => U.int (List.headD r (U.i (0 : Int)))) [[U.i (List.getD p (Int.toNat i) (0 : Int))]]) (bc nn true (Nat.blt (0 : Nat) (List.length (List.map (fun r => U.int (List.headD r (U.i (0 : Int)))) [[U.i (List.getD p (Int.toNat i) (0 : Int))]])))) (IntKind.wrap IntKind.i64 (i + (1 : Int))))) .bad) .bad) .bad) (bc (bc (bc (Nat.beq (List.length q) (List.length q)) (bc (Nat.ble (List.length q) (65536 : Nat)) (bc nn nn true) false) false) (bc nn true false) false) (.at (sF (srt q) (nn) (List.length q) (Int.ofNat (List.length q)) ((0 : Int)))) .bad)) := by kernel_rfl
theorem in_t (p : List Int) : RUN (st0 149 [il p]) = (.at (sV (p) ([]) (false) ((0 : Int)))) := by kernel_rfl
theorem step {p q : List Int} {nn : Bool} {i : Nat} (hi : i < p.length) (hp : p.length ≤ 100) (hq : q.length ≤ i) : RUN (stOf (sV p q nn i)) = .at (sV p (q ++ [p[i]]) (bc nn true true) (i + 1 : Nat)) := by
  rw [step_t]
  have e : p.getD i 0 = p[i] := getD_at hi
  simp (disch := omega) only [Nat.add_eq, eqSy_self, eqN_self, bc_same, List.length_cons, ofn, wrap_in, dt, df, bltD, bltN, ble_of, bleN, beqD, bc_t, bc_f, nn_ok, Nat.zero_add, to_nat, Int.zero_add, Int.sub_zero, Int.sub_self, Int.cast_ofNat_Int, Int.natCast_zero, Int.toNat_zero, List.take_zero, List.nil_append, List.length_append, List.length_nil, e, List.map_cons, List.map_nil]
  rfl
theorem over {p : List Int} {i : Nat} (hi : p.length ≤ i) (hp : p.length ≤ 100) (q : List Int) (hq : q.length ≤ 100) : RUN (stOf (sV p q true i)) = .at (sF (srt q) true q.length q.length (0 : Nat)) := by
  rw [step_t]
  simp (disch := omega) only [Nat.add_eq, eqSy_self, eqN_self, bc_same, List.length_cons, ofn, wrap_in, dt, df, bltD, bltN, ble_of, bleN, beqD, bc_t, bc_f, nn_ok, Nat.zero_add, to_nat, Int.zero_add, Int.sub_zero, Int.sub_self, Int.cast_ofNat_Int, Int.natCast_zero, Int.toNat_zero, List.take_zero, List.nil_append, List.length_append, List.length_nil, srt_len]
theorem loopV {p : List Int} (hp : p.length ≤ 100) : ∀ (k i : Nat), i + k = p.length → LeadsZ Try.prog (stOf (sV p (p.take i) true i)) (stOf (sF (srt p) true p.length p.length (0 : Nat)))
  | 0, i, h => by
    obtain rfl : i = p.length := by omega
    rw [List.take_length]
    exact leadsZ ctSo_ok (over (Nat.le_refl _) hp p hp)
  | k + 1, i, h => by
    have hi : i < p.length := by omega
    have h1 := step (q := p.take i) (nn := true) hi hp (by rw [List.length_take]; omega)
    rw [← List.take_succ_eq_append_getElem hi] at h1
    exact (leadsZ ctSo_ok h1).trans (loopV hp k (i + 1) (by omega))
theorem stepF {q : List Int} {i : Nat} (hi : i < q.length) (hq : q.length ≤ 100) : RUN (stOf (sF q true q.length q.length i)) = if (i : Int) ≠ q[i] then .done (bv false) [] 0 else .at (sF q true q.length q.length (i + 1 : Nat)) := by
  rw [last_t]
  have e : q.getD i 0 = q[i] := getD_at hi
  simp (disch := omega) only [Nat.add_eq, eqSy_self, eqN_self, bc_same, List.length_cons, ofn, wrap_in, dt, df, bltD, bltN, ble_of, bleN, beqD, bc_t, bc_f, nn_ok, Nat.zero_add, to_nat, Int.zero_add, Int.sub_zero, Int.sub_self, Int.cast_ofNat_Int, Int.natCast_zero, Int.toNat_zero, List.take_zero, List.nil_append, List.length_append, List.length_nil, e]
  by_cases h : (i : Int) = q[i]
  · rw [if_neg (fun e => e h)]
    have : ((i : Int) != q[i]) = false := by simp [h]
    rw [this]; rfl
  · rw [if_pos h]
    have : ((i : Int) != q[i]) = true := by simp [h]
    rw [this]; rfl
theorem endF {q : List Int} {i : Nat} (hi : q.length ≤ i) : RUN (stOf (sF q true q.length q.length i)) = .done (bv true) [] 0 := by
  rw [last_t]
  simp (disch := omega) only [Nat.add_eq, eqSy_self, eqN_self, bc_same, List.length_cons, ofn, wrap_in, dt, df, bltD, bltN, ble_of, bleN, beqD, bc_t, bc_f, nn_ok, Nat.zero_add, to_nat, Int.zero_add, Int.sub_zero, Int.sub_self, Int.cast_ofNat_Int, Int.natCast_zero, Int.toNat_zero, List.take_zero, List.nil_append, List.length_append, List.length_nil]
theorem loopF {q : List Int} (hq : q.length ≤ 100) : ∀ (k i : Nat), i + k = q.length → EndZ 149 ctSo false (stOf (sF q true q.length q.length i)) (bv (plF i (q.drop i))) [] 0
  | 0, i, h => by
    rw [List.drop_eq_nil_of_le (by omega)]
    exact .done (endF (by omega))
  | k + 1, i, h => by
    have hi : i < q.length := by omega
    have h1 := stepF hi hq
    rw [List.drop_eq_getElem_cons hi]
    unfold plF
    by_cases h2 : (i : Int) ≠ q[i]
    · rw [if_pos h2] at h1 ⊢
      exact .done h1
    · rw [if_neg h2] at h1 ⊢
      exact .at ctSo_ok h1 (loopF hq k (i + 1) (by omega))
theorem ends {p : List Int} (h1 : 1 ≤ p.length) (hp : p.length ≤ 100) : EndZ 149 ctSo false (st0 149 [il p]) (bv (plF 0 (srt p))) [] 0 := by
  refine .at ctSo_ok (in_t p) ?_
  have h2 := step (q := []) (nn := false) (show 0 < p.length by omega) hp (Nat.le_refl _)
  rw [List.nil_append] at h2
  have e : [p[0]] = p.take 1 := by
    rw [List.take_succ_eq_append_getElem (show 0 < p.length by omega)]; rfl
  rw [e] at h2
  refine .at ctSo_ok h2 (.lead (loopV hp (p.length - 1) 1 (by omega)) ?_)
  have h3 := loopF (q := srt p) (by rw [srt_len]; exact hp) (srt p).length 0 (by omega)
  rw [srt_len] at h3
  exact h3
end PPer
noncomputable def spPPer : ZCT := fun ax => match ax with
  | [.lst (.ints .i64 p)] => some ⟨decide (1 ≤ p.length ∧ p.length ≤ 100), bv (plF 0 (srt p)), [], 0⟩
  | _ => none
theorem spPPer_ok : ZCtOk Try.prog 149 spPPer := fun γ w us ax r hs hc hax hN hfz => by
  unfold spPPer at hs
  split at hs
  case h_2 => cases hs
  rename_i p
  obtain ⟨rfl⟩ := Option.some.inj hs
  have hc_0 : decide (1 ≤ p.length ∧ p.length ≤ 100) = true := hc
  have hc := of_decide_eq_true hc_0
  exact EndZ.calls (PPer.ends hc.1 hc.2) ctSo_ok (by kernel_rfl) hax hN hfz
end Go.Proofs.Ytonbfalbfdkieaa.Ev
namespace Go.Proofs.Ytonbfalbfdkieaa.Ev
open Go.Proofs
namespace PLst
noncomputable def RUN (s : ES) : ZF := RZ 151 .nil (atS 0 151 4) [] [[(0,none),(3,some (1, 3, .ints .i64 [])),(4,none)]] false s

noncomputable def sL (z : Nat) (p q : List Int) (nn : Bool) (i : Int) : NS := ⟨[⟨151, 47, [(0, EV.slO 0 1 z true), (3, EV.slO 1 1 q.length nn), (4, iv i)], [.it (.code (nav [1, 1, 1, 0, 1, 0, 0, 0] (bodyOf Try.f151))), .it (.code (nav [1, 1, 1, 0, 1, 0, 0, 1] (bodyOf Try.f151))), .it (.inLoop (nav [1, 1, 1, 0, 1, 0, 0] (bodyOf Try.f151))), .it (.inBlock 0), .it (.code (nav [1, 1, 1, 1] (bodyOf Try.f151)))], [], Option.none⟩], [(0, EK.seq 3 (.ints .i64 p) true), (1, EK.seq 3 (.ints .i64 q) nn)], 2⟩
theorem in_t (p : List Int) : RUN (st0 151 [il p]) = (bc (bc (Nat.blt (0 : Nat) (List.length p)) true false) (bc (bc (Nat.ble ((0 : Nat) + List.length p) (65536 : Nat)) true false) (.at (sL (List.length ([] ++ p)) ([] ++ p) ([]) (false) ((1 : Int)))) .bad) .bad) := by kernel_rfl
theorem step_t (z : Nat) (p q : List Int) (nn : Bool) (i : Int) : RUN (stOf (sL z p q nn i)) = (bc (decide (i < Int.ofNat z)) (bc (bc (bc (bc (bc (decide ((0 : Int) ≤ IntKind.wrap IntKind.i64 (i - (1 : Int)))) (Nat.blt (Int.toNat (IntKind.wrap IntKind.i64 (i - (1 : Int)))) z) false) true false) (bc (bc (Nat.blt (Int.toNat (IntKind.wrap IntKind.i64 (i - (1 : Int)))) (List.length p)) true false) (bc (bc (bc (decide ((0 : Int) ≤ i)) (Nat.blt (Int.toNat i) z) false) true false) (bc (bc (Nat.blt (Int.toNat i) (List.length p)) true false) true false) false) false) false) true false) (bc (decide (List.getD p (Int.toNat (IntKind.wrap IntKind.i64 (i - (1 : Int)))) (0 : Int) < List.getD p (Int.toNat i) (0 : Int))) (.at (sL (z) (p) (q) (nn) (IntKind.wrap IntKind.i64 (i + (1 : Int))))) (bc (bc (bc (bc (bc (decide ((0 : Int) ≤ i)) (Nat.blt (Int.toNat i) z) false) true false) (bc (bc (Nat.blt (Int.toNat i) (List.length p)) true false) (bc (bc (bc (decide ((0 : Int) ≤ IntKind.wrap IntKind.i64 (i - (1 : Int)))) (Nat.blt (Int.toNat (IntKind.wrap IntKind.i64 (i - (1 : Int)))) z) false) true false) (bc (bc (Nat.blt (Int.toNat (IntKind.wrap IntKind.i64 (i - (1 : Int)))) (List.length p)) true false) (bc (bc (bc (decide ((0 : Int) ≤ IntKind.wrap IntKind.i64 (i - (1 : Int)))) (Nat.blt (Int.toNat (IntKind.wrap IntKind.i64 (i - (1 : Int)))) z) false) true false) (bc (Nat.blt (Int.toNat (IntKind.wrap IntKind.i64 (i - (1 : Int)))) (List.length p)) (bc (bc (bc (decide ((0 : Int) ≤ i)) (Nat.blt (Int.toNat i) z) false) true false) (bc (Nat.blt (Int.toNat i) (List.length (List.set p (Int.toNat (IntKind.wrap IntKind.i64 (i - (1 : Int)))) (List.getD p (Int.toNat i) (0 : Int))))) true false) false) false) false) false) false) false) false) true false) (bc (bc (Nat.beq (List.length q) (List.length q)) (bc (Nat.ble (List.length q + List.length (List.map (fun r => U.int (List.headD r (U.i (0 : Int)))) [[U.i i]])) (65536 : Nat)) (bc nn true (bc nn false true)) false) false) (.at (sL (z) (List.set (List.set p (Int.toNat (IntKind.wrap IntKind.i64 (i - (1 : Int)))) (List.getD p (Int.toNat i) (0 : Int))) (Int.toNat i) (List.getD p (Int.toNat (IntKind.wrap IntKind.i64 (i - (1 : Int)))) (0 : Int))) (q ++ List.map (fun r => U.int (List.headD r (U.i (0 : Int)))) [[U.i i]]) (bc nn true (Nat.blt (0 : Nat) (List.length (List.map (fun r => U.int (List.headD r (U.i (0 : Int)))) [[U.i i]])))) (if IntKind.wrap IntKind.i64 (i - (1 : Int)) > (1 : Int) then IntKind.wrap IntKind.i64 (i - (1 : Int)) else (1 : Int)))) .bad) .bad)) .bad) (bc (Nat.beq (List.length q) (List.length q)) (.done (EV.lst (SyC.ints IntKind.i64 (q))) [] 0) .bad)) := by kernel_rfl
theorem step {p q : List Int} {nn : Bool} {k : Nat} (hk : k + 1 < p.length) (hp : p.length ≤ 12) (hq : q.length ≤ 2000) : RUN (stOf (sL p.length p q nn (k + 1 : Nat))) = if p.getD k 0 < p.getD (k + 1) 0 then .at (sL p.length p q nn (k + 1 + 1 : Nat)) else .at (sL p.length (swp p k) (q ++ [((k + 1 : Nat) : Int)]) (bc nn true true) (k - 1 + 1 : Nat)) := by
  rw [step_t]
  have e1 : ((k + 1 : Nat) : Int) - 1 = (k : Int) := by omega
  rw [e1]
  by_cases h1 : p.getD k 0 < p.getD (k + 1) 0
  · rw [if_pos h1]
    simp (disch := omega) only [Nat.add_eq, eqSy_self, eqN_self, bc_same, List.length_cons, ofn, wrap_in, dt, df, bltD, bltN, ble_of, bleN, beqD, bc_t, bc_f, nn_ok, Nat.zero_add, to_nat, Int.zero_add, Int.sub_zero, Int.sub_self, Int.cast_ofNat_Int, Int.natCast_zero, Int.toNat_zero, List.take_zero, List.nil_append, List.length_append, List.length_nil]
    rfl
  · rw [if_neg h1]
    have e2 : (if (k : Int) > 1 then (k : Int) else 1) = ((k - 1 + 1 : Nat) : Int) := by split <;> omega
    simp (disch := omega) only [Nat.add_eq, eqSy_self, eqN_self, bc_same, List.length_cons, ofn, wrap_in, dt, df, bltD, bltN, ble_of, bleN, beqD, bc_t, bc_f, nn_ok, Nat.zero_add, to_nat, Int.zero_add, Int.sub_zero, Int.sub_self, Int.cast_ofNat_Int, Int.natCast_zero, Int.toNat_zero, List.take_zero, List.nil_append, List.length_append, List.length_nil, List.map_cons, List.map_nil, List.length_set]
    rw [e2]
    rfl
theorem last {p q : List Int} {nn : Bool} {k : Nat} (hk : p.length ≤ k + 1) : RUN (stOf (sL p.length p q nn (k + 1 : Nat))) = .done (il q) [] 0 := by
  rw [step_t]
  simp (disch := omega) only [Nat.add_eq, eqSy_self, eqN_self, bc_same, List.length_cons, ofn, wrap_in, dt, df, bltD, bltN, ble_of, bleN, beqD, bc_t, bc_f, nn_ok, Nat.zero_add, to_nat, Int.zero_add, Int.sub_zero, Int.sub_self, Int.cast_ofNat_Int, Int.natCast_zero, Int.toNat_zero, List.take_zero, List.nil_append, List.length_append, List.length_nil]
theorem loop (z : Nat) : ∀ (f : Nat) (p q : List Int) (nn : Bool) (k : Nat), p.length = z → InR p → Dis p → Asc p k → (k = 0 ∨ k < p.length) → msr p k < f → q.length + (lwo p).length ≤ 1800 → EndZ 151 .nil false (stOf (sL z p q nn (k + 1 : Nat))) (il (q ++ lwo p)) [] 0
  | 0, p, q, nn, k, hz, h, hd, ha, hk, hf, hq => by omega
  | f + 1, p, q, nn, k, hz, h, hd, ha, hk, hf, hq => by
    subst hz
    by_cases h1 : k + 1 < p.length
    · have hs := step (q := q) (nn := nn) h1 h.1 (by omega)
      by_cases h2 : p.getD k 0 < p.getD (k + 1) 0
      · rw [if_pos h2] at hs
        have := msr_next h h1
        exact .at (.nil _) hs (loop p.length f p q nn (k + 1) rfl h hd (ha.next (by omega)) (.inr (by omega)) (by omega) hq)
      · rw [if_neg h2] at hs
        have h2' : p.getD (k + 1) 0 < p.getD k 0 := by
          have : p.getD (k + 1) 0 ≠ p.getD k 0 := fun e => by have := hd _ _ h1 (by omega) e; omega
          omega
        have h3 := lwo_desc h ha h1 h2'
        rw [h3] at hq ⊢
        rw [List.length_cons] at hq
        have := msr_swp (k' := k - 1) h h1 h2'
        have hg := loop p.length f (swp p k) (q ++ [((k + 1 : Nat) : Int)]) (bc nn true true) (k - 1) (swp_len p k) (h.swp h1) (hd.swp h1) (ha.swp h1) (by rw [swp_len]; omega) (by omega) (by rw [List.length_append]; simp; omega)
        rw [List.append_assoc] at hg
        exact .at (.nil _) hs hg
    · rw [lwo_asc h ha hk (by omega), List.append_nil]
      exact .done (last (by omega))
end PLst
noncomputable def spPLst : ZCT := fun ax => match ax with
  | [.lst (.ints .i64 p)] => some ⟨decide (1 ≤ p.length ∧ InR p ∧ Dis p), il (lwo p), [], 0⟩
  | _ => none
theorem spPLst_ok : ZCtOk Try.prog 151 spPLst := fun γ w us ax r hs hc hax hN hfz => by
  unfold spPLst at hs
  split at hs
  case h_2 => cases hs
  rename_i p
  obtain ⟨rfl⟩ := Option.some.inj hs
  have hc_0 : decide (1 ≤ p.length ∧ InR p ∧ Dis p) = true := hc
  have hc := of_decide_eq_true hc_0
  exact EndZ.calls (by
    obtain ⟨h1, hr, hd⟩ := hc
    have h := PLst.in_t p
    have := hr.1
    rw [List.nil_append] at h
    simp (disch := omega) only [Nat.add_eq, eqSy_self, eqN_self, bc_same, List.length_cons, ofn, wrap_in, dt, df, bltD, bltN, ble_of, bleN, beqD, bc_t, bc_f, nn_ok, Nat.zero_add, to_nat, Int.zero_add, Int.sub_zero, Int.sub_self, Int.cast_ofNat_Int, Int.natCast_zero, Int.toNat_zero, List.take_zero, List.nil_append, List.length_append, List.length_nil] at h
    have h2 := PLst.loop p.length _ p [] false 0 rfl hr hd (Asc.zero _) (.inl rfl) (Nat.lt_succ_self _) (by have := lwo_len hr; simp; omega)
    exact .at (.nil _) h h2) (.nil _) (by kernel_rfl) hax hN hfz
namespace PUnd
noncomputable def RUN (s : ES) : ZF := RZ 152 .nil (atS 1 211 1) [3] [[(0,none),(1,none),(3,none)],[(3,some (1, 3, .ints .i64 []))]] false s

noncomputable def sV (p q : List Int) (nn : Bool) (i : Int) : NS := ⟨[⟨211, 19, [(0, (EV.yl 0)), (1, (EV.ptr 1 0)), (3, iv i)], [.it (.code (nav [1, 0, 0, 0] (bodyOf Try.f211))), .it (.code (nav [1, 0, 0, 1] (bodyOf Try.f211))), .it (.inLoop (nav [1, 0, 0] (bodyOf Try.f211))), .it (.inBlock 0)], [], Option.none⟩, ⟨152, 19, [(3, (EV.ptr 2 0))], [(.inRF 0), .it (.inBlock 0), .it (.code (nav [1, 1, 1] (bodyOf Try.f152)))], [(DE.mk 3)], Option.none⟩], [(0, (EK.loop LoopState.ready Option.none 152 19 (Tr.node Option.none Tr.nil (Tr.node Option.none Tr.nil (Tr.node (Option.some (EV.ptr 2 0)) Tr.nil Tr.nil))) (Array.mk [11, 12]) (nav [1, 1, 0, 1, 0, 0] (bodyOf Try.f152)) (nav [1, 1, 0, 1, 0, 1] (bodyOf Try.f152)) 3)), (1, (EK.cells 34 [(EV.lst (SyC.ints IntKind.i64 (p)))] true)), (2, EK.cells 34 [EV.slO 4 1 q.length nn] true), (3, (EK.dfr true)), (4, EK.seq 3 (.ints .i64 q) nn)], 5⟩
theorem in_t (p : List Int) : RUN (st0 152 [il p]) = (bc (decide (Int.ofNat (List.length p) ≤ (65536 : Int))) (.at (sV (p) (zerosL (Int.toNat (0 : Int))) (true) (IntKind.wrap IntKind.i64 (Int.ofNat (List.length p) - (1 : Int))))) .bad) := by kernel_rfl
theorem step_t (p q : List Int) (nn : Bool) (i : Int) : RUN (stOf (sV p q nn i)) = (bc (decide ((0 : Int) ≤ i)) (bc (bc (bc (decide ((0 : Int) ≤ i)) (Nat.blt (Int.toNat i) (List.length p)) false) true false) (bc (bc (Nat.blt (Int.toNat i) (List.length p)) true false) (bc (bc (Nat.beq (List.length q) (List.length q)) (bc (Nat.ble (List.length q + List.length (List.map (fun r => U.int (List.headD r (U.i (0 : Int)))) [[U.i (IntKind.wrap IntKind.i64 ((0 : Int) - List.getD p (Int.toNat i) (0 : Int)))]])) (65536 : Nat)) (bc nn true (bc nn false true)) false) false) (.at (sV (p) (q ++ List.map (fun r => U.int (List.headD r (U.i (0 : Int)))) [[U.i (IntKind.wrap IntKind.i64 ((0 : Int) - List.getD p (Int.toNat i) (0 : Int)))]]) (bc nn true (Nat.blt (0 : Nat) (List.length (List.map (fun r => U.int (List.headD r (U.i (0 : Int)))) [[U.i (IntKind.wrap IntKind.i64 ((0 : Int) - List.getD p (Int.toNat i) (0 : Int)))]])))) (IntKind.wrap IntKind.i64 (i - (1 : Int))))) .bad) .bad) .bad) (bc (Nat.beq (List.length q) (List.length q)) (.done (EV.lst (SyC.ints IntKind.i64 (q))) [] 0) .bad)) := by kernel_rfl
theorem step {l q : List Int} {i : Nat} (hi : i < l.length) (hl : l.length ≤ 2000) (hq : q.length + i < l.length) (hx : Sml l) : RUN (stOf (sV l q true i)) = .at (sV l (q ++ [- l.getD i 0]) true ((i : Int) - 1)) := by
  rw [step_t]
  have h1 := hx (l.getD i 0) (getD_mem' hi)
  simp (disch := omega) only [Nat.add_eq, eqSy_self, eqN_self, bc_same, List.length_cons, ofn, wrap_in, dt, df, bltD, bltN, ble_of, bleN, beqD, bc_t, bc_f, nn_ok, Nat.zero_add, to_nat, Int.zero_add, Int.sub_zero, Int.sub_self, Int.cast_ofNat_Int, Int.natCast_zero, Int.toNat_zero, List.take_zero, List.nil_append, List.length_append, List.length_nil, List.map_cons, List.map_nil, Int.zero_sub]
  rfl
theorem last {l q : List Int} : RUN (stOf (sV l q true (-1))) = .done (il q) [] 0 := by
  rw [step_t]
  simp (disch := omega) only [Nat.add_eq, eqSy_self, eqN_self, bc_same, List.length_cons, ofn, wrap_in, dt, df, bltD, bltN, ble_of, bleN, beqD, bc_t, bc_f, nn_ok, Nat.zero_add, to_nat, Int.zero_add, Int.sub_zero, Int.sub_self, Int.cast_ofNat_Int, Int.natCast_zero, Int.toNat_zero, List.take_zero, List.nil_append, List.length_append, List.length_nil]
theorem loop {l : List Int} (hl : l.length ≤ 2000) (hx : Sml l) : ∀ (i : Nat) (q : List Int), i ≤ l.length → q.length + i ≤ l.length → EndZ 152 .nil false (stOf (sV l q true ((i : Int) - 1))) (il (q ++ ((l.take i).map fun x => -x).reverse)) [] 0
  | 0, q, hi, h => by
    rw [List.take_zero, List.map_nil, List.reverse_nil, List.append_nil]
    exact .done last
  | i + 1, q, hi, h => by
    have h1 := step (q := q) (show i < l.length by omega) hl (by omega) hx
    rw [show (((i + 1 : Nat) : Int) - 1) = (i : Int) by omega]
    have h2 := loop hl hx i (q ++ [- l.getD i 0]) (by omega) (by simp; omega)
    rw [getD_at (show i < l.length by omega)] at h2 h1
    have e : q ++ ((l.take (i + 1)).map fun x => -x).reverse = (q ++ [-l[i]]) ++ ((l.take i).map fun x => -x).reverse := by
      rw [List.take_succ_eq_append_getElem (show i < l.length by omega), List.map_append, List.reverse_append, List.append_assoc]
      rfl
    rw [e]
    exact .at (.nil _) h1 h2
end PUnd
noncomputable def spPUnd : ZCT := fun ax => match ax with
  | [.lst (.ints .i64 l)] => some ⟨decide (l.length ≤ 2000 ∧ Sml l), il (invl l), [], 0⟩
  | _ => none
theorem spPUnd_ok : ZCtOk Try.prog 152 spPUnd := fun γ w us ax r hs hc hax hN hfz => by
  unfold spPUnd at hs
  split at hs
  case h_2 => cases hs
  rename_i l
  obtain ⟨rfl⟩ := Option.some.inj hs
  have hc_0 : decide (l.length ≤ 2000 ∧ Sml l) = true := hc
  have hc := of_decide_eq_true hc_0
  exact EndZ.calls (by
    have h := PUnd.in_t l
    rw [dt (show Int.ofNat l.length ≤ 65536 by rw [ofn]; omega), bc_t, ofn, wrap_in _ (by omega) (by omega)] at h
    have h2 := PUnd.loop hc.1 hc.2 l.length [] (Nat.le_refl _) (by simp)
    rw [List.take_length, List.nil_append] at h2
    exact .at (.nil _) h h2) (.nil _) (by kernel_rfl) hax hN hfz
end Go.Proofs.Ytonbfalbfdkieaa.Ev
namespace Go.Proofs.Ytonbfalbfdkieaa.Ev
open Go.RowKit
variable {P : Program} {γ γ' : G} {w0 : Bs} {w w' : World} {H H' : Tr EK} {n n' : Nat}
theorem HR.start (hN : ∀ i, γ i = none) (hfz : FzAt γ w) : HR γ (Bs.ofG w γ) .nil 0 w :=
  ⟨(fun i k hk => by cases hk), (fun i j ki kj hi => by cases hi), (fun i _ => hN i), (fun i hi => hi.elim), (fun i p hp => by rw [hN i] at hp; cases hp), ⟨rfl, rfl, rfl, Nat.le_refl _, fun _ _ => rfl⟩, FZ.init hfz⟩
end Go.Proofs.Ytonbfalbfdkieaa.Ev
namespace Go.Proofs.Ytonbfalbfdkieaa.Ev
open Go.Proofs
noncomputable def spMul : ZCT := fun ax => match ax with
  | [.v (.int .u64 a), .v (.int .u64 b)] => some ⟨decide (0 ≤ a ∧ a ≤ 65536 ∧ 0 ≤ b ∧ b ≤ 65536), .tup [.v (.int .u64 0), .v (.int .u64 (a * b))], [], 0⟩
  | _ => none
theorem spMul_ok : ZCtOk Try.prog 177 spMul := fun γ w us ax r hs hc hax hN hfz => by
  unfold spMul at hs
  split at hs
  case h_2 => cases hs
  rename_i a b
  obtain ⟨rfl⟩ := Option.some.inj hs
  obtain ⟨h1, h2, h3, h4⟩ := of_decide_eq_true (show decide (0 ≤ a ∧ a ≤ 65536 ∧ 0 ≤ b ∧ b ≤ 65536) = true from hc)
  obtain ⟨x, r1, e1, hx, hc1⟩ := ECL.inv hax
  obtain ⟨y, r2, e2, hy, hc2⟩ := ECL.inv hc1
  have e3 : r2 = [] := by apply List.eq_nil_of_length_eq_zero; have := hc2.1; simpa using this.symm
  have hx := ec_v hx
  have hy := ec_v hy
  subst hx; subst hy; subst e3; subst e2
  obtain ⟨a, rfl⟩ := Int.eq_ofNat_of_zero_le h1
  obtain ⟨b, rfl⟩ := Int.eq_ofNat_of_zero_le h3
  have eu : us = #[.int .u64 (a : Int), .int .u64 (b : Int)] := by apply Array.ext'; simpa using e1
  rw [eu]
  have hm : a * b ≤ 65536 * 65536 := Nat.mul_le_mul (by omega) (by omega)
  refine (Try.bits_Mul a b (by omega) (by omega) w).mono ?_
  rintro e w' ⟨rfl, rfl⟩
  rw [Nat.div_eq_of_lt (by omega), Nat.mod_eq_of_lt (by omega), Int.natCast_mul]
  exact ⟨γ, _, rfl, .tup _ [.int .u64 0, .int .u64 ((a : Int) * b)] rfl (ECL.cons (.v _) (.cons (.v _) (.nil _))).2, HR.start hN hfz⟩

noncomputable def spNo : ZCT := fun _ => none
theorem spNo_ok : ZCtOk Try.prog 0 spNo := fun _ _ _ _ _ h => by cases h
noncomputable def ctR : Tr ZCC := (Tr.nil.put 177 (some (dC spMul))).put 0 (some (dC spNo))
theorem ctR_ok : ZCtsOk Try.prog ctR := ((ZCtsOk.nil _).add rfl spMul_ok).add rfl spNo_ok
theorem repI_add (l : List Int) : ∀ a b, repI l (a + b) = repI l a ++ repI l b
  | 0, b => by rw [Nat.zero_add]; rfl
  | a + 1, b => by rw [Nat.succ_add]; show l ++ repI l (a + b) = (l ++ repI l a) ++ repI l b; rw [repI_add l a b, List.append_assoc]
theorem repI_pre (l : List Int) (a b : Nat) (h : a ≤ b) (k : Nat) (hk : k ≤ a * l.length) : (repI l b).take k = (repI l a).take k := by
  obtain ⟨d, rfl⟩ := Nat.exists_eq_add_of_le h
  rw [repI_add, List.take_append_of_le_length (by rw [repI_len]; exact hk)]
theorem repI_same (l : List Int) (a b k : Nat) (h1 : k ≤ a * l.length) (h2 : k ≤ b * l.length) : (repI l b).take k = (repI l a).take k := by
  rcases Nat.le_total a b with h | h
  · exact repI_pre l a b h k h1
  · exact (repI_pre l b a h k h2).symm

theorem Weak.sl (i z len : Nat) : Weak (.sl i z 0 len none) (.slO i z len true) := fun γ x k => by
  cases k with
  | sl _ _ _ _ _ b m c q1 q2 q3 q4 q5 q6 => exact .slO _ _ _ _ _ ⟨(fun e => by cases e), fun _ => ⟨b, m, c, q1, rfl, q2, q3, by have := q6 rfl; omega⟩⟩
namespace PRep
noncomputable def RUN (s : ES) : ZF := RZ 153 ctR (atS 0 153 8) [] [[(7,none),(8,none)]] false s
noncomputable def RUNo (s : ES) : ZF := RZ 153 ctR (atS 0 153 8) [] [[(7,none),(8,none)]] true s

noncomputable def sR (tot : Nat) (i : Int) (q : List Int) : NS := ⟨[⟨153, 48, [(7, EV.sl 0 1 0 tot none), (8, iv i)], [.it (.code (nav [1, 1, 1, 1, 1, 1, 0, 0, 0, 0] (bodyOf Try.f153))), .it (.code (nav [1, 1, 1, 1, 1, 1, 0, 0, 0, 1] (bodyOf Try.f153))), .it (.inLoop (nav [1, 1, 1, 1, 1, 1, 0, 0, 0] (bodyOf Try.f153))), .it (.inBlock 0), .it (.code (nav [1, 1, 1, 1, 1, 1, 1] (bodyOf Try.f153)))], [], Option.none⟩], [(0, EK.seq 3 (.ints .i64 q) true)], 1⟩
theorem step_t (tot : Nat) (i : Int) (q : List Int) : RUN (stOf (sR tot i q)) = (bc (decide (i < Int.ofNat tot)) (bc (bc (bc (bc (bc (bc (decide ((0 : Int) ≤ i)) (bc (decide (i ≤ Int.ofNat tot)) (decide (Int.ofNat tot ≤ Int.ofNat tot)) false) false) (decide (i < Int.ofNat tot)) false) true false) (bc (bc (bc (bc (decide ((0 : Int) ≤ i)) (decide (i ≤ Int.ofNat tot)) false) (decide ((0 : Int) < Int.ofNat tot)) false) true false) (bc (bc (Nat.ble (((0 : Nat) + Int.toNat (0 : Int) * (1 : Nat)) / (1 : Nat) + (Int.toNat i - Int.toNat (0 : Int))) (List.length q)) (bc (Nat.beq (((0 : Nat) + Int.toNat i * (1 : Nat)) / (1 : Nat) * (1 : Nat)) ((0 : Nat) + Int.toNat i * (1 : Nat))) (Nat.ble (((0 : Nat) + Int.toNat i * (1 : Nat)) / (1 : Nat) + Min.min (Int.toNat i - Int.toNat (0 : Int)) (Int.toNat (Int.ofNat tot) - Int.toNat i)) (List.length q)) false) false) true false) false) false) true false) (.at (sR (tot) (IntKind.wrap IntKind.i64 (i + Int.ofNat (Min.min (Int.toNat i - Int.toNat (0 : Int)) (Int.toNat (Int.ofNat tot) - Int.toNat i)))) (List.take (((0 : Nat) + Int.toNat i * (1 : Nat)) / (1 : Nat)) q ++ List.take (Min.min (Int.toNat i - Int.toNat (0 : Int)) (Int.toNat (Int.ofNat tot) - Int.toNat i)) (List.take (Int.toNat i - Int.toNat (0 : Int)) (List.drop (((0 : Nat) + Int.toNat (0 : Int) * (1 : Nat)) / (1 : Nat)) q)) ++ List.drop (((0 : Nat) + Int.toNat i * (1 : Nat)) / (1 : Nat) + Min.min (Int.toNat i - Int.toNat (0 : Int)) (Int.toNat (Int.ofNat tot) - Int.toNat i)) q))) .bad) (bc (Nat.beq tot (List.length q)) (.done (EV.lst (SyC.ints IntKind.i64 (q))) [] 0) .bad)) := by kernel_rfl
theorem lasto_t (tot : Nat) (i : Int) (q : List Int) : RUNo (stOf (sR tot i q)) = (bc (decide (i < Int.ofNat tot)) (bc (bc (bc (bc (bc (bc (decide ((0 : Int) ≤ i)) (bc (decide (i ≤ Int.ofNat tot)) (decide (Int.ofNat tot ≤ Int.ofNat tot)) false) false) (decide (i < Int.ofNat tot)) false) true false) (bc (bc (bc (bc (decide ((0 : Int) ≤ i)) (decide (i ≤ Int.ofNat tot)) false) (decide ((0 : Int) < Int.ofNat tot)) false) true false) (bc (bc (Nat.ble (((0 : Nat) + Int.toNat (0 : Int) * (1 : Nat)) / (1 : Nat) + (Int.toNat i - Int.toNat (0 : Int))) (List.length q)) (bc (Nat.beq (((0 : Nat) + Int.toNat i * (1 : Nat)) / (1 : Nat) * (1 : Nat)) ((0 : Nat) + Int.toNat i * (1 : Nat))) (Nat.ble (((0 : Nat) + Int.toNat i * (1 : Nat)) / (1 : Nat) + Min.min (Int.toNat i - Int.toNat (0 : Int)) (Int.toNat (Int.ofNat tot) - Int.toNat i)) (List.length q)) false) false) true false) false) false) true false) (.at (sR (tot) (IntKind.wrap IntKind.i64 (i + Int.ofNat (Min.min (Int.toNat i - Int.toNat (0 : Int)) (Int.toNat (Int.ofNat tot) - Int.toNat i)))) (List.take (((0 : Nat) + Int.toNat i * (1 : Nat)) / (1 : Nat)) q ++ List.take (Min.min (Int.toNat i - Int.toNat (0 : Int)) (Int.toNat (Int.ofNat tot) - Int.toNat i)) (List.take (Int.toNat i - Int.toNat (0 : Int)) (List.drop (((0 : Nat) + Int.toNat (0 : Int) * (1 : Nat)) / (1 : Nat)) q)) ++ List.drop (((0 : Nat) + Int.toNat i * (1 : Nat)) / (1 : Nat) + Min.min (Int.toNat i - Int.toNat (0 : Int)) (Int.toNat (Int.ofNat tot) - Int.toNat i)) q))) .bad) (.done (EV.sl 0 1 0 (tot) Option.none) [(0, (EK.seq 3 (SyC.ints IntKind.i64 (q)) true))] 1)) := by kernel_rfl
theorem in_t (l : List Int) (t : Int) : RUN (st0 153 [il l, iv t]) = (bc (decide (t < (0 : Int))) .bad (bc (bc (decide ((0 : Int) ≤ IntKind.wrap IntKind.u64 (Int.ofNat (List.length l)) ∧ IntKind.wrap IntKind.u64 (Int.ofNat (List.length l)) ≤ (65536 : Int) ∧ (0 : Int) ≤ IntKind.wrap IntKind.u64 t ∧ IntKind.wrap IntKind.u64 t ≤ (65536 : Int))) true false) (bc (decide ((9223372036854775807 : Int) < IntKind.wrap IntKind.u64 (Int.ofNat (List.length l)) * IntKind.wrap IntKind.u64 t)) .bad (bc (bc (decide ((0 : Int) ≤ IntKind.wrap IntKind.i64 (IntKind.wrap IntKind.u64 (Int.ofNat (List.length l)) * IntKind.wrap IntKind.u64 t))) (bc (decide (IntKind.wrap IntKind.i64 (IntKind.wrap IntKind.u64 (Int.ofNat (List.length l)) * IntKind.wrap IntKind.u64 t) = IntKind.wrap IntKind.i64 (IntKind.wrap IntKind.u64 (Int.ofNat (List.length l)) * IntKind.wrap IntKind.u64 t))) (decide (IntKind.wrap IntKind.i64 (IntKind.wrap IntKind.u64 (Int.ofNat (List.length l)) * IntKind.wrap IntKind.u64 t) ≤ (65536 : Int))) false) false) (bc (Nat.ble ((0 / 1 : Nat) + Min.min (List.length l) (Int.toNat (IntKind.wrap IntKind.i64 (IntKind.wrap IntKind.u64 (Int.ofNat (List.length l)) * IntKind.wrap IntKind.u64 t)))) (List.length (List.map (fun r => U.int (List.headD r (U.i (0 : Int)))) (List.replicate (Int.toNat (IntKind.wrap IntKind.i64 (IntKind.wrap IntKind.u64 (Int.ofNat (List.length l)) * IntKind.wrap IntKind.u64 t))) [U.i (0 : Int)])))) (.at (sR (Int.toNat (IntKind.wrap IntKind.i64 (IntKind.wrap IntKind.u64 (Int.ofNat (List.length l)) * IntKind.wrap IntKind.u64 t))) (Int.ofNat (Min.min (List.length l) (Int.toNat (IntKind.wrap IntKind.i64 (IntKind.wrap IntKind.u64 (Int.ofNat (List.length l)) * IntKind.wrap IntKind.u64 t))))) (List.take (0 / 1 : Nat) (List.map (fun r => U.int (List.headD r (U.i (0 : Int)))) (List.replicate (Int.toNat (IntKind.wrap IntKind.i64 (IntKind.wrap IntKind.u64 (Int.ofNat (List.length l)) * IntKind.wrap IntKind.u64 t))) [U.i (0 : Int)])) ++ List.take (Min.min (List.length l) (Int.toNat (IntKind.wrap IntKind.i64 (IntKind.wrap IntKind.u64 (Int.ofNat (List.length l)) * IntKind.wrap IntKind.u64 t)))) l ++ List.drop ((0 / 1 : Nat) + Min.min (List.length l) (Int.toNat (IntKind.wrap IntKind.i64 (IntKind.wrap IntKind.u64 (Int.ofNat (List.length l)) * IntKind.wrap IntKind.u64 t)))) (List.map (fun r => U.int (List.headD r (U.i (0 : Int)))) (List.replicate (Int.toNat (IntKind.wrap IntKind.i64 (IntKind.wrap IntKind.u64 (Int.ofNat (List.length l)) * IntKind.wrap IntKind.u64 t))) [U.i (0 : Int)]))))) .bad) .bad)) .bad)) := by kernel_rfl
theorem step {tot i : Nat} {q : List Int} (hi : i < tot) (h0 : 0 < i) (ht : tot ≤ 65536) (hq : q.length = tot) : RUN (stOf (sR tot i q)) = .at (sR tot (i + min i (tot - i) : Nat) (q.take i ++ (q.take i).take (min i (tot - i)) ++ q.drop (i + min i (tot - i)))) := by
  rw [step_t]
  have e1 : (0 + Int.toNat (i : Int) * 1) = i * 1 := by omega
  have e2 : (0 + Int.toNat 0 * 1) / 1 = 0 := rfl
  have e3 : Int.toNat (i : Int) - Int.toNat 0 = i := by omega
  have e4 : Int.toNat (Int.ofNat tot) - Int.toNat (i : Int) = tot - i := by show tot - i = tot - i; rfl
  have e5 : i * 1 / 1 = i := by omega
  have e6 : Int.toNat (i : Int) = i := rfl
  simp only [e1, e2, e3, e4, e5]
  simp (disch := omega) only [Nat.add_eq, eqSy_self, eqN_self, bc_same, List.length_cons, ofn, wrap_in, dt, df, bltD, bltN, ble_of, bleN, beqD, bc_t, bc_f, nn_ok, Nat.zero_add, to_nat, Int.zero_add, Int.sub_zero, Int.sub_self, Int.cast_ofNat_Int, Int.natCast_zero, Int.toNat_zero, List.take_zero, List.nil_append, List.length_append, List.length_nil, List.drop_zero, hq]
  rfl
theorem last {tot i : Nat} {q : List Int} (hi : tot ≤ i) (hq : q.length = tot) : RUNo (stOf (sR tot i q)) = .done (.sl 0 1 0 q.length none) (zseqs [(0, 3, .ints .i64 q, true)]) 1 := by
  rw [lasto_t]
  subst hq
  simp (disch := omega) only [Nat.add_eq, eqSy_self, eqN_self, bc_same, List.length_cons, ofn, wrap_in, dt, df, bltD, bltN, ble_of, bleN, beqD, bc_t, bc_f, nn_ok, Nat.zero_add, to_nat, Int.zero_add, Int.sub_zero, Int.sub_self, Int.cast_ofNat_Int, Int.natCast_zero, Int.toNat_zero, List.take_zero, List.nil_append, List.length_append, List.length_nil]
  rfl
theorem loop {l : List Int} {t tot : Nat} (ht : tot = t * l.length) (hs : tot ≤ 65536) : ∀ (d i : Nat) (q : List Int), tot - i ≤ d → i ≤ tot → (i = tot ∨ ∃ a, i = a * l.length ∧ 0 < i) → q.length = tot → q.take i = (repI l t).take i → EndZ 153 ctR true (stOf (sR tot i q)) (.slO 0 1 (repI l t).length true) (zseqs [(0, 3, .ints .i64 (repI l t), true)]) 1 := by
  have fin : ∀ (q : List Int), q.length = tot → q.take tot = (repI l t).take tot → EndZ 153 ctR true (stOf (sR tot tot q)) (.slO 0 1 (repI l t).length true) (zseqs [(0, 3, .ints .i64 (repI l t), true)]) 1 := fun q hq he => by
    rw [List.take_of_length_le (by omega), List.take_of_length_le (by rw [repI_len]; omega)] at he
    rw [← he]
    exact (EndZ.done (last (Nat.le_refl _) hq)).weak (Weak.sl _ _ _)
  intro d
  induction d with
  | zero =>
    intro i q hd hi _ hq he
    have : i = tot := by omega
    subst this
    exact fin q hq he
  | succ d ih =>
    intro i q hd hi ha hq he
    rcases ha with rfl | ⟨a, hia, h0⟩
    · exact fin q hq he
    by_cases hlt : i < tot
    · refine .at ctR_ok (step hlt h0 hs hq) (ih _ _ (by omega) (by omega) ?_ ?_ ?_)
      · by_cases hc : i ≤ tot - i
        · right; exact ⟨a + a, by rw [Nat.min_eq_left hc, Nat.add_mul]; omega, by omega⟩
        · left; rw [Nat.min_eq_right (by omega)]; omega
      · simp only [List.length_append, List.length_take, List.length_drop, hq]; omega
      · have hat : a ≤ t := by
          rcases Nat.lt_or_ge t a with h | h
          · have := Nat.mul_le_mul_right l.length (Nat.le_of_lt h); omega
          · exact h
        have hsub : (t - a) * l.length = tot - i := by rw [Nat.sub_mul]; omega
        have hP : repI l t = repI l a ++ repI l (t - a) := by rw [← repI_add]; congr 1; omega
        have hlen : (q.take i ++ (q.take i).take (min i (tot - i))).length = i + min i (tot - i) := by
          simp only [List.length_append, List.length_take, hq]; omega
        rw [List.take_left' hlen, he, hP]
        have hla : (repI l a).length = i := by rw [repI_len]; exact hia.symm
        have h9 : (repI l a).take (i + min i (tot - i)) = repI l a := List.take_of_length_le (by omega)
        have h10 : i + min i (tot - i) - i = min i (tot - i) := by omega
        rw [List.take_left' hla, List.take_append, hla, h9, h10]
        congr 1
        symm
        exact repI_same _ _ _ _ (by rw [← hia]; omega) (by rw [hsub]; omega)
    · have : i = tot := by omega
      subst this
      exact fin q hq he
theorem ends (l : List Int) (k : Nat) (hk : k ≤ 400) (hl : l.length ≤ 2000) (hm : k * l.length ≤ 65536) : EndZ 153 ctR true (st0 153 [il l, iv k]) (.slO 0 1 (repI l k).length true) (zseqs [(0, 3, .ints .i64 (repI l k), true)]) 1 := by
  have h := in_t l k
  have wu : ∀ n : Nat, n ≤ 65536 → IntKind.wrap IntKind.u64 (n : Int) = n := fun n hn => by rw [IntKind.wrap_u64]; omega
  have w1 : IntKind.wrap IntKind.u64 (Int.ofNat l.length) = (l.length : Int) := wu _ (by omega)
  have w2 : IntKind.wrap IntKind.u64 (k : Int) = (k : Int) := wu _ (by omega)
  have w3 : (l.length : Int) * (k : Int) = ((k * l.length : Nat) : Int) := by rw [Int.natCast_mul, Int.mul_comm]
  have w4 : IntKind.wrap IntKind.i64 ((k * l.length : Nat) : Int) = ((k * l.length : Nat) : Int) := by simp (disch := omega) only [wrap_in]
  simp only [w1, w2, w3, w4] at h
  generalize htot : k * l.length = tot at *
  have d1 : ¬ (k : Int) < 0 := by omega
  have d2 : (0 : Int) ≤ (l.length : Int) ∧ (l.length : Int) ≤ 65536 ∧ (0 : Int) ≤ (k : Int) ∧ (k : Int) ≤ 65536 := by omega
  have d3 : ¬ (9223372036854775807 : Int) < (tot : Int) := by omega
  have d4 : (0 : Int) ≤ (tot : Int) := by omega
  have d5 : (tot : Int) ≤ 65536 := by omega
  have z3 : (0 / 1 : Nat) = 0 := rfl
  have t1 : Int.toNat (tot : Int) = tot := rfl
  simp only [df d1, dt d2, df d3, dt d4, dt d5, bc_t, bc_f, decide_true, z3, t1, Nat.zero_add, List.length_map, List.length_replicate, List.take_zero, List.nil_append] at h
  rw [ble_of (by omega), bc_t] at h
  refine .at ctR_ok h (loop htot.symm hm tot (min l.length tot) _ (by omega) (by omega) ?_ ?_ ?_)
  · rcases Nat.eq_zero_or_pos k with rfl | hk0
    · left; omega
    · rcases Nat.eq_zero_or_pos l.length with h0 | h0
      · left; rw [← htot, h0]; omega
      · have : 1 * l.length ≤ k * l.length := Nat.mul_le_mul_right _ hk0
        right; exact ⟨1, by omega, by omega⟩
  · simp only [List.length_append, List.length_take, List.length_drop, List.length_map, List.length_replicate]; omega
  · rw [List.take_left' (by rw [List.length_take]; omega)]
    rcases Nat.eq_zero_or_pos k with rfl | hk0
    · have : tot = 0 := by omega
      subst this; simp
    · have e := repI_pre l 1 k hk0 (min l.length tot) (by omega)
      rw [e, show repI l 1 = l from List.append_nil l]
end PRep
noncomputable def spRepI : ZCT := fun ax => match ax with
  | [.lst (.ints .i64 l), .v (.int .i64 k)] => some ⟨decide (0 ≤ k ∧ k ≤ 400 ∧ l.length ≤ 2000 ∧ k * (l.length : Int) ≤ 65536), .slO 0 1 (repI l k.toNat).length true, [(0, 3, .ints .i64 (repI l k.toNat), true)], 1⟩
  | _ => none
theorem spRepI_ok : ZCtOk Try.prog 153 spRepI := fun γ w us ax r hs hc hax hN hfz => by
  unfold spRepI at hs
  split at hs
  case h_2 => cases hs
  rename_i l k
  obtain ⟨rfl⟩ := Option.some.inj hs
  have hc_0 : decide (0 ≤ k ∧ k ≤ 400 ∧ l.length ≤ 2000 ∧ k * (l.length : Int) ≤ 65536) = true := hc
  have hc := of_decide_eq_true hc_0
  exact EndZ.calls (by obtain ⟨k, rfl⟩ := Int.eq_ofNat_of_zero_le hc.1; exact PRep.ends l k (by omega) hc.2.2.1 (by have h9 := hc.2.2.2; rw [← Int.natCast_mul] at h9; omega)) ctR_ok (by kernel_rfl) hax hN hfz
end Go.Proofs.Ytonbfalbfdkieaa.Ev
namespace Go.Proofs.Ytonbfalbfdkieaa.Ev
open Go.Proofs
noncomputable def ctRW : Tr ZCC := (((Tr.nil.put 105 (some (dC spRLin))).put 107 (some (dC spRInv))).put 104 (some (dC spRPer))).put 106 (some (dC spRLst))
theorem ctRW_ok : ZCtsOk Try.prog ctRW := ((((ZCtsOk.nil _).add rfl spRLin_ok).add rfl spRInv_ok).add rfl spRPer_ok).add rfl spRLst_ok

noncomputable def fac (r : List U) : List Int := List.map (fun r => U.int (List.headD r (U.i 0))) (U.list (List.getD r 0 (U.i 0)))

noncomputable def dd (n : Nat) (c : Int) : List Int := if c < 0 then invl (lwo (dlt n)) else lwo (dlt n)
noncomputable def wout (n : Nat) (c : Int) (F : List (List U)) : List Int := lp2 (F.map fac) (lp1 (dd n c) c.natAbs [])
noncomputable def okF (n : Nat) (F : List (List U)) : Bool := F.all fun r => prm n (fac r)
noncomputable def wE (n c : Int) (F : List (List U)) : Int := if n < 1 then 2 else if 12 < n then 2 else if okF n.toNat F = false then 6 else if 0 < (lwo (dlt n.toNat)).length ∧ (400 < c ∨ c < -400) then 3 else if 400 < (wout n.toNat c F).length then 3 else 0
noncomputable def wL (n c : Int) (F : List (List U)) : List Int := if wE n c F = 0 then wout n.toNat c F else []
noncomputable abbrev shWo (n c : Int) (F : List (List U)) : EV := .tup [il (wL n c F), iv (wE n c F)]
theorem wo_err {n c : Int} {F : List (List U)} {e : Int} (h : wE n c F = e) (h0 : e ≠ 0) : Weak (.tup [.v (.slice none 0 0), iv e]) (shWo n c F) := by
  unfold shWo wL
  rw [h, if_neg h0]
  exact Weak.tup (.cons (Weak.nilI _) (.cons (Weak.refl _) .nil))
theorem prm_ok {n : Nat} {p : List Int} (hn : n ≤ 12) (h : prm n p = true) : InR p ∧ Dis p := by
  unfold prm at h
  obtain ⟨h1, h2⟩ := bcT h
  have h2 : (p.length : Int) = n := by simpa using h2
  exact prF_dis (by omega) hn h1
theorem prm_off {n : Nat} {p : List Int} (h : prm n p = true) : p.length = n := by
  unfold prm at h
  obtain ⟨h1, h2⟩ := bcT h
  have h2 : (p.length : Int) = n := by simpa using h2
  omega
theorem dd_len {n : Nat} {c : Int} : (dd n c).length = (lwo (dlt n)).length := by
  unfold dd
  split
  · exact invl_len _
  · rfl
noncomputable abbrev fl (F : List (List U)) : EV := .lst (.recs [.list [.int .i64]] F)
namespace RWor
noncomputable def RUN (s : ES) : ZF := RZs 38 ctRW [(atS 0 38 4, [[(0,none),(1,none),(2,none),(8,none)]]), (atS 0 38 10, [[(0,none),(1,none),(2,none),(9,none),(10,none)]]), (atS 0 38 20, [[(1,none),(2,none),(11,none),(12,some (1, 3, .ints .i64 [])),(13,none)]]), (atS 0 38 24, [[(2,none),(12,some (1, 3, .ints .i64 [])),(14,none)]])] [] false s

noncomputable def sA (n c : Int) (F : List (List U)) (i : Int) : NS := ⟨[⟨38, 106, [(0, (EV.v (Value.int IntKind.i64 (n)))), (1, (EV.v (Value.int IntKind.i64 (c)))), (2, (EV.lst (SyC.recs [(Sh.list [(Sh.int IntKind.i64)])] (F)))), (8, iv i)], [.it (.code (nav [1, 1, 0, 1, 0, 0, 0] (bodyOf Try.f38))), .it (.code (nav [1, 1, 0, 1, 0, 0, 1] (bodyOf Try.f38))), .it (.inLoop (nav [1, 1, 0, 1, 0, 0] (bodyOf Try.f38))), .it (.inBlock 0), .it (.code (nav [1, 1, 1] (bodyOf Try.f38)))], [], Option.none⟩], [], 0⟩
noncomputable def sB (n c : Int) (F : List (List U)) (z : Nat) (d : List Int) (i : Int) : NS := ⟨[⟨38, 106, [(0, (EV.v (Value.int IntKind.i64 (n)))), (1, (EV.v (Value.int IntKind.i64 (c)))), (2, fl F), (9, EV.slO 0 1 z true), (10, iv i)], [.it (.code (nav [1, 1, 1, 1, 0, 1, 0, 0, 0] (bodyOf Try.f38))), .it (.code (nav [1, 1, 1, 1, 0, 1, 0, 0, 1] (bodyOf Try.f38))), .it (.inLoop (nav [1, 1, 1, 1, 0, 1, 0, 0] (bodyOf Try.f38))), .it (.inBlock 2), .it (.code (nav [1, 1, 1, 1, 1] (bodyOf Try.f38)))], [], Option.none⟩], [(0, EK.seq 3 (.ints .i64 d) true)], 1⟩
noncomputable def sC (c : Int) (F : List (List U)) (d q : List Int) (nn : Bool) (i : Int) : NS := ⟨[⟨38, 106, [(1, iv c), (2, (EV.lst (SyC.recs [(Sh.list [(Sh.int IntKind.i64)])] (F)))), (11, il d), (12, EV.slO 0 1 q.length nn), (13, iv i)], [.it (.code (nav [1, 1, 1, 1, 1, 1, 1, 1, 1, 0, 1, 0, 0, 0] (bodyOf Try.f38))), .it (.code (nav [1, 1, 1, 1, 1, 1, 1, 1, 1, 0, 1, 0, 0, 1] (bodyOf Try.f38))), .it (.inLoop (nav [1, 1, 1, 1, 1, 1, 1, 1, 1, 0, 1, 0, 0] (bodyOf Try.f38))), .it (.inBlock 4), .it (.code (nav [1, 1, 1, 1, 1, 1, 1, 1, 1, 1] (bodyOf Try.f38)))], [], Option.none⟩], [(0, EK.seq 3 (.ints .i64 q) nn)], 1⟩
noncomputable def sD (F : List (List U)) (q : List Int) (nn : Bool) (i : Int) : NS := ⟨[⟨38, 106, [(2, (EV.lst (SyC.recs [(Sh.list [(Sh.int IntKind.i64)])] (F)))), (12, EV.slO 0 1 q.length nn), (14, iv i)], [.it (.code (nav [1, 1, 1, 1, 1, 1, 1, 1, 1, 1, 0, 1, 0, 0, 0] (bodyOf Try.f38))), .it (.code (nav [1, 1, 1, 1, 1, 1, 1, 1, 1, 1, 0, 1, 0, 0, 1] (bodyOf Try.f38))), .it (.inLoop (nav [1, 1, 1, 1, 1, 1, 1, 1, 1, 1, 0, 1, 0, 0] (bodyOf Try.f38))), .it (.inBlock 6), .it (.code (nav [1, 1, 1, 1, 1, 1, 1, 1, 1, 1, 1] (bodyOf Try.f38)))], [], Option.none⟩], [(0, EK.seq 3 (.ints .i64 q) nn)], 1⟩
theorem in_t (n c : Int) (F : List (List U)) : RUN (st0 38 [iv n, iv c, fl F]) = (bc (decide (n < (1 : Int))) (.done (EV.tup [(EV.v (Value.slice Option.none 0 0)), (EV.v (Value.int IntKind.i64 (2)))]) [] 0) (bc (decide ((12 : Int) < n)) (.done (EV.tup [(EV.v (Value.slice Option.none 0 0)), (EV.v (Value.int IntKind.i64 (2)))]) [] 0) (.at (sA (n) (c) (F) ((0 : Int)))))) := by kernel_rfl
theorem a_t (n c : Int) (F : List (List U)) (i : Int) : RUN (stOf (sA n c F i)) = (bc (decide (i < Int.ofNat (List.length F))) (bc (bc (bc (decide ((0 : Int) ≤ i)) (Nat.blt (Int.toNat i) (List.length F)) false) true false) (bc (bc (Nat.blt (Int.toNat i) (List.length F)) true false) (bc (bc (decide (List.length (List.map (fun r => U.int (List.headD r (U.i (0 : Int)))) (U.list (List.getD (List.getD F (Int.toNat i) []) (0 : Nat) (U.i (0 : Int))))) ≤ (100 : Nat) ∧ (0 : Int) ≤ n ∧ n ≤ (12 : Int))) true false) (bc (!prm (Int.toNat n) (List.map (fun r => U.int (List.headD r (U.i (0 : Int)))) (U.list (List.getD (List.getD F (Int.toNat i) []) (0 : Nat) (U.i (0 : Int)))))) (.done (EV.tup [(EV.v (Value.slice Option.none 0 0)), (EV.v (Value.int IntKind.i64 (6)))]) [] 0) (.at (sA (n) (c) (F) (IntKind.wrap IntKind.i64 (i + (1 : Int)))))) .bad) .bad) .bad) (bc (decide ((1 : Int) ≤ n ∧ n ≤ (12 : Int))) (.at (sB (n) (c) (F) (List.length (lin (Int.toNat n))) (lin (Int.toNat n)) ((0 : Int)))) .bad)) := by kernel_rfl
theorem b_t (n c : Int) (F : List (List U)) (z : Nat) (d : List Int) (i : Int) : RUN (stOf (sB n c F z d i)) = (bc (decide (i < n)) (bc (bc (bc (decide ((0 : Int) ≤ i)) (Nat.blt (Int.toNat i) z) false) true false) (bc (Nat.blt (Int.toNat i) (List.length d)) (.at (sB (n) (c) (F) (z) (List.set d (Int.toNat i) (IntKind.wrap IntKind.i64 (IntKind.wrap IntKind.i64 (n - (1 : Int)) - i))) (IntKind.wrap IntKind.i64 (i + (1 : Int))))) .bad) .bad) (bc (bc (bc (Nat.beq z (List.length d)) true false) (decide (InR d)) false) (bc (decide ((0 : Int) < Int.ofNat (List.length (lwo d)))) (bc (decide ((400 : Int) < c)) (.done (EV.tup [(EV.v (Value.slice Option.none 0 0)), (EV.v (Value.int IntKind.i64 (3)))]) [] 0) (bc (decide (c < (-400 : Int))) (.done (EV.tup [(EV.v (Value.slice Option.none 0 0)), (EV.v (Value.int IntKind.i64 (3)))]) [] 0) (bc (decide (c < (0 : Int))) (bc (decide (List.length (lwo d) ≤ (2000 : Nat) ∧ Sml (lwo d))) (.at (sC (c) (F) (invl (lwo d)) ([]) (false) ((0 : Int)))) .bad) (.at (sC (c) (F) (lwo d) ([]) (false) ((0 : Int))))))) (bc (decide (c < (0 : Int))) (bc (decide (List.length (lwo d) ≤ (2000 : Nat) ∧ Sml (lwo d))) (.at (sC (c) (F) (invl (lwo d)) ([]) (false) ((0 : Int)))) .bad) (.at (sC (c) (F) (lwo d) ([]) (false) ((0 : Int)))))) .bad)) := by kernel_rfl
theorem c_t (c : Int) (F : List (List U)) (d q : List Int) (nn : Bool) (i : Int) : RUN (stOf (sC c F d q nn i)) = (bc (decide (i < if IntKind.wrap IntKind.i64 ((0 : Int) - c) > c then IntKind.wrap IntKind.i64 ((0 : Int) - c) else c)) (bc (decide ((0 : Int) < Int.ofNat (List.length d))) (bc (decide (Int.ofNat (List.length q) ≤ (400 : Int))) (bc (bc (Nat.beq (List.length q) (List.length q)) (bc (Nat.ble (List.length q + List.length d) (65536 : Nat)) (bc nn true (bc nn false true)) false) false) (.at (sC (c) (F) (d) (q ++ d) (bc nn true (Nat.blt (0 : Nat) (List.length d))) (IntKind.wrap IntKind.i64 (i + (1 : Int))))) .bad) (.at (sD (F) (q) (nn) ((0 : Int))))) (.at (sD (F) (q) (nn) ((0 : Int))))) (.at (sD (F) (q) (nn) ((0 : Int))))) := by kernel_rfl
theorem d_t (F : List (List U)) (q : List Int) (nn : Bool) (i : Int) : RUN (stOf (sD F q nn i)) = (bc (decide (i < Int.ofNat (List.length F))) (bc (decide (Int.ofNat (List.length q) ≤ (400 : Int))) (bc (bc (bc (decide ((0 : Int) ≤ i)) (Nat.blt (Int.toNat i) (List.length F)) false) true false) (bc (bc (Nat.blt (Int.toNat i) (List.length F)) true false) (bc (decide (InR (List.map (fun r => U.int (List.headD r (U.i (0 : Int)))) (U.list (List.getD (List.getD F (Int.toNat i) []) (0 : Nat) (U.i (0 : Int))))))) (bc (bc (Nat.beq (List.length q) (List.length q)) (bc (Nat.ble (List.length q + List.length (lwo (List.map (fun r => U.int (List.headD r (U.i (0 : Int)))) (U.list (List.getD (List.getD F (Int.toNat i) []) (0 : Nat) (U.i (0 : Int))))))) (65536 : Nat)) (bc nn true (bc nn false true)) false) false) (.at (sD (F) (q ++ lwo (List.map (fun r => U.int (List.headD r (U.i (0 : Int)))) (U.list (List.getD (List.getD F (Int.toNat i) []) (0 : Nat) (U.i (0 : Int)))))) (bc nn true (Nat.blt (0 : Nat) (List.length (lwo (List.map (fun r => U.int (List.headD r (U.i (0 : Int)))) (U.list (List.getD (List.getD F (Int.toNat i) []) (0 : Nat) (U.i (0 : Int))))))))) (IntKind.wrap IntKind.i64 (i + (1 : Int))))) .bad) .bad) .bad) .bad) (bc (decide ((400 : Int) < Int.ofNat (List.length q))) (.done (EV.tup [(EV.v (Value.slice Option.none 0 0)), (EV.v (Value.int IntKind.i64 (3)))]) [] 0) (bc (bc (Nat.beq (List.length q) (List.length q)) true false) (.done (EV.tup [(EV.lst (SyC.ints IntKind.i64 (q))), (EV.v (Value.int IntKind.i64 (0)))]) [] 0) .bad))) (bc (decide ((400 : Int) < Int.ofNat (List.length q))) (.done (EV.tup [(EV.v (Value.slice Option.none 0 0)), (EV.v (Value.int IntKind.i64 (3)))]) [] 0) (bc (bc (Nat.beq (List.length q) (List.length q)) true false) (.done (EV.tup [(EV.lst (SyC.ints IntKind.i64 (q))), (EV.v (Value.int IntKind.i64 (0)))]) [] 0) .bad))) := by kernel_rfl
theorem stepA {n : Nat} {c : Int} {F : List (List U)} {i : Nat} (hi : i < F.length) (hF : F.length ≤ 100) (hn : 1 ≤ n) (hn2 : n ≤ 12) (hf : (fac F[i]).length ≤ 100) : RUN (stOf (sA n c F i)) = bc (!prm n (fac F[i])) (.done (.tup [.v (.slice none 0 0), iv 6]) [] 0) (.at (sA n c F (i + 1 : Nat))) := by
  rw [a_t]
  have e : F.getD i [] = F[i] := getD_at hi
  rw [to_nat, e]
  have e2 : List.map (fun r => U.int (List.headD r (U.i 0))) (U.list (List.getD F[i] 0 (U.i 0))) = fac F[i] := rfl
  rw [e2]
  simp (disch := omega) only [Nat.add_eq, eqSy_self, eqN_self, bc_same, List.length_cons, ofn, wrap_in, dt, df, bltD, bltN, ble_of, bleN, beqD, bc_t, bc_f, nn_ok, Nat.zero_add, to_nat, Int.zero_add, Int.sub_zero, Int.sub_self, Int.cast_ofNat_Int, Int.natCast_zero, Int.toNat_zero, List.take_zero, List.nil_append, List.length_append, List.length_nil]
  rfl
theorem lastA {n : Nat} {c : Int} {F : List (List U)} {i : Nat} (hi : F.length ≤ i) (hn : 1 ≤ n) (hn2 : n ≤ 12) : RUN (stOf (sA n c F i)) = .at (sB n c F n (lin n) (0 : Nat)) := by
  rw [a_t]
  simp (disch := omega) only [Nat.add_eq, eqSy_self, eqN_self, bc_same, List.length_cons, ofn, wrap_in, dt, df, bltD, bltN, ble_of, bleN, beqD, bc_t, bc_f, nn_ok, Nat.zero_add, to_nat, Int.zero_add, Int.sub_zero, Int.sub_self, Int.cast_ofNat_Int, Int.natCast_zero, Int.toNat_zero, List.take_zero, List.nil_append, List.length_append, List.length_nil]
  rw [lin_len]
theorem badA {n : Nat} {c : Int} {F : List (List U)} (hF : F.length ≤ 100) (hn : 1 ≤ n) (hn2 : n ≤ 12) (hf : ∀ r, r ∈ F → (fac r).length ≤ 100) : ∀ (k i : Nat), i + k = F.length → okF n (F.drop i) = false → EndZ 38 ctRW false (stOf (sA n c F i)) (.tup [.v (.slice none 0 0), iv 6]) [] 0
  | 0, i, h, hb => by
    rw [List.drop_eq_nil_of_le (by omega)] at hb
    cases hb
  | k + 1, i, h, hb => by
    have hi : i < F.length := by omega
    have h1 := stepA (c := c) hi hF hn hn2 (hf _ (List.getElem_mem hi))
    rw [List.drop_eq_getElem_cons hi] at hb
    unfold okF at hb
    rw [List.all_cons] at hb
    cases hp : prm n (fac F[i]) with
    | false =>
      rw [hp] at h1
      exact .done h1
    | true =>
      rw [hp] at h1 hb
      exact .at ctRW_ok h1 (badA hF hn hn2 hf k (i + 1) (by omega) hb)
theorem goodA {n : Nat} {c : Int} {F : List (List U)} (hF : F.length ≤ 100) (hn : 1 ≤ n) (hn2 : n ≤ 12) (hf : ∀ r, r ∈ F → (fac r).length ≤ 100) : ∀ (k i : Nat), i + k = F.length → okF n (F.drop i) = true → LeadsZ Try.prog (stOf (sA n c F i)) (stOf (sB n c F n (lin n) (0 : Nat)))
  | 0, i, h, hb => leadsZ ctRW_ok (lastA (by omega) hn hn2)
  | k + 1, i, h, hb => by
    have hi : i < F.length := by omega
    have h1 := stepA (c := c) hi hF hn hn2 (hf _ (List.getElem_mem hi))
    rw [List.drop_eq_getElem_cons hi] at hb
    unfold okF at hb
    rw [List.all_cons, Bool.and_eq_true] at hb
    rw [hb.1] at h1
    exact (leadsZ ctRW_ok h1).trans (goodA hF hn hn2 hf k (i + 1) (by omega) hb.2)
theorem stepB {n : Nat} {c : Int} {F : List (List U)} {d : List Int} {i : Nat} (hi : i < n) (hn2 : n ≤ 12) (hd : d.length = n) : RUN (stOf (sB n c F n d i)) = .at (sB n c F n (d.set i ((n : Int) - 1 - (i : Int))) (i + 1 : Nat)) := by
  rw [b_t]
  simp (disch := omega) only [Nat.add_eq, eqSy_self, eqN_self, bc_same, List.length_cons, ofn, wrap_in, dt, df, bltD, bltN, ble_of, bleN, beqD, bc_t, bc_f, nn_ok, Nat.zero_add, to_nat, Int.zero_add, Int.sub_zero, Int.sub_self, Int.cast_ofNat_Int, Int.natCast_zero, Int.toNat_zero, List.take_zero, List.nil_append, List.length_append, List.length_nil]
  rfl
theorem loopB {n : Nat} {c : Int} {F : List (List U)} (hn2 : n ≤ 12) : ∀ (k i : Nat) (d : List Int), i + k = n → d.length = n → (∀ j, j < i → d.getD j 0 = (n : Int) - 1 - (j : Int)) → LeadsZ Try.prog (stOf (sB n c F n d i)) (stOf (sB n c F n (dlt n) n))
  | 0, i, d, h, hd, hj => by
    have : d = dlt n := by
      apply List.ext_getElem (by rw [hd, dlt_len])
      intro j h1 h2
      have h3 := hj j (by omega)
      have h4 := dlt_get (n := n) (a := j) (by omega)
      rw [getD_at h1] at h3
      rw [getD_at h2] at h4
      rw [h3, h4]
    subst this
    obtain rfl : i = n := by omega
    exact LeadsZ.refl _
  | k + 1, i, d, h, hd, hj => by
    have h1 := stepB (c := c) (F := F) (show i < n by omega) hn2 hd
    refine (leadsZ ctRW_ok h1).trans (loopB hn2 k (i + 1) _ (by omega) (by simpa using hd) fun j hj2 => ?_)
    rw [gset]
    split
    · rename_i e; rw [e.1]
    · rename_i e
      exact hj j (by
        rcases Nat.lt_or_ge j i with h5 | h5
        · exact h5
        · exact absurd ⟨by omega, by omega⟩ e)
theorem loopC {c : Int} {F : List (List U)} {d : List Int} (hd : 0 < d.length) (hd2 : d.length ≤ 2000) (hc1 : -400 ≤ c) (hc2 : c ≤ 400) : ∀ (k i : Nat) (q : List Int) (nn : Bool), i + k = c.natAbs → q.length ≤ 2400 → ∃ nn', LeadsZ Try.prog (stOf (sC c F d q nn i)) (stOf (sD F (lp1 d k q) nn' (0 : Nat)))
  | 0, i, q, nn, h, hq => by
    have h1 := c_t c F d q nn i
    have e : (if IntKind.i64.wrap (0 - c) > c then IntKind.i64.wrap (0 - c) else c) = (i : Int) := by
      rw [wrap_in _ (by omega) (by omega)]
      split <;> omega
    rw [e, df (show ¬ (i : Int) < i by omega), bc_f] at h1
    exact ⟨nn, leadsZ ctRW_ok h1⟩
  | k + 1, i, q, nn, h, hq => by
    have h1 := c_t c F d q nn i
    have e : (if IntKind.i64.wrap (0 - c) > c then IntKind.i64.wrap (0 - c) else c) = ((i + k + 1 : Nat) : Int) := by
      rw [wrap_in _ (by omega) (by omega)]
      split <;> omega
    rw [e] at h1
    unfold lp1
    rw [if_pos hd]
    by_cases h2 : q.length ≤ 400
    · rw [if_pos h2]
      simp (disch := omega) only [Nat.add_eq, eqSy_self, eqN_self, bc_same, List.length_cons, ofn, wrap_in, dt, df, bltD, bltN, ble_of, bleN, beqD, bc_t, bc_f, nn_ok, Nat.zero_add, to_nat, Int.zero_add, Int.sub_zero, Int.sub_self, Int.cast_ofNat_Int, Int.natCast_zero, Int.toNat_zero, List.take_zero, List.nil_append, List.length_append, List.length_nil] at h1
      obtain ⟨nn', h3⟩ := loopC (F := F) hd hd2 hc1 hc2 k (i + 1) (q ++ d) true (by omega) (by rw [List.length_append]; omega)
      exact ⟨nn', (leadsZ ctRW_ok h1).trans h3⟩
    · rw [if_neg h2]
      simp (disch := omega) only [Nat.add_eq, eqSy_self, eqN_self, bc_same, List.length_cons, ofn, wrap_in, dt, df, bltD, bltN, ble_of, bleN, beqD, bc_t, bc_f, nn_ok, Nat.zero_add, to_nat, Int.zero_add, Int.sub_zero, Int.sub_self, Int.cast_ofNat_Int, Int.natCast_zero, Int.toNat_zero, List.take_zero, List.nil_append, List.length_append, List.length_nil] at h1
      exact ⟨nn, leadsZ ctRW_ok h1⟩
theorem noneC {c : Int} {F : List (List U)} {q : List Int} {nn : Bool} {i : Int} : RUN (stOf (sC c F [] q nn i)) = .at (sD F q nn (0 : Nat)) := by
  rw [c_t]
  show bc _ (bc (decide ((0 : Int) < Int.ofNat 0)) _ _) _ = _
  rw [df (show ¬ (0 : Int) < Int.ofNat 0 by decide), bc_f, bc_same]
  rfl
theorem loopD {F : List (List U)} (hF : F.length ≤ 100) (hr : ∀ r, r ∈ F → InR (fac r)) : ∀ (k i : Nat) (q : List Int) (nn : Bool), i + k = F.length → q.length ≤ 2400 → EndZ 38 ctRW false (stOf (sD F q nn i)) (if 400 < (lp2 ((F.drop i).map fac) q).length then .tup [.v (.slice none 0 0), iv 3] else .tup [il (lp2 ((F.drop i).map fac) q), iv 0]) [] 0
  | 0, i, q, nn, h, hq => by
    have h1 := d_t F q nn i
    rw [List.drop_eq_nil_of_le (by omega)]
    show EndZ _ _ _ _ (if 400 < q.length then _ else _) _ _
    split
    · simp (disch := omega) only [Nat.add_eq, eqSy_self, eqN_self, bc_same, List.length_cons, ofn, wrap_in, dt, df, bltD, bltN, ble_of, bleN, beqD, bc_t, bc_f, nn_ok, Nat.zero_add, to_nat, Int.zero_add, Int.sub_zero, Int.sub_self, Int.cast_ofNat_Int, Int.natCast_zero, Int.toNat_zero, List.take_zero, List.nil_append, List.length_append, List.length_nil] at h1
      exact .done h1
    · simp (disch := omega) only [Nat.add_eq, eqSy_self, eqN_self, bc_same, List.length_cons, ofn, wrap_in, dt, df, bltD, bltN, ble_of, bleN, beqD, bc_t, bc_f, nn_ok, Nat.zero_add, to_nat, Int.zero_add, Int.sub_zero, Int.sub_self, Int.cast_ofNat_Int, Int.natCast_zero, Int.toNat_zero, List.take_zero, List.nil_append, List.length_append, List.length_nil] at h1
      exact .done h1
  | k + 1, i, q, nn, h, hq => by
    have hi : i < F.length := by omega
    have h1 := d_t F q nn i
    rw [List.drop_eq_getElem_cons hi, List.map_cons]
    unfold lp2
    by_cases h2 : q.length ≤ 400
    · rw [if_pos h2]
      have e : F.getD i [] = F[i] := getD_at hi
      rw [to_nat, e] at h1
      have e2 : List.map (fun r => U.int (List.headD r (U.i 0))) (U.list (List.getD F[i] 0 (U.i 0))) = fac F[i] := rfl
      rw [e2] at h1
      have h3 := hr _ (List.getElem_mem hi)
      have h4 := lwo_len h3
      rw [dt h3] at h1
      simp (disch := omega) only [Nat.add_eq, eqSy_self, eqN_self, bc_same, List.length_cons, ofn, wrap_in, dt, df, bltD, bltN, ble_of, bleN, beqD, bc_t, bc_f, nn_ok, Nat.zero_add, to_nat, Int.zero_add, Int.sub_zero, Int.sub_self, Int.cast_ofNat_Int, Int.natCast_zero, Int.toNat_zero, List.take_zero, List.nil_append, List.length_append, List.length_nil] at h1
      exact .at ctRW_ok h1 (loopD hF hr k (i + 1) _ _ (by omega) (by rw [List.length_append]; omega))
    · rw [if_neg h2]
      simp (disch := omega) only [Nat.add_eq, eqSy_self, eqN_self, bc_same, List.length_cons, ofn, wrap_in, dt, df, bltD, bltN, ble_of, bleN, beqD, bc_t, bc_f, nn_ok, Nat.zero_add, to_nat, Int.zero_add, Int.sub_zero, Int.sub_self, Int.cast_ofNat_Int, Int.natCast_zero, Int.toNat_zero, List.take_zero, List.nil_append, List.length_append, List.length_nil] at h1
      rw [if_pos (by omega)]
      exact .done h1
theorem ends {n c : Int} {F : List (List U)} (hF : F.length ≤ 100) (hf : ∀ r, r ∈ F → (fac r).length ≤ 100) : EndZ 38 ctRW false (st0 38 [iv n, iv c, fl F]) (shWo n c F) [] 0 := by
  have h := in_t n c F
  by_cases h1 : n < 1
  · rw [dt h1, bc_t] at h
    exact (EndZ.done h).weak (wo_err (e := 2) (by unfold wE; rw [if_pos h1]) (by decide))
  rw [df h1, bc_f] at h
  by_cases h2 : 12 < n
  · rw [dt h2, bc_t] at h
    exact (EndZ.done h).weak (wo_err (e := 2) (by unfold wE; rw [if_neg h1, if_pos h2]) (by decide))
  rw [df h2, bc_f] at h
  obtain ⟨n, rfl⟩ := Int.eq_ofNat_of_zero_le (show 0 ≤ n by omega)
  have hn : 1 ≤ n := by omega
  have hn2 : n ≤ 12 := by omega
  cases h3 : okF n F with
  | false =>
    exact (EndZ.at ctRW_ok h (badA hF hn hn2 hf F.length 0 (by omega) h3)).weak (wo_err (e := 6) (by unfold wE; rw [if_neg h1, if_neg h2, to_nat, if_pos h3]) (by decide))
  | true =>
    have hl := ((leadsZ ctRW_ok h).trans (goodA (c := c) hF hn hn2 hf F.length 0 (by omega) h3)).trans (loopB hn2 n 0 (lin n) (by omega) (lin_len n) (fun j hj => by omega))
    have hb := b_t n c F n (dlt n) n
    have hd := dlt_inR hn2
    have hdl := lwo_len hd
    have hsm : (lwo (dlt n)).length ≤ 2000 ∧ Sml (lwo (dlt n)) := ⟨by omega, fun x hx => by have := lwo_mem hd hx; omega⟩
    rw [df (show ¬ (n : Int) < n by omega), bc_f, beqD (dlt_len n).symm, dt hd] at hb
    simp only [bc_t, dt hsm] at hb
    have hin : ∀ r, r ∈ F → InR (fac r) := fun r hr => (prm_ok hn2 (List.all_eq_true.1 h3 r hr)).1
    by_cases h4 : 0 < (lwo (dlt n)).length
    · rw [dt (show (0 : Int) < Int.ofNat (lwo (dlt n)).length by rw [ofn]; omega), bc_t] at hb
      by_cases h5 : 400 < c
      · rw [dt h5, bc_t] at hb
        exact (EndZ.lead hl (EndZ.done hb)).weak (wo_err (e := 3) (by unfold wE; rw [if_neg h1, if_neg h2, to_nat, if_neg (by rw [h3]; decide), if_pos ⟨h4, .inl h5⟩]) (by decide))
      rw [df h5, bc_f] at hb
      by_cases h6 : c < -400
      · rw [dt h6, bc_t] at hb
        exact (EndZ.lead hl (EndZ.done hb)).weak (wo_err (e := 3) (by unfold wE; rw [if_neg h1, if_neg h2, to_nat, if_neg (by rw [h3]; decide), if_pos ⟨h4, .inr h6⟩]) (by decide))
      rw [df h6, bc_f] at hb
      have hb2 : RUN (stOf (sB n c F n (dlt n) n)) = .at (sC c F (dd n c) [] false (0 : Nat)) := by
        rw [hb]
        unfold dd
        by_cases h7 : c < 0
        · rw [dt h7, bc_t, if_pos h7]; rfl
        · rw [df h7, bc_f, if_neg h7]; rfl
      obtain ⟨nn', h8⟩ := loopC (c := c) (F := F) (d := dd n c) (by rw [dd_len]; exact h4) (by rw [dd_len]; omega) (by omega) (by omega) c.natAbs 0 [] false (by omega) (Nat.zero_le _)
      have hq : (lp1 (dd n c) c.natAbs []).length ≤ 2400 := lp1_le (d := dd n c) (by rw [dd_len]; omega) _ _ (by simp)
      have h9 := loopD hF hin F.length 0 (lp1 (dd n c) c.natAbs []) nn' (by omega) hq
      have h10 := EndZ.lead (((hl.trans (leadsZ ctRW_ok hb2)).trans h8)) h9
      have hw : lp2 ((F.drop 0).map fac) (lp1 (dd n c) c.natAbs []) = wout n c F := rfl
      rw [hw] at h10
      have hE : wE n c F = if 400 < (wout n c F).length then 3 else 0 := by
        unfold wE; rw [if_neg h1, if_neg h2, to_nat, if_neg (by rw [h3]; decide), if_neg (show ¬ (0 < (lwo (dlt n)).length ∧ (400 < c ∨ c < -400)) from fun h => by rcases h.2 with h | h <;> omega)]
      by_cases h11 : 400 < (wout n c F).length
      · rw [if_pos h11] at h10 hE
        exact h10.weak (wo_err hE (by decide))
      · rw [if_neg h11] at h10 hE
        unfold shWo wL
        rw [hE, if_pos rfl]
        exact h10
    · rw [df (show ¬ (0 : Int) < Int.ofNat (lwo (dlt n)).length by rw [ofn]; omega), bc_f] at hb
      have hnil : lwo (dlt n) = [] := List.eq_nil_of_length_eq_zero (by omega)
      have hnil2 : invl (lwo (dlt n)) = [] := by rw [hnil]; rfl
      have hdd : dd n c = [] := List.eq_nil_of_length_eq_zero (by rw [dd_len]; omega)
      have hb2 : RUN (stOf (sB n c F n (dlt n) n)) = .at (sC c F [] [] false (0 : Nat)) := by
        rw [hb, hnil2, hnil, bc_same]; rfl
      have h9 := loopD hF hin F.length 0 [] false (by omega) (Nat.zero_le _)
      have h10 := EndZ.lead ((hl.trans (leadsZ ctRW_ok hb2)).trans (leadsZ ctRW_ok noneC)) h9
      have hw : lp2 ((F.drop 0).map fac) [] = wout n c F := by unfold wout; rw [hdd, lp1_none]; rfl
      rw [hw] at h10
      have hE : wE n c F = if 400 < (wout n c F).length then 3 else 0 := by
        unfold wE; rw [if_neg h1, if_neg h2, to_nat, if_neg (by rw [h3]; decide), if_neg (show ¬ (0 < (lwo (dlt n)).length ∧ (400 < c ∨ c < -400)) from fun h => h4 h.1)]
      by_cases h11 : 400 < (wout n c F).length
      · rw [if_pos h11] at h10 hE
        exact h10.weak (wo_err hE (by decide))
      · rw [if_neg h11] at h10 hE
        unfold shWo wL
        rw [hE, if_pos rfl]
        exact h10
end RWor
noncomputable instance (F : List (List U)) : Decidable (∀ r, r ∈ F → (fac r).length ≤ 100) := inferInstance
noncomputable def spRWo : ZCT := fun ax => match ax with
  | [.v (.int .i64 n), .v (.int .i64 c), .lst (.recs [.list [.int .i64]] F)] => some ⟨decide (F.length ≤ 100 ∧ ∀ r, r ∈ F → (fac r).length ≤ 100), shWo n c F, [], 0⟩
  | _ => none
theorem spRWo_ok : ZCtOk Try.prog 38 spRWo := fun γ w us ax r hs hc hax hN hfz => by
  unfold spRWo at hs
  split at hs
  case h_2 => cases hs
  rename_i n c F
  obtain ⟨rfl⟩ := Option.some.inj hs
  have hc_0 : decide (F.length ≤ 100 ∧ ∀ r, r ∈ F → (fac r).length ≤ 100) = true := hc
  have hc := of_decide_eq_true hc_0
  exact EndZ.calls (RWor.ends hc.1 hc.2) ctRW_ok (by kernel_rfl) hax hN hfz
end Go.Proofs.Ytonbfalbfdkieaa.Ev
namespace Go.Proofs.Ytonbfalbfdkieaa.Ev
open Go.Proofs
noncomputable def ctPW : Tr ZCC := (((Tr.nil.put 149 (some (dC spPPer))).put 151 (some (dC spPLst))).put 152 (some (dC spPUnd))).put 153 (some (dC spRepI))
theorem ctPW_ok : ZCtsOk Try.prog ctPW := ((((ZCtsOk.nil _).add rfl spPPer_ok).add rfl spPLst_ok).add rfl spPUnd_ok).add rfl spRepI_ok
namespace PWor
noncomputable def RUN (s : ES) : ZF := RZs 79 ctPW [(atS 2 191 2, [[(0,none),(1,none),(7,none),(8,none)],[],[(1,none),(2,none),(3,none)]]), (atS 1 150 3, [[(0,none),(2,none),(3,none),(9,none),(10,none)],[(1,none),(2,none),(3,none)]]), (atS 1 129 3, [[(0,none),(5,none),(9,none),(10,none),(11,none)],[(1,none),(2,none),(3,none)]]), (atS 0 79 18, [[(11,none),(54,none),(55,none),(56,none)]])] [] false s

noncomputable def sA (n c : Int) (F : List (List U)) (i : Int) : NS := ⟨[⟨191, 19, [(0, (EV.lst (SyC.recs [(Sh.list [(Sh.int IntKind.i64)])] (F)))), (1, (EV.fn 148 [(EV.ptr 0 0)])), (7, (EV.v (Value.int IntKind.i64 (Int.ofNat (List.length F))))), (8, iv i)], [.it (.code (nav [1, 0, 1, 0, 0] (bodyOf Try.f191))), .it (.inLoop (nav [1, 0, 1, 0, 0] (bodyOf Try.f191))), .it (.inBlock 0), .it (.code (nav [1, 1] (bodyOf Try.f191)))], [], Option.none⟩, ⟨147, 9, [], [.ops (opsOf (nav [1, 0] (bodyOf Try.f147))) ((opsOf (nav [1, 0] (bodyOf Try.f147))).toList.drop 2), .it (.code (nav [1, 1] (bodyOf Try.f147)))], [], Option.none⟩, ⟨79, 69, [(1, (EV.v (Value.int IntKind.i64 (c)))), (2, (EV.lst (SyC.recs [(Sh.list [(Sh.int IntKind.i64)])] (F)))), (3, (EV.ptr 0 0))], [.ops (opsOf (nav [1, 1, 0, 0] (bodyOf Try.f79))) ((opsOf (nav [1, 1, 0, 0] (bodyOf Try.f79))).toList.drop 2), .it (.code (nav [1, 1, 0, 1] (bodyOf Try.f79))), .it (.code (nav [1, 1, 1] (bodyOf Try.f79)))], [], Option.none⟩], [(0, (EK.cells 3 [(EV.v (Value.int IntKind.i64 (n)))] true))], 1⟩
noncomputable def sB (n c : Int) (F : List (List U)) (e : List Int) (i : Int) : NS := ⟨[⟨150, 25, [(0, (EV.ptr 0 0)), (2, (EV.ptr 1 0)), (3, (EV.ptr 2 0)), (9, (EV.v (Value.int IntKind.i64 (n)))), (10, iv i)], [.it (.code (nav [1, 1, 0, 1, 0, 0] (bodyOf Try.f150))), .it (.inLoop (nav [1, 1, 0, 1, 0, 0] (bodyOf Try.f150))), .it (.inBlock 0), .it (.code (nav [1, 1, 1] (bodyOf Try.f150)))], [], Option.none⟩, ⟨79, 69, [(1, (EV.v (Value.int IntKind.i64 (c)))), (2, fl F), (3, (EV.ptr 3 0))], [.ops (opsOf (nav [1, 1, 1, 1, 0] (bodyOf Try.f79))) ((opsOf (nav [1, 1, 1, 1, 0] (bodyOf Try.f79))).toList.drop 1), .it (.code (nav [1, 1, 1, 1, 1] (bodyOf Try.f79)))], [], Option.none⟩], [(0, (EK.cells 135 [(EV.v (Value.int IntKind.i64 (n))), (EV.v (Value.int IntKind.i64 (0))), (EV.v (Value.slice Option.none 0 0))] true)), (1, (EK.seq 138 (SyC.ints IntKind.u8 [(0), (0), (0), (0), (0), (0), (0), (0), (0), (0), (0), (0)]) true)), (2, EK.seq 138 (.ints .u8 e) true), (3, (EK.cells 3 [(EV.v (Value.int IntKind.i64 (n)))] true))], 4⟩
noncomputable def sC (n c : Int) (F : List (List U)) (e : List Int) (m : Nat) (z : Int) (d : List Int) (i : Int) : NS := ⟨[⟨129, 25, [(0, (EV.ptr 0 0)), (5, EV.slO 1 1 m true), (9, EV.slO 1 1 m true), (10, iv z), (11, iv i)], [.it (.code (nav [1, 1, 0, 1, 0, 0] (bodyOf Try.f129))), .it (.inLoop (nav [1, 1, 0, 1, 0, 0] (bodyOf Try.f129))), .it (.inBlock 0), .it (.code (nav [1, 1, 1] (bodyOf Try.f129)))], [], Option.none⟩, ⟨79, 69, [(1, (EV.v (Value.int IntKind.i64 (c)))), (2, (EV.lst (SyC.recs [(Sh.list [(Sh.int IntKind.i64)])] (F)))), (3, (EV.ptr 2 0))], [.ops (opsOf (nav [1, 1, 1, 1, 1, 0] (bodyOf Try.f79))) ((opsOf (nav [1, 1, 1, 1, 1, 0] (bodyOf Try.f79))).toList.drop 1), .it (.code (nav [1, 1, 1, 1, 1, 1] (bodyOf Try.f79)))], [], Option.none⟩], [(0, (EK.seq 138 (SyC.ints IntKind.u8 (e)) true)), (1, EK.seq 3 (.ints .i64 d) true), (2, EK.cells 3 [iv n] true)], 3⟩
noncomputable def sD (F : List (List U)) (m : Nat) (z : Int) (q : List Int) (nn : Bool) (i : Int) : NS := ⟨[⟨79, 69, [(11, EV.slO 0 1 m nn), (54, (EV.lst (SyC.recs [(Sh.list [(Sh.int IntKind.i64)])] (F)))), (55, iv z), (56, iv i)], [.it (.code (nav [1, 1, 1, 1, 1, 1, 1, 1, 1, 1, 1, 0, 1, 0, 0] (bodyOf Try.f79))), .it (.inLoop (nav [1, 1, 1, 1, 1, 1, 1, 1, 1, 1, 1, 0, 1, 0, 0] (bodyOf Try.f79))), .it (.inBlock 0), .it (.code (nav [1, 1, 1, 1, 1, 1, 1, 1, 1, 1, 1, 1] (bodyOf Try.f79)))], [], Option.none⟩], [(0, EK.seq 3 (.ints .i64 q) nn)], 1⟩
theorem in_t (n c : Int) (F : List (List U)) : RUN (st0 79 [iv n, iv c, fl F]) = (bc (decide (n < (1 : Int))) (.done (EV.tup [(EV.v (Value.slice Option.none 0 0)), (EV.v (Value.int IntKind.i64 (2)))]) [] 0) (bc (decide ((12 : Int) < n)) (.done (EV.tup [(EV.v (Value.slice Option.none 0 0)), (EV.v (Value.int IntKind.i64 (2)))]) [] 0) (.at (sA (n) (c) (F) ((0 : Int)))))) := by kernel_rfl
theorem a_t (n c : Int) (F : List (List U)) (i : Int) : RUN (stOf (sA n c F i)) = (bc (decide (i < Int.ofNat (List.length F))) (bc (bc (bc (decide ((0 : Int) ≤ i)) (Nat.blt (Int.toNat i) (List.length F)) false) true false) (bc (bc (Nat.blt (Int.toNat i) (List.length F)) true false) (bc (Int.ofNat (List.length (List.map (fun r => U.int (List.headD r (U.i (0 : Int)))) (U.list (List.getD (List.getD F (Int.toNat i) []) (0 : Nat) (U.i (0 : Int)))))) != n) (bc (decide ((0 : Int) ≤ i)) (.done (EV.tup [(EV.v (Value.slice Option.none 0 0)), (EV.v (Value.int IntKind.i64 (6)))]) [] 0) (.at (sB (n) (c) (F) [0, 1, 2, 3, 4, 5, 6, 7, 8, 9, 10, 11] ((0 : Int))))) (bc (bc (decide ((1 : Nat) ≤ List.length (List.map (fun r => U.int (List.headD r (U.i (0 : Int)))) (U.list (List.getD (List.getD F (Int.toNat i) []) (0 : Nat) (U.i (0 : Int))))) ∧ List.length (List.map (fun r => U.int (List.headD r (U.i (0 : Int)))) (U.list (List.getD (List.getD F (Int.toNat i) []) (0 : Nat) (U.i (0 : Int))))) ≤ (100 : Nat))) true false) (bc (!plF (0 : Nat) (srt (List.map (fun r => U.int (List.headD r (U.i (0 : Int)))) (U.list (List.getD (List.getD F (Int.toNat i) []) (0 : Nat) (U.i (0 : Int))))))) (bc (decide ((0 : Int) ≤ i)) (.done (EV.tup [(EV.v (Value.slice Option.none 0 0)), (EV.v (Value.int IntKind.i64 (6)))]) [] 0) (.at (sB (n) (c) (F) [0, 1, 2, 3, 4, 5, 6, 7, 8, 9, 10, 11] ((0 : Int))))) (.at (sA (n) (c) (F) (IntKind.wrap IntKind.i64 (i + (1 : Int)))))) .bad)) .bad) .bad) (.at (sB (n) (c) (F) [0, 1, 2, 3, 4, 5, 6, 7, 8, 9, 10, 11] ((0 : Int))))) := by kernel_rfl
theorem b_t (n c : Int) (F : List (List U)) (e : List Int) (i : Int) : RUN (stOf (sB n c F e i)) = (bc (decide (i < n)) (bc (bc (bc (decide ((0 : Int) ≤ i)) (Nat.blt (Int.toNat i) (12 : Nat)) false) true false) (bc (Nat.blt (Int.toNat i) (List.length e)) (.at (sB (n) (c) (F) (List.set e (Int.toNat i) (IntKind.wrap IntKind.u8 (IntKind.wrap IntKind.i64 (IntKind.wrap IntKind.i64 (n - (1 : Int)) - i)))) (IntKind.wrap IntKind.i64 (i + (1 : Int))))) .bad) .bad) (bc (bc (Nat.beq (12 : Nat) (List.length e)) true false) (bc (bc (Nat.beq (List.length e) (12 : Nat)) (Nat.beq (List.length [(0 : Int), (0 : Int), (0 : Int), (0 : Int), (0 : Int), (0 : Int), (0 : Int), (0 : Int), (0 : Int), (0 : Int), (0 : Int), (0 : Int)]) (12 : Nat)) false) (bc (bc (Nat.beq (12 : Nat) (List.length e)) true false) (bc (bc (Nat.beq (List.length e) (12 : Nat)) (Nat.beq (List.length (zerosL (12 : Nat))) (12 : Nat)) false) (bc (bc (decide ((0 : Int) ≤ n)) (bc (decide (n ≤ n)) (decide (n ≤ (65536 : Int))) false) false) (.at (sC (n) (c) (F) (e) (List.length (zerosL (Int.toNat n))) (Int.ofNat (List.length (zerosL (Int.toNat n)))) (zerosL (Int.toNat n)) ((0 : Int)))) .bad) .bad) .bad) .bad) .bad)) := by kernel_rfl
theorem c_t (n c : Int) (F : List (List U)) (e : List Int) (m : Nat) (z : Int) (d : List Int) (i : Int) : RUN (stOf (sC n c F e m z d i)) = (bc (decide (i < z)) (bc (bc (bc (decide ((0 : Int) ≤ i)) (Nat.blt (Int.toNat i) (12 : Nat)) false) true false) (bc (bc (Nat.blt (Int.toNat i) (List.length e)) true false) (bc (bc (bc (decide ((0 : Int) ≤ i)) (Nat.blt (Int.toNat i) m) false) true false) (bc (Nat.blt (Int.toNat i) (List.length d)) (.at (sC (n) (c) (F) (e) (m) (z) (List.set d (Int.toNat i) (IntKind.wrap IntKind.i64 (List.getD e (Int.toNat i) (0 : Int)))) (IntKind.wrap IntKind.i64 (i + (1 : Int))))) .bad) .bad) .bad) .bad) (bc (bc (bc (Nat.beq m (List.length d)) true false) (decide ((1 : Nat) ≤ List.length d ∧ InR d ∧ Dis d)) false) (bc (n == (1 : Int)) (bc (decide ((400 : Int) < IntKind.wrap IntKind.i64 ((0 : Int) * Int.ofNat (List.length (lwo d))))) (.done (EV.tup [(EV.v (Value.slice Option.none 0 0)), (EV.v (Value.int IntKind.i64 (3)))]) [] 0) (bc (decide (((0 : Int) ≤ if (400 : Int) < (0 : Int) then (400 : Int) else (0 : Int)) ∧ (if (400 : Int) < (0 : Int) then (400 : Int) else (0 : Int)) ≤ (400 : Int) ∧ List.length (lwo d) ≤ (2000 : Nat) ∧ (if (400 : Int) < (0 : Int) then (400 : Int) else (0 : Int)) * (Nat.cast (List.length (lwo d)) : Int) ≤ (65536 : Int))) (.at (sD (F) (List.length (repI (lwo d) (Int.toNat (if (400 : Int) < (0 : Int) then (400 : Int) else (0 : Int))))) (Int.ofNat (List.length F)) (repI (lwo d) (Int.toNat (if (400 : Int) < (0 : Int) then (400 : Int) else (0 : Int)))) (true) ((0 : Int)))) .bad)) (bc (decide ((400 : Int) < c)) (.done (EV.tup [(EV.v (Value.slice Option.none 0 0)), (EV.v (Value.int IntKind.i64 (3)))]) [] 0) (bc (decide (c < (-400 : Int))) (.done (EV.tup [(EV.v (Value.slice Option.none 0 0)), (EV.v (Value.int IntKind.i64 (3)))]) [] 0) (bc (decide (c < (0 : Int))) (bc (decide (List.length (lwo d) ≤ (2000 : Nat) ∧ Sml (lwo d))) (bc (decide ((400 : Int) < IntKind.wrap IntKind.i64 (IntKind.wrap IntKind.i64 ((0 : Int) - c) * Int.ofNat (List.length (invl (lwo d)))))) (.done (EV.tup [(EV.v (Value.slice Option.none 0 0)), (EV.v (Value.int IntKind.i64 (3)))]) [] 0) (bc (decide (((0 : Int) ≤ if (400 : Int) < IntKind.wrap IntKind.i64 ((0 : Int) - c) then (400 : Int) else IntKind.wrap IntKind.i64 ((0 : Int) - c)) ∧ (if (400 : Int) < IntKind.wrap IntKind.i64 ((0 : Int) - c) then (400 : Int) else IntKind.wrap IntKind.i64 ((0 : Int) - c)) ≤ (400 : Int) ∧ List.length (invl (lwo d)) ≤ (2000 : Nat) ∧ (if (400 : Int) < IntKind.wrap IntKind.i64 ((0 : Int) - c) then (400 : Int) else IntKind.wrap IntKind.i64 ((0 : Int) - c)) * (Nat.cast (List.length (invl (lwo d))) : Int) ≤ (65536 : Int))) (.at (sD (F) (List.length (repI (invl (lwo d)) (Int.toNat (if (400 : Int) < IntKind.wrap IntKind.i64 ((0 : Int) - c) then (400 : Int) else IntKind.wrap IntKind.i64 ((0 : Int) - c))))) (Int.ofNat (List.length F)) (repI (invl (lwo d)) (Int.toNat (if (400 : Int) < IntKind.wrap IntKind.i64 ((0 : Int) - c) then (400 : Int) else IntKind.wrap IntKind.i64 ((0 : Int) - c)))) (true) ((0 : Int)))) .bad)) .bad) (bc (decide ((400 : Int) < IntKind.wrap IntKind.i64 (c * Int.ofNat (List.length (lwo d))))) (.done (EV.tup [(EV.v (Value.slice Option.none 0 0)), (EV.v (Value.int IntKind.i64 (3)))]) [] 0) (bc (decide (((0 : Int) ≤ if (400 : Int) < c then (400 : Int) else c) ∧ (if (400 : Int) < c then (400 : Int) else c) ≤ (400 : Int) ∧ List.length (lwo d) ≤ (2000 : Nat) ∧ (if (400 : Int) < c then (400 : Int) else c) * (Nat.cast (List.length (lwo d)) : Int) ≤ (65536 : Int))) (.at (sD (F) (List.length (repI (lwo d) (Int.toNat (if (400 : Int) < c then (400 : Int) else c)))) (Int.ofNat (List.length F)) (repI (lwo d) (Int.toNat (if (400 : Int) < c then (400 : Int) else c))) (true) ((0 : Int)))) .bad)))))) .bad)) := by kernel_rfl
theorem d_t (F : List (List U)) (m : Nat) (z : Int) (q : List Int) (nn : Bool) (i : Int) : RUN (stOf (sD F m z q nn i)) = (bc (decide (i < z)) (bc (bc (bc (decide ((0 : Int) ≤ i)) (Nat.blt (Int.toNat i) (List.length F)) false) true false) (bc (bc (Nat.blt (Int.toNat i) (List.length F)) true false) (bc (decide ((1 : Nat) ≤ List.length (List.map (fun r => U.int (List.headD r (U.i (0 : Int)))) (U.list (List.getD (List.getD F (Int.toNat i) []) (0 : Nat) (U.i (0 : Int))))) ∧ InR (List.map (fun r => U.int (List.headD r (U.i (0 : Int)))) (U.list (List.getD (List.getD F (Int.toNat i) []) (0 : Nat) (U.i (0 : Int))))) ∧ Dis (List.map (fun r => U.int (List.headD r (U.i (0 : Int)))) (U.list (List.getD (List.getD F (Int.toNat i) []) (0 : Nat) (U.i (0 : Int))))))) (bc (bc (Nat.beq m (List.length q)) (bc (Nat.ble (m + List.length (lwo (List.map (fun r => U.int (List.headD r (U.i (0 : Int)))) (U.list (List.getD (List.getD F (Int.toNat i) []) (0 : Nat) (U.i (0 : Int))))))) (65536 : Nat)) (bc nn true (bc nn false true)) false) false) (bc (decide ((400 : Int) < Int.ofNat (List.length (q ++ lwo (List.map (fun r => U.int (List.headD r (U.i (0 : Int)))) (U.list (List.getD (List.getD F (Int.toNat i) []) (0 : Nat) (U.i (0 : Int))))))))) (.done (EV.tup [(EV.v (Value.slice Option.none 0 0)), (EV.v (Value.int IntKind.i64 (3)))]) [] 0) (.at (sD (F) (List.length (q ++ lwo (List.map (fun r => U.int (List.headD r (U.i (0 : Int)))) (U.list (List.getD (List.getD F (Int.toNat i) []) (0 : Nat) (U.i (0 : Int))))))) (z) (q ++ lwo (List.map (fun r => U.int (List.headD r (U.i (0 : Int)))) (U.list (List.getD (List.getD F (Int.toNat i) []) (0 : Nat) (U.i (0 : Int)))))) (bc nn true (Nat.blt (0 : Nat) (List.length (lwo (List.map (fun r => U.int (List.headD r (U.i (0 : Int)))) (U.list (List.getD (List.getD F (Int.toNat i) []) (0 : Nat) (U.i (0 : Int))))))))) (IntKind.wrap IntKind.i64 (i + (1 : Int)))))) .bad) .bad) .bad) .bad) (bc (bc (Nat.beq m (List.length q)) true false) (.done (EV.tup [(EV.lst (SyC.ints IntKind.i64 (q))), (EV.v (Value.int IntKind.i64 (0)))]) [] 0) .bad)) := by kernel_rfl
theorem badF (n : Nat) (p : List Int) : prm n p = bc ((p.length : Int) != n) false (plF 0 (srt p)) := by
  unfold prm
  by_cases h : p.length = n
  · rw [perm_same p n h]
    have e1 : ((p.length : Int) == n) = true := by simp [h]
    have e2 : ((p.length : Int) != n) = false := by simp [h]
    rw [e1, e2, bc_f, bc_b]
  · have e1 : ((p.length : Int) == n) = false := by simp; omega
    have e2 : ((p.length : Int) != n) = true := by simp; omega
    rw [e1, e2, bc_t, bc_same]
theorem stepA {n : Nat} {c : Int} {F : List (List U)} {i : Nat} (hi : i < F.length) (hF : F.length ≤ 100) (hn : 1 ≤ n) (hn2 : n ≤ 12) : RUN (stOf (sA n c F i)) = bc (!prm n (fac F[i])) (.done (.tup [.v (.slice none 0 0), iv 6]) [] 0) (.at (sA n c F (i + 1 : Nat))) := by
  rw [a_t, badF]
  have e : F.getD i [] = F[i] := getD_at hi
  rw [to_nat, e]
  have e2 : List.map (fun r => U.int (List.headD r (U.i 0))) (U.list (List.getD F[i] 0 (U.i 0))) = fac F[i] := rfl
  rw [e2]
  by_cases h : (fac F[i]).length = n
  · have e3 : (((fac F[i]).length : Int) != (n : Int)) = false := by simp [h]
    simp (disch := omega) only [Nat.add_eq, eqSy_self, eqN_self, bc_same, List.length_cons, ofn, wrap_in, dt, df, bltD, bltN, ble_of, bleN, beqD, bc_t, bc_f, nn_ok, Nat.zero_add, to_nat, Int.zero_add, Int.sub_zero, Int.sub_self, Int.cast_ofNat_Int, Int.natCast_zero, Int.toNat_zero, List.take_zero, List.nil_append, List.length_append, List.length_nil, e3]
    cases plF 0 (srt (fac F[i])) <;> rfl
  · have e3 : (((fac F[i]).length : Int) != (n : Int)) = true := by simp; omega
    simp (disch := omega) only [Nat.add_eq, eqSy_self, eqN_self, bc_same, List.length_cons, ofn, wrap_in, dt, df, bltD, bltN, ble_of, bleN, beqD, bc_t, bc_f, nn_ok, Nat.zero_add, to_nat, Int.zero_add, Int.sub_zero, Int.sub_self, Int.cast_ofNat_Int, Int.natCast_zero, Int.toNat_zero, List.take_zero, List.nil_append, List.length_append, List.length_nil, e3]
    rfl

noncomputable abbrev e0 : List Int := [0, 1, 2, 3, 4, 5, 6, 7, 8, 9, 10, 11]
theorem lastA {n : Nat} {c : Int} {F : List (List U)} {i : Nat} (hi : F.length ≤ i) : RUN (stOf (sA n c F i)) = .at (sB n c F e0 (0 : Nat)) := by
  rw [a_t]
  simp (disch := omega) only [Nat.add_eq, eqSy_self, eqN_self, bc_same, List.length_cons, ofn, wrap_in, dt, df, bltD, bltN, ble_of, bleN, beqD, bc_t, bc_f, nn_ok, Nat.zero_add, to_nat, Int.zero_add, Int.sub_zero, Int.sub_self, Int.cast_ofNat_Int, Int.natCast_zero, Int.toNat_zero, List.take_zero, List.nil_append, List.length_append, List.length_nil]
theorem badA {n : Nat} {c : Int} {F : List (List U)} (hF : F.length ≤ 100) (hn : 1 ≤ n) (hn2 : n ≤ 12) : ∀ (k i : Nat), i + k = F.length → okF n (F.drop i) = false → EndZ 79 ctPW false (stOf (sA n c F i)) (.tup [.v (.slice none 0 0), iv 6]) [] 0
  | 0, i, h, hb => by
    rw [List.drop_eq_nil_of_le (by omega)] at hb
    cases hb
  | k + 1, i, h, hb => by
    have hi : i < F.length := by omega
    have h1 := stepA (c := c) hi hF hn hn2
    rw [List.drop_eq_getElem_cons hi] at hb
    unfold okF at hb
    rw [List.all_cons] at hb
    cases hp : prm n (fac F[i]) with
    | false =>
      rw [hp] at h1
      exact .done h1
    | true =>
      rw [hp] at h1 hb
      exact .at ctPW_ok h1 (badA hF hn hn2 k (i + 1) (by omega) hb)
theorem goodA {n : Nat} {c : Int} {F : List (List U)} (hF : F.length ≤ 100) (hn : 1 ≤ n) (hn2 : n ≤ 12) : ∀ (k i : Nat), i + k = F.length → okF n (F.drop i) = true → LeadsZ Try.prog (stOf (sA n c F i)) (stOf (sB n c F e0 (0 : Nat)))
  | 0, i, h, hb => leadsZ ctPW_ok (lastA (by omega))
  | k + 1, i, h, hb => by
    have hi : i < F.length := by omega
    have h1 := stepA (c := c) hi hF hn hn2
    rw [List.drop_eq_getElem_cons hi] at hb
    unfold okF at hb
    rw [List.all_cons, Bool.and_eq_true] at hb
    rw [hb.1] at h1
    exact (leadsZ ctPW_ok h1).trans (goodA hF hn hn2 k (i + 1) (by omega) hb.2)
theorem wrap8 (x : Int) (h1 : 0 ≤ x) (h2 : x < 256) : IntKind.u8.wrap x = x := by
  rw [IntKind.wrap_u8]; omega
theorem stepB {n : Nat} {c : Int} {F : List (List U)} {e : List Int} {i : Nat} (hi : i < n) (hn2 : n ≤ 12) (he : e.length = 12) : RUN (stOf (sB n c F e i)) = .at (sB n c F (e.set i ((n : Int) - 1 - (i : Int))) (i + 1 : Nat)) := by
  rw [b_t]
  simp (disch := omega) only [Nat.add_eq, eqSy_self, eqN_self, bc_same, List.length_cons, ofn, wrap_in, dt, df, bltD, bltN, ble_of, bleN, beqD, bc_t, bc_f, nn_ok, Nat.zero_add, to_nat, Int.zero_add, Int.sub_zero, Int.sub_self, Int.cast_ofNat_Int, Int.natCast_zero, Int.toNat_zero, List.take_zero, List.nil_append, List.length_append, List.length_nil, wrap8]
  rfl
theorem lastB {n : Nat} {c : Int} {F : List (List U)} {e : List Int} {i : Nat} (hi : n ≤ i) (hn2 : n ≤ 12) (he : e.length = 12) : RUN (stOf (sB n c F e i)) = .at (sC n c F e n n (zerosL n) (0 : Nat)) := by
  rw [b_t]
  have z1 : ∀ k, (zerosL k).length = k := fun k => by unfold zerosL; simp
  have z2 : (List.length [(0 : Int), 0, 0, 0, 0, 0, 0, 0, 0, 0, 0, 0]).beq 12 = true := rfl
  simp (disch := omega) only [Nat.add_eq, eqSy_self, eqN_self, bc_same, List.length_cons, ofn, wrap_in, dt, df, bltD, bltN, ble_of, bleN, beqD, bc_t, bc_f, nn_ok, Nat.zero_add, to_nat, Int.zero_add, Int.sub_zero, Int.sub_self, Int.cast_ofNat_Int, Int.natCast_zero, Int.toNat_zero, List.take_zero, List.nil_append, List.length_append, List.length_nil, z1]
theorem loopB {n : Nat} {c : Int} {F : List (List U)} (hn2 : n ≤ 12) : ∀ (k i : Nat) (e : List Int), i + k = n → e.length = 12 → (∀ j, j < i → e.getD j 0 = (n : Int) - 1 - (j : Int)) → ∃ e', e'.length = 12 ∧ (∀ j, j < n → e'.getD j 0 = (n : Int) - 1 - (j : Int)) ∧ LeadsZ Try.prog (stOf (sB n c F e i)) (stOf (sC n c F e' n n (zerosL n) (0 : Nat)))
  | 0, i, e, h, he, hj => by
    obtain rfl : i = n := by omega
    exact ⟨e, he, hj, leadsZ ctPW_ok (lastB (Nat.le_refl _) hn2 he)⟩
  | k + 1, i, e, h, he, hj => by
    have h1 := stepB (c := c) (F := F) (show i < n by omega) hn2 he
    obtain ⟨e', g1, g2, g3⟩ := loopB (c := c) (F := F) hn2 k (i + 1) (e.set i ((n : Int) - 1 - (i : Int))) (by omega) (by simpa using he) fun j hj2 => by
      rw [gset]
      split
      · rename_i e; rw [e.1]
      · rename_i e
        exact hj j (by
          rcases Nat.lt_or_ge j i with h5 | h5
          · exact h5
          · exact absurd ⟨by omega, by omega⟩ e)
    exact ⟨e', g1, g2, (leadsZ ctPW_ok h1).trans g3⟩
theorem stepC {n : Nat} {c : Int} {F : List (List U)} {e d : List Int} {i : Nat} (hi : i < n) (hn2 : n ≤ 12) (he : e.length = 12) (hd : d.length = n) (hj : e.getD i 0 = (n : Int) - 1 - (i : Int)) : RUN (stOf (sC n c F e n n d i)) = .at (sC n c F e n n (d.set i ((n : Int) - 1 - (i : Int))) (i + 1 : Nat)) := by
  rw [c_t]
  simp (disch := omega) only [Nat.add_eq, eqSy_self, eqN_self, bc_same, List.length_cons, ofn, wrap_in, dt, df, bltD, bltN, ble_of, bleN, beqD, bc_t, bc_f, nn_ok, Nat.zero_add, to_nat, Int.zero_add, Int.sub_zero, Int.sub_self, Int.cast_ofNat_Int, Int.natCast_zero, Int.toNat_zero, List.take_zero, List.nil_append, List.length_append, List.length_nil, hj]
  rfl
theorem loopC {n : Nat} {c : Int} {F : List (List U)} {e : List Int} (hn2 : n ≤ 12) (he : e.length = 12) (hj : ∀ j, j < n → e.getD j 0 = (n : Int) - 1 - (j : Int)) : ∀ (k i : Nat) (d : List Int), i + k = n → d.length = n → (∀ j, j < i → d.getD j 0 = (n : Int) - 1 - (j : Int)) → LeadsZ Try.prog (stOf (sC n c F e n n d i)) (stOf (sC n c F e n n (dlt n) n))
  | 0, i, d, h, hd, hdj => by
    have : d = dlt n := by
      apply List.ext_getElem (by rw [hd, dlt_len])
      intro j h1 h2
      have h3 := hdj j (by omega)
      have h4 := dlt_get (n := n) (a := j) (by omega)
      rw [getD_at h1] at h3
      rw [getD_at h2] at h4
      rw [h3, h4]
    subst this
    obtain rfl : i = n := by omega
    exact LeadsZ.refl _
  | k + 1, i, d, h, hd, hdj => by
    have h1 := stepC (c := c) (F := F) (show i < n by omega) hn2 he hd (hj i (by omega))
    refine (leadsZ ctPW_ok h1).trans (loopC hn2 he hj k (i + 1) _ (by omega) (by simpa using hd) fun j hj2 => ?_)
    rw [gset]
    split
    · rename_i e; rw [e.1]
    · rename_i e
      exact hdj j (by
        rcases Nat.lt_or_ge j i with h5 | h5
        · exact h5
        · exact absurd ⟨by omega, by omega⟩ e)
noncomputable def res3 (x : Option (List Int)) : EV := match x with
  | some r => .tup [il r, iv 0]
  | none => .tup [.v (.slice none 0 0), iv 3]
theorem loopD {F : List (List U)} (hF : F.length ≤ 100) (hr : ∀ r, r ∈ F → 1 ≤ (fac r).length ∧ InR (fac r) ∧ Dis (fac r)) : ∀ (k i : Nat) (q : List Int), i + k = F.length → q.length ≤ 400 → EndZ 79 ctPW false (stOf (sD F q.length F.length q true i)) (res3 (lp3 ((F.drop i).map fac) q)) [] 0
  | 0, i, q, h, hq => by
    have h1 := d_t F q.length F.length q true i
    rw [List.drop_eq_nil_of_le (by omega)]
    simp (disch := omega) only [Nat.add_eq, eqSy_self, eqN_self, bc_same, List.length_cons, ofn, wrap_in, dt, df, bltD, bltN, ble_of, bleN, beqD, bc_t, bc_f, nn_ok, Nat.zero_add, to_nat, Int.zero_add, Int.sub_zero, Int.sub_self, Int.cast_ofNat_Int, Int.natCast_zero, Int.toNat_zero, List.take_zero, List.nil_append, List.length_append, List.length_nil] at h1
    exact .done h1
  | k + 1, i, q, h, hq => by
    have hi : i < F.length := by omega
    have h1 := d_t F q.length F.length q true i
    rw [List.drop_eq_getElem_cons hi, List.map_cons]
    unfold lp3
    have e : F.getD i [] = F[i] := getD_at hi
    rw [to_nat, e] at h1
    have e2 : List.map (fun r => U.int (List.headD r (U.i 0))) (U.list (List.getD F[i] 0 (U.i 0))) = fac F[i] := rfl
    rw [e2] at h1
    have h3 := hr _ (List.getElem_mem hi)
    have h4 := lwo_len h3.2.1
    rw [dt h3] at h1
    by_cases h5 : 400 < (q ++ lwo (fac F[i])).length
    · rw [if_pos h5]
      rw [List.length_append] at h5
      simp (disch := omega) only [Nat.add_eq, eqSy_self, eqN_self, bc_same, List.length_cons, ofn, wrap_in, dt, df, bltD, bltN, ble_of, bleN, beqD, bc_t, bc_f, nn_ok, Nat.zero_add, to_nat, Int.zero_add, Int.sub_zero, Int.sub_self, Int.cast_ofNat_Int, Int.natCast_zero, Int.toNat_zero, List.take_zero, List.nil_append, List.length_append, List.length_nil] at h1
      exact .done h1
    · rw [if_neg h5]
      have h6 := h5
      rw [List.length_append] at h6
      simp (disch := omega) only [Nat.add_eq, eqSy_self, eqN_self, bc_same, List.length_cons, ofn, wrap_in, dt, df, bltD, bltN, ble_of, bleN, beqD, bc_t, bc_f, nn_ok, Nat.zero_add, to_nat, Int.zero_add, Int.sub_zero, Int.sub_self, Int.cast_ofNat_Int, Int.natCast_zero, Int.toNat_zero, List.take_zero, List.nil_append, List.length_append, List.length_nil] at h1
      have h7 := loopD hF hr k (i + 1) (q ++ lwo (fac F[i])) (by omega) (by omega)
      rw [List.length_append] at h7
      exact .at ctPW_ok h1 h7
theorem fin3 {n c : Int} {F : List (List U)} {q : List Int} (hq : q.length ≤ 400) (hw : wout n.toNat c F = lp2 (F.map fac) q) (hE : wE n c F = if 400 < (wout n.toNat c F).length then 3 else 0) : Weak (res3 (lp3 (F.map fac) q)) (shWo n c F) := by
  cases h : lp3 (F.map fac) q with
  | none =>
    have h1 := lp3_none _ _ hq h
    rw [← hw] at h1
    rw [if_pos h1] at hE
    exact wo_err hE (by decide)
  | some r =>
    obtain ⟨h1, h2⟩ := lp3_some _ _ _ hq h
    rw [← hw] at h1
    rw [if_neg (by rw [h1]; omega)] at hE
    unfold shWo wL
    rw [hE, if_pos rfl, h1]
    exact Weak.refl _
theorem ends {n c : Int} {F : List (List U)} (hF : F.length ≤ 100) : EndZ 79 ctPW false (st0 79 [iv n, iv c, fl F]) (shWo n c F) [] 0 := by
  have h := in_t n c F
  by_cases h1 : n < 1
  · rw [dt h1, bc_t] at h
    exact (EndZ.done h).weak (wo_err (e := 2) (by unfold wE; rw [if_pos h1]) (by decide))
  rw [df h1, bc_f] at h
  by_cases h2 : 12 < n
  · rw [dt h2, bc_t] at h
    exact (EndZ.done h).weak (wo_err (e := 2) (by unfold wE; rw [if_neg h1, if_pos h2]) (by decide))
  rw [df h2, bc_f] at h
  obtain ⟨n, rfl⟩ := Int.eq_ofNat_of_zero_le (show 0 ≤ n by omega)
  have hn : 1 ≤ n := by omega
  have hn2 : n ≤ 12 := by omega
  cases h3 : okF n F with
  | false =>
    exact (EndZ.at ctPW_ok h (badA hF hn hn2 F.length 0 (by omega) h3)).weak (wo_err (e := 6) (by unfold wE; rw [if_neg h1, if_neg h2, to_nat, if_pos h3]) (by decide))
  | true =>
    obtain ⟨e, he, hej, hB⟩ := loopB (c := c) (F := F) hn2 n 0 e0 (by omega) rfl (fun j hj => by omega)
    have hl := (((leadsZ ctPW_ok h).trans (goodA (c := c) hF hn hn2 F.length 0 (by omega) h3)).trans hB).trans (loopC hn2 he hej n 0 (zerosL n) (by omega) (by unfold zerosL; simp) (fun j hj => by omega))
    have hb := c_t n c F e n n (dlt n) n
    have hd := dlt_inR hn2
    have hdl := lwo_len hd
    have hsm : (lwo (dlt n)).length ≤ 2000 ∧ Sml (lwo (dlt n)) := ⟨by omega, fun x hx => by have := lwo_mem hd hx; omega⟩
    have hdis : 1 ≤ (dlt n).length ∧ InR (dlt n) ∧ Dis (dlt n) := ⟨by rw [dlt_len]; exact hn, hd, dlt_dis n⟩
    rw [df (show ¬ (n : Int) < n by omega), bc_f, beqD (dlt_len n).symm, dt hdis] at hb
    simp only [bc_t, dt hsm] at hb
    have hin : ∀ r, r ∈ F → 1 ≤ (fac r).length ∧ InR (fac r) ∧ Dis (fac r) := fun r hr => by
      have h4 := List.all_eq_true.1 h3 r hr
      have h5 := prm_ok hn2 h4
      exact ⟨by rw [prm_off h4]; exact hn, h5.1, h5.2⟩
    by_cases h4 : n = 1
    · subst h4
      have e1 : (((1 : Nat) : Int) == 1) = true := rfl
      have hnil := dlt_one
      rw [e1, bc_t, hnil] at hb
      have e2 : RUN (stOf (sC (1 : Nat) c F e 1 (1 : Nat) (dlt 1) (1 : Nat))) = .at (sD F 0 F.length [] true (0 : Nat)) := by
        refine hb.trans ?_
        rw [df (show ¬ (400 : Int) < IntKind.wrap IntKind.i64 (0 * Int.ofNat ([] : List Int).length) by decide), bc_f]
        rw [dt (by decide), bc_t]
        rfl
      have h9 : EndZ 79 ctPW false (stOf (sD F ([] : List Int).length F.length [] true (0 : Nat))) (res3 (lp3 (F.map fac) [])) [] 0 := loopD hF hin F.length 0 [] (by omega) (Nat.zero_le _)
      have hdd : dd 1 c = [] := List.eq_nil_of_length_eq_zero (by rw [dd_len, hnil]; rfl)
      refine (EndZ.lead (hl.trans (leadsZ ctPW_ok e2)) h9).weak (fin3 (Nat.zero_le _) ?_ ?_)
      · show wout 1 c F = _
        unfold wout; rw [hdd, lp1_none]
      · unfold wE
        rw [if_neg h1, if_neg h2, to_nat, if_neg (by rw [h3]; decide), if_neg (show ¬ (0 < (lwo (dlt 1)).length ∧ (400 < c ∨ c < -400)) from fun h => by rw [hnil] at h; exact absurd h.1 (by decide))]
    · have e1 : ((n : Int) == 1) = false := by simp; omega
      have hpos := dlt_more (show 2 ≤ n by omega) hn2
      rw [e1, bc_f] at hb
      by_cases h5 : 400 < c
      · rw [dt h5, bc_t] at hb
        exact (EndZ.lead hl (EndZ.done hb)).weak (wo_err (e := 3) (by unfold wE; rw [if_neg h1, if_neg h2, to_nat, if_neg (by rw [h3]; decide), if_pos ⟨hpos, .inl h5⟩]) (by decide))
      rw [df h5, bc_f] at hb
      by_cases h6 : c < -400
      · rw [dt h6, bc_t] at hb
        exact (EndZ.lead hl (EndZ.done hb)).weak (wo_err (e := 3) (by unfold wE; rw [if_neg h1, if_neg h2, to_nat, if_neg (by rw [h3]; decide), if_pos ⟨hpos, .inr h6⟩]) (by decide))
      rw [df h6, bc_f] at hb
      have hE : wE n c F = if 400 < (wout n c F).length then 3 else 0 := by
        unfold wE; rw [if_neg h1, if_neg h2, to_nat, if_neg (by rw [h3]; decide), if_neg (show ¬ (0 < (lwo (dlt n)).length ∧ (400 < c ∨ c < -400)) from fun h => by rcases h.2 with h | h <;> omega)]
      obtain ⟨k, hk⟩ : ∃ k : Nat, k = c.natAbs := ⟨_, rfl⟩
      have hmul : k * (dd n c).length ≤ 400 * 1728 := Nat.mul_le_mul (by omega) (by rw [dd_len]; exact hdl)
      have hbig : ((k : Int) * ((dd n c).length : Int)) = ((k * (dd n c).length : Nat) : Int) := by rw [Int.natCast_mul]
      have key : RUN (stOf (sC n c F e n n (dlt n) n)) = bc (decide (400 < ((k * (dd n c).length : Nat) : Int))) (.done (.tup [.v (.slice none 0 0), iv 3]) [] 0) (bc (decide (0 ≤ (k : Int) ∧ (k : Int) ≤ 400 ∧ (dd n c).length ≤ 2000 ∧ (k : Int) * ((dd n c).length : Int) ≤ 65536)) (.at (sD F (repI (dd n c) k).length F.length (repI (dd n c) k) true (0 : Nat))) .bad) := by
        rw [hb, ← hbig]
        unfold dd
        by_cases h7 : c < 0
        · have e3 : IntKind.i64.wrap (0 - c) = (k : Int) := by rw [wrap_in _ (by omega) (by omega)]; omega
          have e4 : (if (400 : Int) < (k : Int) then (400 : Int) else (k : Int)) = (k : Int) := by rw [if_neg (by omega)]
          unfold dd at hmul hbig
          rw [if_pos h7] at hmul hbig
          rw [dt h7, bc_t, if_pos h7, e3, e4, ofn, hbig, wrap_in _ (by omega) (by omega), to_nat]
          rfl
        · have e3 : c = (k : Int) := by omega
          have e4 : (if (400 : Int) < (k : Int) then (400 : Int) else (k : Int)) = (k : Int) := by rw [if_neg (by omega)]
          unfold dd at hmul hbig
          rw [if_neg h7] at hmul hbig
          rw [df h7, bc_f, if_neg h7, ofn]
          clear hb hl hB
          subst e3
          rw [e4, hbig, wrap_in _ (by omega) (by omega), to_nat]
          rfl
      by_cases h8 : 400 < k * (dd n c).length
      · rw [dt (show (400 : Int) < ((k * (dd n c).length : Nat) : Int) by omega), bc_t] at key
        have h9 : 400 < (lp1 (dd n c) c.natAbs []).length := lp1_long _ _ _ (by rw [← hk]; simp; omega)
        have h10 : 400 < (wout n c F).length := by unfold wout; rw [lp2_long _ _ h9]; exact h9
        rw [if_pos h10] at hE
        exact (EndZ.lead hl (EndZ.done key)).weak (wo_err hE (by decide))
      · rw [df (show ¬ (400 : Int) < ((k * (dd n c).length : Nat) : Int) by omega), bc_f, dt ⟨by omega, by omega, by rw [dd_len]; omega, by rw [hbig]; omega⟩, bc_t] at key
        have hql : (repI (dd n c) k).length ≤ 400 := by rw [repI_len]; omega
        have h9 : EndZ 79 ctPW false (stOf (sD F (repI (dd n c) k).length F.length (repI (dd n c) k) true (0 : Nat))) (res3 (lp3 (F.map fac) (repI (dd n c) k))) [] 0 := loopD hF hin F.length 0 (repI (dd n c) k) (by omega) hql
        refine (EndZ.lead (hl.trans (leadsZ ctPW_ok key)) h9).weak (fin3 hql ?_ hE)
        show wout n c F = _
        unfold wout
        rw [← hk, lp1_fit _ _ _ (by simp; omega), List.nil_append]
end PWor
noncomputable def spPWo : ZCT := fun ax => match ax with
  | [.v (.int .i64 n), .v (.int .i64 c), .lst (.recs [.list [.int .i64]] F)] => some ⟨decide (F.length ≤ 100 ∧ ∀ r, r ∈ F → (fac r).length ≤ 100), shWo n c F, [], 0⟩
  | _ => none
theorem spPWo_ok : ZCtOk Try.prog 79 spPWo := fun γ w us ax r hs hc hax hN hfz => by
  unfold spPWo at hs
  split at hs
  case h_2 => cases hs
  rename_i n c F
  obtain ⟨rfl⟩ := Option.some.inj hs
  have hc_0 : decide (F.length ≤ 100 ∧ ∀ r, r ∈ F → (fac r).length ≤ 100) = true := hc
  have hc := of_decide_eq_true hc_0
  exact EndZ.calls (PWor.ends hc.1) ctPW_ok (by kernel_rfl) hax hN hfz
end Go.Proofs.Ytonbfalbfdkieaa.Ev
namespace Go.Proofs.Ytonbfalbfdkieaa.Ev
open Go.Proofs
theorem awakeB_run : endsB (exClosed Try.prog ft (drD Try.prog ft 16 4) 37 18) = true := by kernel_rfl
theorem awakeBC (w : World) : Calls Try.prog 37 #[] w fun e w' => e = .returned (.bool true) ∧ Stays w w' := closedTrue ftOk (drD_ok mix ftOk 16 4) awakeB_run w
theorem spAwakeB_ok : ZCtOk Try.prog 37 spTrue := spTrue_ok awakeBC
end Go.Proofs.Ytonbfalbfdkieaa.Ev
namespace Go.Proofs.Ytonbfalbfdkieaa
open Go.ChangeShapes Go.WideShapes Go.ChangeAt Go.RowKit

theorem kept_of_stays {W W' : World} (h : Ev.Stays W W') (may : MemPlace → Prop) : W.keptBut W' may := by
  refine ⟨h.os, h.output, fun i hi => ?_⟩
  have e := h.block i hi
  rw [e]
  cases hb : W.heap[i]? with
  | none => simp
  | some o =>
    cases o <;> first | exact ⟨rfl, rfl, rfl, fun _ _ => rfl⟩ | exact .inr ⟨rfl, rfl⟩ | rfl
theorem frozen_of_stays {W W' : World} (h : Ev.Stays W W') (a : Addr) (ha : a.block < W.heap.size) : W'.frozen? a = W.frozen? a := by
  unfold World.frozen?
  rw [h.block _ ha]
section
variable {H : Type} {enc : TypeId × Value → H} {P : Program}

theorem post_of_stays {f : Func} {s : ChangeSpec} {apart fresh handsOn again : Bool} {W W' : World} {args : Array Value} {v : Value} {ds gs : List (DataW H)} {before pa pv : List MemPlace}
    (hW : DataW.Whole enc P f.params.toList s.vars apart W args.toList ds gs before)
    (hres : ∀ (b : Nat) (sp : Nat → Bool) (hd : Bool), DataW.TrodAll enc P W' b sp hd f.resultTypes.toList (v.resultList f.resultTypes.size) (s.fn H (ds ++ gs)).results [])
    (hargs : ∀ sp : Nat → Bool, (∀ p ∈ before, sp p.block = true) → DataW.TrodAll enc P W' 0 sp true f.params.toList args.toList (s.fn H (ds ++ gs)).args pa)
    (hvars : ∀ sp : Nat → Bool, (∀ p ∈ before, sp p.block = true) → DataW.TrodVars enc P W' sp s.vars (s.fn H (ds ++ gs)).vars pv)
    (hps : before = pa ++ pv) (hst : Ev.Stays W W')
    (hok : ∀ (j : Nat) (t : TypeId) (r : Value), f.resultTypes[j]? = some t → (v.resultList f.resultTypes.size)[j]? = some r → Value.okWide P W' .any 0 t r) :
    s.post enc P f apart fresh handsOn again W args v W' := by
  have hk : W.keptBut W' (· ∈ before) := kept_of_stays hst _
  have hold : ∀ p ∈ before, (fun b => decide (b < W.heap.size)) p.block = true := fun p hp => by simpa using hW.lt p hp
  have hlt := fun p hp => hW.lt p hp
  refine ⟨ds, gs, before, [], pa, pv, hW, hres _ _ _, hargs _ hold, hvars _ hold, World.keptBut_mono (fun p hp => ⟨hp, ?_⟩) hk, fun _ => ?_⟩
  · rw [hps, List.mem_append] at hp
    exact Or.inr hp
  · obtain ⟨_, _, _, _, _, hz, hn⟩ := hW
    refine ⟨hok, _, _, ([] ++ pa) ++ pv, ⟨[] ++ pa, pv, trodAll_append (hargs _ (fun _ _ => rfl)) (hres _ _ _), hvars _ (fun _ _ => rfl), rfl, ?_, ?_⟩, ?_⟩
    · intro b off hp
      have hp2 : MemPlace.cell b off ∈ before := by rw [hps]; simpa using hp
      rw [frozen_of_stays hst _ (hlt _ hp2)]
      exact hz b off hp2
    · intro ha
      have := hn ha
      rw [hps] at this
      simpa using this
    · intro p hp _
      rw [hps]
      simpa using hp
end
end Go.Proofs.Ytonbfalbfdkieaa
namespace Go.Proofs.Ytonbfalbfdkieaa
open Go.ChangeShapes Go.WideShapes Go.ChangeAt Go.RowKit
section
variable {H : Type} {enc : TypeId × Value → H} {P : Program}
theorem same_of_stays {W W' : World} (h : Ev.Stays W W') {p : MemPlace} (hp : p.block < W.heap.size) : W.sameAt W' p := by
  cases p with
  | cell b off =>
    show W'.cell? _ = W.cell? _
    unfold World.cell?
    rw [h.block b hp]
  | map b => exact h.block b hp
theorem args_carry {W W' : World} {base : Nat} {sp : Nat → Bool} {hd : Bool} : ∀ {ts : List TypeId} {vs : List Value} {ds : List (DataW H)} {ps : List MemPlace}, DataW.TrodAll enc P W base sp hd ts vs ds ps → (∀ p ∈ ps, W.sameAt W' p) → DataW.TrodAll enc P W' base sp hd ts vs ds ps
  | [], [], [], _, h, _ => h
  | _ :: _, _ :: _, _ :: _, _, ⟨p, q, ⟨n, h⟩, hs, e⟩, k => ⟨p, q, ⟨n, DataW.trod_carry n _ _ _ h fun x hx => k x (by rw [e]; exact List.mem_append_left _ hx)⟩, args_carry hs fun x hx => k x (by rw [e]; exact List.mem_append_right _ hx), e⟩
  | [], [], _ :: _, _, h, _ => h.elim
  | [], _ :: _, _, _, h, _ => h.elim
  | _ :: _, [], _, _, h, _ => h.elim
  | _ :: _, _ :: _, [], _, h, _ => h.elim

theorem post_law {f : Func} {s : ChangeSpec} {apart fresh handsOn again : Bool} {W W' : World} {args : Array Value} {ds : List (DataW H)} {p : List MemPlace} {bt : TypeId} {T : TypeId → Prop} (K : Kids P T) (hz : ∀ t e, T t → P.underlying t = some (.slice e) → 0 < P.cellsOf e)
    (hbt : P.underlying bt = some .bool) (hrt : f.resultTypes.toList = [bt]) (hsz : f.resultTypes.size = 1) (hvs : s.vars = []) (hfn : s.fn H (ds ++ []) = { results := [.lit (.bool true)], args := ds })
    (hpt : ∀ t ∈ f.params.toList, T t)
    (hW : DataW.Whole enc P f.params.toList s.vars apart W args.toList ds [] (p ++ [])) (hA : DataW.TrodAll enc P W 0 (fun _ => true) true f.params.toList args.toList ds p) (hst : Ev.Stays W W')
    (hok : ∀ (j : Nat) (t : TypeId) (r : Value), f.resultTypes[j]? = some t → ((Value.bool true).resultList f.resultTypes.size)[j]? = some r → Value.okWide P W' .any 0 t r) :
    s.post enc P f apart fresh handsOn again W args (.bool true) W' := by
  have hlt := fun q hq => hW.lt q hq
  refine post_of_stays (pa := p) (pv := []) hW (fun b sp hd => ?_) (fun sp hsp => ?_) (fun sp _ => ?_) rfl hst hok
  · rw [hrt, hfn, hsz]
    exact trodAll_mk1 (shut_bool hbt _)
  · rw [hfn]
    exact DataW.TrodAll.respare K hz hpt (args_carry hA fun q hq => same_of_stays hst (hlt q (by simpa using hq))) fun q hq => hsp q (by simpa using hq)
  · rw [hfn, hvs]
    rfl
end
namespace Ev


inductive UFit : Sh → U → Prop where
  | int (k : IntKind) (n : Int) (h : (Lit.int k n).wf = true) : UFit (.int k) (.i n)
  | bool (b : Bool) : UFit .bool (.b b)
  | str (s : ByteArray) (h : s.size ≤ maxLen) : UFit .str (.s s)
  | list (sh : List Sh) (l : List (List U)) (hl : l.length ≤ maxLen) (hr : ∀ j, j < l.length → (l.getD j []).length = sh.length) (h : ∀ (j f : Nat) (s : Sh), j < l.length → sh[f]? = some s → UFit s ((l.getD j []).getD f (.i 0))) : UFit (.list sh) (.l l)
structure RowFit (sh : List Sh) (r : List U) : Prop where
  len : r.length = sh.length
  fit : ∀ (f : Nat) (s : Sh), sh[f]? = some s → UFit s (r.getD f (.i 0))
theorem RowFit.nil : RowFit [] [] := ⟨rfl, fun f s h => by simp at h⟩
theorem RowFit.append {sh1 sh2 : List Sh} {r1 r2 : List U} (h1 : RowFit sh1 r1) (h2 : RowFit sh2 r2) : RowFit (sh1 ++ sh2) (r1 ++ r2) := by
  refine ⟨by simp [h1.len, h2.len], fun f s h => ?_⟩
  rw [List.getD_eq_getElem?_getD]
  by_cases hf : f < sh1.length
  · rw [List.getElem?_append_left hf] at h
    rw [List.getElem?_append_left (by rw [h1.len]; exact hf), ← List.getD_eq_getElem?_getD]
    exact h1.fit f s h
  · rw [List.getElem?_append_right (by omega)] at h
    rw [List.getElem?_append_right (by rw [h1.len]; omega), h1.len, ← List.getD_eq_getElem?_getD]
    exact h2.fit _ s h
theorem recE_app : ∀ {sh1 sh2 : List Sh} {r1 r2 : List U}, r1.length = sh1.length → recE (sh1 ++ sh2) (r1 ++ r2) = recE sh1 r1 ++ recE sh2 r2
  | [], sh2, r1, r2, h => by
    have : r1 = [] := List.eq_nil_of_length_eq_zero h
    subst this; rfl
  | s :: sh1, sh2, [], r2, h => by cases h
  | s :: sh1, sh2, u :: r1, r2, h => by
    show s.ev u :: recE (sh1 ++ sh2) (r1 ++ r2) = s.ev u :: (recE sh1 r1 ++ recE sh2 r2)
    rw [recE_app (by simpa using h)]

def shFs (P : Program) (f : TypeId → Option (List Sh)) : List Field → Nat → Option (List Sh)
  | [], _ => some []
  | fd :: r, off => match f fd.type with
    | some sh => if fd.offset = off ∧ P.cellsOf fd.type = sh.length then match shFs P f r (off + sh.length) with
      | some l => some (sh ++ l)
      | none => none else none
    | none => none
def shB (P : Program) : Nat → TypeId → Option (List Sh)
  | 0, _ => none
  | k + 1, t => match P.underlying t with
    | some (.int κ) => some [.int κ]
    | some .bool => some [.bool]
    | some .string => some [.str]
    | some (.slice e) => match shB P k e with
      | some sh => if P.cellsOf e = sh.length ∧ 0 < sh.length then some [.list sh] else none
      | none => none
    | some (.struct fs) => match shFs P (shB P k) fs.toList 0 with
      | some sh => if P.cellsOf t = sh.length then some sh else none
      | none => none
    | some (.array m e) => match shB P k e with
      | some sh => if P.cellsOf e = sh.length ∧ P.cellsOf t = m * sh.length then some (List.replicate m sh).flatten else none
      | none => none
    | _ => none
noncomputable def fzAll (W : World) : Nat → Option (Array Value) := fun k => match W.heap[k]? with
  | some (.cells a _ _) => some a
  | _ => none
noncomputable def gAll (W : World) : G := ⟨fun _ => none, fzAll W, fun _ _ _ => none⟩
theorem fzAll_at (W : World) : FzAt (gAll W) W := ⟨fun k a hk => (by
  have hk : fzAll W k = some a := hk
  unfold fzAll at hk
  split at hk
  · rename_i a' ty fz h
    injection hk with hk; subst hk
    exact ⟨ty, fz, h⟩
  · cases hk), fun _ _ _ => rfl⟩
theorem list_of {Q : Nat → List U → Prop} : ∀ (n : Nat), (∀ i, i < n → ∃ r, Q i r) → ∃ l : List (List U), l.length = n ∧ ∀ i, i < n → Q i (l.getD i [])
  | 0, _ => ⟨[], rfl, fun i hi => absurd hi (by omega)⟩
  | n + 1, h => by
    obtain ⟨l, h1, h2⟩ := list_of n fun i hi => h i (by omega)
    obtain ⟨r, hr⟩ := h n (by omega)
    refine ⟨l ++ [r], by simp [h1], fun i hi => ?_⟩
    rw [List.getD_eq_getElem?_getD]
    by_cases e : i < n
    · rw [List.getElem?_append_left (by omega), ← List.getD_eq_getElem?_getD]; exact h2 i e
    · have : i = n := by omega
      subst this
      rw [List.getElem?_append_right (by omega), h1, Nat.sub_self]; exact hr
variable {H : Type} {enc : TypeId × Value → H} {P : Program} {W : World} {base : Nat} {sp : Nat → Bool} {hd : Bool}
def OpenAt (enc : TypeId × Value → H) (P : Program) (W : World) (base : Nat) (sp : Nat → Bool) (hd : Bool) (k : Nat) : Prop := ∀ (t : TypeId) (sh : List Sh) (fuel : Nat) (cs : List Value) (x : DataW H × List MemPlace), shB P k t = some sh → DataW.trod enc P W base sp hd fuel t cs = some x → ∃ r, RowFit sh r ∧ ∀ γ : G, γ.fz = fzAll W → ECL γ (recE sh r) cs
theorem fields_open {k : Nat} (ih : OpenAt enc P W base sp hd k) {cs : List Value} {n : Nat} : ∀ (fs : List Field) (off : Nat) (sh : List Sh), shFs P (shB P k) fs off = some sh → (∀ f, f ∈ fs → ∃ y, DataW.trod enc P W base sp hd n f.type ((cs.drop f.offset).take (P.cellsOf f.type)) = some y) → ∃ r, RowFit sh r ∧ ∀ γ : G, γ.fz = fzAll W → ECL γ (recE sh r) ((cs.drop off).take sh.length)
  | [], off, sh, h, _ => by
    injection (show some [] = some sh from h) with h; subst h
    exact ⟨[], .nil, fun γ _ => by
      rw [show ([] : List Sh).length = 0 from rfl, List.take_zero]; exact ECL.nil γ⟩
  | fd :: fs, off, sh, h, hall => by
    unfold shFs at h
    split at h
    case h_2 => cases h
    rename_i s1 hs1
    split at h
    case isFalse => cases h
    rename_i hc
    split at h
    case h_2 => cases h
    rename_i s2 hs2
    injection h with h; subst h
    obtain ⟨y, hy⟩ := hall fd (by simp)
    rw [hc.1, hc.2] at hy
    obtain ⟨r1, h1, h2⟩ := ih fd.type s1 n _ y hs1 hy
    obtain ⟨r2, h3, h4⟩ := fields_open ih fs (off + s1.length) s2 hs2 fun f hf => hall f (by simp [hf])
    refine ⟨r1 ++ r2, h1.append h3, fun γ hγ => ?_⟩
    rw [recE_app h1.len, List.length_append]
    have e : (cs.drop off).take (s1.length + s2.length) = (cs.drop off).take s1.length ++ (cs.drop (off + s1.length)).take s2.length := by
      rw [List.take_add, List.drop_drop]
    rw [e]
    exact (h2 γ hγ).append (h4 γ hγ)
theorem elems_open {k : Nat} (ih : OpenAt enc P W base sp hd k) {cs : List Value} {n : Nat} {e : TypeId} {sh : List Sh} (hsh : shB P k e = some sh) (hc : P.cellsOf e = sh.length) : ∀ (m i0 : Nat), (∀ i, i < m → ∃ y, DataW.trod enc P W base sp hd n e ((cs.drop ((i0 + i) * P.cellsOf e)).take (P.cellsOf e)) = some y) → ∃ r, RowFit (List.replicate m sh).flatten r ∧ ∀ γ : G, γ.fz = fzAll W → ECL γ (recE (List.replicate m sh).flatten r) ((cs.drop (i0 * sh.length)).take (m * sh.length))
  | 0, i0, _ => ⟨[], .nil, fun γ _ => by
      rw [Nat.zero_mul, List.take_zero]; exact ECL.nil γ⟩
  | m + 1, i0, h => by
    obtain ⟨y, hy⟩ := h 0 (by omega)
    rw [hc, Nat.add_zero] at hy
    obtain ⟨r1, h1, h2⟩ := ih e sh n _ y hsh hy
    obtain ⟨r2, h3, h4⟩ := elems_open ih hsh hc m (i0 + 1) fun i hi => by
      have := h (i + 1) (by omega)
      rwa [show i0 + (i + 1) = i0 + 1 + i by omega] at this
    refine ⟨r1 ++ r2, by rw [List.replicate_succ, List.flatten_cons]; exact h1.append h3, fun γ hγ => ?_⟩
    rw [List.replicate_succ, List.flatten_cons, recE_app h1.len, Nat.succ_mul, Nat.add_comm, List.take_add, List.drop_drop]
    have := h4 γ hγ
    rw [Nat.succ_mul] at this
    exact (h2 γ hγ).append this
theorem open_cells : ∀ k, OpenAt enc P W base sp hd k
  | 0 => fun t sh fuel cs x h => by cases h
  | k + 1 => fun t sh fuel cs x h ht => by
    have ih : OpenAt enc P W base sp hd k := open_cells k
    unfold shB at h
    split at h
    · rename_i κ hu
      injection h with h; subst h
      obtain ⟨n, rfl, _, hw⟩ := DataW.trod_int hu ht
      refine ⟨[.i n], ⟨rfl, fun f s hf => ?_⟩, fun γ _ => .cons (.v _) (.nil _)⟩
      obtain ⟨rfl, rfl⟩ := one_f hf
      exact .int κ n hw
    · rename_i hu
      injection h with h; subst h
      obtain ⟨b, rfl, _⟩ := DataW.trod_bool hu ht
      refine ⟨[.b b], ⟨rfl, fun f s hf => ?_⟩, fun γ _ => .cons (.v _) (.nil _)⟩
      obtain ⟨rfl, rfl⟩ := one_f hf
      exact .bool b
    · rename_i hu
      injection h with h; subst h
      obtain ⟨s, rfl, _, hs⟩ := DataW.trod_string hu ht
      refine ⟨[.s s], ⟨rfl, fun f s hf => ?_⟩, fun γ _ => .cons (.v _) (.nil _)⟩
      obtain ⟨rfl, rfl⟩ := one_f hf
      exact .str _ hs
    · rename_i e hu
      split at h
      case h_2 => cases h
      rename_i sh' hsh
      split at h
      case isFalse => cases h
      rename_i hc
      injection h with h; subst h
      rcases DataW.trod_slice hu ht with ⟨rfl, _⟩ | ⟨a, len, cap, elems, rest, n, _, rfl, _, hb, hlc, hcm, hel, hall, _⟩
      · refine ⟨[.l []], ⟨rfl, fun f s hf => ?_⟩, fun γ _ => .cons ?_ (.nil _)⟩
        · obtain ⟨rfl, rfl⟩ := one_f hf
          exact .list sh' [] (Nat.zero_le _) (fun j hj => by simp at hj) (fun j f s hj => by simp at hj)
        · exact UOk.ec (s := .list sh') (.empty sh' (.l []) none 0 rfl (Nat.zero_le _) fun _ => rfl)
      · have each : ∀ i, i < len → ∃ r, RowFit sh' r ∧ ∃ ys, W.cells? base (a.add (i * sh'.length)) sh'.length = some ys ∧ ∀ γ : G, γ.fz = fzAll W → ECL γ (recE sh' r) ys := fun i hi => by
          have h1 := hall i hi
          rw [hc.1] at h1
          have h2 : i < elems.length := by omega
          rw [List.getElem?_eq_getElem h2] at h1
          obtain ⟨ys, h3, h4⟩ := Option.bind_eq_some_iff.1 h1
          obtain ⟨r, h5, h6⟩ := ih e sh' n ys _ hsh h4
          exact ⟨r, h5, ys, h3, h6⟩
        obtain ⟨l, hl, hQ⟩ := list_of len each
        refine ⟨[.l l], ⟨rfl, fun f s hf => ?_⟩, fun γ hγ => .cons ?_ (.nil _)⟩
        · obtain ⟨rfl, rfl⟩ := one_f hf
          exact .list sh' l (by omega) (fun j hj => (hQ j (by omega)).1.len) fun j f s hj hf => (hQ j (by omega)).1.fit f s hf
        · refine UOk.ec (s := .list sh') ?_
          by_cases h0 : len = 0
          · have : l = [] := List.eq_nil_of_length_eq_zero (by omega)
            subst this; subst h0
            exact .empty sh' (.l []) (some a) cap rfl hcm fun e => by cases e
          · obtain ⟨b, off, spot⟩ := a
            have hblk : spot = none ∧ ∃ arr ty fz, W.heap[b]? = some (.cells arr ty fz) := by
              obtain ⟨h1, ys, h2, h3⟩ := hQ 0 (by omega)
              obtain ⟨_, h4, h5⟩ := World.cells?_some h2
              have h6 := h5 0 hc.2
              rw [List.getElem?_eq_getElem (show 0 < ys.length by omega)] at h6
              have h6 : W.cell? ⟨b, off, spot⟩ = some ys[0] := by
                have e : ((⟨b, off, spot⟩ : Addr).add (0 * sh'.length)).add 0 = ⟨b, off, spot⟩ := by simp [Addr.add]
                rw [e] at h6; exact h6
              unfold World.cell? at h6
              split at h6
              · rename_i arr ty fz hb'
                split at h6
                · cases h6
                · rename_i hs
                  exact ⟨by cases spot <;> simp_all, arr, ty, fz, hb'⟩
              · cases h6
            obtain ⟨rfl, arr, ty, fz, hblk⟩ := hblk
            have cellAt : ∀ i f, i < len → f < sh'.length → ∃ y, W.cell? ⟨b, off + (i * sh'.length + f), none⟩ = some y ∧ ∀ s, sh'[f]? = some s → UOk γ.fz s ((l.getD i []).getD f (.i 0)) y := fun i f hi hf => by
              obtain ⟨h1, ys, h2, h3⟩ := hQ i hi
              obtain ⟨_, h4, h5⟩ := World.cells?_some h2
              have h6 := h5 f hf
              have h7 : f < ys.length := by omega
              rw [List.getElem?_eq_getElem h7] at h6
              refine ⟨ys[f], ?_, fun s hs => ?_⟩
              · have e : ((⟨b, off, none⟩ : Addr).add (i * sh'.length)).add f = ⟨b, off + (i * sh'.length + f), none⟩ := by
                  unfold Addr.add
                  split <;> split <;> simp_all [Nat.add_assoc]
                rw [← h6, e]
              · have h8 := recE_get (s := s) (f := f) (sh := sh') (l.getD i []) hs
                have h9 := (h3 γ hγ).2 f _ ys[f] h8 (List.getElem?_eq_getElem h7)
                exact UOk.of_ec h9
            have getA : ∀ i f, i < len → f < sh'.length → ∃ y, arr[off + (i * sh'.length + f)]? = some y ∧ ∀ s, sh'[f]? = some s → UOk γ.fz s ((l.getD i []).getD f (.i 0)) y := fun i f hi hf => by
              obtain ⟨y, h1, h2⟩ := cellAt i f hi hf
              refine ⟨y, ?_, h2⟩
              unfold World.cell? at h1
              simpa [hblk] using h1
            have hk : γ.fz b = some arr := by
              rw [hγ]; unfold fzAll; rw [hblk]
            subst hl
            refine .list sh' (.l l) b off cap arr hk hlc hcm ?_ fun j f s x hj hf hx => ?_
            · show off + l.length * sh'.length ≤ arr.size
              obtain ⟨y, h1, _⟩ := getA (l.length - 1) (sh'.length - 1) (by omega) (by omega)
              have := (Array.getElem?_eq_some_iff.1 h1).1
              have e : l.length * sh'.length = (l.length - 1) * sh'.length + sh'.length := by rw [← Nat.succ_mul]; congr 1; omega
              omega
            · obtain ⟨y, h1, h2⟩ := getA j f hj (List.getElem?_eq_some_iff.1 hf).1
              rw [h1] at hx; injection hx with hx; subst hx
              exact h2 s hf
    · rename_i fs hu
      split at h
      case h_2 => cases h
      rename_i sh' hsh
      split at h
      case isFalse => cases h
      rename_i hc
      injection h with h; subst h
      obtain ⟨xs, n, _, _, hl, hlen, hf⟩ := DataW.trod_struct hu ht
      obtain ⟨r, h1, h2⟩ := fields_open (cs := cs) (n := n) ih fs.toList 0 sh' hsh fun f hm => by
        obtain ⟨i, hi, rfl⟩ := List.getElem_of_mem hm
        have hi2 : i < fs.size := by simpa using hi
        have := hf i fs.toList[i] (by simp [hi2])
        rw [List.getElem?_eq_getElem (by omega)] at this
        exact ⟨_, this⟩
      refine ⟨r, h1, fun γ hγ => ?_⟩
      have := h2 γ hγ
      rwa [List.drop_zero, List.take_of_length_le (by omega)] at this
    · rename_i m e hu
      split at h
      case h_2 => cases h
      rename_i sh' hsh
      split at h
      case isFalse => cases h
      rename_i hc
      injection h with h; subst h
      obtain ⟨xs, n, _, _, hl, hlen, hf⟩ := DataW.trod_array hu ht
      obtain ⟨r, h1, h2⟩ := elems_open (cs := cs) (n := n) ih hsh hc.1 m 0 fun i hi => by
        have := hf i hi
        rw [List.getElem?_eq_getElem (by omega)] at this
        rw [Nat.zero_add]
        exact ⟨_, this⟩
      refine ⟨r, h1, fun γ hγ => ?_⟩
      have := h2 γ hγ
      rwa [Nat.zero_mul, List.drop_zero, List.take_of_length_le (by omega)] at this
    · cases h

theorem open_lst {t e : TypeId} {v : Value} {d : DataW H} {ps : List MemPlace} {k b0 : Nat} {rc : Reach} {sh : List Sh} (hu : P.underlying t = some (.slice e)) (hs : shB P k t = some [.list sh]) (hv : Value.okWide P W rc b0 t v) (h : DataW.Trod enc P W base sp hd t v d ps) : ∃ l, UFit (.list sh) (.l l) ∧ EC (gAll W) (.lst (mkC sh l)) v := by
  obtain ⟨a, len, cap, rfl⟩ := okWide_slice hu hv
  obtain ⟨fuel, hf⟩ := h
  obtain ⟨r, h1, h2⟩ := open_cells k t _ fuel _ _ hs hf
  have h3 := h2 (gAll W) rfl
  obtain ⟨h4, h5⟩ := h1
  match r, h4 with
  | [u], _ =>
    have h6 := h5 0 _ rfl
    have h6 : UFit (.list sh) u := h6
    cases h6 with
    | list _ l hl hr hh =>
      refine ⟨l, .list sh l hl hr hh, ?_⟩
      exact h3.2 0 _ _ rfl rfl
end Ev
end Go.Proofs.Ytonbfalbfdkieaa
