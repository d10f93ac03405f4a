/- Laid together: The table of functions for the reckoner. What all functions of a seat share: runs, leads, calls. What laws share: from a call's end to the statement's; closed calls that return true. References of the stitches and the sheets: index, Check, Check. Contracts of strings.Repeat, strings.Join over data. No program is named. The program's stitches and sheets: Check, Check. Plain facts on sheets that are checked. Reference of the assembling: Same, place, Beside, Below, Times. The reference's Cut: Touch, Kept, Cut. Plain law: the order from one list to another one, by taking always the first element that is ready. No program is named. The reference's ready, match, Same of the traces. Spiders of which left and right are exchanged are the same lace. motifs.Plait. torchonref09: Same, letters, body, Plait. -/
import Derived.Test.YthaljeccdeajoaaChecked
import Derived.Test.YthaljeccdeajoaaMt4
set_option linter.unusedSimpArgs false
set_option linter.unusedVariables false
namespace Go.Proofs.Ythaljeccdeajoaa.Ev
open Go.Proofs
noncomputable def ft0 : Tr FI := .nil
theorem ft0Ok : FTok Try.prog ft0 := FTok.nil _
noncomputable def ft1 : Tr FI := ft0.put 2 (some (ofFunc Try.f2))
theorem ft1Ok : FTok Try.prog ft1 := ft0Ok.add (by kernel_rfl) Try.func2 (by kernel_rfl) (by kernel_rfl)
noncomputable def ft2 : Tr FI := ft1.put 3 (some (ofFunc Try.f3))
theorem ft2Ok : FTok Try.prog ft2 := ft1Ok.add (by kernel_rfl) Try.func3 (by kernel_rfl) (by kernel_rfl)
noncomputable def ft3 : Tr FI := ft2.put 4 (some (ofFunc Try.f4))
theorem ft3Ok : FTok Try.prog ft3 := ft2Ok.add (by kernel_rfl) Try.func4 (by kernel_rfl) (by kernel_rfl)
noncomputable def ft4 : Tr FI := ft3.put 5 (some (ofFunc Try.f5))
theorem ft4Ok : FTok Try.prog ft4 := ft3Ok.add (by kernel_rfl) Try.func5 (by kernel_rfl) (by kernel_rfl)
noncomputable def ft5 : Tr FI := ft4.put 6 (some (ofFunc Try.f6))
theorem ft5Ok : FTok Try.prog ft5 := ft4Ok.add (by kernel_rfl) Try.func6 (by kernel_rfl) (by kernel_rfl)
noncomputable def ft6 : Tr FI := ft5.put 7 (some (ofFunc Try.f7))
theorem ft6Ok : FTok Try.prog ft6 := ft5Ok.add (by kernel_rfl) Try.func7 (by kernel_rfl) (by kernel_rfl)
noncomputable def ft7 : Tr FI := ft6.put 8 (some (ofFunc Try.f8))
theorem ft7Ok : FTok Try.prog ft7 := ft6Ok.add (by kernel_rfl) Try.func8 (by kernel_rfl) (by kernel_rfl)
noncomputable def ft8 : Tr FI := ft7.put 9 (some (ofFunc Try.f9))
theorem ft8Ok : FTok Try.prog ft8 := ft7Ok.add (by kernel_rfl) Try.func9 (by kernel_rfl) (by kernel_rfl)
noncomputable def ft9 : Tr FI := ft8.put 10 (some (ofFunc Try.f10))
theorem ft9Ok : FTok Try.prog ft9 := ft8Ok.add (by kernel_rfl) Try.func10 (by kernel_rfl) (by kernel_rfl)
noncomputable def ft10 : Tr FI := ft9.put 11 (some (ofFunc Try.f11))
theorem ft10Ok : FTok Try.prog ft10 := ft9Ok.add (by kernel_rfl) Try.func11 (by kernel_rfl) (by kernel_rfl)
noncomputable def ft11 : Tr FI := ft10.put 12 (some (ofFunc Try.f12))
theorem ft11Ok : FTok Try.prog ft11 := ft10Ok.add (by kernel_rfl) Try.func12 (by kernel_rfl) (by kernel_rfl)
noncomputable def ft12 : Tr FI := ft11.put 13 (some (ofFunc Try.f13))
theorem ft12Ok : FTok Try.prog ft12 := ft11Ok.add (by kernel_rfl) Try.func13 (by kernel_rfl) (by kernel_rfl)
noncomputable def ft13 : Tr FI := ft12.put 14 (some (ofFunc Try.f14))
theorem ft13Ok : FTok Try.prog ft13 := ft12Ok.add (by kernel_rfl) Try.func14 (by kernel_rfl) (by kernel_rfl)
noncomputable def ft14 : Tr FI := ft13.put 15 (some (ofFunc Try.f15))
theorem ft14Ok : FTok Try.prog ft14 := ft13Ok.add (by kernel_rfl) Try.func15 (by kernel_rfl) (by kernel_rfl)
noncomputable def ft15 : Tr FI := ft14.put 16 (some (ofFunc Try.f16))
theorem ft15Ok : FTok Try.prog ft15 := ft14Ok.add (by kernel_rfl) Try.func16 (by kernel_rfl) (by kernel_rfl)
noncomputable def ft16 : Tr FI := ft15.put 17 (some (ofFunc Try.f17))
theorem ft16Ok : FTok Try.prog ft16 := ft15Ok.add (by kernel_rfl) Try.func17 (by kernel_rfl) (by kernel_rfl)
noncomputable def ft17 : Tr FI := ft16.put 18 (some (ofFunc Try.f18))
theorem ft17Ok : FTok Try.prog ft17 := ft16Ok.add (by kernel_rfl) Try.func18 (by kernel_rfl) (by kernel_rfl)
noncomputable def ft18 : Tr FI := ft17.put 19 (some (ofFunc Try.f19))
theorem ft18Ok : FTok Try.prog ft18 := ft17Ok.add (by kernel_rfl) Try.func19 (by kernel_rfl) (by kernel_rfl)
noncomputable def ft19 : Tr FI := ft18.put 20 (some (ofFunc Try.f20))
theorem ft19Ok : FTok Try.prog ft19 := ft18Ok.add (by kernel_rfl) Try.func20 (by kernel_rfl) (by kernel_rfl)
noncomputable def ft20 : Tr FI := ft19.put 21 (some (ofFunc Try.f21))
theorem ft20Ok : FTok Try.prog ft20 := ft19Ok.add (by kernel_rfl) Try.func21 (by kernel_rfl) (by kernel_rfl)
noncomputable def ft21 : Tr FI := ft20.put 22 (some (ofFunc Try.f22))
theorem ft21Ok : FTok Try.prog ft21 := ft20Ok.add (by kernel_rfl) Try.func22 (by kernel_rfl) (by kernel_rfl)
noncomputable def ft22 : Tr FI := ft21.put 23 (some (ofFunc Try.f23))
theorem ft22Ok : FTok Try.prog ft22 := ft21Ok.add (by kernel_rfl) Try.func23 (by kernel_rfl) (by kernel_rfl)
noncomputable def ft23 : Tr FI := ft22.put 24 (some (ofFunc Try.f24))
theorem ft23Ok : FTok Try.prog ft23 := ft22Ok.add (by kernel_rfl) Try.func24 (by kernel_rfl) (by kernel_rfl)
noncomputable def ft24 : Tr FI := ft23.put 25 (some (ofFunc Try.f25))
theorem ft24Ok : FTok Try.prog ft24 := ft23Ok.add (by kernel_rfl) Try.func25 (by kernel_rfl) (by kernel_rfl)
noncomputable def ft25 : Tr FI := ft24.put 26 (some (ofFunc Try.f26))
theorem ft25Ok : FTok Try.prog ft25 := ft24Ok.add (by kernel_rfl) Try.func26 (by kernel_rfl) (by kernel_rfl)
noncomputable def ft26 : Tr FI := ft25.put 27 (some (ofFunc Try.f27))
theorem ft26Ok : FTok Try.prog ft26 := ft25Ok.add (by kernel_rfl) Try.func27 (by kernel_rfl) (by kernel_rfl)
noncomputable def ft27 : Tr FI := ft26.put 28 (some (ofFunc Try.f28))
theorem ft27Ok : FTok Try.prog ft27 := ft26Ok.add (by kernel_rfl) Try.func28 (by kernel_rfl) (by kernel_rfl)
noncomputable def ft28 : Tr FI := ft27.put 29 (some (ofFunc Try.f29))
theorem ft28Ok : FTok Try.prog ft28 := ft27Ok.add (by kernel_rfl) Try.func29 (by kernel_rfl) (by kernel_rfl)
noncomputable def ft29 : Tr FI := ft28.put 30 (some (ofFunc Try.f30))
theorem ft29Ok : FTok Try.prog ft29 := ft28Ok.add (by kernel_rfl) Try.func30 (by kernel_rfl) (by kernel_rfl)
noncomputable def ft30 : Tr FI := ft29.put 31 (some (ofFunc Try.f31))
theorem ft30Ok : FTok Try.prog ft30 := ft29Ok.add (by kernel_rfl) Try.func31 (by kernel_rfl) (by kernel_rfl)
noncomputable def ft31 : Tr FI := ft30.put 32 (some (ofFunc Try.f32))
theorem ft31Ok : FTok Try.prog ft31 := ft30Ok.add (by kernel_rfl) Try.func32 (by kernel_rfl) (by kernel_rfl)
noncomputable def ft32 : Tr FI := ft31.put 33 (some (ofFunc Try.f33))
theorem ft32Ok : FTok Try.prog ft32 := ft31Ok.add (by kernel_rfl) Try.func33 (by kernel_rfl) (by kernel_rfl)
noncomputable def ft33 : Tr FI := ft32.put 34 (some (ofFunc Try.f34))
theorem ft33Ok : FTok Try.prog ft33 := ft32Ok.add (by kernel_rfl) Try.func34 (by kernel_rfl) (by kernel_rfl)
noncomputable def ft34 : Tr FI := ft33.put 35 (some (ofFunc Try.f35))
theorem ft34Ok : FTok Try.prog ft34 := ft33Ok.add (by kernel_rfl) Try.func35 (by kernel_rfl) (by kernel_rfl)
noncomputable def ft35 : Tr FI := ft34.put 36 (some (ofFunc Try.f36))
theorem ft35Ok : FTok Try.prog ft35 := ft34Ok.add (by kernel_rfl) Try.func36 (by kernel_rfl) (by kernel_rfl)
noncomputable def ft36 : Tr FI := ft35.put 37 (some (ofFunc Try.f37))
theorem ft36Ok : FTok Try.prog ft36 := ft35Ok.add (by kernel_rfl) Try.func37 (by kernel_rfl) (by kernel_rfl)
noncomputable def ft37 : Tr FI := ft36.put 38 (some (ofFunc Try.f38))
theorem ft37Ok : FTok Try.prog ft37 := ft36Ok.add (by kernel_rfl) Try.func38 (by kernel_rfl) (by kernel_rfl)
noncomputable def ft38 : Tr FI := ft37.put 39 (some (ofFunc Try.f39))
theorem ft38Ok : FTok Try.prog ft38 := ft37Ok.add (by kernel_rfl) Try.func39 (by kernel_rfl) (by kernel_rfl)
noncomputable def ft39 : Tr FI := ft38.put 40 (some (ofFunc Try.f40))
theorem ft39Ok : FTok Try.prog ft39 := ft38Ok.add (by kernel_rfl) Try.func40 (by kernel_rfl) (by kernel_rfl)
noncomputable def ft40 : Tr FI := ft39.put 41 (some (ofFunc Try.f41))
theorem ft40Ok : FTok Try.prog ft40 := ft39Ok.add (by kernel_rfl) Try.func41 (by kernel_rfl) (by kernel_rfl)
noncomputable def ft41 : Tr FI := ft40.put 42 (some (ofFunc Try.f42))
theorem ft41Ok : FTok Try.prog ft41 := ft40Ok.add (by kernel_rfl) Try.func42 (by kernel_rfl) (by kernel_rfl)
noncomputable def ft42 : Tr FI := ft41.put 43 (some (ofFunc Try.f43))
theorem ft42Ok : FTok Try.prog ft42 := ft41Ok.add (by kernel_rfl) Try.func43 (by kernel_rfl) (by kernel_rfl)
noncomputable def ft43 : Tr FI := ft42.put 44 (some (ofFunc Try.f44))
theorem ft43Ok : FTok Try.prog ft43 := ft42Ok.add (by kernel_rfl) Try.func44 (by kernel_rfl) (by kernel_rfl)
noncomputable def ft44 : Tr FI := ft43.put 45 (some (ofFunc Try.f45))
theorem ft44Ok : FTok Try.prog ft44 := ft43Ok.add (by kernel_rfl) Try.func45 (by kernel_rfl) (by kernel_rfl)
noncomputable def ft45 : Tr FI := ft44.put 46 (some (ofFunc Try.f46))
theorem ft45Ok : FTok Try.prog ft45 := ft44Ok.add (by kernel_rfl) Try.func46 (by kernel_rfl) (by kernel_rfl)
noncomputable def ft46 : Tr FI := ft45.put 47 (some (ofFunc Try.f47))
theorem ft46Ok : FTok Try.prog ft46 := ft45Ok.add (by kernel_rfl) Try.func47 (by kernel_rfl) (by kernel_rfl)
noncomputable def ft47 : Tr FI := ft46.put 48 (some (ofFunc Try.f48))
theorem ft47Ok : FTok Try.prog ft47 := ft46Ok.add (by kernel_rfl) Try.func48 (by kernel_rfl) (by kernel_rfl)
noncomputable def ft48 : Tr FI := ft47.put 49 (some (ofFunc Try.f49))
theorem ft48Ok : FTok Try.prog ft48 := ft47Ok.add (by kernel_rfl) Try.func49 (by kernel_rfl) (by kernel_rfl)
noncomputable def ft49 : Tr FI := ft48.put 50 (some (ofFunc Try.f50))
theorem ft49Ok : FTok Try.prog ft49 := ft48Ok.add (by kernel_rfl) Try.func50 (by kernel_rfl) (by kernel_rfl)
noncomputable def ft50 : Tr FI := ft49.put 51 (some (ofFunc Try.f51))
theorem ft50Ok : FTok Try.prog ft50 := ft49Ok.add (by kernel_rfl) Try.func51 (by kernel_rfl) (by kernel_rfl)
noncomputable def ft51 : Tr FI := ft50.put 52 (some (ofFunc Try.f52))
theorem ft51Ok : FTok Try.prog ft51 := ft50Ok.add (by kernel_rfl) Try.func52 (by kernel_rfl) (by kernel_rfl)
noncomputable def ft52 : Tr FI := ft51.put 53 (some (ofFunc Try.f53))
theorem ft52Ok : FTok Try.prog ft52 := ft51Ok.add (by kernel_rfl) Try.func53 (by kernel_rfl) (by kernel_rfl)
noncomputable def ft53 : Tr FI := ft52.put 54 (some (ofFunc Try.f54))
theorem ft53Ok : FTok Try.prog ft53 := ft52Ok.add (by kernel_rfl) Try.func54 (by kernel_rfl) (by kernel_rfl)
noncomputable def ft54 : Tr FI := ft53.put 55 (some (ofFunc Try.f55))
theorem ft54Ok : FTok Try.prog ft54 := ft53Ok.add (by kernel_rfl) Try.func55 (by kernel_rfl) (by kernel_rfl)
noncomputable def ft55 : Tr FI := ft54.put 56 (some (ofFunc Try.f56))
theorem ft55Ok : FTok Try.prog ft55 := ft54Ok.add (by kernel_rfl) Try.func56 (by kernel_rfl) (by kernel_rfl)
noncomputable def ft56 : Tr FI := ft55.put 57 (some (ofFunc Try.f57))
theorem ft56Ok : FTok Try.prog ft56 := ft55Ok.add (by kernel_rfl) Try.func57 (by kernel_rfl) (by kernel_rfl)
noncomputable def ft57 : Tr FI := ft56.put 58 (some (ofFunc Try.f58))
theorem ft57Ok : FTok Try.prog ft57 := ft56Ok.add (by kernel_rfl) Try.func58 (by kernel_rfl) (by kernel_rfl)
noncomputable def ft58 : Tr FI := ft57.put 59 (some (ofFunc Try.f59))
theorem ft58Ok : FTok Try.prog ft58 := ft57Ok.add (by kernel_rfl) Try.func59 (by kernel_rfl) (by kernel_rfl)
noncomputable def ft59 : Tr FI := ft58.put 60 (some (ofFunc Try.f60))
theorem ft59Ok : FTok Try.prog ft59 := ft58Ok.add (by kernel_rfl) Try.func60 (by kernel_rfl) (by kernel_rfl)
noncomputable def ft60 : Tr FI := ft59.put 61 (some (ofFunc Try.f61))
theorem ft60Ok : FTok Try.prog ft60 := ft59Ok.add (by kernel_rfl) Try.func61 (by kernel_rfl) (by kernel_rfl)
noncomputable def ft61 : Tr FI := ft60.put 62 (some (ofFunc Try.f62))
theorem ft61Ok : FTok Try.prog ft61 := ft60Ok.add (by kernel_rfl) Try.func62 (by kernel_rfl) (by kernel_rfl)
noncomputable def ft62 : Tr FI := ft61.put 63 (some (ofFunc Try.f63))
theorem ft62Ok : FTok Try.prog ft62 := ft61Ok.add (by kernel_rfl) Try.func63 (by kernel_rfl) (by kernel_rfl)
noncomputable def ft63 : Tr FI := ft62.put 64 (some (ofFunc Try.f64))
theorem ft63Ok : FTok Try.prog ft63 := ft62Ok.add (by kernel_rfl) Try.func64 (by kernel_rfl) (by kernel_rfl)
noncomputable def ft64 : Tr FI := ft63.put 65 (some (ofFunc Try.f65))
theorem ft64Ok : FTok Try.prog ft64 := ft63Ok.add (by kernel_rfl) Try.func65 (by kernel_rfl) (by kernel_rfl)
noncomputable def ft65 : Tr FI := ft64.put 66 (some (ofFunc Try.f66))
theorem ft65Ok : FTok Try.prog ft65 := ft64Ok.add (by kernel_rfl) Try.func66 (by kernel_rfl) (by kernel_rfl)
noncomputable def ft66 : Tr FI := ft65.put 67 (some (ofFunc Try.f67))
theorem ft66Ok : FTok Try.prog ft66 := ft65Ok.add (by kernel_rfl) Try.func67 (by kernel_rfl) (by kernel_rfl)
noncomputable def ft67 : Tr FI := ft66.put 68 (some (ofFunc Try.f68))
theorem ft67Ok : FTok Try.prog ft67 := ft66Ok.add (by kernel_rfl) Try.func68 (by kernel_rfl) (by kernel_rfl)
noncomputable def ft68 : Tr FI := ft67.put 69 (some (ofFunc Try.f69))
theorem ft68Ok : FTok Try.prog ft68 := ft67Ok.add (by kernel_rfl) Try.func69 (by kernel_rfl) (by kernel_rfl)
noncomputable def ft69 : Tr FI := ft68.put 70 (some (ofFunc Try.f70))
theorem ft69Ok : FTok Try.prog ft69 := ft68Ok.add (by kernel_rfl) Try.func70 (by kernel_rfl) (by kernel_rfl)
noncomputable def ft70 : Tr FI := ft69.put 71 (some (ofFunc Try.f71))
theorem ft70Ok : FTok Try.prog ft70 := ft69Ok.add (by kernel_rfl) Try.func71 (by kernel_rfl) (by kernel_rfl)
noncomputable def ft71 : Tr FI := ft70.put 72 (some (ofFunc Try.f72))
theorem ft71Ok : FTok Try.prog ft71 := ft70Ok.add (by kernel_rfl) Try.func72 (by kernel_rfl) (by kernel_rfl)
noncomputable def ft72 : Tr FI := ft71.put 73 (some (ofFunc Try.f73))
theorem ft72Ok : FTok Try.prog ft72 := ft71Ok.add (by kernel_rfl) Try.func73 (by kernel_rfl) (by kernel_rfl)
noncomputable def ft73 : Tr FI := ft72.put 74 (some (ofFunc Try.f74))
theorem ft73Ok : FTok Try.prog ft73 := ft72Ok.add (by kernel_rfl) Try.func74 (by kernel_rfl) (by kernel_rfl)
noncomputable def ft74 : Tr FI := ft73.put 75 (some (ofFunc Try.f75))
theorem ft74Ok : FTok Try.prog ft74 := ft73Ok.add (by kernel_rfl) Try.func75 (by kernel_rfl) (by kernel_rfl)
noncomputable def ft75 : Tr FI := ft74.put 76 (some (ofFunc Try.f76))
theorem ft75Ok : FTok Try.prog ft75 := ft74Ok.add (by kernel_rfl) Try.func76 (by kernel_rfl) (by kernel_rfl)
noncomputable def ft76 : Tr FI := ft75.put 77 (some (ofFunc Try.f77))
theorem ft76Ok : FTok Try.prog ft76 := ft75Ok.add (by kernel_rfl) Try.func77 (by kernel_rfl) (by kernel_rfl)
noncomputable def ft77 : Tr FI := ft76.put 78 (some (ofFunc Try.f78))
theorem ft77Ok : FTok Try.prog ft77 := ft76Ok.add (by kernel_rfl) Try.func78 (by kernel_rfl) (by kernel_rfl)
noncomputable def ft78 : Tr FI := ft77.put 79 (some (ofFunc Try.f79))
theorem ft78Ok : FTok Try.prog ft78 := ft77Ok.add (by kernel_rfl) Try.func79 (by kernel_rfl) (by kernel_rfl)
noncomputable def ft79 : Tr FI := ft78.put 80 (some (ofFuncC Try.f80 ctRepeat))
theorem ft79Ok : FTok Try.prog ft79 := ft78Ok.addC (by kernel_rfl) Try.func80 (by kernel_rfl) (by kernel_rfl) repeatOk
noncomputable def ft80 : Tr FI := ft79.put 81 (some (ofFunc Try.f81))
theorem ft80Ok : FTok Try.prog ft80 := ft79Ok.add (by kernel_rfl) Try.func81 (by kernel_rfl) (by kernel_rfl)
noncomputable def ft81 : Tr FI := ft80.put 82 (some (ofFunc Try.f82))
theorem ft81Ok : FTok Try.prog ft81 := ft80Ok.add (by kernel_rfl) Try.func82 (by kernel_rfl) (by kernel_rfl)
noncomputable def ft82 : Tr FI := ft81.put 83 (some (ofFunc Try.f83))
theorem ft82Ok : FTok Try.prog ft82 := ft81Ok.add (by kernel_rfl) Try.func83 (by kernel_rfl) (by kernel_rfl)
noncomputable def ft83 : Tr FI := ft82.put 84 (some (ofFunc Try.f84))
theorem ft83Ok : FTok Try.prog ft83 := ft82Ok.add (by kernel_rfl) Try.func84 (by kernel_rfl) (by kernel_rfl)
noncomputable def ft84 : Tr FI := ft83.put 85 (some (ofFunc Try.f85))
theorem ft84Ok : FTok Try.prog ft84 := ft83Ok.add (by kernel_rfl) Try.func85 (by kernel_rfl) (by kernel_rfl)
noncomputable def ft85 : Tr FI := ft84.put 86 (some (ofFunc Try.f86))
theorem ft85Ok : FTok Try.prog ft85 := ft84Ok.add (by kernel_rfl) Try.func86 (by kernel_rfl) (by kernel_rfl)
noncomputable def ft86 : Tr FI := ft85.put 87 (some (ofFunc Try.f87))
theorem ft86Ok : FTok Try.prog ft86 := ft85Ok.add (by kernel_rfl) Try.func87 (by kernel_rfl) (by kernel_rfl)
noncomputable def ft87 : Tr FI := ft86.put 88 (some (ofFunc Try.f88))
theorem ft87Ok : FTok Try.prog ft87 := ft86Ok.add (by kernel_rfl) Try.func88 (by kernel_rfl) (by kernel_rfl)
noncomputable def ft88 : Tr FI := ft87.put 89 (some (ofFunc Try.f89))
theorem ft88Ok : FTok Try.prog ft88 := ft87Ok.add (by kernel_rfl) Try.func89 (by kernel_rfl) (by kernel_rfl)
noncomputable def ft89 : Tr FI := ft88.put 90 (some (ofFunc Try.f90))
theorem ft89Ok : FTok Try.prog ft89 := ft88Ok.add (by kernel_rfl) Try.func90 (by kernel_rfl) (by kernel_rfl)
noncomputable def ft90 : Tr FI := ft89.put 91 (some (ofFunc Try.f91))
theorem ft90Ok : FTok Try.prog ft90 := ft89Ok.add (by kernel_rfl) Try.func91 (by kernel_rfl) (by kernel_rfl)
noncomputable def ft91 : Tr FI := ft90.put 92 (some (ofFunc Try.f92))
theorem ft91Ok : FTok Try.prog ft91 := ft90Ok.add (by kernel_rfl) Try.func92 (by kernel_rfl) (by kernel_rfl)
noncomputable def ft92 : Tr FI := ft91.put 93 (some (ofFunc Try.f93))
theorem ft92Ok : FTok Try.prog ft92 := ft91Ok.add (by kernel_rfl) Try.func93 (by kernel_rfl) (by kernel_rfl)
noncomputable def ft93 : Tr FI := ft92.put 94 (some (ofFunc Try.f94))
theorem ft93Ok : FTok Try.prog ft93 := ft92Ok.add (by kernel_rfl) Try.func94 (by kernel_rfl) (by kernel_rfl)
noncomputable def ft94 : Tr FI := ft93.put 95 (some (ofFunc Try.f95))
theorem ft94Ok : FTok Try.prog ft94 := ft93Ok.add (by kernel_rfl) Try.func95 (by kernel_rfl) (by kernel_rfl)
noncomputable def ft95 : Tr FI := ft94.put 96 (some (ofFunc Try.f96))
theorem ft95Ok : FTok Try.prog ft95 := ft94Ok.add (by kernel_rfl) Try.func96 (by kernel_rfl) (by kernel_rfl)
noncomputable def ft96 : Tr FI := ft95.put 97 (some (ofFunc Try.f97))
theorem ft96Ok : FTok Try.prog ft96 := ft95Ok.add (by kernel_rfl) Try.func97 (by kernel_rfl) (by kernel_rfl)
noncomputable def ft97 : Tr FI := ft96.put 98 (some (ofFunc Try.f98))
theorem ft97Ok : FTok Try.prog ft97 := ft96Ok.add (by kernel_rfl) Try.func98 (by kernel_rfl) (by kernel_rfl)
noncomputable def ft98 : Tr FI := ft97.put 99 (some (ofFunc Try.f99))
theorem ft98Ok : FTok Try.prog ft98 := ft97Ok.add (by kernel_rfl) Try.func99 (by kernel_rfl) (by kernel_rfl)
noncomputable def ft99 : Tr FI := ft98.put 100 (some (ofFunc Try.f100))
theorem ft99Ok : FTok Try.prog ft99 := ft98Ok.add (by kernel_rfl) Try.func100 (by kernel_rfl) (by kernel_rfl)
noncomputable def ft100 : Tr FI := ft99.put 101 (some (ofFunc Try.f101))
theorem ft100Ok : FTok Try.prog ft100 := ft99Ok.add (by kernel_rfl) Try.func101 (by kernel_rfl) (by kernel_rfl)
noncomputable def ft101 : Tr FI := ft100.put 102 (some (ofFunc Try.f102))
theorem ft101Ok : FTok Try.prog ft101 := ft100Ok.add (by kernel_rfl) Try.func102 (by kernel_rfl) (by kernel_rfl)
noncomputable def ft102 : Tr FI := ft101.put 103 (some (ofFunc Try.f103))
theorem ft102Ok : FTok Try.prog ft102 := ft101Ok.add (by kernel_rfl) Try.func103 (by kernel_rfl) (by kernel_rfl)
noncomputable def ft103 : Tr FI := ft102.put 104 (some (ofFunc Try.f104))
theorem ft103Ok : FTok Try.prog ft103 := ft102Ok.add (by kernel_rfl) Try.func104 (by kernel_rfl) (by kernel_rfl)
noncomputable def ft104 : Tr FI := ft103.put 105 (some (ofFunc Try.f105))
theorem ft104Ok : FTok Try.prog ft104 := ft103Ok.add (by kernel_rfl) Try.func105 (by kernel_rfl) (by kernel_rfl)
noncomputable def ft105 : Tr FI := ft104.put 106 (some (ofFunc Try.f106))
theorem ft105Ok : FTok Try.prog ft105 := ft104Ok.add (by kernel_rfl) Try.func106 (by kernel_rfl) (by kernel_rfl)
noncomputable def ft106 : Tr FI := ft105.put 107 (some (ofFunc Try.f107))
theorem ft106Ok : FTok Try.prog ft106 := ft105Ok.add (by kernel_rfl) Try.func107 (by kernel_rfl) (by kernel_rfl)
noncomputable def ft107 : Tr FI := ft106.put 108 (some (ofFunc Try.f108))
theorem ft107Ok : FTok Try.prog ft107 := ft106Ok.add (by kernel_rfl) Try.func108 (by kernel_rfl) (by kernel_rfl)
noncomputable def ft108 : Tr FI := ft107.put 109 (some (ofFunc Try.f109))
theorem ft108Ok : FTok Try.prog ft108 := ft107Ok.add (by kernel_rfl) Try.func109 (by kernel_rfl) (by kernel_rfl)
noncomputable def ft109 : Tr FI := ft108.put 110 (some (ofFunc Try.f110))
theorem ft109Ok : FTok Try.prog ft109 := ft108Ok.add (by kernel_rfl) Try.func110 (by kernel_rfl) (by kernel_rfl)
noncomputable def ft110 : Tr FI := ft109.put 111 (some (ofFunc Try.f111))
theorem ft110Ok : FTok Try.prog ft110 := ft109Ok.add (by kernel_rfl) Try.func111 (by kernel_rfl) (by kernel_rfl)
noncomputable def ft111 : Tr FI := ft110.put 112 (some (ofFunc Try.f112))
theorem ft111Ok : FTok Try.prog ft111 := ft110Ok.add (by kernel_rfl) Try.func112 (by kernel_rfl) (by kernel_rfl)
noncomputable def ft112 : Tr FI := ft111.put 113 (some (ofFunc Try.f113))
theorem ft112Ok : FTok Try.prog ft112 := ft111Ok.add (by kernel_rfl) Try.func113 (by kernel_rfl) (by kernel_rfl)
noncomputable def ft113 : Tr FI := ft112.put 114 (some (ofFunc Try.f114))
theorem ft113Ok : FTok Try.prog ft113 := ft112Ok.add (by kernel_rfl) Try.func114 (by kernel_rfl) (by kernel_rfl)
noncomputable def ft114 : Tr FI := ft113.put 115 (some (ofFunc Try.f115))
theorem ft114Ok : FTok Try.prog ft114 := ft113Ok.add (by kernel_rfl) Try.func115 (by kernel_rfl) (by kernel_rfl)
noncomputable def ft115 : Tr FI := ft114.put 116 (some (ofFunc Try.f116))
theorem ft115Ok : FTok Try.prog ft115 := ft114Ok.add (by kernel_rfl) Try.func116 (by kernel_rfl) (by kernel_rfl)
noncomputable def ft116 : Tr FI := ft115.put 117 (some (ofFunc Try.f117))
theorem ft116Ok : FTok Try.prog ft116 := ft115Ok.add (by kernel_rfl) Try.func117 (by kernel_rfl) (by kernel_rfl)
noncomputable def ft117 : Tr FI := ft116.put 118 (some (ofFunc Try.f118))
theorem ft117Ok : FTok Try.prog ft117 := ft116Ok.add (by kernel_rfl) Try.func118 (by kernel_rfl) (by kernel_rfl)
noncomputable def ft118 : Tr FI := ft117.put 119 (some (ofFunc Try.f119))
theorem ft118Ok : FTok Try.prog ft118 := ft117Ok.add (by kernel_rfl) Try.func119 (by kernel_rfl) (by kernel_rfl)
noncomputable def ft119 : Tr FI := ft118.put 120 (some (ofFunc Try.f120))
theorem ft119Ok : FTok Try.prog ft119 := ft118Ok.add (by kernel_rfl) Try.func120 (by kernel_rfl) (by kernel_rfl)
noncomputable def ft120 : Tr FI := ft119.put 121 (some (ofFunc Try.f121))
theorem ft120Ok : FTok Try.prog ft120 := ft119Ok.add (by kernel_rfl) Try.func121 (by kernel_rfl) (by kernel_rfl)
noncomputable def ft121 : Tr FI := ft120.put 122 (some (ofFunc Try.f122))
theorem ft121Ok : FTok Try.prog ft121 := ft120Ok.add (by kernel_rfl) Try.func122 (by kernel_rfl) (by kernel_rfl)
noncomputable def ft122 : Tr FI := ft121.put 123 (some (ofFunc Try.f123))
theorem ft122Ok : FTok Try.prog ft122 := ft121Ok.add (by kernel_rfl) Try.func123 (by kernel_rfl) (by kernel_rfl)
noncomputable def ft123 : Tr FI := ft122.put 124 (some (ofFunc Try.f124))
theorem ft123Ok : FTok Try.prog ft123 := ft122Ok.add (by kernel_rfl) Try.func124 (by kernel_rfl) (by kernel_rfl)
noncomputable def ft124 : Tr FI := ft123.put 125 (some (ofFunc Try.f125))
theorem ft124Ok : FTok Try.prog ft124 := ft123Ok.add (by kernel_rfl) Try.func125 (by kernel_rfl) (by kernel_rfl)
noncomputable def ft125 : Tr FI := ft124.put 126 (some (ofFunc Try.f126))
theorem ft125Ok : FTok Try.prog ft125 := ft124Ok.add (by kernel_rfl) Try.func126 (by kernel_rfl) (by kernel_rfl)
noncomputable def ft126 : Tr FI := ft125.put 127 (some (ofFunc Try.f127))
theorem ft126Ok : FTok Try.prog ft126 := ft125Ok.add (by kernel_rfl) Try.func127 (by kernel_rfl) (by kernel_rfl)
noncomputable def ft127 : Tr FI := ft126.put 128 (some (ofFunc Try.f128))
theorem ft127Ok : FTok Try.prog ft127 := ft126Ok.add (by kernel_rfl) Try.func128 (by kernel_rfl) (by kernel_rfl)
noncomputable def ft128 : Tr FI := ft127.put 129 (some (ofFunc Try.f129))
theorem ft128Ok : FTok Try.prog ft128 := ft127Ok.add (by kernel_rfl) Try.func129 (by kernel_rfl) (by kernel_rfl)
noncomputable def ft129 : Tr FI := ft128.put 130 (some (ofFunc Try.f130))
theorem ft129Ok : FTok Try.prog ft129 := ft128Ok.add (by kernel_rfl) Try.func130 (by kernel_rfl) (by kernel_rfl)
noncomputable def ft130 : Tr FI := ft129.put 131 (some (ofFunc Try.f131))
theorem ft130Ok : FTok Try.prog ft130 := ft129Ok.add (by kernel_rfl) Try.func131 (by kernel_rfl) (by kernel_rfl)
noncomputable def ft131 : Tr FI := ft130.put 132 (some (ofFunc Try.f132))
theorem ft131Ok : FTok Try.prog ft131 := ft130Ok.add (by kernel_rfl) Try.func132 (by kernel_rfl) (by kernel_rfl)
noncomputable def ft132 : Tr FI := ft131.put 133 (some (ofFunc Try.f133))
theorem ft132Ok : FTok Try.prog ft132 := ft131Ok.add (by kernel_rfl) Try.func133 (by kernel_rfl) (by kernel_rfl)
noncomputable def ft133 : Tr FI := ft132.put 134 (some (ofFunc Try.f134))
theorem ft133Ok : FTok Try.prog ft133 := ft132Ok.add (by kernel_rfl) Try.func134 (by kernel_rfl) (by kernel_rfl)
noncomputable def ft134 : Tr FI := ft133.put 135 (some (ofFuncC Try.f135 ctJoin))
theorem ft134Ok : FTok Try.prog ft134 := ft133Ok.addC (by kernel_rfl) Try.func135 (by kernel_rfl) (by kernel_rfl) joinOk
noncomputable def ft135 : Tr FI := ft134.put 136 (some (ofFunc Try.f136))
theorem ft135Ok : FTok Try.prog ft135 := ft134Ok.add (by kernel_rfl) Try.func136 (by kernel_rfl) (by kernel_rfl)
noncomputable def ft136 : Tr FI := ft135.put 137 (some (ofFunc Try.f137))
theorem ft136Ok : FTok Try.prog ft136 := ft135Ok.add (by kernel_rfl) Try.func137 (by kernel_rfl) (by kernel_rfl)
noncomputable def ft137 : Tr FI := ft136.put 138 (some (ofFunc Try.f138))
theorem ft137Ok : FTok Try.prog ft137 := ft136Ok.add (by kernel_rfl) Try.func138 (by kernel_rfl) (by kernel_rfl)
noncomputable def ft138 : Tr FI := ft137.put 139 (some (ofFunc Try.f139))
theorem ft138Ok : FTok Try.prog ft138 := ft137Ok.add (by kernel_rfl) Try.func139 (by kernel_rfl) (by kernel_rfl)
noncomputable def ft139 : Tr FI := ft138.put 140 (some (ofFunc Try.f140))
theorem ft139Ok : FTok Try.prog ft139 := ft138Ok.add (by kernel_rfl) Try.func140 (by kernel_rfl) (by kernel_rfl)
noncomputable def ft140 : Tr FI := ft139.put 141 (some (ofFunc Try.f141))
theorem ft140Ok : FTok Try.prog ft140 := ft139Ok.add (by kernel_rfl) Try.func141 (by kernel_rfl) (by kernel_rfl)
noncomputable def ft141 : Tr FI := ft140.put 142 (some (ofFunc Try.f142))
theorem ft141Ok : FTok Try.prog ft141 := ft140Ok.add (by kernel_rfl) Try.func142 (by kernel_rfl) (by kernel_rfl)
noncomputable def ft142 : Tr FI := ft141.put 143 (some (ofFunc Try.f143))
theorem ft142Ok : FTok Try.prog ft142 := ft141Ok.add (by kernel_rfl) Try.func143 (by kernel_rfl) (by kernel_rfl)
noncomputable def ft143 : Tr FI := ft142.put 144 (some (ofFunc Try.f144))
theorem ft143Ok : FTok Try.prog ft143 := ft142Ok.add (by kernel_rfl) Try.func144 (by kernel_rfl) (by kernel_rfl)
noncomputable def ft144 : Tr FI := ft143.put 145 (some (ofFunc Try.f145))
theorem ft144Ok : FTok Try.prog ft144 := ft143Ok.add (by kernel_rfl) Try.func145 (by kernel_rfl) (by kernel_rfl)
noncomputable def ft145 : Tr FI := ft144.put 146 (some (ofFunc Try.f146))
theorem ft145Ok : FTok Try.prog ft145 := ft144Ok.add (by kernel_rfl) Try.func146 (by kernel_rfl) (by kernel_rfl)
noncomputable def ft146 : Tr FI := ft145.put 147 (some (ofFunc Try.f147))
theorem ft146Ok : FTok Try.prog ft146 := ft145Ok.add (by kernel_rfl) Try.func147 (by kernel_rfl) (by kernel_rfl)
noncomputable def ft147 : Tr FI := ft146.put 148 (some (ofFunc Try.f148))
theorem ft147Ok : FTok Try.prog ft147 := ft146Ok.add (by kernel_rfl) Try.func148 (by kernel_rfl) (by kernel_rfl)
noncomputable def ft148 : Tr FI := ft147.put 149 (some (ofFunc Try.f149))
theorem ft148Ok : FTok Try.prog ft148 := ft147Ok.add (by kernel_rfl) Try.func149 (by kernel_rfl) (by kernel_rfl)
noncomputable def ft149 : Tr FI := ft148.put 150 (some (ofFunc Try.f150))
theorem ft149Ok : FTok Try.prog ft149 := ft148Ok.add (by kernel_rfl) Try.func150 (by kernel_rfl) (by kernel_rfl)
noncomputable def ft150 : Tr FI := ft149.put 151 (some (ofFunc Try.f151))
theorem ft150Ok : FTok Try.prog ft150 := ft149Ok.add (by kernel_rfl) Try.func151 (by kernel_rfl) (by kernel_rfl)
noncomputable def ft151 : Tr FI := ft150.put 152 (some (ofFunc Try.f152))
theorem ft151Ok : FTok Try.prog ft151 := ft150Ok.add (by kernel_rfl) Try.func152 (by kernel_rfl) (by kernel_rfl)
noncomputable def ft152 : Tr FI := ft151.put 153 (some (ofFunc Try.f153))
theorem ft152Ok : FTok Try.prog ft152 := ft151Ok.add (by kernel_rfl) Try.func153 (by kernel_rfl) (by kernel_rfl)
noncomputable def ft153 : Tr FI := ft152.put 154 (some (ofFunc Try.f154))
theorem ft153Ok : FTok Try.prog ft153 := ft152Ok.add (by kernel_rfl) Try.func154 (by kernel_rfl) (by kernel_rfl)
noncomputable def ft154 : Tr FI := ft153.put 155 (some (ofFunc Try.f155))
theorem ft154Ok : FTok Try.prog ft154 := ft153Ok.add (by kernel_rfl) Try.func155 (by kernel_rfl) (by kernel_rfl)
noncomputable def ft155 : Tr FI := ft154.put 156 (some (ofFunc Try.f156))
theorem ft155Ok : FTok Try.prog ft155 := ft154Ok.add (by kernel_rfl) Try.func156 (by kernel_rfl) (by kernel_rfl)
noncomputable def ft156 : Tr FI := ft155.put 157 (some (ofFunc Try.f157))
theorem ft156Ok : FTok Try.prog ft156 := ft155Ok.add (by kernel_rfl) Try.func157 (by kernel_rfl) (by kernel_rfl)
noncomputable def ft157 : Tr FI := ft156.put 158 (some (ofFunc Try.f158))
theorem ft157Ok : FTok Try.prog ft157 := ft156Ok.add (by kernel_rfl) Try.func158 (by kernel_rfl) (by kernel_rfl)
noncomputable def ft158 : Tr FI := ft157.put 159 (some (ofFunc Try.f159))
theorem ft158Ok : FTok Try.prog ft158 := ft157Ok.add (by kernel_rfl) Try.func159 (by kernel_rfl) (by kernel_rfl)
noncomputable def ft159 : Tr FI := ft158.put 160 (some (ofFunc Try.f160))
theorem ft159Ok : FTok Try.prog ft159 := ft158Ok.add (by kernel_rfl) Try.func160 (by kernel_rfl) (by kernel_rfl)
noncomputable def ft160 : Tr FI := ft159.put 161 (some (ofFunc Try.f161))
theorem ft160Ok : FTok Try.prog ft160 := ft159Ok.add (by kernel_rfl) Try.func161 (by kernel_rfl) (by kernel_rfl)
noncomputable def ft161 : Tr FI := ft160.put 162 (some (ofFunc Try.f162))
theorem ft161Ok : FTok Try.prog ft161 := ft160Ok.add (by kernel_rfl) Try.func162 (by kernel_rfl) (by kernel_rfl)
noncomputable def ft162 : Tr FI := ft161.put 163 (some (ofFunc Try.f163))
theorem ft162Ok : FTok Try.prog ft162 := ft161Ok.add (by kernel_rfl) Try.func163 (by kernel_rfl) (by kernel_rfl)
noncomputable def ft163 : Tr FI := ft162.put 164 (some (ofFunc Try.f164))
theorem ft163Ok : FTok Try.prog ft163 := ft162Ok.add (by kernel_rfl) Try.func164 (by kernel_rfl) (by kernel_rfl)
noncomputable def ft164 : Tr FI := ft163.put 165 (some (ofFunc Try.f165))
theorem ft164Ok : FTok Try.prog ft164 := ft163Ok.add (by kernel_rfl) Try.func165 (by kernel_rfl) (by kernel_rfl)
noncomputable def ft165 : Tr FI := ft164.put 166 (some (ofFunc Try.f166))
theorem ft165Ok : FTok Try.prog ft165 := ft164Ok.add (by kernel_rfl) Try.func166 (by kernel_rfl) (by kernel_rfl)
noncomputable def ft166 : Tr FI := ft165.put 167 (some (ofFunc Try.f167))
theorem ft166Ok : FTok Try.prog ft166 := ft165Ok.add (by kernel_rfl) Try.func167 (by kernel_rfl) (by kernel_rfl)
noncomputable def ft167 : Tr FI := ft166.put 168 (some (ofFunc Try.f168))
theorem ft167Ok : FTok Try.prog ft167 := ft166Ok.add (by kernel_rfl) Try.func168 (by kernel_rfl) (by kernel_rfl)
noncomputable def ft168 : Tr FI := ft167.put 169 (some (ofFunc Try.f169))
theorem ft168Ok : FTok Try.prog ft168 := ft167Ok.add (by kernel_rfl) Try.func169 (by kernel_rfl) (by kernel_rfl)
noncomputable def ft169 : Tr FI := ft168.put 170 (some (ofFunc Try.f170))
theorem ft169Ok : FTok Try.prog ft169 := ft168Ok.add (by kernel_rfl) Try.func170 (by kernel_rfl) (by kernel_rfl)
noncomputable def ft170 : Tr FI := ft169.put 171 (some (ofFunc Try.f171))
theorem ft170Ok : FTok Try.prog ft170 := ft169Ok.add (by kernel_rfl) Try.func171 (by kernel_rfl) (by kernel_rfl)
noncomputable def ft171 : Tr FI := ft170.put 172 (some (ofFunc Try.f172))
theorem ft171Ok : FTok Try.prog ft171 := ft170Ok.add (by kernel_rfl) Try.func172 (by kernel_rfl) (by kernel_rfl)
noncomputable def ft172 : Tr FI := ft171.put 173 (some (ofFunc Try.f173))
theorem ft172Ok : FTok Try.prog ft172 := ft171Ok.add (by kernel_rfl) Try.func173 (by kernel_rfl) (by kernel_rfl)
noncomputable def ft173 : Tr FI := ft172.put 174 (some (ofFunc Try.f174))
theorem ft173Ok : FTok Try.prog ft173 := ft172Ok.add (by kernel_rfl) Try.func174 (by kernel_rfl) (by kernel_rfl)
noncomputable def ft174 : Tr FI := ft173.put 175 (some (ofFunc Try.f175))
theorem ft174Ok : FTok Try.prog ft174 := ft173Ok.add (by kernel_rfl) Try.func175 (by kernel_rfl) (by kernel_rfl)
noncomputable def ft175 : Tr FI := ft174.put 176 (some (ofFunc Try.f176))
theorem ft175Ok : FTok Try.prog ft175 := ft174Ok.add (by kernel_rfl) Try.func176 (by kernel_rfl) (by kernel_rfl)
noncomputable def ft176 : Tr FI := ft175.put 177 (some (ofFunc Try.f177))
theorem ft176Ok : FTok Try.prog ft176 := ft175Ok.add (by kernel_rfl) Try.func177 (by kernel_rfl) (by kernel_rfl)
noncomputable def ft177 : Tr FI := ft176.put 178 (some (ofFunc Try.f178))
theorem ft177Ok : FTok Try.prog ft177 := ft176Ok.add (by kernel_rfl) Try.func178 (by kernel_rfl) (by kernel_rfl)
noncomputable def ft178 : Tr FI := ft177.put 179 (some (ofFunc Try.f179))
theorem ft178Ok : FTok Try.prog ft178 := ft177Ok.add (by kernel_rfl) Try.func179 (by kernel_rfl) (by kernel_rfl)
noncomputable def ft179 : Tr FI := ft178.put 180 (some (ofFunc Try.f180))
theorem ft179Ok : FTok Try.prog ft179 := ft178Ok.add (by kernel_rfl) Try.func180 (by kernel_rfl) (by kernel_rfl)
noncomputable def ft180 : Tr FI := ft179.put 181 (some (ofFunc Try.f181))
theorem ft180Ok : FTok Try.prog ft180 := ft179Ok.add (by kernel_rfl) Try.func181 (by kernel_rfl) (by kernel_rfl)
noncomputable def ft181 : Tr FI := ft180.put 182 (some (ofFunc Try.f182))
theorem ft181Ok : FTok Try.prog ft181 := ft180Ok.add (by kernel_rfl) Try.func182 (by kernel_rfl) (by kernel_rfl)
noncomputable def ft182 : Tr FI := ft181.put 183 (some (ofFunc Try.f183))
theorem ft182Ok : FTok Try.prog ft182 := ft181Ok.add (by kernel_rfl) Try.func183 (by kernel_rfl) (by kernel_rfl)
noncomputable def ft183 : Tr FI := ft182.put 184 (some (ofFunc Try.f184))
theorem ft183Ok : FTok Try.prog ft183 := ft182Ok.add (by kernel_rfl) Try.func184 (by kernel_rfl) (by kernel_rfl)
noncomputable def ft184 : Tr FI := ft183.put 185 (some (ofFunc Try.f185))
theorem ft184Ok : FTok Try.prog ft184 := ft183Ok.add (by kernel_rfl) Try.func185 (by kernel_rfl) (by kernel_rfl)
noncomputable def ft185 : Tr FI := ft184.put 186 (some (ofFunc Try.f186))
theorem ft185Ok : FTok Try.prog ft185 := ft184Ok.add (by kernel_rfl) Try.func186 (by kernel_rfl) (by kernel_rfl)
noncomputable def ft186 : Tr FI := ft185.put 187 (some (ofFunc Try.f187))
theorem ft186Ok : FTok Try.prog ft186 := ft185Ok.add (by kernel_rfl) Try.func187 (by kernel_rfl) (by kernel_rfl)
noncomputable def ft187 : Tr FI := ft186.put 188 (some (ofFunc Try.f188))
theorem ft187Ok : FTok Try.prog ft187 := ft186Ok.add (by kernel_rfl) Try.func188 (by kernel_rfl) (by kernel_rfl)
noncomputable def ft188 : Tr FI := ft187.put 189 (some (ofFunc Try.f189))
theorem ft188Ok : FTok Try.prog ft188 := ft187Ok.add (by kernel_rfl) Try.func189 (by kernel_rfl) (by kernel_rfl)
noncomputable def ft189 : Tr FI := ft188.put 190 (some (ofFunc Try.f190))
theorem ft189Ok : FTok Try.prog ft189 := ft188Ok.add (by kernel_rfl) Try.func190 (by kernel_rfl) (by kernel_rfl)
noncomputable def ft190 : Tr FI := ft189.put 191 (some (ofFunc Try.f191))
theorem ft190Ok : FTok Try.prog ft190 := ft189Ok.add (by kernel_rfl) Try.func191 (by kernel_rfl) (by kernel_rfl)
noncomputable def ft191 : Tr FI := ft190.put 192 (some (ofFunc Try.f192))
theorem ft191Ok : FTok Try.prog ft191 := ft190Ok.add (by kernel_rfl) Try.func192 (by kernel_rfl) (by kernel_rfl)
noncomputable def ft192 : Tr FI := ft191.put 193 (some (ofFunc Try.f193))
theorem ft192Ok : FTok Try.prog ft192 := ft191Ok.add (by kernel_rfl) Try.func193 (by kernel_rfl) (by kernel_rfl)
noncomputable def ft193 : Tr FI := ft192.put 194 (some (ofFunc Try.f194))
theorem ft193Ok : FTok Try.prog ft193 := ft192Ok.add (by kernel_rfl) Try.func194 (by kernel_rfl) (by kernel_rfl)
noncomputable def ft194 : Tr FI := ft193.put 195 (some (ofFunc Try.f195))
theorem ft194Ok : FTok Try.prog ft194 := ft193Ok.add (by kernel_rfl) Try.func195 (by kernel_rfl) (by kernel_rfl)
noncomputable def ft195 : Tr FI := ft194.put 196 (some (ofFunc Try.f196))
theorem ft195Ok : FTok Try.prog ft195 := ft194Ok.add (by kernel_rfl) Try.func196 (by kernel_rfl) (by kernel_rfl)
noncomputable def ft196 : Tr FI := ft195.put 197 (some (ofFunc Try.f197))
theorem ft196Ok : FTok Try.prog ft196 := ft195Ok.add (by kernel_rfl) Try.func197 (by kernel_rfl) (by kernel_rfl)
noncomputable def ft197 : Tr FI := ft196.put 198 (some (ofFunc Try.f198))
theorem ft197Ok : FTok Try.prog ft197 := ft196Ok.add (by kernel_rfl) Try.func198 (by kernel_rfl) (by kernel_rfl)
noncomputable def ft198 : Tr FI := ft197.put 199 (some (ofFunc Try.f199))
theorem ft198Ok : FTok Try.prog ft198 := ft197Ok.add (by kernel_rfl) Try.func199 (by kernel_rfl) (by kernel_rfl)
noncomputable def ft199 : Tr FI := ft198.put 200 (some (ofFunc Try.f200))
theorem ft199Ok : FTok Try.prog ft199 := ft198Ok.add (by kernel_rfl) Try.func200 (by kernel_rfl) (by kernel_rfl)
noncomputable def ft200 : Tr FI := ft199.put 201 (some (ofFunc Try.f201))
theorem ft200Ok : FTok Try.prog ft200 := ft199Ok.add (by kernel_rfl) Try.func201 (by kernel_rfl) (by kernel_rfl)
noncomputable def ft201 : Tr FI := ft200.put 202 (some (ofFunc Try.f202))
theorem ft201Ok : FTok Try.prog ft201 := ft200Ok.add (by kernel_rfl) Try.func202 (by kernel_rfl) (by kernel_rfl)
noncomputable def ft202 : Tr FI := ft201.put 203 (some (ofFunc Try.f203))
theorem ft202Ok : FTok Try.prog ft202 := ft201Ok.add (by kernel_rfl) Try.func203 (by kernel_rfl) (by kernel_rfl)
noncomputable def ft203 : Tr FI := ft202.put 204 (some (ofFunc Try.f204))
theorem ft203Ok : FTok Try.prog ft203 := ft202Ok.add (by kernel_rfl) Try.func204 (by kernel_rfl) (by kernel_rfl)
noncomputable def ft204 : Tr FI := ft203.put 205 (some (ofFunc Try.f205))
theorem ft204Ok : FTok Try.prog ft204 := ft203Ok.add (by kernel_rfl) Try.func205 (by kernel_rfl) (by kernel_rfl)
noncomputable def ft205 : Tr FI := ft204.put 208 (some (ofFuncD Try.f208 3))
theorem ft205Ok : FTok Try.prog ft205 := ft204Ok.addD (by kernel_rfl) Try.func208 (by kernel_rfl) (by kernel_rfl) lookIdle
noncomputable def ft206 : Tr FI := ft205.put 209 (some (ofFunc Try.f209))
theorem ft206Ok : FTok Try.prog ft206 := ft205Ok.add (by kernel_rfl) Try.func209 (by kernel_rfl) (by kernel_rfl)
noncomputable def ft207 : Tr FI := ft206.put 210 (some (ofFunc Try.f210))
theorem ft207Ok : FTok Try.prog ft207 := ft206Ok.add (by kernel_rfl) Try.func210 (by kernel_rfl) (by kernel_rfl)
noncomputable def ft208 : Tr FI := ft207.put 211 (some (ofFunc Try.f211))
theorem ft208Ok : FTok Try.prog ft208 := ft207Ok.add (by kernel_rfl) Try.func211 (by kernel_rfl) (by kernel_rfl)
noncomputable def ft209 : Tr FI := ft208.put 212 (some (ofFunc Try.f212))
theorem ft209Ok : FTok Try.prog ft209 := ft208Ok.add (by kernel_rfl) Try.func212 (by kernel_rfl) (by kernel_rfl)
noncomputable def ft210 : Tr FI := ft209.put 213 (some (ofFunc Try.f213))
theorem ft210Ok : FTok Try.prog ft210 := ft209Ok.add (by kernel_rfl) Try.func213 (by kernel_rfl) (by kernel_rfl)
noncomputable def ft211 : Tr FI := ft210.put 214 (some (ofFunc Try.f214))
theorem ft211Ok : FTok Try.prog ft211 := ft210Ok.add (by kernel_rfl) Try.func214 (by kernel_rfl) (by kernel_rfl)
noncomputable def ft212 : Tr FI := ft211.put 215 (some (ofFunc Try.f215))
theorem ft212Ok : FTok Try.prog ft212 := ft211Ok.add (by kernel_rfl) Try.func215 (by kernel_rfl) (by kernel_rfl)
noncomputable def ft213 : Tr FI := ft212.put 216 (some (ofFunc Try.f216))
theorem ft213Ok : FTok Try.prog ft213 := ft212Ok.add (by kernel_rfl) Try.func216 (by kernel_rfl) (by kernel_rfl)
noncomputable def ft214 : Tr FI := ft213.put 217 (some (ofFunc Try.f217))
theorem ft214Ok : FTok Try.prog ft214 := ft213Ok.add (by kernel_rfl) Try.func217 (by kernel_rfl) (by kernel_rfl)
noncomputable def ft215 : Tr FI := ft214.put 218 (some (ofFunc Try.f218))
theorem ft215Ok : FTok Try.prog ft215 := ft214Ok.add (by kernel_rfl) Try.func218 (by kernel_rfl) (by kernel_rfl)
noncomputable def ft216 : Tr FI := ft215.put 219 (some (ofFunc Try.f219))
theorem ft216Ok : FTok Try.prog ft216 := ft215Ok.add (by kernel_rfl) Try.func219 (by kernel_rfl) (by kernel_rfl)
noncomputable def ft217 : Tr FI := ft216.put 220 (some (ofFunc Try.f220))
theorem ft217Ok : FTok Try.prog ft217 := ft216Ok.add (by kernel_rfl) Try.func220 (by kernel_rfl) (by kernel_rfl)
noncomputable def ft218 : Tr FI := ft217.put 221 (some (ofFunc Try.f221))
theorem ft218Ok : FTok Try.prog ft218 := ft217Ok.add (by kernel_rfl) Try.func221 (by kernel_rfl) (by kernel_rfl)
noncomputable def ft219 : Tr FI := ft218.put 222 (some (ofFunc Try.f222))
theorem ft219Ok : FTok Try.prog ft219 := ft218Ok.add (by kernel_rfl) Try.func222 (by kernel_rfl) (by kernel_rfl)
noncomputable def ft220 : Tr FI := ft219.put 223 (some (ofFunc Try.f223))
theorem ft220Ok : FTok Try.prog ft220 := ft219Ok.add (by kernel_rfl) Try.func223 (by kernel_rfl) (by kernel_rfl)
noncomputable def ft221 : Tr FI := ft220.put 225 (some (ofFunc Try.f225))
theorem ft221Ok : FTok Try.prog ft221 := ft220Ok.add (by kernel_rfl) Try.func225 (by kernel_rfl) (by kernel_rfl)
noncomputable def ft222 : Tr FI := ft221.put 226 (some (ofFunc Try.f226))
theorem ft222Ok : FTok Try.prog ft222 := ft221Ok.add (by kernel_rfl) Try.func226 (by kernel_rfl) (by kernel_rfl)
noncomputable def ft223 : Tr FI := ft222.put 227 (some (ofFunc Try.f227))
theorem ft223Ok : FTok Try.prog ft223 := ft222Ok.add (by kernel_rfl) Try.func227 (by kernel_rfl) (by kernel_rfl)
noncomputable def ft224 : Tr FI := ft223.put 228 (some (ofFunc Try.f228))
theorem ft224Ok : FTok Try.prog ft224 := ft223Ok.add (by kernel_rfl) Try.func228 (by kernel_rfl) (by kernel_rfl)
noncomputable def ft225 : Tr FI := ft224.put 229 (some (ofFunc Try.f229))
theorem ft225Ok : FTok Try.prog ft225 := ft224Ok.add (by kernel_rfl) Try.func229 (by kernel_rfl) (by kernel_rfl)
noncomputable def ft226 : Tr FI := ft225.put 230 (some (ofFunc Try.f230))
theorem ft226Ok : FTok Try.prog ft226 := ft225Ok.add (by kernel_rfl) Try.func230 (by kernel_rfl) (by kernel_rfl)
noncomputable def ft227 : Tr FI := ft226.put 231 (some (ofFunc Try.f231))
theorem ft227Ok : FTok Try.prog ft227 := ft226Ok.add (by kernel_rfl) Try.func231 (by kernel_rfl) (by kernel_rfl)
noncomputable def ft228 : Tr FI := ft227.put 232 (some (ofFunc Try.f232))
theorem ft228Ok : FTok Try.prog ft228 := ft227Ok.add (by kernel_rfl) Try.func232 (by kernel_rfl) (by kernel_rfl)
noncomputable def ft229 : Tr FI := ft228.put 233 (some (ofFunc Try.f233))
theorem ft229Ok : FTok Try.prog ft229 := ft228Ok.add (by kernel_rfl) Try.func233 (by kernel_rfl) (by kernel_rfl)
noncomputable def ft230 : Tr FI := ft229.put 234 (some (ofFunc Try.f234))
theorem ft230Ok : FTok Try.prog ft230 := ft229Ok.add (by kernel_rfl) Try.func234 (by kernel_rfl) (by kernel_rfl)
noncomputable def ft231 : Tr FI := ft230.put 235 (some (ofFunc Try.f235))
theorem ft231Ok : FTok Try.prog ft231 := ft230Ok.add (by kernel_rfl) Try.func235 (by kernel_rfl) (by kernel_rfl)
noncomputable def ft232 : Tr FI := ft231.put 236 (some (ofFunc Try.f236))
theorem ft232Ok : FTok Try.prog ft232 := ft231Ok.add (by kernel_rfl) Try.func236 (by kernel_rfl) (by kernel_rfl)
noncomputable def ft233 : Tr FI := ft232.put 237 (some (ofFunc Try.f237))
theorem ft233Ok : FTok Try.prog ft233 := ft232Ok.add (by kernel_rfl) Try.func237 (by kernel_rfl) (by kernel_rfl)
noncomputable def ft234 : Tr FI := ft233.put 238 (some (ofFunc Try.f238))
theorem ft234Ok : FTok Try.prog ft234 := ft233Ok.add (by kernel_rfl) Try.func238 (by kernel_rfl) (by kernel_rfl)
noncomputable def ft235 : Tr FI := ft234.put 239 (some (ofFunc Try.f239))
theorem ft235Ok : FTok Try.prog ft235 := ft234Ok.add (by kernel_rfl) Try.func239 (by kernel_rfl) (by kernel_rfl)
noncomputable def ft236 : Tr FI := ft235.put 240 (some (ofFunc Try.f240))
theorem ft236Ok : FTok Try.prog ft236 := ft235Ok.add (by kernel_rfl) Try.func240 (by kernel_rfl) (by kernel_rfl)
noncomputable def ft237 : Tr FI := ft236.put 241 (some (ofFunc Try.f241))
theorem ft237Ok : FTok Try.prog ft237 := ft236Ok.add (by kernel_rfl) Try.func241 (by kernel_rfl) (by kernel_rfl)
noncomputable def ft238 : Tr FI := ft237.put 242 (some (ofFunc Try.f242))
theorem ft238Ok : FTok Try.prog ft238 := ft237Ok.add (by kernel_rfl) Try.func242 (by kernel_rfl) (by kernel_rfl)
noncomputable def ft239 : Tr FI := ft238.put 243 (some (ofFunc Try.f243))
theorem ft239Ok : FTok Try.prog ft239 := ft238Ok.add (by kernel_rfl) Try.func243 (by kernel_rfl) (by kernel_rfl)
noncomputable def ft240 : Tr FI := ft239.put 244 (some (ofFunc Try.f244))
theorem ft240Ok : FTok Try.prog ft240 := ft239Ok.add (by kernel_rfl) Try.func244 (by kernel_rfl) (by kernel_rfl)
noncomputable def ft241 : Tr FI := ft240.put 245 (some (ofFunc Try.f245))
theorem ft241Ok : FTok Try.prog ft241 := ft240Ok.add (by kernel_rfl) Try.func245 (by kernel_rfl) (by kernel_rfl)
noncomputable def ft242 : Tr FI := ft241.put 246 (some (ofFunc Try.f246))
theorem ft242Ok : FTok Try.prog ft242 := ft241Ok.add (by kernel_rfl) Try.func246 (by kernel_rfl) (by kernel_rfl)
noncomputable def ft243 : Tr FI := ft242.put 247 (some (ofFunc Try.f247))
theorem ft243Ok : FTok Try.prog ft243 := ft242Ok.add (by kernel_rfl) Try.func247 (by kernel_rfl) (by kernel_rfl)
noncomputable def ft244 : Tr FI := ft243.put 248 (some (ofFunc Try.f248))
theorem ft244Ok : FTok Try.prog ft244 := ft243Ok.add (by kernel_rfl) Try.func248 (by kernel_rfl) (by kernel_rfl)
noncomputable def ft245 : Tr FI := ft244.put 249 (some (ofFunc Try.f249))
theorem ft245Ok : FTok Try.prog ft245 := ft244Ok.add (by kernel_rfl) Try.func249 (by kernel_rfl) (by kernel_rfl)
noncomputable def ft246 : Tr FI := ft245.put 250 (some (ofFunc Try.f250))
theorem ft246Ok : FTok Try.prog ft246 := ft245Ok.add (by kernel_rfl) Try.func250 (by kernel_rfl) (by kernel_rfl)
noncomputable def ft247 : Tr FI := ft246.put 251 (some (ofFunc Try.f251))
theorem ft247Ok : FTok Try.prog ft247 := ft246Ok.add (by kernel_rfl) Try.func251 (by kernel_rfl) (by kernel_rfl)
noncomputable def ft248 : Tr FI := ft247.put 252 (some (ofFunc Try.f252))
theorem ft248Ok : FTok Try.prog ft248 := ft247Ok.add (by kernel_rfl) Try.func252 (by kernel_rfl) (by kernel_rfl)
noncomputable def ft249 : Tr FI := ft248.put 253 (some (ofFunc Try.f253))
theorem ft249Ok : FTok Try.prog ft249 := ft248Ok.add (by kernel_rfl) Try.func253 (by kernel_rfl) (by kernel_rfl)
noncomputable def ft250 : Tr FI := ft249.put 254 (some (ofFunc Try.f254))
theorem ft250Ok : FTok Try.prog ft250 := ft249Ok.add (by kernel_rfl) Try.func254 (by kernel_rfl) (by kernel_rfl)
noncomputable def ft251 : Tr FI := ft250.put 255 (some (ofFunc Try.f255))
theorem ft251Ok : FTok Try.prog ft251 := ft250Ok.add (by kernel_rfl) Try.func255 (by kernel_rfl) (by kernel_rfl)
noncomputable def ft252 : Tr FI := ft251.put 256 (some (ofFunc Try.f256))
theorem ft252Ok : FTok Try.prog ft252 := ft251Ok.add (by kernel_rfl) Try.func256 (by kernel_rfl) (by kernel_rfl)
noncomputable def ft253 : Tr FI := ft252.put 257 (some (ofFunc Try.f257))
theorem ft253Ok : FTok Try.prog ft253 := ft252Ok.add (by kernel_rfl) Try.func257 (by kernel_rfl) (by kernel_rfl)
noncomputable def ft254 : Tr FI := ft253.put 258 (some (ofFunc Try.f258))
theorem ft254Ok : FTok Try.prog ft254 := ft253Ok.add (by kernel_rfl) Try.func258 (by kernel_rfl) (by kernel_rfl)
noncomputable def ft : Tr FI := (.node none (.node none (.node none (.node none (.node none (.node none (.node none (.node none (.node none .nil (.node (some (ofFunc Try.f256)) .nil .nil)) (.node (some (ofFunc Try.f128)) .nil .nil)) (.node (some (ofFunc Try.f64)) .nil (.node (some (ofFunc Try.f192)) .nil .nil))) (.node (some (ofFunc Try.f32)) (.node none .nil (.node (some (ofFunc Try.f160)) .nil .nil)) (.node (some (ofFunc Try.f96)) .nil .nil))) (.node (some (ofFunc Try.f16)) (.node none (.node none .nil (.node (some (ofFunc Try.f144)) .nil .nil)) (.node (some (ofFuncC Try.f80 ctRepeat)) .nil (.node (some (ofFuncD Try.f208 3)) .nil .nil))) (.node (some (ofFunc Try.f48)) (.node none .nil (.node (some (ofFunc Try.f176)) .nil .nil)) (.node (some (ofFunc Try.f112)) .nil (.node (some (ofFunc Try.f240)) .nil .nil))))) (.node (some (ofFunc Try.f8)) (.node none (.node none (.node none .nil (.node (some (ofFunc Try.f136)) .nil .nil)) (.node (some (ofFunc Try.f72)) .nil (.node (some (ofFunc Try.f200)) .nil .nil))) (.node (some (ofFunc Try.f40)) (.node none .nil (.node (some (ofFunc Try.f168)) .nil .nil)) (.node (some (ofFunc Try.f104)) .nil (.node (some (ofFunc Try.f232)) .nil .nil)))) (.node (some (ofFunc Try.f24)) (.node none (.node none .nil (.node (some (ofFunc Try.f152)) .nil .nil)) (.node (some (ofFunc Try.f88)) .nil (.node (some (ofFunc Try.f216)) .nil .nil))) (.node (some (ofFunc Try.f56)) (.node none .nil (.node (some (ofFunc Try.f184)) .nil .nil)) (.node (some (ofFunc Try.f120)) .nil (.node (some (ofFunc Try.f248)) .nil .nil)))))) (.node (some (ofFunc Try.f4)) (.node none (.node none (.node none (.node none .nil (.node (some (ofFunc Try.f132)) .nil .nil)) (.node (some (ofFunc Try.f68)) .nil (.node (some (ofFunc Try.f196)) .nil .nil))) (.node (some (ofFunc Try.f36)) (.node none .nil (.node (some (ofFunc Try.f164)) .nil .nil)) (.node (some (ofFunc Try.f100)) .nil (.node (some (ofFunc Try.f228)) .nil .nil)))) (.node (some (ofFunc Try.f20)) (.node none (.node none .nil (.node (some (ofFunc Try.f148)) .nil .nil)) (.node (some (ofFunc Try.f84)) .nil (.node (some (ofFunc Try.f212)) .nil .nil))) (.node (some (ofFunc Try.f52)) (.node none .nil (.node (some (ofFunc Try.f180)) .nil .nil)) (.node (some (ofFunc Try.f116)) .nil (.node (some (ofFunc Try.f244)) .nil .nil))))) (.node (some (ofFunc Try.f12)) (.node none (.node none (.node none .nil (.node (some (ofFunc Try.f140)) .nil .nil)) (.node (some (ofFunc Try.f76)) .nil (.node (some (ofFunc Try.f204)) .nil .nil))) (.node (some (ofFunc Try.f44)) (.node none .nil (.node (some (ofFunc Try.f172)) .nil .nil)) (.node (some (ofFunc Try.f108)) .nil (.node (some (ofFunc Try.f236)) .nil .nil)))) (.node (some (ofFunc Try.f28)) (.node none (.node none .nil (.node (some (ofFunc Try.f156)) .nil .nil)) (.node (some (ofFunc Try.f92)) .nil (.node (some (ofFunc Try.f220)) .nil .nil))) (.node (some (ofFunc Try.f60)) (.node none .nil (.node (some (ofFunc Try.f188)) .nil .nil)) (.node (some (ofFunc Try.f124)) .nil (.node (some (ofFunc Try.f252)) .nil .nil))))))) (.node (some (ofFunc Try.f2)) (.node none (.node none (.node none (.node none (.node none (.node none .nil (.node (some (ofFunc Try.f258)) .nil .nil)) (.node (some (ofFunc Try.f130)) .nil .nil)) (.node (some (ofFunc Try.f66)) .nil (.node (some (ofFunc Try.f194)) .nil .nil))) (.node (some (ofFunc Try.f34)) (.node none .nil (.node (some (ofFunc Try.f162)) .nil .nil)) (.node (some (ofFunc Try.f98)) .nil (.node (some (ofFunc Try.f226)) .nil .nil)))) (.node (some (ofFunc Try.f18)) (.node none (.node none .nil (.node (some (ofFunc Try.f146)) .nil .nil)) (.node (some (ofFunc Try.f82)) .nil (.node (some (ofFunc Try.f210)) .nil .nil))) (.node (some (ofFunc Try.f50)) (.node none .nil (.node (some (ofFunc Try.f178)) .nil .nil)) (.node (some (ofFunc Try.f114)) .nil (.node (some (ofFunc Try.f242)) .nil .nil))))) (.node (some (ofFunc Try.f10)) (.node none (.node none (.node none .nil (.node (some (ofFunc Try.f138)) .nil .nil)) (.node (some (ofFunc Try.f74)) .nil (.node (some (ofFunc Try.f202)) .nil .nil))) (.node (some (ofFunc Try.f42)) (.node none .nil (.node (some (ofFunc Try.f170)) .nil .nil)) (.node (some (ofFunc Try.f106)) .nil (.node (some (ofFunc Try.f234)) .nil .nil)))) (.node (some (ofFunc Try.f26)) (.node none (.node none .nil (.node (some (ofFunc Try.f154)) .nil .nil)) (.node (some (ofFunc Try.f90)) .nil (.node (some (ofFunc Try.f218)) .nil .nil))) (.node (some (ofFunc Try.f58)) (.node none .nil (.node (some (ofFunc Try.f186)) .nil .nil)) (.node (some (ofFunc Try.f122)) .nil (.node (some (ofFunc Try.f250)) .nil .nil)))))) (.node (some (ofFunc Try.f6)) (.node none (.node none (.node none (.node none .nil (.node (some (ofFunc Try.f134)) .nil .nil)) (.node (some (ofFunc Try.f70)) .nil (.node (some (ofFunc Try.f198)) .nil .nil))) (.node (some (ofFunc Try.f38)) (.node none .nil (.node (some (ofFunc Try.f166)) .nil .nil)) (.node (some (ofFunc Try.f102)) .nil (.node (some (ofFunc Try.f230)) .nil .nil)))) (.node (some (ofFunc Try.f22)) (.node none (.node none .nil (.node (some (ofFunc Try.f150)) .nil .nil)) (.node (some (ofFunc Try.f86)) .nil (.node (some (ofFunc Try.f214)) .nil .nil))) (.node (some (ofFunc Try.f54)) (.node none .nil (.node (some (ofFunc Try.f182)) .nil .nil)) (.node (some (ofFunc Try.f118)) .nil (.node (some (ofFunc Try.f246)) .nil .nil))))) (.node (some (ofFunc Try.f14)) (.node none (.node none (.node none .nil (.node (some (ofFunc Try.f142)) .nil .nil)) (.node (some (ofFunc Try.f78)) .nil .nil)) (.node (some (ofFunc Try.f46)) (.node none .nil (.node (some (ofFunc Try.f174)) .nil .nil)) (.node (some (ofFunc Try.f110)) .nil (.node (some (ofFunc Try.f238)) .nil .nil)))) (.node (some (ofFunc Try.f30)) (.node none (.node none .nil (.node (some (ofFunc Try.f158)) .nil .nil)) (.node (some (ofFunc Try.f94)) .nil (.node (some (ofFunc Try.f222)) .nil .nil))) (.node (some (ofFunc Try.f62)) (.node none .nil (.node (some (ofFunc Try.f190)) .nil .nil)) (.node (some (ofFunc Try.f126)) .nil (.node (some (ofFunc Try.f254)) .nil .nil)))))))) (.node none (.node none (.node none (.node none (.node none (.node none (.node none (.node none .nil (.node (some (ofFunc Try.f257)) .nil .nil)) (.node (some (ofFunc Try.f129)) .nil .nil)) (.node (some (ofFunc Try.f65)) .nil (.node (some (ofFunc Try.f193)) .nil .nil))) (.node (some (ofFunc Try.f33)) (.node none .nil (.node (some (ofFunc Try.f161)) .nil .nil)) (.node (some (ofFunc Try.f97)) .nil (.node (some (ofFunc Try.f225)) .nil .nil)))) (.node (some (ofFunc Try.f17)) (.node none (.node none .nil (.node (some (ofFunc Try.f145)) .nil .nil)) (.node (some (ofFunc Try.f81)) .nil (.node (some (ofFunc Try.f209)) .nil .nil))) (.node (some (ofFunc Try.f49)) (.node none .nil (.node (some (ofFunc Try.f177)) .nil .nil)) (.node (some (ofFunc Try.f113)) .nil (.node (some (ofFunc Try.f241)) .nil .nil))))) (.node (some (ofFunc Try.f9)) (.node none (.node none (.node none .nil (.node (some (ofFunc Try.f137)) .nil .nil)) (.node (some (ofFunc Try.f73)) .nil (.node (some (ofFunc Try.f201)) .nil .nil))) (.node (some (ofFunc Try.f41)) (.node none .nil (.node (some (ofFunc Try.f169)) .nil .nil)) (.node (some (ofFunc Try.f105)) .nil (.node (some (ofFunc Try.f233)) .nil .nil)))) (.node (some (ofFunc Try.f25)) (.node none (.node none .nil (.node (some (ofFunc Try.f153)) .nil .nil)) (.node (some (ofFunc Try.f89)) .nil (.node (some (ofFunc Try.f217)) .nil .nil))) (.node (some (ofFunc Try.f57)) (.node none .nil (.node (some (ofFunc Try.f185)) .nil .nil)) (.node (some (ofFunc Try.f121)) .nil (.node (some (ofFunc Try.f249)) .nil .nil)))))) (.node (some (ofFunc Try.f5)) (.node none (.node none (.node none (.node none .nil (.node (some (ofFunc Try.f133)) .nil .nil)) (.node (some (ofFunc Try.f69)) .nil (.node (some (ofFunc Try.f197)) .nil .nil))) (.node (some (ofFunc Try.f37)) (.node none .nil (.node (some (ofFunc Try.f165)) .nil .nil)) (.node (some (ofFunc Try.f101)) .nil (.node (some (ofFunc Try.f229)) .nil .nil)))) (.node (some (ofFunc Try.f21)) (.node none (.node none .nil (.node (some (ofFunc Try.f149)) .nil .nil)) (.node (some (ofFunc Try.f85)) .nil (.node (some (ofFunc Try.f213)) .nil .nil))) (.node (some (ofFunc Try.f53)) (.node none .nil (.node (some (ofFunc Try.f181)) .nil .nil)) (.node (some (ofFunc Try.f117)) .nil (.node (some (ofFunc Try.f245)) .nil .nil))))) (.node (some (ofFunc Try.f13)) (.node none (.node none (.node none .nil (.node (some (ofFunc Try.f141)) .nil .nil)) (.node (some (ofFunc Try.f77)) .nil (.node (some (ofFunc Try.f205)) .nil .nil))) (.node (some (ofFunc Try.f45)) (.node none .nil (.node (some (ofFunc Try.f173)) .nil .nil)) (.node (some (ofFunc Try.f109)) .nil (.node (some (ofFunc Try.f237)) .nil .nil)))) (.node (some (ofFunc Try.f29)) (.node none (.node none .nil (.node (some (ofFunc Try.f157)) .nil .nil)) (.node (some (ofFunc Try.f93)) .nil (.node (some (ofFunc Try.f221)) .nil .nil))) (.node (some (ofFunc Try.f61)) (.node none .nil (.node (some (ofFunc Try.f189)) .nil .nil)) (.node (some (ofFunc Try.f125)) .nil (.node (some (ofFunc Try.f253)) .nil .nil))))))) (.node (some (ofFunc Try.f3)) (.node none (.node none (.node none (.node none (.node none .nil (.node (some (ofFunc Try.f131)) .nil .nil)) (.node (some (ofFunc Try.f67)) .nil (.node (some (ofFunc Try.f195)) .nil .nil))) (.node (some (ofFunc Try.f35)) (.node none .nil (.node (some (ofFunc Try.f163)) .nil .nil)) (.node (some (ofFunc Try.f99)) .nil (.node (some (ofFunc Try.f227)) .nil .nil)))) (.node (some (ofFunc Try.f19)) (.node none (.node none .nil (.node (some (ofFunc Try.f147)) .nil .nil)) (.node (some (ofFunc Try.f83)) .nil (.node (some (ofFunc Try.f211)) .nil .nil))) (.node (some (ofFunc Try.f51)) (.node none .nil (.node (some (ofFunc Try.f179)) .nil .nil)) (.node (some (ofFunc Try.f115)) .nil (.node (some (ofFunc Try.f243)) .nil .nil))))) (.node (some (ofFunc Try.f11)) (.node none (.node none (.node none .nil (.node (some (ofFunc Try.f139)) .nil .nil)) (.node (some (ofFunc Try.f75)) .nil (.node (some (ofFunc Try.f203)) .nil .nil))) (.node (some (ofFunc Try.f43)) (.node none .nil (.node (some (ofFunc Try.f171)) .nil .nil)) (.node (some (ofFunc Try.f107)) .nil (.node (some (ofFunc Try.f235)) .nil .nil)))) (.node (some (ofFunc Try.f27)) (.node none (.node none .nil (.node (some (ofFunc Try.f155)) .nil .nil)) (.node (some (ofFunc Try.f91)) .nil (.node (some (ofFunc Try.f219)) .nil .nil))) (.node (some (ofFunc Try.f59)) (.node none .nil (.node (some (ofFunc Try.f187)) .nil .nil)) (.node (some (ofFunc Try.f123)) .nil (.node (some (ofFunc Try.f251)) .nil .nil)))))) (.node (some (ofFunc Try.f7)) (.node none (.node none (.node none (.node none .nil (.node (some (ofFuncC Try.f135 ctJoin)) .nil .nil)) (.node (some (ofFunc Try.f71)) .nil (.node (some (ofFunc Try.f199)) .nil .nil))) (.node (some (ofFunc Try.f39)) (.node none .nil (.node (some (ofFunc Try.f167)) .nil .nil)) (.node (some (ofFunc Try.f103)) .nil (.node (some (ofFunc Try.f231)) .nil .nil)))) (.node (some (ofFunc Try.f23)) (.node none (.node none .nil (.node (some (ofFunc Try.f151)) .nil .nil)) (.node (some (ofFunc Try.f87)) .nil (.node (some (ofFunc Try.f215)) .nil .nil))) (.node (some (ofFunc Try.f55)) (.node none .nil (.node (some (ofFunc Try.f183)) .nil .nil)) (.node (some (ofFunc Try.f119)) .nil (.node (some (ofFunc Try.f247)) .nil .nil))))) (.node (some (ofFunc Try.f15)) (.node none (.node none (.node none .nil (.node (some (ofFunc Try.f143)) .nil .nil)) (.node (some (ofFunc Try.f79)) .nil .nil)) (.node (some (ofFunc Try.f47)) (.node none .nil (.node (some (ofFunc Try.f175)) .nil .nil)) (.node (some (ofFunc Try.f111)) .nil (.node (some (ofFunc Try.f239)) .nil .nil)))) (.node (some (ofFunc Try.f31)) (.node none (.node none .nil (.node (some (ofFunc Try.f159)) .nil .nil)) (.node (some (ofFunc Try.f95)) .nil (.node (some (ofFunc Try.f223)) .nil .nil))) (.node (some (ofFunc Try.f63)) (.node none .nil (.node (some (ofFunc Try.f191)) .nil .nil)) (.node (some (ofFunc Try.f127)) .nil (.node (some (ofFunc Try.f255)) .nil .nil)))))))))
theorem ftOk : FTok Try.prog ft := (show ft254 = ft by kernel_rfl) ▸ ft254Ok
end Go.Proofs.Ythaljeccdeajoaa.Ev
namespace Go.Proofs.Ythaljeccdeajoaa.Ev
open Go.Proofs
noncomputable def dr4 := drD Try.prog ft 16 4
noncomputable def sub4 : Sub := exSub (fun f => exStep Try.prog ft f (drD Try.prog ft 16 3)) ft 16
theorem mix : Try.prog.follows .mixedOrders = true := by kernel_rfl
theorem dr4Ok : DrOk Try.prog dr4 := drD_ok mix ftOk 16 4
theorem sub4Ok : LoudOk Try.prog sub4 := loudOk ftOk (fun fid cs w0 γ s m hM => exStep_ok ftOk (drD_ok mix ftOk 16 3) hM) 16
theorem bc_t {α : Type} (x y : α) : bc true x y = x := rfl
theorem bc_f {α : Type} (x y : α) : bc false x y = y := rfl
theorem nn_ok (b : Bool) : bc b true (bc b false true) = true := by cases b <;> rfl
theorem dt {p : Prop} [Decidable p] (h : p) : decide p = true := decide_eq_true h
theorem df {p : Prop} [Decidable p] (h : ¬ p) : decide p = false := decide_eq_false h
theorem bltD {a b : Nat} (h : a < b) : Nat.blt a b = true := by unfold Nat.blt; exact Nat.ble_eq_true_of_le h
theorem bltN {a b : Nat} (h : ¬ a < b) : Nat.blt a b = false := by
  cases e : Nat.blt a b with
  | false => rfl
  | true => exact absurd (blt_lt e) h
theorem ble_of {a b : Nat} (h : a ≤ b) : Nat.ble a b = true := Nat.ble_eq_true_of_le h
theorem bleN {a b : Nat} (h : ¬ a ≤ b) : Nat.ble a b = false := by
  cases e : Nat.ble a b with
  | false => rfl
  | true => exact absurd (Nat.le_of_ble_eq_true e) h
theorem beqD {a b : Nat} (h : a = b) : Nat.beq a b = true := by subst h; exact Nat.beq_refl a
theorem ofn (n : Nat) : Int.ofNat n = (n : Int) := rfl
theorem to_nat (i : Nat) : Int.toNat (i : Int) = i := Int.toNat_natCast i
theorem wrap_in (x : Int) (h1 : -4611686018427387904 ≤ x) (h2 : x < 4611686018427387904) : IntKind.i64.wrap x = x := IntWalk.i64_in _ (by omega)
theorem getD_at {α : Type} {l : List α} {d : α} {i : Nat} (h : i < l.length) : l.getD i d = l[i] := by rw [List.getD_eq_getElem?_getD, List.getElem?_eq_getElem h]; rfl

noncomputable def ent (f : FuncId) (args : List EV) : EF := Option.rec ⟨f, 0, .nil, [], [], none, false⟩ (fun e => e) (exEnter ft f args)
noncomputable def st0 (f : FuncId) (args : List EV) : ES := ⟨ent f args, [], .nil, 0⟩

noncomputable abbrev iv (n : Int) : EV := .v (.int .i64 n)
noncomputable abbrev bv (b : Bool) : EV := .v (.bool b)
noncomputable abbrev sv (s : ByteArray) : EV := .v (.string s)
noncomputable abbrev il (l : List Int) : EV := .lst (.ints .i64 l)

noncomputable def RZs (f : FuncId) (ct : Tr ZCC) (ps : PLs) (lk : List Nat) (own : Bool) (s : ES) : ZF := runZ (stepZ Try.prog ft f dr4 sub4 ct) (atPs ps) (endP lk ps own) 600 s

noncomputable abbrev RZ (f : FuncId) (ct : Tr ZCC) (p : ES → Bool) (lk : List Nat) (ls : List SZ) (own : Bool) (s : ES) : ZF := RZs f ct [(p, ls)] lk own s
theorem leadsZ {f : FuncId} {ct : Tr ZCC} (hct : ZCtsOk Try.prog ct) {ps : PLs} {lk : List Nat} {own : Bool} {s : ES} {r : NS} (h : RZs f ct ps lk own s = .at r) : LeadsZ Try.prog s (stOf r) :=
  leadsF (f := f) mix ftOk dr4Ok sub4Ok hct endP_ok h
theorem callsZ {γ : G} {w : World} {f : FuncId} {ct : Tr ZCC} (hct : ZCtsOk Try.prog ct) {ps : PLs} {lk : List Nat} {own : Bool} {s : ES} {args : List EV} {us : Array Value} {a : EV} {K : List (Nat × EK)} {n' : Nat} (he : (exEnter ft f args).isSome = true) (hargs : ECL γ args us.toList) (hN : ∀ i, γ i = none) (hfz : FzAt γ w)
    (hl : LeadsZ Try.prog (st0 f args) s) (hd : RZs f ct ps lk own s = .done a K n') :
    Calls Try.prog f us w fun e w' => ∃ γ' x, e = .returned x ∧ EC γ' a x ∧ HR γ' (Bs.ofG w γ) (mkT K) n' w' := by
  obtain ⟨e, he⟩ := Option.isSome_iff_exists.1 he
  have : ent f args = e := by unfold ent; rw [he]
  unfold st0 at hl
  rw [this] at hl
  exact callsF mix ftOk dr4Ok sub4Ok hct endP_ok he hargs hN hfz hl hd

def Weak (a a' : EV) : Prop := ∀ γ x, EC γ a x → EC γ a' x
theorem Weak.refl (a : EV) : Weak a a := fun _ _ h => h
theorem Weak.nil (sh : List Sh) : Weak (.v (.slice none 0 0)) (.lst (.recs sh [])) := fun γ x h => by
  rw [ec_v h]
  exact .lst _ _ (.empty _ _ none 0 rfl (Nat.zero_le _) fun _ => rfl)
theorem Weak.nilI (k : IntKind) : Weak (.v (.slice none 0 0)) (.lst (.ints k [])) := fun γ x h => by
  rw [ec_v h]
  exact .lst _ _ (.empty _ _ none 0 rfl (Nat.zero_le _) fun _ => rfl)
inductive WeakL : List EV → List EV → Prop
  | nil : WeakL [] []
  | cons {a b : EV} {l r : List EV} (h : Weak a b) (t : WeakL l r) : WeakL (a :: l) (b :: r)
theorem WeakL.ok {γ : G} : ∀ {l r : List EV} {vs : List Value}, WeakL l r → ECL γ l vs → ECL γ r vs
  | _, _, vs, .nil, h => h
  | _, _, vs, .cons h t, k => by
    obtain ⟨x, ys, rfl, h1, h2⟩ := ECL.inv k
    exact ECL.cons (h _ _ h1) (t.ok h2)
theorem Weak.tup {l r : List EV} (h : WeakL l r) : Weak (.tup l) (.tup r) := fun γ x k => by
  cases k with
  | tup _ vs h1 h2 => have := h.ok (γ := γ) ⟨h1, h2⟩; exact .tup _ vs this.1 this.2
theorem Weak.agg {l r : List EV} (h : WeakL l r) : Weak (.agg l) (.agg r) := fun γ x k => by
  cases k with
  | agg _ vs h1 h2 => have := h.ok (γ := γ) ⟨h1, h2⟩; exact .agg _ vs this.1 this.2
theorem Weak.aggV {vs : List Value} {r : List EV} (h : WeakL (vs.map .v) r) : Weak (.v (.agg (Array.mk vs))) (.agg r) := fun γ x k => by
  rw [ec_v k]
  have := h.ok (γ := γ) (ECL.vals γ vs)
  exact .agg _ vs this.1 this.2
theorem Weak.trans {a b c : EV} (h : Weak a b) (k : Weak b c) : Weak a c := fun γ x e => k γ x (h γ x e)

def EndZ (f : FuncId) (ct : Tr ZCC) (own : Bool) (s : ES) (a : EV) (K : List (Nat × EK)) (n : Nat) : Prop := ∃ ps lk s' a', LeadsZ Try.prog s s' ∧ RZs f ct ps lk own s' = .done a' K n ∧ Weak a' a
theorem EndZ.done {f : FuncId} {ct : Tr ZCC} {own : Bool} {s : ES} {a : EV} {K : List (Nat × EK)} {n : Nat} {ps : PLs} {lk : List Nat} (h : RZs f ct ps lk own s = .done a K n) : EndZ f ct own s a K n := ⟨ps, lk, s, a, LeadsZ.refl s, h, Weak.refl a⟩
theorem EndZ.weak {f : FuncId} {ct : Tr ZCC} {own : Bool} {s : ES} {a b : EV} {K : List (Nat × EK)} {n : Nat} (h : EndZ f ct own s a K n) (k : Weak a b) : EndZ f ct own s b K n := by
  obtain ⟨ps, lk, t, a', h1, h2, h3⟩ := h
  exact ⟨ps, lk, t, a', h1, h2, h3.trans k⟩
theorem EndZ.lead {f : FuncId} {ct : Tr ZCC} {own : Bool} {s s' : ES} {a : EV} {K : List (Nat × EK)} {n : Nat} (h : LeadsZ Try.prog s s') (k : EndZ f ct own s' a K n) : EndZ f ct own s a K n := by
  obtain ⟨ps, lk, t, a', h1, h2, h3⟩ := k
  exact ⟨ps, lk, t, a', h.trans h1, h2, h3⟩
theorem EndZ.at {f : FuncId} {ct : Tr ZCC} (hct : ZCtsOk Try.prog ct) {own own' : Bool} {s : ES} {r : NS} {a : EV} {K : List (Nat × EK)} {n : Nat} {ps : PLs} {lk : List Nat} (h : RZs f ct ps lk own' s = .at r) (k : EndZ f ct own (stOf r) a K n) : EndZ f ct own s a K n := k.lead (leadsZ hct h)
theorem EndZ.calls {γ : G} {w : World} {f : FuncId} {ct : Tr ZCC} {own : Bool} {args : List EV} {a : EV} {K : List (Nat × EK)} {n' : Nat} (h : EndZ f ct own (st0 f args) a K n') (hct : ZCtsOk Try.prog ct) {us : Array Value} (he : (exEnter ft f args).isSome = true) (hargs : ECL γ args us.toList) (hN : ∀ i, γ i = none) (hfz : FzAt γ w) :
    Calls Try.prog f us w fun e w' => ∃ γ' x, e = .returned x ∧ EC γ' a x ∧ HR γ' (Bs.ofG w γ) (mkT K) n' w' := by
  obtain ⟨ps, lk, t, a', h1, h2, h3⟩ := h
  refine (callsZ hct he hargs hN hfz h1 h2).mono fun e w' ⟨γ', x, k1, k2, k3⟩ => ⟨γ', x, k1, h3 γ' x k2, k3⟩

noncomputable def st0m (f : FuncId) (args : List EV) (K0 : List (Nat × EK)) (m : Nat) : ES := ⟨ent f args, [], mkT K0, m⟩

noncomputable def RMs (k : Nat) (f : FuncId) (ct : Tr ZCC) (ps : PLs) (lk : List Nat) (nl : NLs) (s : ES) : ZF := runZ (stepZ Try.prog ft f dr4 sub4 ct) (atPs ps) (endM k lk ps nl) 600 s
theorem leadsMZ {k : Nat} {f : FuncId} {ct : Tr ZCC} (hct : ZCtsOk Try.prog ct) {ps : PLs} {lk : List Nat} {s : ES} {r : NS} {nl : NLs} (h : RMs k f ct ps lk nl s = .at r) : LeadsM Try.prog k s (stOf r) :=
  leadsM (f := f) mix ftOk dr4Ok sub4Ok hct h
def EndM (k : Nat) (f : FuncId) (ct : Tr ZCC) (s : ES) (a : EV) (K : List (Nat × EK)) (n : Nat) : Prop := ∃ ps lk nl s', LeadsM Try.prog k s s' ∧ RMs k f ct ps lk nl s' = .done a K n
theorem EndM.done {k : Nat} {f : FuncId} {ct : Tr ZCC} {s : ES} {a : EV} {K : List (Nat × EK)} {n : Nat} {ps : PLs} {lk : List Nat} {nl : NLs} (h : RMs k f ct ps lk nl s = .done a K n) : EndM k f ct s a K n := ⟨ps, lk, nl, s, LeadsM.refl k s, h⟩
theorem EndM.lead {k : Nat} {f : FuncId} {ct : Tr ZCC} {s s' : ES} {a : EV} {K : List (Nat × EK)} {n : Nat} (h : LeadsM Try.prog k s s') (g : EndM k f ct s' a K n) : EndM k f ct s a K n := by
  obtain ⟨ps, lk, nl, t, h1, h2⟩ := g
  exact ⟨ps, lk, nl, t, h.trans h1, h2⟩
theorem EndM.at {k : Nat} {f : FuncId} {ct : Tr ZCC} (hct : ZCtsOk Try.prog ct) {s : ES} {r : NS} {a : EV} {K : List (Nat × EK)} {n : Nat} {ps : PLs} {lk : List Nat} {nl : NLs} (h : RMs k f ct ps lk nl s = .at r) (g : EndM k f ct (stOf r) a K n) : EndM k f ct s a K n := g.lead (leadsMZ hct h)
theorem EndM.calls {k : Nat} {γ : G} {w0 : Bs} {w : World} {f : FuncId} {ct : Tr ZCC} {args : List EV} {K0 : List (Nat × EK)} {m0 : Nat} {a : EV} {K : List (Nat × EK)} {n' : Nat} (h : EndM k f ct (st0m f args K0 m0) a K n') (hct : ZCtsOk Try.prog ct) {us : Array Value} (he : (exEnter ft f args).isSome = true) (hres : ∀ i, ¬ w0.res i) (hargs : ECL γ args us.toList) (hH : HR γ w0 (mkT K0) m0 w) :
    Calls Try.prog f us w fun e w' => ∃ γ' x, e = .returned x ∧ EC γ' a x ∧ HR γ' w0 (mkT K) n' w' ∧ ∀ j p, j < k → γ j = some p → γ' j = some p := by
  obtain ⟨ps, lk, nl, t, h1, h2⟩ := h
  obtain ⟨e, he⟩ := Option.isSome_iff_exists.1 he
  have : ent f args = e := by unfold ent; rw [he]
  unfold st0m at h1
  rw [this] at h1
  exact callsM mix ftOk dr4Ok sub4Ok hct he hres hargs hH h1 h2
theorem bc_same {α : Type} (b : Bool) (x : α) : bc b x x = x := by cases b <;> rfl

noncomputable def ZMT.or (a b : ZMT) : ZMT := fun ax K m => match a ax K m with
  | some r => some r
  | none => b ax K m
theorem ZMtOk.or {P : Program} {g : FuncId} {a b : ZMT} (ha : ZMtOk P g a) (hb : ZMtOk P g b) : ZMtOk P g (a.or b) := fun γ w0 w us ax K0 m r hs => by
  unfold ZMT.or at hs
  split at hs
  · rename_i r' hr
    injection hs with hs; subst hs
    exact ha γ w0 w us ax K0 m _ hr
  · exact hb γ w0 w us ax K0 m r hs
noncomputable def ZCT.or (a b : ZCT) : ZCT := fun ax => match a ax with
  | some r => some r
  | none => b ax
theorem ZCtOk.or {P : Program} {g : FuncId} {a b : ZCT} (ha : ZCtOk P g a) (hb : ZCtOk P g b) : ZCtOk P g (a.or b) := fun γ w us ax r hs => by
  unfold ZCT.or at hs
  split at hs
  · rename_i r' hr
    injection hs with hs; subst hs
    exact ha γ w us ax _ hr
  · exact hb γ w us ax r hs
theorem noN {α : Type} {x r : α} {b : Bool} (h : bc b (some x) none = some r) : b = true ∧ x = r := by
  cases b
  · cases h
  · exact ⟨rfl, Option.some.inj h⟩
end Go.Proofs.Ythaljeccdeajoaa.Ev
namespace Go.Proofs.Ythaljeccdeajoaa.Ev
open Go.Proofs
theorem closed_ct {P : Program} {f : FuncId} {γ : G} {w : World} {us : Array Value} (h : Calls P f #[] w fun e w' => e = .returned (.bool true) ∧ Stays w w') (hax : ECL γ [] us.toList) (hfz : FzAt γ w) : Calls P f us w fun e w' => ∃ γ' x, e = .returned x ∧ EC γ' (bv true) x ∧ HR γ' (Bs.ofG w γ) (mkT (zseqs [])) 0 w' := by
  have hu : us = #[] := by
    have := hax.1
    apply Array.toList_inj.1
    exact List.eq_nil_of_length_eq_zero this.symm
  subst hu
  refine h.mono ?_
  rintro e w' ⟨rfl, hs⟩
  refine ⟨⟨fun _ => none, γ.fz⟩, _, rfl, .v _, ⟨(fun i k hk => by cases hk), (fun i j ki kj hi => by cases hi), (fun _ _ => rfl), (fun i hi => hi.elim), (fun i p hp => by cases hp), ⟨hs.os, hs.tape, hs.output, hs.size, hs.block⟩, ⟨fun k a hk => ?_, fun k hk => hk⟩⟩⟩
  obtain ⟨ty, fz, h1⟩ := hfz k a hk
  have hk2 := (Array.getElem?_eq_some_iff.1 h1).1
  exact ⟨⟨ty, fz, (hs.block k hk2).trans h1⟩, .inl ⟨a, hk⟩, fun i ki b m hi => by cases hi⟩
noncomputable def spTrue : ZCT := fun ax => match ax with
  | [] => some ⟨true, bv true, [], 0⟩
  | _ => none
theorem spTrue_ok {P : Program} {f : FuncId} (h : ∀ w, Calls P f #[] w fun e w' => e = .returned (.bool true) ∧ Stays w w') : ZCtOk P f spTrue := fun γ w us ax r hs hc hax hN hfz => by
  unfold spTrue at hs
  split at hs
  case h_2 => cases hs
  obtain ⟨rfl⟩ := Option.some.inj hs
  exact closed_ct (h w) hax hfz
theorem law_of {P : Program} {f : FuncId} {γ : G} {w : World} {us : Array Value} {K : List (Nat × EK)} {n : Nat} (h : Calls P f us w fun e w' => ∃ γ' x, e = .returned x ∧ EC γ' (bv true) x ∧ HR γ' (Bs.ofG w γ) (mkT K) n w') : Calls P f us w fun e w' => e = .returned (.bool true) ∧ Stays w w' := h.mono fun e w' ⟨γ', x, h1, h2, h3⟩ => ⟨by rw [h1, ec_v h2], staysOf h3.stays⟩
end Go.Proofs.Ythaljeccdeajoaa.Ev
namespace Go.Proofs.Ythaljeccdeajoaa.Ev
open Go.Proofs
noncomputable def shW : List Sh := [.int .i64, .int .i64, .str]
noncomputable abbrev wl (l : List (List U)) : EV := .lst (.recs shW l)
noncomputable abbrev shE (p : Int) (l : List (List U)) (e : Int) : EV := .tup [.agg [iv p, wl l], iv e]
noncomputable def shN (e : Int) : EV := (EV.tup [(EV.v (Value.agg (Array.mk [(Value.int IntKind.i64 (0)), (Value.slice Option.none 0 0)]))), (EV.v (Value.int IntKind.i64 e))])
theorem shN_weak (e : Int) : Weak (shN e) (shE 0 [] e) := .tup (.cons (.aggV (.cons (Weak.refl _) (.cons (Weak.nil _) .nil))) (.cons (Weak.refl _) .nil))
noncomputable abbrev bLet : ByteArray := ByteArray.mk #[67, 84, 76, 82, 80, 99, 116, 108, 114]
theorem bc_bc {α : Type} (a b c : Bool) (x y : α) : bc (bc a b c) x y = bc a (bc b x y) (bc c x y) := by cases a <;> rfl

noncomputable def rK (r : List U) : Int := U.int (r.getD 0 (.i 0))
noncomputable def rA (r : List U) : Int := U.int (r.getD 1 (.i 0))
noncomputable def rW (r : List U) : ByteArray := U.str (r.getD 2 (.i 0))
theorem fK0 (r : List U) : U.int (r.getD 0 (.i 0)) = rK r := rfl
theorem fA0 (r : List U) : U.int (r.getD (Nat.succ 0) (.i 0)) = rA r := rfl
theorem fA1 (r : List U) : U.int (r.getD (Nat.add 0 1) (.i 0)) = rA r := rfl
theorem fA2 (r : List U) : U.int (r.getD 1 (.i 0)) = rA r := rfl
theorem fW0 (r : List U) : U.str (r.getD (Nat.succ (Nat.succ 0)) (.i 0)) = rW r := rfl
theorem fW1 (r : List U) : U.str (r.getD (Nat.add 0 2) (.i 0)) = rW r := rfl
theorem fW2 (r : List U) : U.str (r.getD 2 (.i 0)) = rW r := rfl
theorem fK1 (r : List U) : U.int (r.getD (Nat.add 0 0) (.i 0)) = rK r := rfl

noncomputable def idxB (s : ByteArray) (c : Int) (i : Nat) : Nat → Int
  | 0 => -1
  | k + 1 => bc (byteAt s i == c) (i : Int) (idxB s c (i + 1) k)
noncomputable def idx (s : ByteArray) (c : Int) : Int := idxB s c 0 s.size
namespace RIdx
noncomputable def RUN (s : ES) : ZF := RZ 166 .nil (atS 0 166 2) [] [[(0,none),(1,none),(5,none)]] false s

noncomputable def sI (s : ByteArray) (c i : Int) : NS := ⟨[⟨166, 18, [(0, (EV.v (Value.string (s)))), (1, (EV.v (Value.int IntKind.u8 (c)))), (5, iv i)], [.it (.code (nav [1, 0, 1, 0, 0, 0] (bodyOf Try.f166))), .it (.code (nav [1, 0, 1, 0, 0, 1] (bodyOf Try.f166))), .it (.inLoop (nav [1, 0, 1, 0, 0] (bodyOf Try.f166))), .it (.inBlock 0), .it (.code (nav [1, 1] (bodyOf Try.f166)))], [], Option.none⟩], [], 0⟩
theorem in_t (s : ByteArray) (c : Int) : RUN (st0 166 [sv s, .v (.int .u8 c)]) = (.at (sI (s) (c) ((0 : Int)))) := by kernel_rfl
theorem step_t (s : ByteArray) (c i : Int) : RUN (stOf (sI s c i)) = (bc (decide (i < Int.ofNat (ByteArray.size s))) (bc (bc (bc (decide ((0 : Int) ≤ i)) (Nat.blt (Int.toNat i) (ByteArray.size s)) false) true false) (bc (byteAt s (Int.toNat i) == c) (.done (EV.v (Value.int IntKind.i64 (i))) [] 0) (.at (sI (s) (c) (IntKind.wrap IntKind.i64 (i + (1 : Int)))))) .bad) (.done (EV.v (Value.int IntKind.i64 (-1))) [] 0)) := by kernel_rfl
theorem step {s : ByteArray} {c : Int} {i : Nat} (hi : i < s.size) (hs : s.size ≤ 100000) : RUN (stOf (sI s c i)) = bc (byteAt s i == c) (.done (iv i) [] 0) (.at (sI s c (i + 1 : Nat))) := by
  rw [step_t]
  simp (disch := omega) only [Nat.add_eq, eqSy_self, eqN_self, bc_same, List.length_cons, ofn, wrap_in, dt, df, bltD, bltN, ble_of, bleN, beqD, bc_t, bc_f, nn_ok, Nat.zero_add, to_nat, Int.zero_add, Int.sub_zero, Int.sub_self, Int.cast_ofNat_Int, Int.natCast_zero, Int.toNat_zero, List.take_zero, List.nil_append, List.length_append, List.length_nil]
  rfl
theorem last {s : ByteArray} {c : Int} {i : Nat} (hi : s.size ≤ i) : RUN (stOf (sI s c i)) = .done (iv (-1)) [] 0 := by
  rw [step_t]
  simp (disch := omega) only [Nat.add_eq, eqSy_self, eqN_self, bc_same, List.length_cons, ofn, wrap_in, dt, df, bltD, bltN, ble_of, bleN, beqD, bc_t, bc_f, nn_ok, Nat.zero_add, to_nat, Int.zero_add, Int.sub_zero, Int.sub_self, Int.cast_ofNat_Int, Int.natCast_zero, Int.toNat_zero, List.take_zero, List.nil_append, List.length_append, List.length_nil]
theorem loop {s : ByteArray} {c : Int} (hs : s.size ≤ 100000) : ∀ (k i : Nat), i + k = s.size → EndZ 166 .nil false (stOf (sI s c i)) (iv (idxB s c i k)) [] 0
  | 0, i, h => .done (last (by omega))
  | k + 1, i, h => by
    have := step (c := c) (show i < s.size by omega) hs
    unfold idxB
    cases hb : byteAt s i == c <;> rw [hb] at this
    · exact .at (.nil _) this (loop hs k (i + 1) (by omega))
    · exact .done this
end RIdx
noncomputable def spIdx : ZCT := fun ax => match ax with
  | [.v (.string s), .v (.int .u8 c)] => some ⟨decide (s.size ≤ 100000), iv (idx s c), [], 0⟩
  | _ => none
theorem spIdx_ok : ZCtOk Try.prog 166 spIdx := fun γ w us ax r hs hc hax hN hfz => by
  unfold spIdx at hs
  split at hs
  case h_2 => cases hs
  rename_i s c
  obtain ⟨rfl⟩ := Option.some.inj hs
  have hc_0 : decide (s.size ≤ 100000) = true := hc
  have hc := of_decide_eq_true hc_0
  exact EndZ.calls (.at (.nil _) (RIdx.in_t s c) (RIdx.loop hc s.size 0 (by omega))) (.nil _) (by kernel_rfl) hax hN hfz
noncomputable def ctI : Tr ZCC := Tr.nil.put 166 (some (dC spIdx))
theorem ctI_ok : ZCtsOk Try.prog ctI := (ZCtsOk.nil _).add rfl spIdx_ok

noncomputable def badF (w : ByteArray) (i : Nat) : Nat → Bool
  | 0 => false
  | k + 1 => bc (decide (idx bLet (byteAt w i) < 0)) true (badF w (i + 1) k)
noncomputable def chk3 (w : ByteArray) : Int := bc (decide (16 < (w.size : Int))) 3 (bc (badF w 0 w.size) 6 0)
namespace RChk3
noncomputable def RUN (s : ES) : ZF := RZ 120 ctI (atS 0 120 4) [] [[(0,none),(3,none)]] false s

noncomputable def sC (s : ByteArray) (i : Int) : NS := ⟨[⟨120, 18, [(0, (EV.v (Value.string (s)))), (3, iv i)], [.it (.code (nav [1, 1, 0, 1, 0, 0, 0] (bodyOf Try.f120))), .it (.code (nav [1, 1, 0, 1, 0, 0, 1] (bodyOf Try.f120))), .it (.inLoop (nav [1, 1, 0, 1, 0, 0] (bodyOf Try.f120))), .it (.inBlock 0), .it (.code (nav [1, 1, 1] (bodyOf Try.f120)))], [], Option.none⟩], [], 0⟩
theorem in_t (s : ByteArray) : RUN (st0 120 [sv s]) = (bc (decide ((16 : Int) < Int.ofNat (ByteArray.size s))) (.done (EV.v (Value.int IntKind.i64 (3))) [] 0) (.at (sC (s) ((0 : Int))))) := by kernel_rfl
theorem step_t (s : ByteArray) (i : Int) : RUN (stOf (sC s i)) = (bc (decide (i < Int.ofNat (ByteArray.size s))) (bc (bc (bc (decide ((0 : Int) ≤ i)) (Nat.blt (Int.toNat i) (ByteArray.size s)) false) true false) (bc (decide (idx { data := #[(67 : UInt8), (84 : UInt8), (76 : UInt8), (82 : UInt8), (80 : UInt8), (99 : UInt8), (116 : UInt8), (108 : UInt8), (114 : UInt8)] } (byteAt s (Int.toNat i)) < (0 : Int))) (.done (EV.v (Value.int IntKind.i64 (6))) [] 0) (.at (sC (s) (IntKind.wrap IntKind.i64 (i + (1 : Int)))))) .bad) (.done (EV.v (Value.int IntKind.i64 (0))) [] 0)) := by kernel_rfl
theorem step {s : ByteArray} {i : Nat} (hi : i < s.size) (hs : s.size ≤ 1000) : RUN (stOf (sC s i)) = bc (decide (idx bLet (byteAt s i) < 0)) (.done (iv 6) [] 0) (.at (sC s (i + 1 : Nat))) := by
  rw [step_t]
  simp (disch := omega) only [Nat.add_eq, eqSy_self, eqN_self, bc_same, List.length_cons, ofn, wrap_in, dt, df, bltD, bltN, ble_of, bleN, beqD, bc_t, bc_f, nn_ok, Nat.zero_add, to_nat, Int.zero_add, Int.sub_zero, Int.sub_self, Int.cast_ofNat_Int, Int.natCast_zero, Int.toNat_zero, List.take_zero, List.nil_append, List.length_append, List.length_nil]
  rfl
theorem last {s : ByteArray} {i : Nat} (hi : s.size ≤ i) : RUN (stOf (sC s i)) = .done (iv 0) [] 0 := by
  rw [step_t]
  simp (disch := omega) only [Nat.add_eq, eqSy_self, eqN_self, bc_same, List.length_cons, ofn, wrap_in, dt, df, bltD, bltN, ble_of, bleN, beqD, bc_t, bc_f, nn_ok, Nat.zero_add, to_nat, Int.zero_add, Int.sub_zero, Int.sub_self, Int.cast_ofNat_Int, Int.natCast_zero, Int.toNat_zero, List.take_zero, List.nil_append, List.length_append, List.length_nil]
theorem loop {s : ByteArray} (hs : s.size ≤ 1000) : ∀ (k i : Nat), i + k = s.size → EndZ 120 ctI false (stOf (sC s i)) (iv (bc (badF s i k) 6 0)) [] 0
  | 0, i, h => .done (last (by omega))
  | k + 1, i, h => by
    have := step (show i < s.size by omega) hs
    unfold badF
    cases hb : decide (idx bLet (byteAt s i) < 0) <;> rw [hb] at this
    · exact .at ctI_ok this (loop hs k (i + 1) (by omega))
    · exact .done this
theorem ends (s : ByteArray) : EndZ 120 ctI false (st0 120 [sv s]) (iv (chk3 s)) [] 0 := by
  have h := in_t s
  unfold chk3
  by_cases h1 : 16 < (s.size : Int)
  · simp only [ofn, dt h1, bc_t] at h ⊢; exact .done h
  · simp only [ofn, df h1, bc_f] at h ⊢
    exact .at ctI_ok h (loop (by omega) s.size 0 (by omega))
end RChk3
noncomputable def spChk3 : ZCT := fun ax => match ax with
  | [.v (.string s)] => some ⟨decide (True), iv (chk3 s), [], 0⟩
  | _ => none
theorem spChk3_ok : ZCtOk Try.prog 120 spChk3 := fun γ w us ax r hs hc hax hN hfz => by
  unfold spChk3 at hs
  split at hs
  case h_2 => cases hs
  rename_i s
  obtain ⟨rfl⟩ := Option.some.inj hs
  have hc_0 : decide (True) = true := hc
  have hc := of_decide_eq_true hc_0
  exact EndZ.calls (RChk3.ends s) ctI_ok (by kernel_rfl) hax hN hfz
noncomputable def ctC : Tr ZCC := ctI.put 120 (some (dC spChk3))
theorem ctC_ok : ZCtsOk Try.prog ctC := ctI_ok.add rfl spChk3_ok

noncomputable def longR (r : List U) : Bool := decide (16 < ((rW r).size : Int))
noncomputable def badR (n : Int) (r : List U) : Bool := bc (rK r != 1)
  (bc (rK r != 2) true (bc (decide (rA r < 0)) true (bc (decide (n - 2 < rA r)) true (bc (rK r == 2) (bc (!((rW r).toList == (ByteArray.mk #[]).toList)) true false) false))))
  (bc (decide (rA r < 0)) true (bc (decide (n - 2 < rA r)) true (bc (rK r == 2) (bc (!((rW r).toList == (ByteArray.mk #[]).toList)) true false) false)))
noncomputable def formR (r : List U) : Bool := chk3 (rW r) != 0
noncomputable def anyR (p : List U → Bool) : List (List U) → Bool
  | [] => false
  | r :: l => bc (p r) true (anyR p l)
theorem anyR_cons (p : List U → Bool) (r : List U) (l : List (List U)) : anyR p (r :: l) = bc (p r) true (anyR p l) := rfl
noncomputable def chk4 (n : Int) (l : List (List U)) : Int := bc (decide (24 < n)) 3 (bc (decide (400 < (l.length : Int))) 3 (bc (anyR longR l) 3 (bc (decide (n < 2)) 2 (bc (anyR (badR n) l) 2 (bc (anyR formR l) 6 0)))))
namespace RChk4
noncomputable def RUN (s : ES) : ZF := RZs 64 ctC [(atS 0 64 4, [[(1,none),(3,none)]]), (atS 0 64 11, [[(1,none),(4,none)]]), (atS 0 64 17, [[(1,none),(6,none)]])] [] false s

noncomputable def sA (n : Int) (l : List (List U)) (i : Int) : NS := ⟨[⟨64, 92, [(1, (EV.ptr 0 0)), (3, iv i)], [.it (.code (nav [1, 1, 0, 1, 0, 0, 0] (bodyOf Try.f64))), .it (.code (nav [1, 1, 0, 1, 0, 0, 1] (bodyOf Try.f64))), .it (.inLoop (nav [1, 1, 0, 1, 0, 0] (bodyOf Try.f64))), .it (.inBlock 0), .it (.code (nav [1, 1, 1] (bodyOf Try.f64)))], [], Option.none⟩], [(0, (EK.cells 24 [(EV.v (Value.int IntKind.i64 (n))), (EV.lst (SyC.recs [(Sh.int IntKind.i64), (Sh.int IntKind.i64), Sh.str] (l)))] true))], 1⟩
noncomputable def sB (n : Int) (l : List (List U)) (i : Int) : NS := ⟨[⟨64, 92, [(1, (EV.ptr 0 0)), (4, iv i)], [.it (.code (nav [1, 1, 1, 1, 0, 1, 0, 0, 0] (bodyOf Try.f64))), .it (.code (nav [1, 1, 1, 1, 0, 1, 0, 0, 1] (bodyOf Try.f64))), .it (.inLoop (nav [1, 1, 1, 1, 0, 1, 0, 0] (bodyOf Try.f64))), .it (.inBlock 2), .it (.code (nav [1, 1, 1, 1, 1] (bodyOf Try.f64)))], [], Option.none⟩], [(0, EK.cells 24 [iv n, wl l] true)], 1⟩
noncomputable def sC (n : Int) (l : List (List U)) (i : Int) : NS := ⟨[⟨64, 92, [(1, (EV.ptr 0 0)), (6, iv i)], [.it (.code (nav [1, 1, 1, 1, 1, 0, 1, 0, 0, 0] (bodyOf Try.f64))), .it (.code (nav [1, 1, 1, 1, 1, 0, 1, 0, 0, 1] (bodyOf Try.f64))), .it (.inLoop (nav [1, 1, 1, 1, 1, 0, 1, 0, 0] (bodyOf Try.f64))), .it (.inBlock 4), .it (.code (nav [1, 1, 1, 1, 1, 1] (bodyOf Try.f64)))], [], Option.none⟩], [(0, EK.cells 24 [iv n, wl l] true)], 1⟩
theorem in_t (n : Int) (l : List (List U)) : RUN (st0 64 [.agg [iv n, wl l]]) = (bc (decide ((24 : Int) < n)) (.done (EV.v (Value.int IntKind.i64 (3))) [] 0) (bc (decide ((400 : Int) < Int.ofNat (List.length l))) (.done (EV.v (Value.int IntKind.i64 (3))) [] 0) (.at (sA (n) (l) ((0 : Int)))))) := by kernel_rfl
theorem a_t (n : Int) (l : List (List U)) (i : Int) : RUN (stOf (sA n l i)) = (bc (decide (i < Int.ofNat (List.length l))) (bc (bc (bc (decide ((0 : Int) ≤ i)) (Nat.blt (Int.toNat i) (List.length l)) false) true false) (bc (bc (Nat.blt (Int.toNat i) (List.length l)) true false) (bc (decide ((16 : Int) < Int.ofNat (ByteArray.size (U.str (List.getD (List.getD l (Int.toNat i) []) (Nat.add (0 : Nat) (2 : Nat)) (U.i (0 : Int))))))) (.done (EV.v (Value.int IntKind.i64 (3))) [] 0) (.at (sA (n) (l) (IntKind.wrap IntKind.i64 (i + (1 : Int)))))) .bad) .bad) (bc (decide (n < (2 : Int))) (.done (EV.v (Value.int IntKind.i64 (2))) [] 0) (.at (sB (n) (l) ((0 : Int)))))) := by kernel_rfl
theorem b_t (n : Int) (l : List (List U)) (i : Int) : RUN (stOf (sB n l i)) = (bc (decide (i < Int.ofNat (List.length l))) (bc (bc (bc (decide ((0 : Int) ≤ i)) (Nat.blt (Int.toNat i) (List.length l)) false) true false) (bc (bc (Nat.blt (Int.toNat i) (List.length l)) true false) (bc (U.int (List.getD (List.getD l (Int.toNat i) []) (0 : Nat) (U.i (0 : Int))) != (1 : Int)) (bc (U.int (List.getD (List.getD l (Int.toNat i) []) (0 : Nat) (U.i (0 : Int))) != (2 : Int)) (.done (EV.v (Value.int IntKind.i64 (2))) [] 0) (bc (decide (U.int (List.getD (List.getD l (Int.toNat i) []) (Nat.succ (0 : Nat)) (U.i (0 : Int))) < (0 : Int))) (.done (EV.v (Value.int IntKind.i64 (2))) [] 0) (bc (decide (IntKind.wrap IntKind.i64 (n - (2 : Int)) < U.int (List.getD (List.getD l (Int.toNat i) []) (Nat.succ (0 : Nat)) (U.i (0 : Int))))) (.done (EV.v (Value.int IntKind.i64 (2))) [] 0) (bc (U.int (List.getD (List.getD l (Int.toNat i) []) (0 : Nat) (U.i (0 : Int))) == (2 : Int)) (bc (!ByteArray.toList (U.str (List.getD (List.getD l (Int.toNat i) []) (Nat.succ (Nat.succ (0 : Nat))) (U.i (0 : Int)))) == ByteArray.toList { data := #[] }) (.done (EV.v (Value.int IntKind.i64 (2))) [] 0) (.at (sB (n) (l) (IntKind.wrap IntKind.i64 (i + (1 : Int)))))) (.at (sB (n) (l) (IntKind.wrap IntKind.i64 (i + (1 : Int))))))))) (bc (decide (U.int (List.getD (List.getD l (Int.toNat i) []) (Nat.succ (0 : Nat)) (U.i (0 : Int))) < (0 : Int))) (.done (EV.v (Value.int IntKind.i64 (2))) [] 0) (bc (decide (IntKind.wrap IntKind.i64 (n - (2 : Int)) < U.int (List.getD (List.getD l (Int.toNat i) []) (Nat.succ (0 : Nat)) (U.i (0 : Int))))) (.done (EV.v (Value.int IntKind.i64 (2))) [] 0) (bc (U.int (List.getD (List.getD l (Int.toNat i) []) (0 : Nat) (U.i (0 : Int))) == (2 : Int)) (bc (!ByteArray.toList (U.str (List.getD (List.getD l (Int.toNat i) []) (Nat.succ (Nat.succ (0 : Nat))) (U.i (0 : Int)))) == ByteArray.toList { data := #[] }) (.done (EV.v (Value.int IntKind.i64 (2))) [] 0) (.at (sB (n) (l) (IntKind.wrap IntKind.i64 (i + (1 : Int)))))) (.at (sB (n) (l) (IntKind.wrap IntKind.i64 (i + (1 : Int))))))))) .bad) .bad) (.at (sC (n) (l) ((0 : Int))))) := by kernel_rfl
theorem c_t (n : Int) (l : List (List U)) (i : Int) : RUN (stOf (sC n l i)) = (bc (decide (i < Int.ofNat (List.length l))) (bc (bc (bc (decide ((0 : Int) ≤ i)) (Nat.blt (Int.toNat i) (List.length l)) false) true false) (bc (bc (Nat.blt (Int.toNat i) (List.length l)) true false) (bc (chk3 (U.str (List.getD (List.getD l (Int.toNat i) []) (Nat.add (0 : Nat) (2 : Nat)) (U.i (0 : Int)))) != (0 : Int)) (.done (EV.v (Value.int IntKind.i64 (6))) [] 0) (.at (sC (n) (l) (IntKind.wrap IntKind.i64 (i + (1 : Int)))))) .bad) .bad) (.done (EV.v (Value.int IntKind.i64 (0))) [] 0)) := by kernel_rfl
theorem aStep {n : Int} {l : List (List U)} {i : Nat} (hi : i < l.length) (hl : l.length ≤ 400) : RUN (stOf (sA n l i)) = bc (longR l[i]) (.done (iv 3) [] 0) (.at (sA n l (i + 1 : Nat))) := by
  rw [a_t]
  have e : l.getD i [] = l[i] := getD_at hi
  simp (disch := omega) only [Nat.add_eq, eqSy_self, eqN_self, bc_same, List.length_cons, ofn, wrap_in, dt, df, bltD, bltN, ble_of, bleN, beqD, bc_t, bc_f, nn_ok, Nat.zero_add, to_nat, Int.zero_add, Int.sub_zero, Int.sub_self, Int.cast_ofNat_Int, Int.natCast_zero, Int.toNat_zero, List.take_zero, List.nil_append, List.length_append, List.length_nil, e, fK0, fK1, fA0, fA1, fA2, fW0, fW1, fW2]
  rfl
theorem aLast {n : Int} {l : List (List U)} {i : Nat} (hi : l.length ≤ i) : RUN (stOf (sA n l i)) = bc (decide (n < 2)) (.done (iv 2) [] 0) (.at (sB n l 0)) := by
  rw [a_t]
  simp (disch := omega) only [Nat.add_eq, eqSy_self, eqN_self, bc_same, List.length_cons, ofn, wrap_in, dt, df, bltD, bltN, ble_of, bleN, beqD, bc_t, bc_f, nn_ok, Nat.zero_add, to_nat, Int.zero_add, Int.sub_zero, Int.sub_self, Int.cast_ofNat_Int, Int.natCast_zero, Int.toNat_zero, List.take_zero, List.nil_append, List.length_append, List.length_nil]
theorem bStep {n : Int} {l : List (List U)} {i : Nat} (hi : i < l.length) (hl : l.length ≤ 400) (h2 : 2 ≤ n) (h3 : n ≤ 24) : RUN (stOf (sB n l i)) = bc (badR n l[i]) (.done (iv 2) [] 0) (.at (sB n l (i + 1 : Nat))) := by
  rw [b_t]
  have e : l.getD i [] = l[i] := getD_at hi
  unfold badR
  simp (disch := omega) only [Nat.add_eq, eqSy_self, eqN_self, bc_same, List.length_cons, ofn, wrap_in, dt, df, bltD, bltN, ble_of, bleN, beqD, bc_t, bc_f, nn_ok, Nat.zero_add, to_nat, Int.zero_add, Int.sub_zero, Int.sub_self, Int.cast_ofNat_Int, Int.natCast_zero, Int.toNat_zero, List.take_zero, List.nil_append, List.length_append, List.length_nil, e, fK0, fK1, fA0, fA1, fA2, fW0, fW1, fW2, bc_bc]
  rfl
theorem bLast {n : Int} {l : List (List U)} {i : Nat} (hi : l.length ≤ i) : RUN (stOf (sB n l i)) = .at (sC n l 0) := by
  rw [b_t]
  simp (disch := omega) only [Nat.add_eq, eqSy_self, eqN_self, bc_same, List.length_cons, ofn, wrap_in, dt, df, bltD, bltN, ble_of, bleN, beqD, bc_t, bc_f, nn_ok, Nat.zero_add, to_nat, Int.zero_add, Int.sub_zero, Int.sub_self, Int.cast_ofNat_Int, Int.natCast_zero, Int.toNat_zero, List.take_zero, List.nil_append, List.length_append, List.length_nil]
theorem cStep {n : Int} {l : List (List U)} {i : Nat} (hi : i < l.length) (hl : l.length ≤ 400) : RUN (stOf (sC n l i)) = bc (formR l[i]) (.done (iv 6) [] 0) (.at (sC n l (i + 1 : Nat))) := by
  rw [c_t]
  have e : l.getD i [] = l[i] := getD_at hi
  simp (disch := omega) only [Nat.add_eq, eqSy_self, eqN_self, bc_same, List.length_cons, ofn, wrap_in, dt, df, bltD, bltN, ble_of, bleN, beqD, bc_t, bc_f, nn_ok, Nat.zero_add, to_nat, Int.zero_add, Int.sub_zero, Int.sub_self, Int.cast_ofNat_Int, Int.natCast_zero, Int.toNat_zero, List.take_zero, List.nil_append, List.length_append, List.length_nil, e, fK0, fK1, fA0, fA1, fA2, fW0, fW1, fW2]
  rfl
theorem cLast {n : Int} {l : List (List U)} {i : Nat} (hi : l.length ≤ i) : RUN (stOf (sC n l i)) = .done (iv 0) [] 0 := by
  rw [c_t]
  simp (disch := omega) only [Nat.add_eq, eqSy_self, eqN_self, bc_same, List.length_cons, ofn, wrap_in, dt, df, bltD, bltN, ble_of, bleN, beqD, bc_t, bc_f, nn_ok, Nat.zero_add, to_nat, Int.zero_add, Int.sub_zero, Int.sub_self, Int.cast_ofNat_Int, Int.natCast_zero, Int.toNat_zero, List.take_zero, List.nil_append, List.length_append, List.length_nil]
theorem cLoop {n : Int} {l : List (List U)} (hl : l.length ≤ 400) : ∀ (k i : Nat), i + k = l.length → EndZ 64 ctC false (stOf (sC n l i)) (iv (bc (anyR formR (l.drop i)) 6 0)) [] 0
  | 0, i, h => by
    rw [List.drop_eq_nil_of_le (by omega)]
    exact .done (cLast (by omega))
  | k + 1, i, h => by
    have hi : i < l.length := by omega
    have := cStep (n := n) hi hl
    rw [List.drop_eq_getElem_cons hi, anyR_cons]
    cases hb : formR l[i] <;> rw [hb] at this
    · exact .at ctC_ok this (cLoop hl k (i + 1) (by omega))
    · exact .done this
theorem bLoop {n : Int} {l : List (List U)} (hl : l.length ≤ 400) (h2 : 2 ≤ n) (h3 : n ≤ 24) : ∀ (k i : Nat), i + k = l.length → EndZ 64 ctC false (stOf (sB n l i)) (iv (bc (anyR (badR n) (l.drop i)) 2 (bc (anyR formR l) 6 0))) [] 0
  | 0, i, h => by
    rw [List.drop_eq_nil_of_le (by omega)]
    exact .at ctC_ok (bLast (by omega)) (cLoop hl l.length 0 (by omega))
  | k + 1, i, h => by
    have hi : i < l.length := by omega
    have := bStep (n := n) hi hl h2 h3
    rw [List.drop_eq_getElem_cons hi, anyR_cons]
    cases hb : badR n l[i] <;> rw [hb] at this
    · exact .at ctC_ok this (bLoop hl h2 h3 k (i + 1) (by omega))
    · exact .done this
theorem aLoop {n : Int} {l : List (List U)} (hl : l.length ≤ 400) (h3 : n ≤ 24) : ∀ (k i : Nat), i + k = l.length → EndZ 64 ctC false (stOf (sA n l i)) (iv (bc (anyR longR (l.drop i)) 3 (bc (decide (n < 2)) 2 (bc (anyR (badR n) l) 2 (bc (anyR formR l) 6 0))))) [] 0
  | 0, i, h => by
    rw [List.drop_eq_nil_of_le (by omega)]
    have := aLast (n := n) (l := l) (i := i) (by omega)
    by_cases h2 : n < 2
    · rw [dt h2, bc_t] at this ⊢; exact .done this
    · rw [df h2, bc_f] at this ⊢; exact .at ctC_ok this (bLoop hl (by omega) h3 l.length 0 (by omega))
  | k + 1, i, h => by
    have hi : i < l.length := by omega
    have := aStep (n := n) hi hl
    rw [List.drop_eq_getElem_cons hi, anyR_cons]
    cases hb : longR l[i] <;> rw [hb] at this
    · exact .at ctC_ok this (aLoop hl h3 k (i + 1) (by omega))
    · exact .done this
theorem ends (n : Int) (l : List (List U)) : EndZ 64 ctC false (st0 64 [.agg [iv n, wl l]]) (iv (chk4 n l)) [] 0 := by
  have h := in_t n l
  unfold chk4
  by_cases h1 : 24 < n
  · simp only [dt h1, bc_t] at h ⊢; exact .done h
  by_cases h2 : 400 < (l.length : Int)
  · simp only [ofn, df h1, dt h2, bc_t, bc_f] at h ⊢; exact .done h
  · simp only [ofn, df h1, df h2, bc_f] at h ⊢
    exact .at ctC_ok h (aLoop (by omega) (by omega) l.length 0 (by omega))
end RChk4
noncomputable def spChk4 : ZCT := fun ax => match ax with
  | [.agg [.v (.int .i64 n), .lst (.recs [.int .i64, .int .i64, .str] l)]] => some ⟨decide (True), iv (chk4 n l), [], 0⟩
  | _ => none
theorem spChk4_ok : ZCtOk Try.prog 64 spChk4 := fun γ w us ax r hs hc hax hN hfz => by
  unfold spChk4 at hs
  split at hs
  case h_2 => cases hs
  rename_i n l
  obtain ⟨rfl⟩ := Option.some.inj hs
  have hc_0 : decide (True) = true := hc
  have hc := of_decide_eq_true hc_0
  exact EndZ.calls (RChk4.ends n l) ctC_ok (by kernel_rfl) hax hN hfz
end Go.Proofs.Ythaljeccdeajoaa.Ev
namespace Go.Proofs.Ythaljeccdeajoaa.Ev
open Go.RowKit
variable {P : Program} {γ γ' : G} {w0 : Bs} {w w' : World} {H H' : Tr EK} {n n' : Nat}
theorem HR.start (hN : ∀ i, γ i = none) (hfz : FzAt γ w) : HR γ (Bs.ofG w γ) .nil 0 w :=
  ⟨(fun i k hk => by cases hk), (fun i j ki kj hi => by cases hi), (fun i _ => hN i), (fun i hi => hi.elim), (fun i p hp => by rw [hN i] at hp; cases hp), ⟨rfl, rfl, rfl, Nat.le_refl _, fun _ _ => rfl⟩, FZ.init hfz⟩
theorem UOk.list_cases {fz : Nat → Option (Array Value)} {sh : List Sh} {u : U} {x : Value} (h : UOk fz (.list sh) u x) : (∃ a c, u.list = [] ∧ x = .slice a 0 c) ∨ ∃ k off c, x = .slice (some ⟨k, off, none⟩) u.list.length c ∧ u.list.length ≤ c ∧ c ≤ maxLen ∧ ∃ arr, fz k = some arr := by
  cases h with
  | empty _ _ a c hl hc hn => exact .inl ⟨a, c, hl, rfl⟩
  | list _ _ k off c arr hk hl hc hs hh => exact .inr ⟨k, off, c, rfl, hl, hc, arr, hk⟩

noncomputable def zrep (s : ByteArray) (k : Nat) : ByteArray := ⟨(Lib.repeatL s.data.toList k).toArray⟩
noncomputable def zjoin (l : List ByteArray) (sep : ByteArray) : ByteArray := ⟨(Lib.join (l.map (·.data.toList)) sep.data.toList).toArray⟩
noncomputable def spRepeat : ZCT := fun ax => match ax with
  | [.v (.string s), .v (.int .i64 n)] => some ⟨bc (decide (0 ≤ n)) (bc (decide (n ≤ 65536)) (Nat.ble s.size 65536) false) false, .v (.string (zrep s n.toNat)), [], 0⟩
  | _ => none
theorem spRepeat_ok {f : FuncId} (h : ∀ (s : ByteArray) (c : Nat) (w : World), c ≤ 9223372036854775807 → s.size * c ≤ 140737488355328 → Calls P f #[.string s, .int .i64 c] w fun e w' => e = .returned (.string ⟨(Lib.repeatL s.data.toList c).toArray⟩) ∧ Below w.heap.size w w') : ZCtOk P f spRepeat := fun γ w us ax r hs hc hax hN hfz => by
  unfold spRepeat at hs
  split at hs
  case h_2 => cases hs
  rename_i s n
  obtain ⟨rfl⟩ := Option.some.inj hs
  obtain ⟨h1, hc⟩ := bcT (show bc (decide (0 ≤ n)) (bc (decide (n ≤ 65536)) (Nat.ble s.size 65536) false) false = true from hc)
  obtain ⟨h2, h3⟩ := bcT hc
  have h1 := of_decide_eq_true h1
  have h2 := of_decide_eq_true h2
  have h3 := Nat.le_of_ble_eq_true h3
  obtain ⟨x, r1, e1, hx, hc1⟩ := ECL.inv hax
  obtain ⟨y, r2, e2, hy, hc2⟩ := ECL.inv hc1
  have e3 : r2 = [] := by apply List.eq_nil_of_length_eq_zero; have := hc2.1; simpa using this.symm
  have hx := ec_v hx
  have hy := ec_v hy
  subst hx; subst hy; subst e3; subst e2
  obtain ⟨c, rfl⟩ : ∃ c : Nat, n = (c : Int) := ⟨n.toNat, by omega⟩
  have eu : us = #[.string s, .int .i64 (c : Int)] := by apply Array.ext'; simpa using e1
  rw [eu]
  refine (h s c w (by omega) (by have := Nat.mul_le_mul h3 (show c ≤ 65536 by omega); omega)).mono ?_
  rintro e w' ⟨rfl, hb⟩
  exact ⟨γ, _, rfl, .v _, (HR.start hN hfz).below hb⟩
noncomputable def spJoin : ZCT := fun ax => match ax with
  | [.lst (.strs l), .v (.string sep)] => some ⟨bc (Nat.ble l.length 65536) (Nat.ble (Lib.join (l.map (·.data.toList)) sep.data.toList).length 65536) false, .v (.string (zjoin l sep)), [], 0⟩
  | _ => none
theorem spJoin_ok {f : FuncId} (h0 : ∀ (a : Option Addr) (c : Nat) (sep : ByteArray) (w : World), Calls P f #[.slice a 0 c, .string sep] w fun e w' => e = .returned (.string ⟨#[]⟩) ∧ w' = w)
    (h : ∀ (bk o c : Nat) (xs : List ByteArray) (sep : ByteArray) (w : World), (∀ (j : Nat) x, xs[j]? = some x → w.cell? ⟨bk, o + j, none⟩ = some (.string x)) → bk < w.heap.size → xs.length ≤ 140737488355328 → xs.length ≤ c → (Lib.join (xs.map (·.data.toList)) sep.data.toList).length ≤ 140737488355328 →
      Calls P f #[.slice (some ⟨bk, o, none⟩) xs.length c, .string sep] w fun e w' => e = .returned (.string ⟨(Lib.join (xs.map (·.data.toList)) sep.data.toList).toArray⟩) ∧ Below w.heap.size w w') : ZCtOk P f spJoin := fun γ w us ax r hs hc hax hN hfz => by
  unfold spJoin at hs
  split at hs
  case h_2 => cases hs
  rename_i l sep
  obtain ⟨rfl⟩ := Option.some.inj hs
  obtain ⟨h1, h2⟩ := bcT (show bc (Nat.ble l.length 65536) (Nat.ble (Lib.join (l.map (·.data.toList)) sep.data.toList).length 65536) false = true from hc)
  have h1 := Nat.le_of_ble_eq_true h1
  have h2 := Nat.le_of_ble_eq_true h2
  obtain ⟨x, r1, e1, hx, hc1⟩ := ECL.inv hax
  obtain ⟨y, r2, e2, hy, hc2⟩ := ECL.inv hc1
  have e3 : r2 = [] := by apply List.eq_nil_of_length_eq_zero; have := hc2.1; simpa using this.symm
  have hy := ec_v hy
  subst hy; subst e3; subst e2
  have eu : us = #[x, .string sep] := by apply Array.ext'; simpa using e1
  rw [eu]
  cases hx with
  | lst _ _ hu =>
    have hlen : (SyC.strs l).rows.length = l.length := by simp [SyC.rows]
    have hget : ∀ (fz : Nat → Option (Array Value)) (k off c j : Nat), γ.fz = fz → UOk fz (.list (SyC.strs l).sh) (.l (SyC.strs l).rows) (.slice (some ⟨k, off, none⟩) (SyC.strs l).rows.length c) → ∀ s, l[j]? = some s → ∃ arr, fz k = some arr ∧ arr[off + j]? = some (.string s) := fun fz k off c j _ hu s hs => by
      have hj : j < (SyC.strs l).rows.length := by rw [hlen]; exact (List.getElem?_eq_some_iff.1 hs).1
      obtain ⟨arr, y, q1, q2, q3⟩ := UOk.get (f := 0) (s := .str) hu (show j < (U.list (.l (SyC.strs l).rows)).length from hj) rfl
      have q2 : arr[off + (j * 1 + 0)]? = some y := q2
      rw [show off + (j * 1 + 0) = off + j by omega] at q2
      refine ⟨arr, q1, ?_⟩
      rw [q2]
      have e : (((U.list (.l (SyC.strs l).rows)).getD j []).getD 0 (.i 0)).str = s := by
        show (((SyC.strs l).rows.getD j []).getD 0 (.i 0)).str = s
        simp [SyC.rows, List.getD_eq_getElem?_getD, hs]
        rfl
      cases q3 with
      | str => rw [e]
    rcases UOk.list_cases hu with ⟨a, c, hl, rfl⟩ | ⟨k, off, c, rfl, hlc, hcm, arr, hk⟩
    · have : l = [] := List.eq_nil_of_length_eq_zero (by rw [← hlen]; exact congrArg List.length hl)
      subst this
      refine (h0 a c sep w).mono ?_
      rintro e w' ⟨rfl, rfl⟩
      exact ⟨γ, _, rfl, .v _, HR.start hN hfz⟩
    · have hle : (U.l (SyC.strs l).rows).list.length = l.length := hlen
      obtain ⟨ty, fz, hb⟩ := hfz k arr hk
      have hkl : k < w.heap.size := (Array.getElem?_eq_some_iff.1 hb).1
      have hcells : ∀ (j : Nat) s, l[j]? = some s → w.cell? ⟨k, off + j, none⟩ = some (.string s) := fun j s hs => by
        obtain ⟨arr2, q1, q2⟩ := hget γ.fz k off c j rfl hu s hs
        rw [hk] at q1; injection q1 with q1; subst q1
        simp [World.cell?, hb, q2]
      rw [hle] at hlc
      have := h k off c l sep w hcells hkl (by omega) hlc (by omega)
      rw [← hle] at this
      refine this.mono ?_
      rintro e w' ⟨rfl, hbw⟩
      exact ⟨γ, _, rfl, .v _, (HR.start hN hfz).below hbw⟩
end Go.Proofs.Ythaljeccdeajoaa.Ev
namespace Go.Proofs.Ythaljeccdeajoaa.Ev
open Go.Proofs
namespace PChk3
end PChk3
namespace PAny
end PAny
namespace PChk4
end PChk4
end Go.Proofs.Ythaljeccdeajoaa.Ev
namespace Go.Proofs.Ythaljeccdeajoaa.Ev
open Go.Proofs
theorem anyR_false {p : List U → Bool} : ∀ {l : List (List U)}, anyR p l = false → ∀ r, r ∈ l → p r = false
  | [], _, r, h => by simp at h
  | x :: l, h, r, hr => by
    rw [anyR_cons] at h
    cases hx : p x with
    | true => rw [hx, bc_t] at h; cases h
    | false =>
      rw [hx, bc_f] at h
      rcases List.mem_cons.1 hr with rfl | hr
      · exact hx
      · exact anyR_false h r hr
theorem anyR_of {p : List U → Bool} : ∀ {l : List (List U)}, (∀ r, r ∈ l → p r = false) → anyR p l = false
  | [], _ => rfl
  | x :: l, h => by
    rw [anyR_cons, h x (by simp), bc_f]
    exact anyR_of fun r hr => h r (by simp [hr])

structure ValR (n : Int) (r : List U) : Prop where
  kind : rK r = 1 ∨ rK r = 2
  lo : 0 ≤ rA r
  hi : rA r ≤ n - 2
  sew : rK r = 2 → (rW r).toList = (ByteArray.mk #[]).toList
  long : (rW r).size ≤ 16
  form : badF (rW r) 0 (rW r).size = false
theorem chk3_ok {w : ByteArray} (h : chk3 w = 0) : w.size ≤ 16 ∧ badF w 0 w.size = false := by
  unfold chk3 at h
  by_cases h1 : 16 < (w.size : Int)
  · rw [dt h1, bc_t] at h; cases h
  · rw [df h1, bc_f] at h
    refine ⟨by omega, ?_⟩
    cases hb : badF w 0 w.size
    · rfl
    · rw [hb, bc_t] at h; cases h
theorem chk3_of {w : ByteArray} (h1 : w.size ≤ 16) (h2 : badF w 0 w.size = false) : chk3 w = 0 := by
  unfold chk3
  rw [df (by omega), bc_f, h2, bc_f]
theorem badR_false {n : Int} {r : List U} (h : badR n r = false) : (rK r = 1 ∨ rK r = 2) ∧ 0 ≤ rA r ∧ rA r ≤ n - 2 ∧ (rK r = 2 → (rW r).toList = (ByteArray.mk #[]).toList) := by
  unfold badR at h
  by_cases h1 : rK r = 1
  · rw [show (rK r != 1) = false by simp [h1], bc_f] at h
    by_cases h2 : rA r < 0
    · rw [dt h2, bc_t] at h; cases h
    rw [df h2, bc_f] at h
    by_cases h3 : n - 2 < rA r
    · rw [dt h3, bc_t] at h; cases h
    exact ⟨.inl h1, by omega, by omega, fun h4 => by omega⟩
  · rw [show (rK r != 1) = true by simp [h1], bc_t] at h
    by_cases h0 : rK r = 2
    · rw [show (rK r != 2) = false by simp [h0], bc_f] at h
      by_cases h2 : rA r < 0
      · rw [dt h2, bc_t] at h; cases h
      rw [df h2, bc_f] at h
      by_cases h3 : n - 2 < rA r
      · rw [dt h3, bc_t] at h; cases h
      rw [df h3, bc_f, show (rK r == 2) = true by simp [h0], bc_t] at h
      refine ⟨.inr h0, by omega, by omega, fun _ => ?_⟩
      cases h4 : ((rW r).toList == (ByteArray.mk #[]).toList) with
      | true => simpa using h4
      | false => rw [h4] at h; cases h
    · rw [show (rK r != 2) = true by simp [h0], bc_t] at h; cases h
theorem badR_of {n : Int} {r : List U} (h : ValR n r) : badR n r = false := by
  have g1 := h.lo
  have g2 := h.hi
  unfold badR
  rcases h.kind with h1 | h1
  · rw [show (rK r != 1) = false by simp [h1], bc_f, df (by omega), bc_f, df (by omega), bc_f, show (rK r == 2) = false by simp [h1], bc_f]
  · rw [show (rK r != 1) = true by simp [h1], bc_t, show (rK r != 2) = false by simp [h1], bc_f, df (by omega), bc_f, df (by omega), bc_f, show (rK r == 2) = true by simp [h1], bc_t, h.sew h1]
    simp [bc]

structure ValS (n : Int) (l : List (List U)) : Prop where
  lo : 2 ≤ n
  hi : n ≤ 24
  len : l.length ≤ 400
  val : ∀ r, r ∈ l → ValR n r
theorem chk4_ok {n : Int} {l : List (List U)} (h : chk4 n l = 0) : ValS n l := by
  unfold chk4 at h
  by_cases h1 : 24 < n
  · rw [dt h1, bc_t] at h; cases h
  rw [df h1, bc_f] at h
  by_cases h2 : 400 < (l.length : Int)
  · rw [dt h2, bc_t] at h; cases h
  rw [df h2, bc_f] at h
  cases h3 : anyR longR l with
  | true => rw [h3, bc_t] at h; cases h
  | false =>
    rw [h3, bc_f] at h
    by_cases h4 : n < 2
    · rw [dt h4, bc_t] at h; cases h
    rw [df h4, bc_f] at h
    cases h5 : anyR (badR n) l with
    | true => rw [h5, bc_t] at h; cases h
    | false =>
      rw [h5, bc_f] at h
      cases h6 : anyR formR l with
      | true => rw [h6, bc_t] at h; cases h
      | false =>
        refine ⟨by omega, by omega, by omega, fun r hr => ?_⟩
        obtain ⟨k1, k2, k3, k4⟩ := badR_false (anyR_false h5 r hr)
        have k5 := anyR_false h6 r hr
        unfold formR at k5
        obtain ⟨k6, k7⟩ := chk3_ok (w := rW r) (by simpa using k5)
        exact ⟨k1, k2, k3, k4, k6, k7⟩
theorem chk4_of {n : Int} {l : List (List U)} (h : ValS n l) : chk4 n l = 0 := by
  have g1 := h.lo
  have g2 := h.hi
  have g3 := h.len
  unfold chk4
  rw [df (by omega), bc_f, df (by omega), bc_f, anyR_of fun r hr => ?_, bc_f, df (by omega), bc_f, anyR_of fun r hr => badR_of (h.val r hr), bc_f, anyR_of fun r hr => ?_, bc_f]
  · have := h.val r hr
    unfold formR
    rw [chk3_of this.long this.form]
    rfl
  · have := (h.val r hr).long
    unfold longR
    exact df (by omega)
def AtOk (l : List (List U)) : Prop := ∀ r, r ∈ l → 0 ≤ rA r ∧ rA r ≤ 1000
noncomputable instance AtOk.dec (l : List (List U)) : Decidable (AtOk l) := Classical.propDecidable _
theorem ValS.at {n : Int} {l : List (List U)} (h : ValS n l) : AtOk l := fun r hr => ⟨(h.val r hr).lo, by have := (h.val r hr).hi; have := h.hi; omega⟩
noncomputable def mkR (k a : Int) (w : ByteArray) : List U := [.i k, .i a, .s w]
noncomputable def shR (d : Int) (r : List U) : List U := mkR (rK r) (rA r + d) (rW r)
noncomputable def shL (d : Int) (l : List (List U)) : List (List U) := l.map (shR d)
theorem ValR.sh {n m d : Int} {r : List U} (h : ValR n r) (h1 : 0 ≤ d) (h2 : n + d ≤ m) : ValR m (shR d r) :=
  ⟨h.kind, by show 0 ≤ rA r + d; have := h.lo; omega, by show rA r + d ≤ m - 2; have := h.hi; omega, h.sew, h.long, h.form⟩
theorem ValR.mono {n m : Int} {r : List U} (h : ValR n r) (h1 : n ≤ m) : ValR m r := ⟨h.kind, h.lo, by have := h.hi; omega, h.sew, h.long, h.form⟩
end Go.Proofs.Ythaljeccdeajoaa.Ev
namespace Go.Proofs.Ythaljeccdeajoaa.Ev
open Go.Proofs

noncomputable def rowEq (x y : List U) : Bool := bc (rK x == rK y) (bc (rA x == rA y) (bc ((rW x).toList == (rW y).toList) true false) false) false
theorem rowEq_self (x : List U) : rowEq x x = true := by
  unfold rowEq
  simp [bc_t]
noncomputable def sameR : List (List U) → List (List U) → Bool
  | x :: a, y :: b => bc (rowEq x y) (sameR a b) false
  | _, _ => true
theorem sameR_cons (x y : List U) (a b : List (List U)) : sameR (x :: a) (y :: b) = bc (rowEq x y) (sameR a b) false := rfl
theorem sameR_self : ∀ a, sameR a a = true
  | [] => rfl
  | x :: a => by rw [sameR_cons, rowEq_self, bc_t, sameR_self a]
noncomputable def sameW (n m : Int) (a b : List (List U)) : Bool := bc (n != m) false (bc (Int.ofNat a.length != Int.ofNat b.length) false (sameR a b))
theorem sameW_self (n : Int) (a : List (List U)) : sameW n n a a = true := by
  unfold sameW
  simp [bc_f, sameR_self]
namespace MSame
noncomputable def RUN (s : ES) : ZF := RZ 39 .nil (atS 0 39 4) [] [[(2,none),(3,none),(5,none)]] false s

noncomputable def sSame (n m : Int) (a b : List (List U)) (i : Int) : NS := ⟨[⟨39, 38, [(2, (EV.ptr 0 0)), (3, (EV.ptr 1 0)), (5, iv i)], [.it (.code (nav [1, 1, 0, 1, 0, 0, 0] (bodyOf Try.f39))), .it (.code (nav [1, 1, 0, 1, 0, 0, 1] (bodyOf Try.f39))), .it (.inLoop (nav [1, 1, 0, 1, 0, 0] (bodyOf Try.f39))), .it (.inBlock 0), .it (.code (nav [1, 1, 1] (bodyOf Try.f39)))], [], Option.none⟩], [(0, (EK.cells 24 [(EV.v (Value.int IntKind.i64 (n))), (EV.lst (SyC.recs [(Sh.int IntKind.i64), (Sh.int IntKind.i64), Sh.str] (a)))] true)), (1, (EK.cells 24 [(EV.v (Value.int IntKind.i64 (m))), (EV.lst (SyC.recs [(Sh.int IntKind.i64), (Sh.int IntKind.i64), Sh.str] (b)))] true))], 2⟩
theorem in_t (n m : Int) (a b : List (List U)) : RUN (st0 39 [.agg [iv n, wl a], .agg [iv m, wl b]]) = (bc (n != m) (.done (EV.v (Value.bool false)) [] 0) (bc (Int.ofNat (List.length a) != Int.ofNat (List.length b)) (.done (EV.v (Value.bool false)) [] 0) (.at (sSame (n) (m) (a) (b) ((0 : Int)))))) := by kernel_rfl
theorem step_t (n m : Int) (a b : List (List U)) (i : Int) : RUN (stOf (sSame n m a b i)) = (bc (decide (i < Int.ofNat (List.length a))) (bc (bc (bc (bc (bc (decide ((0 : Int) ≤ i)) (Nat.blt (Int.toNat i) (List.length a)) false) true false) (bc (bc (Nat.blt (Int.toNat i) (List.length a)) true false) (bc (bc (bc (decide ((0 : Int) ≤ i)) (Nat.blt (Int.toNat i) (List.length b)) false) true false) (bc (bc (Nat.blt (Int.toNat i) (List.length b)) true false) true false) false) false) false) true false) (bc (bnot (bc (U.int (List.getD (List.getD a (Int.toNat i) []) (0 : Nat) (U.i (0 : Int))) == U.int (List.getD (List.getD b (Int.toNat i) []) (0 : Nat) (U.i (0 : Int)))) (bc (U.int (List.getD (List.getD a (Int.toNat i) []) (Nat.succ (0 : Nat)) (U.i (0 : Int))) == U.int (List.getD (List.getD b (Int.toNat i) []) (Nat.succ (0 : Nat)) (U.i (0 : Int)))) (bc (ByteArray.toList (U.str (List.getD (List.getD a (Int.toNat i) []) (Nat.succ (Nat.succ (0 : Nat))) (U.i (0 : Int)))) == ByteArray.toList (U.str (List.getD (List.getD b (Int.toNat i) []) (Nat.succ (Nat.succ (0 : Nat))) (U.i (0 : Int))))) true false) false) false)) (.done (EV.v (Value.bool false)) [] 0) (.at (sSame (n) (m) (a) (b) (IntKind.wrap IntKind.i64 (i + (1 : Int)))))) .bad) (.done (EV.v (Value.bool true)) [] 0)) := by kernel_rfl
theorem step {n m : Int} {a b : List (List U)} {i : Nat} (hi : i < a.length) (hl : a.length ≤ 100000) (hb : a.length = b.length) : RUN (stOf (sSame n m a b i)) = bc (rowEq a[i] (b[i]'(by omega))) (.at (sSame n m a b (i + 1 : Nat))) (.done (bv false) [] 0) := by
  rw [step_t]
  have e : a.getD i [] = a[i] := getD_at hi
  have e2 : b.getD i [] = b[i]'(by omega) := getD_at (by omega)
  simp (disch := omega) only [Nat.add_eq, eqSy_self, eqN_self, bc_same, List.length_cons, ofn, wrap_in, dt, df, bltD, bltN, ble_of, bleN, beqD, bc_t, bc_f, nn_ok, Nat.zero_add, to_nat, Int.zero_add, Int.sub_zero, Int.sub_self, Int.cast_ofNat_Int, Int.natCast_zero, Int.toNat_zero, List.take_zero, List.nil_append, List.length_append, List.length_nil, e, e2, fK0, fK1, fA0, fA1, fA2, fW0, fW1, fW2]
  show bc (bnot (rowEq _ _)) _ _ = _
  cases rowEq a[i] (b[i]'(by omega)) <;> rfl
theorem last {n m : Int} {a b : List (List U)} {i : Nat} (hi : a.length ≤ i) : RUN (stOf (sSame n m a b i)) = .done (bv true) [] 0 := by
  rw [step_t]
  simp (disch := omega) only [Nat.add_eq, eqSy_self, eqN_self, bc_same, List.length_cons, ofn, wrap_in, dt, df, bltD, bltN, ble_of, bleN, beqD, bc_t, bc_f, nn_ok, Nat.zero_add, to_nat, Int.zero_add, Int.sub_zero, Int.sub_self, Int.cast_ofNat_Int, Int.natCast_zero, Int.toNat_zero, List.take_zero, List.nil_append, List.length_append, List.length_nil]
theorem loop {n m : Int} {a b : List (List U)} (hl : a.length ≤ 100000) (hb : a.length = b.length) : ∀ (k i : Nat), i + k = a.length → EndZ 39 .nil false (stOf (sSame n m a b i)) (bv (sameR (a.drop i) (b.drop i))) [] 0
  | 0, i, h => by
    rw [List.drop_eq_nil_of_le (by omega)]
    exact .done (last (by omega))
  | k + 1, i, h => by
    have hi : i < a.length := by omega
    have hs := step (n := n) (m := m) hi hl hb
    rw [List.drop_eq_getElem_cons hi, List.drop_eq_getElem_cons (show i < b.length by omega), sameR_cons]
    cases hc : rowEq a[i] (b[i]'(by omega)) <;> rw [hc] at hs
    · exact .done hs
    · exact .at (.nil _) hs (loop hl hb k (i + 1) (by omega))
theorem ends (n m : Int) (a b : List (List U)) (hl : a.length ≤ 100000) : EndZ 39 .nil false (st0 39 [.agg [iv n, wl a], .agg [iv m, wl b]]) (bv (sameW n m a b)) [] 0 := by
  have h := in_t n m a b
  unfold sameW
  cases h1 : (n != m) <;> rw [h1] at h
  · cases h2 : (Int.ofNat a.length != Int.ofNat b.length) <;> rw [h2] at h
    · have hb : a.length = b.length := by have : (a.length : Int) = b.length := by simpa using h2
                                          omega
      exact .at (.nil _) h (loop hl hb a.length 0 (by omega))
    · exact .done h
  · exact .done h
end MSame
noncomputable def spSame : ZCT := fun ax => match ax with
  | [.agg [.v (.int .i64 n), .lst (.recs [.int .i64, .int .i64, .str] a)], .agg [.v (.int .i64 m), .lst (.recs [.int .i64, .int .i64, .str] b)]] => some ⟨decide (a.length ≤ 100000), bv (sameW n m a b), [], 0⟩
  | _ => none
theorem spSame_ok : ZCtOk Try.prog 39 spSame := fun γ w us ax r hs hc hax hN hfz => by
  unfold spSame at hs
  split at hs
  case h_2 => cases hs
  rename_i n a m b
  obtain ⟨rfl⟩ := Option.some.inj hs
  have hc_0 : decide (a.length ≤ 100000) = true := hc
  have hc := of_decide_eq_true hc_0
  exact EndZ.calls (MSame.ends n m a b hc) (.nil _) (by kernel_rfl) hax hN hfz

namespace RPlc
noncomputable def RUN (s : ES) : ZF := RZ 96 .nil (atS 0 96 3) [] [[(1,none),(2,none),(4,none),(5,some (3, 76, .recs shW [])),(6,none)]] false s

noncomputable def sP (n k : Int) (l : List (List U)) (i : Int) (q : List (List U)) (nn : Bool) : NS := ⟨[⟨96, 35, [(1, (EV.v (Value.int IntKind.i64 (k)))), (2, (EV.ptr 0 0)), (4, (EV.ptr 1 0)), (5, (EV.ptr 2 0)), (6, iv i)], [.it (.code (nav [1, 1, 0, 1, 0, 0, 0] (bodyOf Try.f96))), .it (.code (nav [1, 1, 0, 1, 0, 0, 1] (bodyOf Try.f96))), .it (.inLoop (nav [1, 1, 0, 1, 0, 0] (bodyOf Try.f96))), .it (.inBlock 0), .it (.code (nav [1, 1, 1] (bodyOf Try.f96)))], [], Option.none⟩], [(0, (EK.cells 24 [(EV.v (Value.int IntKind.i64 (n))), (EV.lst (SyC.recs [(Sh.int IntKind.i64), (Sh.int IntKind.i64), Sh.str] (l)))] true)), (1, (EK.cells 24 [(EV.v (Value.int IntKind.i64 (0))), (EV.v (Value.slice Option.none 0 0))] true)), (2, EK.cells 24 [iv n, EV.slO 3 3 q.length nn] true), (3, EK.seq 76 (.recs shW q) nn)], 4⟩
theorem in_t (n k : Int) (l : List (List U)) : RUN (st0 96 [.agg [iv n, wl l], iv k]) = (.at (sP (n) (k) (l) ((0 : Int)) ([]) (false))) := by kernel_rfl
theorem step_t (n k : Int) (l : List (List U)) (i : Int) (q : List (List U)) (nn : Bool) : RUN (stOf (sP n k l i q nn)) = (bc (decide (i < Int.ofNat (List.length l))) (bc (bc (bc (decide ((0 : Int) ≤ i)) (Nat.blt (Int.toNat i) (List.length l)) false) true false) (bc (bc (Nat.blt (Int.toNat i) (List.length l)) true false) (bc (bc (Nat.beq (List.length q) (List.length q)) (bc (Nat.ble (List.length q + List.length [[U.i (U.int (List.getD (List.getD l (Int.toNat i) []) (0 : Nat) (U.i (0 : Int)))), U.i (IntKind.wrap IntKind.i64 (U.int (List.getD (List.getD l (Int.toNat i) []) (Nat.succ (0 : Nat)) (U.i (0 : Int))) + k)), U.s (U.str (List.getD (List.getD l (Int.toNat i) []) (Nat.succ (Nat.succ (0 : Nat))) (U.i (0 : Int))))]]) (65536 : Nat)) (bc nn true (bc nn false true)) false) false) (.at (sP (n) (k) (l) (IntKind.wrap IntKind.i64 (i + (1 : Int))) (q ++ [[U.i (U.int (List.getD (List.getD l (Int.toNat i) []) (0 : Nat) (U.i (0 : Int)))), U.i (IntKind.wrap IntKind.i64 (U.int (List.getD (List.getD l (Int.toNat i) []) (Nat.succ (0 : Nat)) (U.i (0 : Int))) + k)), U.s (U.str (List.getD (List.getD l (Int.toNat i) []) (Nat.succ (Nat.succ (0 : Nat))) (U.i (0 : Int))))]]) (bc nn true (Nat.blt (0 : Nat) (List.length [[U.i (U.int (List.getD (List.getD l (Int.toNat i) []) (0 : Nat) (U.i (0 : Int)))), U.i (IntKind.wrap IntKind.i64 (U.int (List.getD (List.getD l (Int.toNat i) []) (Nat.succ (0 : Nat)) (U.i (0 : Int))) + k)), U.s (U.str (List.getD (List.getD l (Int.toNat i) []) (Nat.succ (Nat.succ (0 : Nat))) (U.i (0 : Int))))]]))))) .bad) .bad) .bad) (bc (bc (Nat.beq (List.length q) (List.length q)) true false) (.done (EV.agg [(EV.v (Value.int IntKind.i64 (n))), (EV.lst (SyC.recs [(Sh.int IntKind.i64), (Sh.int IntKind.i64), Sh.str] (q)))]) [] 0) .bad)) := by kernel_rfl
theorem step {n k : Int} {l : List (List U)} {i : Nat} {q : List (List U)} {nn : Bool} (hi : i < l.length) (hl : l.length ≤ 1000) (hq : q.length ≤ 1000) (ha : 0 ≤ rA l[i] ∧ rA l[i] ≤ 1000) (hk : -1000 ≤ k ∧ k ≤ 1000) : RUN (stOf (sP n k l i q nn)) = .at (sP n k l (i + 1 : Nat) (q ++ [shR k l[i]]) true) := by
  rw [step_t]
  have e : l.getD i [] = l[i] := getD_at hi
  simp (disch := omega) only [Nat.add_eq, eqSy_self, eqN_self, bc_same, List.length_cons, ofn, wrap_in, dt, df, bltD, bltN, ble_of, bleN, beqD, bc_t, bc_f, nn_ok, Nat.zero_add, to_nat, Int.zero_add, Int.sub_zero, Int.sub_self, Int.cast_ofNat_Int, Int.natCast_zero, Int.toNat_zero, List.take_zero, List.nil_append, List.length_append, List.length_nil, e, fK0, fK1, fA0, fA1, fA2, fW0, fW1, fW2]
  rfl
theorem last {n k : Int} {l : List (List U)} {i : Nat} {q : List (List U)} {nn : Bool} (hi : l.length ≤ i) : RUN (stOf (sP n k l i q nn)) = .done (.agg [iv n, wl q]) [] 0 := by
  rw [step_t]
  simp (disch := omega) only [Nat.add_eq, eqSy_self, eqN_self, bc_same, List.length_cons, ofn, wrap_in, dt, df, bltD, bltN, ble_of, bleN, beqD, bc_t, bc_f, nn_ok, Nat.zero_add, to_nat, Int.zero_add, Int.sub_zero, Int.sub_self, Int.cast_ofNat_Int, Int.natCast_zero, Int.toNat_zero, List.take_zero, List.nil_append, List.length_append, List.length_nil]
  rfl
theorem loop {n k : Int} {l : List (List U)} (hl : l.length ≤ 1000) (ha : AtOk l) (hk : -1000 ≤ k ∧ k ≤ 1000) : ∀ (m i : Nat) (q : List (List U)) (nn : Bool), i + m = l.length → q.length ≤ i → EndZ 96 .nil false (stOf (sP n k l i q nn)) (.agg [iv n, wl (q ++ shL k (l.drop i))]) [] 0
  | 0, i, q, nn, h, hq => by
    rw [List.drop_eq_nil_of_le (by omega)]
    show EndZ _ _ _ _ (.agg [iv n, wl (q ++ [])]) _ _
    rw [List.append_nil]
    exact .done (last (by omega))
  | m + 1, i, q, nn, h, hq => by
    have hi : i < l.length := by omega
    rw [List.drop_eq_getElem_cons hi]
    show EndZ _ _ _ _ (.agg [iv n, wl (q ++ (shR k l[i] :: shL k (l.drop (i + 1))))]) _ _
    rw [show q ++ (shR k l[i] :: shL k (l.drop (i + 1))) = (q ++ [shR k l[i]]) ++ shL k (l.drop (i + 1)) by simp]
    exact .at (.nil _) (step hi hl (by omega) (ha _ (List.getElem_mem hi)) hk) (loop hl ha hk m (i + 1) _ true (by omega) (by simp; omega))
end RPlc
noncomputable def spPlc : ZCT := fun ax => match ax with
  | [.agg [.v (.int .i64 n), .lst (.recs [.int .i64, .int .i64, .str] l)], .v (.int .i64 k)] => some ⟨decide (l.length ≤ 1000 ∧ AtOk l ∧ -1000 ≤ k ∧ k ≤ 1000), .agg [iv n, wl (shL k l)], [], 0⟩
  | _ => none
theorem spPlc_ok : ZCtOk Try.prog 96 spPlc := fun γ w us ax r hs hc hax hN hfz => by
  unfold spPlc at hs
  split at hs
  case h_2 => cases hs
  rename_i n l k
  obtain ⟨rfl⟩ := Option.some.inj hs
  have hc_0 : decide (l.length ≤ 1000 ∧ AtOk l ∧ -1000 ≤ k ∧ k ≤ 1000) = true := hc
  have hc := of_decide_eq_true hc_0
  exact EndZ.calls (.at (.nil _) (RPlc.in_t n k l) (RPlc.loop hc.1 hc.2.1 hc.2.2 l.length 0 [] false (by omega) (by simp))) (.nil _) (by kernel_rfl) hax hN hfz
noncomputable def ctJ0 : Tr ZCC := (ctC.put 64 (some (dC spChk4))).put 96 (some (dC spPlc))
theorem ctJ0_ok : ZCtsOk Try.prog ctJ0 := (ctC_ok.add rfl spChk4_ok).add rfl spPlc_ok

noncomputable def both (n m : Int) (l k : List (List U)) : Int := bc (chk4 n l != 0) (chk4 n l) (chk4 m k)
theorem ne0 {x : Int} (h : (x != 0) = false) : x = 0 := by simpa using h
noncomputable abbrev as2 (n m : Int) (l k : List (List U)) : List EV := [.agg [iv n, wl l], .agg [iv m, wl k]]
namespace RBes
end RBes
namespace RBel
end RBel
namespace RTim
end RTim
end Go.Proofs.Ythaljeccdeajoaa.Ev
namespace Go.Proofs.Ythaljeccdeajoaa.Ev
open Go.Proofs
noncomputable abbrev bl (l : List Bool) : EV := .lst (.bools l)
namespace RTou
noncomputable def RUN (s : ES) : ZF := RZ 149 .nil (fun _ => false) [] [] false s
theorem in_t (a b c d : Int) (u v : ByteArray) : RUN (st0 149 [.agg [iv a, iv b, sv u], .agg [iv c, iv d, sv v]]) = (bc (decide (IntKind.wrap IntKind.i64 (b - d) ≤ (1 : Int))) (.done (EV.v (Value.bool (decide (IntKind.wrap IntKind.i64 (d - b) ≤ (1 : Int))))) [] 0) (.done (EV.v (Value.bool false)) [] 0)) := by kernel_rfl
theorem ends (a b c d : Int) (u v : ByteArray) (h : -1000 ≤ b ∧ b ≤ 1000 ∧ -1000 ≤ d ∧ d ≤ 1000) : EndZ 149 .nil false (st0 149 [.agg [iv a, iv b, sv u], .agg [iv c, iv d, sv v]]) (bv (bc (decide (b - d ≤ 1)) (decide (d - b ≤ 1)) false)) [] 0 := by
  have h2 := in_t a b c d u v
  simp (disch := omega) only [wrap_in] at h2
  cases h3 : decide (b - d ≤ 1) <;> rw [h3] at h2 <;> exact .done h2
end RTou
noncomputable def spTou : ZCT := fun ax => match ax with
  | [.agg [.v (.int .i64 a), .v (.int .i64 b), .v (.string u)], .agg [.v (.int .i64 c), .v (.int .i64 d), .v (.string v)]] => some ⟨decide (-1000 ≤ b ∧ b ≤ 1000 ∧ -1000 ≤ d ∧ d ≤ 1000), bv (bc (decide (b - d ≤ 1)) (decide (d - b ≤ 1)) false), [], 0⟩
  | _ => none
theorem spTou_ok : ZCtOk Try.prog 149 spTou := fun γ w us ax r hs hc hax hN hfz => by
  unfold spTou at hs
  split at hs
  case h_2 => cases hs
  rename_i a b u c d v
  obtain ⟨rfl⟩ := Option.some.inj hs
  have hc_0 : decide (-1000 ≤ b ∧ b ≤ 1000 ∧ -1000 ≤ d ∧ d ≤ 1000) = true := hc
  have hc := of_decide_eq_true hc_0
  exact EndZ.calls (RTou.ends a b c d u v hc) (.nil _) (by kernel_rfl) hax hN hfz
noncomputable def ctK : Tr ZCC := Tr.nil.put 149 (some (dC spTou))
theorem ctK_ok : ZCtsOk Try.prog ctK := (ZCtsOk.nil _).add rfl spTou_ok
namespace RKep
end RKep
noncomputable def tch (x y : List U) : Bool := bc (decide (rA x - rA y ≤ 1)) (decide (rA y - rA x ≤ 1)) false
theorem eqBt : eqB true true = true := rfl
theorem eqBf : eqB false false = true := rfl
def AtG (l : List (List U)) : Prop := ∀ j, j < l.length → -1000 ≤ rA (l.getD j []) ∧ rA (l.getD j []) ≤ 1000
noncomputable instance AtG.dec (l : List (List U)) : Decidable (AtG l) := Classical.propDecidable _
namespace RKep
end RKep
namespace RKep
end RKep
theorem AtOk.g {l : List (List U)} (h : AtOk l) : AtG l := fun j hj => by
  rw [getD_at hj]
  have := h _ (List.getElem_mem hj)
  omega
namespace RCut
end RCut
end Go.Proofs.Ythaljeccdeajoaa.Ev
namespace Go.Proofs.Ythaljeccdeajoaa.Ev
namespace MatchP
section
variable {α : Type} (eq tch : α → α → Bool)
def firstI (p : Nat → Bool) : Nat → Nat → Option Nat
  | 0, _ => none
  | m + 1, i => if p i = true then some i else firstI p m (i + 1)
def readyF (a : Nat → α) (done : Nat → Bool) (i : Nat) : Bool := !done i && (List.range i).all fun k => done k || !tch (a k) (a i)
def upd (done : Nat → Bool) (i : Nat) : Nat → Bool := fun j => if j = i then true else done j
def matchF (n : Nat) (a : Nat → α) : (Nat → Bool) → List α → Bool
  | _, [] => true
  | done, x :: xs => match firstI (fun i => eq (a i) x && readyF tch a done i) n 0 with
    | none => false
    | some i => matchF n a (upd done i) xs
theorem firstI_eq {p : Nat → Bool} {q : Nat} (hq : p q = true) : ∀ (m i : Nat), i ≤ q → q < i + m → (∀ j, i ≤ j → j < q → p j = false) → firstI p m i = some q
  | 0, i, h1, h2, _ => by omega
  | m + 1, i, h1, h2, h3 => by
    unfold firstI
    by_cases e : i = q
    · subst e; rw [if_pos hq]
    · rw [if_neg (by rw [h3 i (Nat.le_refl _) (by omega)]; simp)]
      exact firstI_eq hq m (i + 1) (by omega) (by omega) fun j hj => h3 j (by omega)
variable {eq tch}
theorem matchF_of {n : Nat} {a : Nat → α} (hrefl : ∀ i, eq (a i) (a i) = true) (heq : ∀ i j, eq (a i) (a j) = true → tch (a i) (a j) = true) :
    ∀ (ord : List Nat) (done : Nat → Bool), (∀ i, i ∈ ord → i < n) → ord.Nodup → (∀ i, i < n → (done i = false ↔ i ∈ ord)) → ord.Pairwise (fun p q => ¬ (q < p ∧ tch (a q) (a p) = true)) → matchF eq tch n a done (ord.map a) = true
  | [], done, _, _, _, _ => rfl
  | p :: ord, done, hlt, hnd, hdone, hpw => by
    obtain ⟨hp, hnd'⟩ := List.nodup_cons.1 hnd
    obtain ⟨hpp, hpw'⟩ := List.pairwise_cons.1 hpw
    have hpn := hlt p (by simp)
    have hdp : done p = false := (hdone p hpn).2 (by simp)
    have hfirst : firstI (fun i => eq (a i) (a p) && readyF tch a done i) n 0 = some p := by
      refine firstI_eq ?_ n 0 (Nat.zero_le _) (by omega) fun j _ hj => ?_
      · simp only [Bool.and_eq_true]
        refine ⟨hrefl p, ?_⟩
        unfold readyF
        simp only [Bool.and_eq_true, Bool.not_eq_true', List.all_eq_true, List.mem_range, Bool.or_eq_true]
        refine ⟨hdp, fun k hk => ?_⟩
        by_cases hd : done k = true
        · exact .inl hd
        · right
          have hd : done k = false := by simpa using hd
          have hm := (hdone k (by omega)).1 hd
          have hm : k ∈ ord := by
            rcases List.mem_cons.1 hm with h | h
            · omega
            · exact h
          have := hpp k hm
          cases ht : tch (a k) (a p)
          · rfl
          · exact absurd ⟨hk, ht⟩ this
      · by_cases he : eq (a j) (a p) = true
        · by_cases hr : readyF tch a done j = true
          · exfalso
            unfold readyF at hr
            simp only [Bool.and_eq_true, Bool.not_eq_true'] at hr
            have hm := (hdone j (by omega)).1 hr.1
            have hm : j ∈ ord := by
              rcases List.mem_cons.1 hm with h | h
              · omega
              · exact h
            exact hpp j hm ⟨hj, heq j p he⟩
          · simp [hr]
        · simp [he]
    show (match firstI (fun i => eq (a i) (a p) && readyF tch a done i) n 0 with
      | none => false
      | some i => matchF eq tch n a (upd done i) (ord.map a)) = true
    rw [hfirst]
    refine matchF_of hrefl heq ord (upd done p) (fun i hi => hlt i (by simp [hi])) hnd' (fun i hi => ?_) hpw'
    unfold upd
    by_cases e : i = p
    · subst e; simp [hp]
    · rw [if_neg e, hdone i hi]
      simp [e]

theorem matchF_code {β : Type} {eq' tch' : β → β → Bool} {n : Nat} {a : Nat → α} {c : α → β} {Q : α → Prop} (ha : ∀ i, i < n → Q (a i)) (h1 : ∀ x y, Q x → Q y → eq x y = eq' (c x) (c y)) (h2 : ∀ x y, Q x → Q y → tch x y = tch' (c x) (c y)) :
    ∀ (xs : List α) (done : Nat → Bool), (∀ x, x ∈ xs → Q x) → matchF eq tch n a done xs = matchF eq' tch' n (fun i => c (a i)) done (xs.map c)
  | [], done, _ => rfl
  | x :: xs, done, hx => by
    have ef : ∀ (m i : Nat), i + m ≤ n → firstI (fun i => eq (a i) x && readyF tch a done i) m i = firstI (fun i => eq' (c (a i)) (c x) && readyF tch' (fun i => c (a i)) done i) m i := by
      intro m
      induction m with
      | zero => intro i _; rfl
      | succ m ih =>
        intro i hi
        unfold firstI
        have e1 : eq (a i) x = eq' (c (a i)) (c x) := h1 _ _ (ha i (by omega)) (hx x (by simp))
        have e2 : readyF tch a done i = readyF tch' (fun i => c (a i)) done i := by
          unfold readyF
          congr 1
          apply Bool.eq_iff_iff.2
          simp only [List.all_eq_true, List.mem_range]
          constructor
          · intro h k hk
            rw [← h2 _ _ (ha k (by omega)) (ha i (by omega))]; exact h k hk
          · intro h k hk
            rw [h2 _ _ (ha k (by omega)) (ha i (by omega))]; exact h k hk
        simp only [e1, e2]
        rw [ih (i + 1) (by omega)]
    show (match firstI (fun i => eq (a i) x && readyF tch a done i) n 0 with
      | none => false
      | some i => matchF eq tch n a (upd done i) xs) = (match firstI (fun i => eq' (c (a i)) (c x) && readyF tch' (fun i => c (a i)) done i) n 0 with
      | none => false
      | some i => matchF eq' tch' n (fun i => c (a i)) (upd done i) (xs.map c))
    rw [ef n 0 (by omega)]
    split
    · rfl
    · rename_i i _
      exact matchF_code ha h1 h2 xs (upd done i) fun y hy => hx y (by simp [hy])
end
end MatchP
end Go.Proofs.Ythaljeccdeajoaa.Ev
namespace Go.Proofs.Ythaljeccdeajoaa.Ev
open Go.Proofs
noncomputable def rdyB (l : List (List U)) (d : List Bool) (i j : Nat) : Nat → Bool
  | 0 => !(d.getD i false)
  | k + 1 => bc (bc (!d.getD j false) (tch (l.getD j []) (l.getD i [])) false) false (rdyB l d i (j + 1) k)
noncomputable def rdy (l : List (List U)) (d : List Bool) (i : Nat) : Bool := rdyB l d i 0 i
namespace RRdy
noncomputable def RUN (s : ES) : ZF := RZ 180 ctK (atS 0 180 2) [] [[(1,none),(2,none),(3,none),(7,none)]] false s

noncomputable def sR (n : Int) (l : List (List U)) (d : List Bool) (i j : Int) : NS := ⟨[⟨180, 36, [(1, (EV.lst (SyC.bools (d)))), (2, (EV.v (Value.int IntKind.i64 (i)))), (3, (EV.ptr 0 0)), (7, iv j)], [.it (.code (nav [1, 0, 1, 0, 0, 0] (bodyOf Try.f180))), .it (.code (nav [1, 0, 1, 0, 0, 1] (bodyOf Try.f180))), .it (.inLoop (nav [1, 0, 1, 0, 0] (bodyOf Try.f180))), .it (.inBlock 0), .it (.code (nav [1, 1] (bodyOf Try.f180)))], [], Option.none⟩], [(0, (EK.cells 24 [(EV.v (Value.int IntKind.i64 (n))), (EV.lst (SyC.recs [(Sh.int IntKind.i64), (Sh.int IntKind.i64), Sh.str] (l)))] true))], 1⟩
theorem in_t (n : Int) (l : List (List U)) (d : List Bool) (i : Int) : RUN (st0 180 [.agg [iv n, wl l], bl d, iv i]) = (.at (sR (n) (l) (d) (i) ((0 : Int)))) := by kernel_rfl
theorem step_t (n : Int) (l : List (List U)) (d : List Bool) (i j : Int) : RUN (stOf (sR n l d i j)) = (bc (decide (j < i)) (bc (!List.getD d (Int.toNat j) false) (bc (bc (bc (bc (bc (decide ((0 : Int) ≤ j)) (Nat.blt (Int.toNat j) (List.length d)) false) true false) (bc (bc (Nat.blt (Int.toNat j) (List.length d)) true false) (bc (eqB (!List.getD d (Int.toNat j) false) true) (bc (bc (bc (decide ((0 : Int) ≤ j)) (Nat.blt (Int.toNat j) (List.length l)) false) true false) (bc (bc (Nat.blt (Int.toNat j) (List.length l)) true false) (bc (bc (bc (decide ((0 : Int) ≤ i)) (Nat.blt (Int.toNat i) (List.length l)) false) true false) (bc (bc (Nat.blt (Int.toNat i) (List.length l)) true false) (bc (bc (decide ((-1000 : Int) ≤ U.int (List.getD (List.getD l (Int.toNat j) []) (Nat.succ (0 : Nat)) (U.i (0 : Int))) ∧ U.int (List.getD (List.getD l (Int.toNat j) []) (Nat.succ (0 : Nat)) (U.i (0 : Int))) ≤ (1000 : Int) ∧ (-1000 : Int) ≤ U.int (List.getD (List.getD l (Int.toNat i) []) (Nat.succ (0 : Nat)) (U.i (0 : Int))) ∧ U.int (List.getD (List.getD l (Int.toNat i) []) (Nat.succ (0 : Nat)) (U.i (0 : Int))) ≤ (1000 : Int))) true false) true false) false) false) false) false) false) false) false) true false) (bc (bc (decide (U.int (List.getD (List.getD l (Int.toNat j) []) (Nat.succ (0 : Nat)) (U.i (0 : Int))) - U.int (List.getD (List.getD l (Int.toNat i) []) (Nat.succ (0 : Nat)) (U.i (0 : Int))) ≤ (1 : Int))) (decide (U.int (List.getD (List.getD l (Int.toNat i) []) (Nat.succ (0 : Nat)) (U.i (0 : Int))) - U.int (List.getD (List.getD l (Int.toNat j) []) (Nat.succ (0 : Nat)) (U.i (0 : Int))) ≤ (1 : Int))) false) (.done (EV.v (Value.bool false)) [] 0) (.at (sR (n) (l) (d) (i) (IntKind.wrap IntKind.i64 (j + (1 : Int)))))) .bad) (bc (bc (bc (bc (bc (decide ((0 : Int) ≤ j)) (Nat.blt (Int.toNat j) (List.length d)) false) true false) (bc (bc (Nat.blt (Int.toNat j) (List.length d)) true false) (bc (eqB (!List.getD d (Int.toNat j) false) false) true false) false) false) true false) (.at (sR (n) (l) (d) (i) (IntKind.wrap IntKind.i64 (j + (1 : Int))))) .bad)) (bc (bc (bc (decide ((0 : Int) ≤ i)) (Nat.blt (Int.toNat i) (List.length d)) false) true false) (bc (bc (Nat.blt (Int.toNat i) (List.length d)) true false) (.done (EV.v (Value.bool (!List.getD d (Int.toNat i) false))) [] 0) .bad) .bad)) := by kernel_rfl
theorem step {n : Int} {l : List (List U)} {d : List Bool} {i j : Nat} (hl : l.length ≤ 1000) (hq : d.length = l.length) (hi : i < l.length) (hj : j < i) (ha : AtG l) : RUN (stOf (sR n l d i j)) = bc (bc (!d.getD j false) (tch (l.getD j []) (l.getD i [])) false) (.done (bv false) [] 0) (.at (sR n l d i (j + 1 : Nat))) := by
  rw [step_t]
  have h1 := ha j (by omega)
  have h2 := ha i hi
  have h3 : -1000 ≤ rA (l.getD j []) ∧ rA (l.getD j []) ≤ 1000 ∧ -1000 ≤ rA (l.getD i []) ∧ rA (l.getD i []) ≤ 1000 := ⟨h1.1, h1.2, h2.1, h2.2⟩
  cases hb : d.getD j false
  · simp (disch := omega) only [Nat.add_eq, eqSy_self, eqN_self, bc_same, List.length_cons, ofn, wrap_in, dt, df, bltD, bltN, ble_of, bleN, beqD, bc_t, bc_f, nn_ok, Nat.zero_add, to_nat, Int.zero_add, Int.sub_zero, Int.sub_self, Int.cast_ofNat_Int, Int.natCast_zero, Int.toNat_zero, List.take_zero, List.nil_append, List.length_append, List.length_nil, fK0, fK1, fA0, fA1, fA2, fW0, fW1, fW2, hb, hq, dt h3, Bool.not_false, eqBt, bc_bc]
    unfold tch
    cases decide (rA (l.getD j []) - rA (l.getD i []) ≤ 1)
    · rfl
    · cases decide (rA (l.getD i []) - rA (l.getD j []) ≤ 1) <;> rfl
  · simp (disch := omega) only [Nat.add_eq, eqSy_self, eqN_self, bc_same, List.length_cons, ofn, wrap_in, dt, df, bltD, bltN, ble_of, bleN, beqD, bc_t, bc_f, nn_ok, Nat.zero_add, to_nat, Int.zero_add, Int.sub_zero, Int.sub_self, Int.cast_ofNat_Int, Int.natCast_zero, Int.toNat_zero, List.take_zero, List.nil_append, List.length_append, List.length_nil, fK0, fK1, fA0, fA1, fA2, fW0, fW1, fW2, hb, hq, Bool.not_true, eqBf, bc_bc]
    rfl
theorem last {n : Int} {l : List (List U)} {d : List Bool} {i j : Nat} (hl : l.length ≤ 1000) (hq : d.length = l.length) (hi : i < l.length) (hj : i ≤ j) : RUN (stOf (sR n l d i j)) = .done (bv (!(d.getD i false))) [] 0 := by
  rw [step_t]
  simp (disch := omega) only [Nat.add_eq, eqSy_self, eqN_self, bc_same, List.length_cons, ofn, wrap_in, dt, df, bltD, bltN, ble_of, bleN, beqD, bc_t, bc_f, nn_ok, Nat.zero_add, to_nat, Int.zero_add, Int.sub_zero, Int.sub_self, Int.cast_ofNat_Int, Int.natCast_zero, Int.toNat_zero, List.take_zero, List.nil_append, List.length_append, List.length_nil, hq]
theorem loop {n : Int} {l : List (List U)} {d : List Bool} {i : Nat} (hl : l.length ≤ 1000) (hq : d.length = l.length) (hi : i < l.length) (ha : AtG l) : ∀ (k j : Nat), j + k = i → EndZ 180 ctK false (stOf (sR n l d i j)) (bv (rdyB l d i j k)) [] 0
  | 0, j, h => .done (last hl hq hi (by omega))
  | k + 1, j, h => by
    have hs := step (n := n) hl hq hi (show j < i by omega) ha
    unfold rdyB
    cases hc : bc (!d.getD j false) (tch (l.getD j []) (l.getD i [])) false <;> rw [hc] at hs
    · exact .at ctK_ok hs (loop hl hq hi ha k (j + 1) (by omega))
    · exact .done hs
end RRdy
noncomputable def spRdy : ZCT := fun ax => match ax with
  | [.agg [.v (.int .i64 n), .lst (.recs [.int .i64, .int .i64, .str] l)], .lst (.bools d), .v (.int .i64 i)] => some ⟨decide (l.length ≤ 1000 ∧ d.length = l.length ∧ 0 ≤ i ∧ i < l.length ∧ AtG l), bv (rdy l d i.toNat), [], 0⟩
  | _ => none
theorem spRdy_ok : ZCtOk Try.prog 180 spRdy := fun γ w us ax r hs hc hax hN hfz => by
  unfold spRdy at hs
  split at hs
  case h_2 => cases hs
  rename_i n l d i
  obtain ⟨rfl⟩ := Option.some.inj hs
  have hc_0 : decide (l.length ≤ 1000 ∧ d.length = l.length ∧ 0 ≤ i ∧ i < l.length ∧ AtG l) = true := hc
  have hc := of_decide_eq_true hc_0
  exact EndZ.calls (by
    obtain ⟨h1, h2, h3, h4, h5⟩ := hc
    obtain ⟨i, rfl⟩ := Int.eq_ofNat_of_zero_le h3
    exact .at ctK_ok (RRdy.in_t n l d i) (RRdy.loop h1 h2 (by omega) h5 i 0 (by omega))) ctK_ok (by kernel_rfl) hax hN hfz
noncomputable def ctM5 : Tr ZCC := ctK.put 180 (some (dC spRdy))
theorem ctM5_ok : ZCtsOk Try.prog ctM5 := ctK_ok.add rfl spRdy_ok
namespace RMat
noncomputable def RUN (s : ES) : ZF := RZs 143 ctM5 [(atS 0 143 6, [[(2,none),(3,none),(6,none),(7,some (1, 3, .ints .i64 [])),(8,none)]]), (atS 0 143 10, [[(2,none),(3,none),(6,none),(7,some (1, 3, .ints .i64 [])),(8,none),(9,none),(10,none)]])] [] false s

noncomputable def sO (n m : Int) (l k : List (List U)) (d : List Bool) (z : Nat) (out : List Int) (nn : Bool) (j : Int) : NS := ⟨[⟨143, 75, [(2, (EV.ptr 0 0)), (3, (EV.ptr 1 0)), (6, EV.slO 2 1 z true), (7, EV.slO 3 1 out.length nn), (8, iv j)], [.it (.code (nav [1, 1, 1, 1, 0, 1, 0, 0, 0] (bodyOf Try.f143))), .it (.code (nav [1, 1, 1, 1, 0, 1, 0, 0, 1] (bodyOf Try.f143))), .it (.inLoop (nav [1, 1, 1, 1, 0, 1, 0, 0] (bodyOf Try.f143))), .it (.inBlock 0), .it (.code (nav [1, 1, 1, 1, 1] (bodyOf Try.f143)))], [], Option.none⟩], [(0, (EK.cells 24 [(EV.v (Value.int IntKind.i64 (n))), (EV.lst (SyC.recs [(Sh.int IntKind.i64), (Sh.int IntKind.i64), Sh.str] (l)))] true)), (1, (EK.cells 24 [(EV.v (Value.int IntKind.i64 (m))), (EV.lst (SyC.recs [(Sh.int IntKind.i64), (Sh.int IntKind.i64), Sh.str] (k)))] true)), (2, EK.seq 4 (.bools d) true), (3, EK.seq 3 (.ints .i64 out) nn)], 4⟩
noncomputable def sI (n m : Int) (l k : List (List U)) (d : List Bool) (z : Nat) (out : List Int) (nn : Bool) (j x i : Int) : NS := ⟨[⟨143, 75, [(2, (EV.ptr 0 0)), (3, (EV.ptr 1 0)), (6, (EV.slO 2 1 (z) true)), (7, (EV.slO 3 1 (List.length out) (nn))), (8, (EV.v (Value.int IntKind.i64 (j)))), (9, iv x), (10, iv i)], [.it (.code (nav [1, 1, 1, 1, 0, 1, 0, 0, 1, 0, 0, 1, 0, 1, 0, 0, 0] (bodyOf Try.f143))), .it (.code (nav [1, 1, 1, 1, 0, 1, 0, 0, 1, 0, 0, 1, 0, 1, 0, 0, 1] (bodyOf Try.f143))), .it (.inLoop (nav [1, 1, 1, 1, 0, 1, 0, 0, 1, 0, 0, 1, 0, 1, 0, 0] (bodyOf Try.f143))), .it (.inBlock 2), .it (.code (nav [1, 1, 1, 1, 0, 1, 0, 0, 1, 0, 0, 1, 1] (bodyOf Try.f143))), .it (.inBlock 1), .it (.code (nav [1, 1, 1, 1, 0, 1, 0, 0, 1, 1] (bodyOf Try.f143))), .it (.inLoop (nav [1, 1, 1, 1, 0, 1, 0, 0] (bodyOf Try.f143))), .it (.inBlock 0), .it (.code (nav [1, 1, 1, 1, 1] (bodyOf Try.f143)))], [], Option.none⟩], [(0, (EK.cells 24 [(EV.v (Value.int IntKind.i64 (n))), (EV.lst (SyC.recs [(Sh.int IntKind.i64), (Sh.int IntKind.i64), Sh.str] (l)))] true)), (1, (EK.cells 24 [(EV.v (Value.int IntKind.i64 (m))), (EV.lst (SyC.recs [(Sh.int IntKind.i64), (Sh.int IntKind.i64), Sh.str] (k)))] true)), (2, (EK.seq 4 (SyC.bools (d)) true)), (3, (EK.seq 3 (SyC.ints IntKind.i64 (out)) (nn)))], 4⟩
theorem in_t (n m : Int) (l k : List (List U)) : RUN (st0 143 [.agg [iv n, wl l], .agg [iv m, wl k]]) = (bc (n != m) (.done (EV.tup [(EV.v (Value.slice Option.none 0 0)), (EV.v (Value.bool false))]) [] 0) (bc (Int.ofNat (List.length l) != Int.ofNat (List.length k)) (.done (EV.tup [(EV.v (Value.slice Option.none 0 0)), (EV.v (Value.bool false))]) [] 0) (bc (bc (decide (Int.ofNat (List.length l) ≤ Int.ofNat (List.length l))) (decide (Int.ofNat (List.length l) ≤ (65536 : Int))) false) (.at (sO (n) (m) (l) (k) (List.replicate (Int.toNat (Int.ofNat (List.length l))) false) (List.length (List.replicate (Int.toNat (Int.ofNat (List.length l))) false)) ([]) (false) ((0 : Int)))) .bad))) := by kernel_rfl
theorem o_t (n m : Int) (l k : List (List U)) (d : List Bool) (z : Nat) (out : List Int) (nn : Bool) (j : Int) : RUN (stOf (sO n m l k d z out nn j)) = (bc (decide (j < Int.ofNat (List.length k))) (.at (sI (n) (m) (l) (k) (d) (z) (out) (nn) (j) ((-1 : Int)) ((0 : Int)))) (bc (bc (Nat.beq (List.length out) (List.length out)) true false) (.done (EV.tup [(EV.lst (SyC.ints IntKind.i64 (out))), (EV.v (Value.bool true))]) [] 0) .bad)) := by kernel_rfl
theorem i_t (n m : Int) (l k : List (List U)) (d : List Bool) (z : Nat) (out : List Int) (nn : Bool) (j x i : Int) : RUN (stOf (sI n m l k d z out nn j x i)) = (bc (decide (i < Int.ofNat (List.length l))) (bc (decide (x < (0 : Int))) (bc (bc (U.int (List.getD (List.getD l (Int.toNat i) []) (0 : Nat) (U.i (0 : Int))) == U.int (List.getD (List.getD k (Int.toNat j) []) (0 : Nat) (U.i (0 : Int)))) (bc (U.int (List.getD (List.getD l (Int.toNat i) []) (Nat.succ (0 : Nat)) (U.i (0 : Int))) == U.int (List.getD (List.getD k (Int.toNat j) []) (Nat.succ (0 : Nat)) (U.i (0 : Int)))) (bc (ByteArray.toList (U.str (List.getD (List.getD l (Int.toNat i) []) (Nat.succ (Nat.succ (0 : Nat))) (U.i (0 : Int)))) == ByteArray.toList (U.str (List.getD (List.getD k (Int.toNat j) []) (Nat.succ (Nat.succ (0 : Nat))) (U.i (0 : Int))))) true false) false) false) (bc (bc (bc (bc (bc (decide ((0 : Int) ≤ i)) (Nat.blt (Int.toNat i) (List.length l)) false) true false) (bc (bc (Nat.blt (Int.toNat i) (List.length l)) true false) (bc (bc (bc (decide ((0 : Int) ≤ j)) (Nat.blt (Int.toNat j) (List.length k)) false) true false) (bc (bc (Nat.blt (Int.toNat j) (List.length k)) true false) (bc (eqB (bc (U.int (List.getD (List.getD l (Int.toNat i) []) (0 : Nat) (U.i (0 : Int))) == U.int (List.getD (List.getD k (Int.toNat j) []) (0 : Nat) (U.i (0 : Int)))) (bc (U.int (List.getD (List.getD l (Int.toNat i) []) (Nat.succ (0 : Nat)) (U.i (0 : Int))) == U.int (List.getD (List.getD k (Int.toNat j) []) (Nat.succ (0 : Nat)) (U.i (0 : Int)))) (bc (ByteArray.toList (U.str (List.getD (List.getD l (Int.toNat i) []) (Nat.succ (Nat.succ (0 : Nat))) (U.i (0 : Int)))) == ByteArray.toList (U.str (List.getD (List.getD k (Int.toNat j) []) (Nat.succ (Nat.succ (0 : Nat))) (U.i (0 : Int))))) true false) false) false) true) (bc (bc (bc (bc (Nat.beq z (List.length d)) true false) (decide (List.length l ≤ (1000 : Nat) ∧ List.length d = List.length l ∧ (0 : Int) ≤ i ∧ i < (Nat.cast (List.length l) : Int) ∧ AtG l)) false) true false) true false) false) false) false) false) false) true false) (bc (rdy l d (Int.toNat i)) (.at (sI (n) (m) (l) (k) (d) (z) (out) (nn) (j) (i) (IntKind.wrap IntKind.i64 (i + (1 : Int))))) (.at (sI (n) (m) (l) (k) (d) (z) (out) (nn) (j) (x) (IntKind.wrap IntKind.i64 (i + (1 : Int)))))) .bad) (bc (bc (bc (bc (bc (decide ((0 : Int) ≤ i)) (Nat.blt (Int.toNat i) (List.length l)) false) true false) (bc (bc (Nat.blt (Int.toNat i) (List.length l)) true false) (bc (bc (bc (decide ((0 : Int) ≤ j)) (Nat.blt (Int.toNat j) (List.length k)) false) true false) (bc (bc (Nat.blt (Int.toNat j) (List.length k)) true false) (bc (eqB (bc (U.int (List.getD (List.getD l (Int.toNat i) []) (0 : Nat) (U.i (0 : Int))) == U.int (List.getD (List.getD k (Int.toNat j) []) (0 : Nat) (U.i (0 : Int)))) (bc (U.int (List.getD (List.getD l (Int.toNat i) []) (Nat.succ (0 : Nat)) (U.i (0 : Int))) == U.int (List.getD (List.getD k (Int.toNat j) []) (Nat.succ (0 : Nat)) (U.i (0 : Int)))) (bc (ByteArray.toList (U.str (List.getD (List.getD l (Int.toNat i) []) (Nat.succ (Nat.succ (0 : Nat))) (U.i (0 : Int)))) == ByteArray.toList (U.str (List.getD (List.getD k (Int.toNat j) []) (Nat.succ (Nat.succ (0 : Nat))) (U.i (0 : Int))))) true false) false) false) false) true false) false) false) false) false) true false) (.at (sI (n) (m) (l) (k) (d) (z) (out) (nn) (j) (x) (IntKind.wrap IntKind.i64 (i + (1 : Int))))) .bad)) (bc (decide (x < (0 : Int))) (.done (EV.tup [(EV.v (Value.slice Option.none 0 0)), (EV.v (Value.bool false))]) [] 0) (bc (bc (bc (decide ((0 : Int) ≤ x)) (Nat.blt (Int.toNat x) z) false) true false) (bc (Nat.blt (Int.toNat x) (List.length d)) (bc (bc (Nat.beq (List.length out) (List.length out)) (bc (Nat.ble (List.length out + List.length (List.map (fun r => U.int (List.headD r (U.i (0 : Int)))) [[U.i x]])) (65536 : Nat)) (bc nn true (bc nn false true)) false) false) (.at (sO (n) (m) (l) (k) (List.set d (Int.toNat x) true) (z) (out ++ List.map (fun r => U.int (List.headD r (U.i (0 : Int)))) [[U.i x]]) (bc nn true (Nat.blt (0 : Nat) (List.length (List.map (fun r => U.int (List.headD r (U.i (0 : Int)))) [[U.i x]])))) (IntKind.wrap IntKind.i64 (j + (1 : Int))))) .bad) .bad) .bad))) (bc (decide (x < (0 : Int))) (.done (EV.tup [(EV.v (Value.slice Option.none 0 0)), (EV.v (Value.bool false))]) [] 0) (bc (bc (bc (decide ((0 : Int) ≤ x)) (Nat.blt (Int.toNat x) z) false) true false) (bc (Nat.blt (Int.toNat x) (List.length d)) (bc (bc (Nat.beq (List.length out) (List.length out)) (bc (Nat.ble (List.length out + List.length (List.map (fun r => U.int (List.headD r (U.i (0 : Int)))) [[U.i x]])) (65536 : Nat)) (bc nn true (bc nn false true)) false) false) (.at (sO (n) (m) (l) (k) (List.set d (Int.toNat x) true) (z) (out ++ List.map (fun r => U.int (List.headD r (U.i (0 : Int)))) [[U.i x]]) (bc nn true (Nat.blt (0 : Nat) (List.length (List.map (fun r => U.int (List.headD r (U.i (0 : Int)))) [[U.i x]])))) (IntKind.wrap IntKind.i64 (j + (1 : Int))))) .bad) .bad) .bad))) := by kernel_rfl
end RMat
noncomputable def fnd (l : List (List U)) (x : List U) (d : List Bool) (i : Nat) : Nat → Int
  | 0 => -1
  | m + 1 => bc (bc (rowEq (l.getD i []) x) (rdy l d i) false) (i : Int) (fnd l x d (i + 1) m)
noncomputable def matG (l : List (List U)) (d : List Bool) (out : List Int) : List (List U) → List Int × Bool
  | [] => (out, true)
  | x :: xs => bc (decide (fnd l x d 0 l.length < 0)) ([], false) (matG l (d.set (fnd l x d 0 l.length).toNat true) (out ++ [fnd l x d 0 l.length]) xs)
theorem fnd_range (l : List (List U)) (x : List U) (d : List Bool) : ∀ (m i : Nat), fnd l x d i m = -1 ∨ ((i : Int) ≤ fnd l x d i m ∧ fnd l x d i m < (i : Int) + m)
  | 0, i => .inl rfl
  | m + 1, i => by
    unfold fnd
    cases bc (rowEq (l.getD i []) x) (rdy l d i) false
    · rw [bc_f]
      rcases fnd_range l x d m (i + 1) with h | h
      · exact .inl h
      · exact .inr (by omega)
    · rw [bc_t]; exact .inr (by omega)
noncomputable abbrev mtE (p : List Int × Bool) : EV := .tup [il p.1, bv p.2]
theorem mt_no : Weak (EV.tup [(EV.v (Value.slice Option.none 0 0)), (EV.v (Value.bool false))]) (mtE ([], false)) := .tup (.cons (Weak.nilI _) (.cons (Weak.refl _) .nil))
namespace RMat
theorem istep {n m : Int} {l k : List (List U)} {d : List Bool} {out : List Int} {nn : Bool} {i j : Nat} (hi : i < l.length) (hj : j < k.length) (hl : l.length ≤ 1000) (hk : k.length ≤ 1000) (hd : d.length = l.length) (ha : AtG l) : RUN (stOf (sI n m l k d l.length out nn j (-1) i)) = bc (bc (rowEq (l.getD i []) (k.getD j [])) (rdy l d i) false) (.at (sI n m l k d l.length out nn j i (i + 1 : Nat))) (.at (sI n m l k d l.length out nn j (-1) (i + 1 : Nat))) := by
  rw [i_t]
  have er : ∀ a b : List U, bc (rK a == rK b) (bc (rA a == rA b) (bc ((rW a).toList == (rW b).toList) true false) false) false = rowEq a b := fun _ _ => rfl
  have hc : l.length ≤ 1000 ∧ True ∧ 0 ≤ (i : Int) ∧ (i : Int) < l.length ∧ AtG l := ⟨hl, trivial, by omega, by omega, ha⟩
  cases hb : rowEq (l.getD i []) (k.getD j [])
  · simp (disch := omega) only [Nat.add_eq, eqSy_self, eqN_self, bc_same, List.length_cons, ofn, wrap_in, dt, df, bltD, bltN, ble_of, bleN, beqD, bc_t, bc_f, nn_ok, Nat.zero_add, to_nat, Int.zero_add, Int.sub_zero, Int.sub_self, Int.cast_ofNat_Int, Int.natCast_zero, Int.toNat_zero, List.take_zero, List.nil_append, List.length_append, List.length_nil, fK0, fK1, fA0, fA1, fA2, fW0, fW1, fW2, er, hb, hd, eqBf, bc_bc]
    rfl
  · cases hr : rdy l d i
    · simp (disch := omega) only [Nat.add_eq, eqSy_self, eqN_self, bc_same, List.length_cons, ofn, wrap_in, dt, df, bltD, bltN, ble_of, bleN, beqD, bc_t, bc_f, nn_ok, Nat.zero_add, to_nat, Int.zero_add, Int.sub_zero, Int.sub_self, Int.cast_ofNat_Int, Int.natCast_zero, Int.toNat_zero, List.take_zero, List.nil_append, List.length_append, List.length_nil, fK0, fK1, fA0, fA1, fA2, fW0, fW1, fW2, er, hb, hd, hr, dt hc, eqBt, bc_bc]
      rfl
    · simp (disch := omega) only [Nat.add_eq, eqSy_self, eqN_self, bc_same, List.length_cons, ofn, wrap_in, dt, df, bltD, bltN, ble_of, bleN, beqD, bc_t, bc_f, nn_ok, Nat.zero_add, to_nat, Int.zero_add, Int.sub_zero, Int.sub_self, Int.cast_ofNat_Int, Int.natCast_zero, Int.toNat_zero, List.take_zero, List.nil_append, List.length_append, List.length_nil, fK0, fK1, fA0, fA1, fA2, fW0, fW1, fW2, er, hb, hd, hr, dt hc, eqBt, bc_bc]
      rfl
theorem ino {n m : Int} {l k : List (List U)} {d : List Bool} {out : List Int} {nn : Bool} {i j : Nat} (hi : l.length ≤ i) : RUN (stOf (sI n m l k d l.length out nn j (-1) i)) = .done (EV.tup [(EV.v (Value.slice Option.none 0 0)), (EV.v (Value.bool false))]) [] 0 := by
  rw [i_t]
  simp (disch := omega) only [Nat.add_eq, eqSy_self, eqN_self, bc_same, List.length_cons, ofn, wrap_in, dt, df, bltD, bltN, ble_of, bleN, beqD, bc_t, bc_f, nn_ok, Nat.zero_add, to_nat, Int.zero_add, Int.sub_zero, Int.sub_self, Int.cast_ofNat_Int, Int.natCast_zero, Int.toNat_zero, List.take_zero, List.nil_append, List.length_append, List.length_nil]
theorem iyes {n m : Int} {l k : List (List U)} {d : List Bool} {out : List Int} {nn : Bool} {i j x : Nat} (hx : x < l.length) (hd : d.length = l.length) (hl : l.length ≤ 1000) (hk : k.length ≤ 1000) (hj : j < k.length) (ho : out.length ≤ 1000) : RUN (stOf (sI n m l k d l.length out nn j x i)) = .at (sO n m l k (d.set x true) l.length (out ++ [(x : Int)]) true (j + 1 : Nat)) := by
  rw [i_t]
  by_cases h : i < l.length
  · simp (disch := omega) only [Nat.add_eq, eqSy_self, eqN_self, bc_same, List.length_cons, ofn, wrap_in, dt, df, bltD, bltN, ble_of, bleN, beqD, bc_t, bc_f, nn_ok, Nat.zero_add, to_nat, Int.zero_add, Int.sub_zero, Int.sub_self, Int.cast_ofNat_Int, Int.natCast_zero, Int.toNat_zero, List.take_zero, List.nil_append, List.length_append, List.length_nil, hd, List.map_cons, List.map_nil]
    cases nn <;> rfl
  · simp (disch := omega) only [Nat.add_eq, eqSy_self, eqN_self, bc_same, List.length_cons, ofn, wrap_in, dt, df, bltD, bltN, ble_of, bleN, beqD, bc_t, bc_f, nn_ok, Nat.zero_add, to_nat, Int.zero_add, Int.sub_zero, Int.sub_self, Int.cast_ofNat_Int, Int.natCast_zero, Int.toNat_zero, List.take_zero, List.nil_append, List.length_append, List.length_nil, hd, List.map_cons, List.map_nil]
    cases nn <;> rfl
theorem ostep {n m : Int} {l k : List (List U)} {d : List Bool} {out : List Int} {nn : Bool} {z j : Nat} (hj : j < k.length) : RUN (stOf (sO n m l k d z out nn j)) = .at (sI n m l k d z out nn j (-1) (0 : Nat)) := by
  rw [o_t]
  simp (disch := omega) only [Nat.add_eq, eqSy_self, eqN_self, bc_same, List.length_cons, ofn, wrap_in, dt, df, bltD, bltN, ble_of, bleN, beqD, bc_t, bc_f, nn_ok, Nat.zero_add, to_nat, Int.zero_add, Int.sub_zero, Int.sub_self, Int.cast_ofNat_Int, Int.natCast_zero, Int.toNat_zero, List.take_zero, List.nil_append, List.length_append, List.length_nil]
theorem olast {n m : Int} {l k : List (List U)} {d : List Bool} {out : List Int} {nn : Bool} {z j : Nat} (hj : k.length ≤ j) : RUN (stOf (sO n m l k d z out nn j)) = .done (mtE (out, true)) [] 0 := by
  rw [o_t]
  simp (disch := omega) only [Nat.add_eq, eqSy_self, eqN_self, bc_same, List.length_cons, ofn, wrap_in, dt, df, bltD, bltN, ble_of, bleN, beqD, bc_t, bc_f, nn_ok, Nat.zero_add, to_nat, Int.zero_add, Int.sub_zero, Int.sub_self, Int.cast_ofNat_Int, Int.natCast_zero, Int.toNat_zero, List.take_zero, List.nil_append, List.length_append, List.length_nil]
theorem inner {n m : Int} {l k : List (List U)} {d : List Bool} {out : List Int} {nn : Bool} {j : Nat} {V : EV} (hl : l.length ≤ 1000) (hk : k.length ≤ 1000) (hd : d.length = l.length) (ha : AtG l) (hj : j < k.length) (ho : out.length ≤ 1000) :
    ∀ (q i : Nat), i + q = l.length → (∀ x : Nat, fnd l (k.getD j []) d i q = (x : Int) → EndZ 143 ctM5 false (stOf (sO n m l k (d.set x true) l.length (out ++ [(x : Int)]) true (j + 1 : Nat))) V [] 0) → (fnd l (k.getD j []) d i q = -1 → V = mtE ([], false)) → EndZ 143 ctM5 false (stOf (sI n m l k d l.length out nn j (-1) i)) V [] 0
  | 0, i, h, H1, H2 => by
    rw [H2 rfl]
    exact (EndZ.done (ino (by omega))).weak mt_no
  | q + 1, i, h, H1, H2 => by
    have hs := istep (n := n) (m := m) (out := out) (nn := nn) (show i < l.length by omega) hj hl hk hd ha
    unfold fnd at H1 H2
    cases hb : bc (rowEq (l.getD i []) (k.getD j [])) (rdy l d i) false <;> rw [hb] at hs H1 H2
    · exact .at ctM5_ok hs (inner hl hk hd ha hj ho q (i + 1) (by omega) H1 H2)
    · exact .at ctM5_ok hs (.at ctM5_ok (iyes (by omega) hd hl hk hj ho) (H1 i rfl))
theorem outer {n m : Int} {l k : List (List U)} (hl : l.length ≤ 1000) (hk : k.length ≤ 1000) (ha : AtG l) : ∀ (q j : Nat) (d : List Bool) (out : List Int) (nn : Bool), j + q = k.length → d.length = l.length → out.length ≤ j → EndZ 143 ctM5 false (stOf (sO n m l k d l.length out nn j)) (mtE (matG l d out (k.drop j))) [] 0
  | 0, j, d, out, nn, h, hd, ho => by
    rw [List.drop_eq_nil_of_le (by omega)]
    exact .done (olast (by omega))
  | q + 1, j, d, out, nn, h, hd, ho => by
    have hj : j < k.length := by omega
    rw [List.drop_eq_getElem_cons hj, ← getD_at (d := []) hj]
    unfold matG
    refine .at ctM5_ok (ostep hj) (inner hl hk hd ha hj (by omega) l.length 0 (by omega) (fun x hx => ?_) (fun hx => ?_))
    · rw [hx, df (by omega), bc_f, Int.toNat_natCast]
      exact outer hl hk ha q (j + 1) _ _ true (by omega) (by rw [List.length_set]; exact hd) (by simp; omega)
    · rw [hx, dt (by omega), bc_t]
end RMat
noncomputable def matW (n m : Int) (l k : List (List U)) : List Int × Bool := bc (n != m) ([], false) (bc (Int.ofNat l.length != Int.ofNat k.length) ([], false) (matG l (List.replicate l.length false) [] k))
theorem RMat.ends (n m : Int) (l k : List (List U)) (hl : l.length ≤ 1000) (ha : AtG l) : EndZ 143 ctM5 false (st0 143 [.agg [iv n, wl l], .agg [iv m, wl k]]) (mtE (matW n m l k)) [] 0 := by
  have h := RMat.in_t n m l k
  unfold matW
  cases h1 : (n != m) <;> rw [h1] at h
  · cases h2 : (Int.ofNat l.length != Int.ofNat k.length) <;> rw [h2] at h
    · have hb : l.length = k.length := by have : (l.length : Int) = k.length := by simpa using h2
                                          omega
      have e : Int.toNat (Int.ofNat l.length) = l.length := rfl
      simp (disch := omega) only [e, List.length_replicate, Nat.add_eq, eqSy_self, eqN_self, bc_same, List.length_cons, ofn, wrap_in, dt, df, bltD, bltN, ble_of, bleN, beqD, bc_t, bc_f, nn_ok, Nat.zero_add, to_nat, Int.zero_add, Int.sub_zero, Int.sub_self, Int.cast_ofNat_Int, Int.natCast_zero, Int.toNat_zero, List.take_zero, List.nil_append, List.length_append, List.length_nil] at h
      exact .at ctM5_ok h (RMat.outer hl (by omega) ha k.length 0 _ _ false (by omega) List.length_replicate (Nat.le_refl _))
    · exact (EndZ.done h).weak mt_no
  · exact (EndZ.done h).weak mt_no
noncomputable def spMat : ZCT := fun ax => match ax with
  | [.agg [.v (.int .i64 n), .lst (.recs [.int .i64, .int .i64, .str] l)], .agg [.v (.int .i64 m), .lst (.recs [.int .i64, .int .i64, .str] k)]] => some ⟨decide (l.length ≤ 1000 ∧ AtG l), mtE (matW n m l k), [], 0⟩
  | _ => none
theorem spMat_ok : ZCtOk Try.prog 143 spMat := fun γ w us ax r hs hc hax hN hfz => by
  unfold spMat at hs
  split at hs
  case h_2 => cases hs
  rename_i n l m k
  obtain ⟨rfl⟩ := Option.some.inj hs
  have hc_0 : decide (l.length ≤ 1000 ∧ AtG l) = true := hc
  have hc := of_decide_eq_true hc_0
  exact EndZ.calls (RMat.ends n m l k hc.1 hc.2) ctM5_ok (by kernel_rfl) hax hN hfz
noncomputable def ctS5 : Tr ZCC := ctJ0.put 143 (some (dC spMat))
theorem ctS5_ok : ZCtsOk Try.prog ctS5 := ctJ0_ok.add rfl spMat_ok
noncomputable def sm5 (n m : Int) (l k : List (List U)) : Bool := bc (both n m l k != 0) false (matW n m l k).2
namespace RSm5
noncomputable def RUN (s : ES) : ZF := RZ 82 ctS5 (fun _ => false) [] [] false s
theorem in_t (n m : Int) (l k : List (List U)) : RUN (st0 82 [.agg [iv n, wl l], .agg [iv m, wl k]]) = (bc (chk4 n l != (0 : Int)) (bc (chk4 n l != (0 : Int)) (.done (EV.tup [(EV.v (Value.bool false)), (EV.v (Value.int IntKind.i64 (chk4 n l)))]) [] 0) (bc (decide (List.length l ≤ (1000 : Nat) ∧ AtG l)) (.done (EV.tup [(EV.v (Value.bool (Prod.snd (matW n m l k)))), (EV.v (Value.int IntKind.i64 (0)))]) [] 0) .bad)) (bc (chk4 m k != (0 : Int)) (.done (EV.tup [(EV.v (Value.bool false)), (EV.v (Value.int IntKind.i64 (chk4 m k)))]) [] 0) (bc (decide (List.length l ≤ (1000 : Nat) ∧ AtG l)) (.done (EV.tup [(EV.v (Value.bool (Prod.snd (matW n m l k)))), (EV.v (Value.int IntKind.i64 (0)))]) [] 0) .bad))) := by kernel_rfl
theorem ends (n m : Int) (l k : List (List U)) : EndZ 82 ctS5 false (st0 82 [.agg [iv n, wl l], .agg [iv m, wl k]]) (.tup [bv (sm5 n m l k), iv (both n m l k)]) [] 0 := by
  have h := in_t n m l k
  unfold sm5 both
  cases h1 : (chk4 n l != 0) <;> rw [h1] at h
  · simp only [bc_f] at h ⊢
    cases h2 : (chk4 m k != 0) <;> rw [h2] at h
    · have v := chk4_ok (ne0 h1)
      have hq : l.length ≤ 1000 ∧ AtG l := ⟨by have := v.len; omega, v.at.g⟩
      simp only [bc_f, dt hq, bc_t, ne0 h2] at h ⊢
      exact .done h
    · simp only [bc_t] at h ⊢
      exact .done h
  · simp only [bc_t, h1] at h ⊢
    exact .done h
end RSm5
noncomputable def spSm5 : ZCT := fun ax => match ax with
  | [.agg [.v (.int .i64 n), .lst (.recs [.int .i64, .int .i64, .str] l)], .agg [.v (.int .i64 m), .lst (.recs [.int .i64, .int .i64, .str] k)]] => some ⟨decide (True), .tup [bv (sm5 n m l k), iv (both n m l k)], [], 0⟩
  | _ => none
theorem spSm5_ok : ZCtOk Try.prog 82 spSm5 := fun γ w us ax r hs hc hax hN hfz => by
  unfold spSm5 at hs
  split at hs
  case h_2 => cases hs
  rename_i n l m k
  obtain ⟨rfl⟩ := Option.some.inj hs
  have hc_0 : decide (True) = true := hc
  have hc := of_decide_eq_true hc_0
  exact EndZ.calls (RSm5.ends n m l k) ctS5_ok (by kernel_rfl) hax hN hfz

theorem rdyB_iff (l : List (List U)) (d : List Bool) (i : Nat) : ∀ (k j : Nat), rdyB l d i j k = true ↔ d.getD i false = false ∧ ∀ j', j ≤ j' → j' < j + k → d.getD j' false = true ∨ tch (l.getD j' []) (l.getD i []) = false
  | 0, j => by
    unfold rdyB
    cases d.getD i false
    · exact ⟨fun _ => ⟨rfl, fun j' h1 h2 => by omega⟩, fun _ => rfl⟩
    · exact ⟨fun h => (by cases h), fun h => (by cases h.1)⟩
  | k + 1, j => by
    have ih := rdyB_iff l d i k (j + 1)
    unfold rdyB
    constructor
    · intro h
      cases hb : bc (!d.getD j false) (tch (l.getD j []) (l.getD i [])) false
      · rw [hb] at h
        obtain ⟨h1, h2⟩ := ih.1 h
        refine ⟨h1, fun j' h3 h4 => ?_⟩
        by_cases e : j' = j
        · subst e
          cases hd : d.getD j' false
          · rw [hd] at hb; exact .inr hb
          · exact .inl rfl
        · exact h2 j' (by omega) (by omega)
      · rw [hb] at h; cases h
    · rintro ⟨h1, h2⟩
      have : bc (!d.getD j false) (tch (l.getD j []) (l.getD i [])) false = false := by
        rcases h2 j (Nat.le_refl _) (by omega) with e | e
        · rw [e]; rfl
        · rw [e]; cases !d.getD j false <;> rfl
      rw [this]
      exact ih.2 ⟨h1, fun j' h3 h4 => h2 j' (by omega) (by omega)⟩
theorem rdy_ready (l : List (List U)) (d : List Bool) (i : Nat) : rdy l d i = MatchP.readyF tch (fun j => l.getD j []) (fun j => d.getD j false) i := by
  rw [Bool.eq_iff_iff]
  unfold rdy
  rw [rdyB_iff]
  unfold MatchP.readyF
  simp only [Bool.and_eq_true, Bool.not_eq_true', List.all_eq_true, List.mem_range, Bool.or_eq_true]
  constructor
  · rintro ⟨h1, h2⟩; exact ⟨h1, fun k hk => h2 k (Nat.zero_le _) (by omega)⟩
  · rintro ⟨h1, h2⟩; exact ⟨h1, fun k _ hk => h2 k (by omega)⟩
theorem fnd_first (l : List (List U)) (x : List U) (d : List Bool) : ∀ (m i : Nat), fnd l x d i m = match MatchP.firstI (fun i => rowEq (l.getD i []) x && MatchP.readyF tch (fun j => l.getD j []) (fun j => d.getD j false) i) m i with
    | none => -1
    | some j => (j : Int)
  | 0, i => rfl
  | m + 1, i => by
    have ih := fnd_first l x d m (i + 1)
    unfold fnd MatchP.firstI
    rw [rdy_ready]
    cases h1 : rowEq (l.getD i []) x
    · rw [bc_f, bc_f, Bool.false_and, if_neg (by simp)]; exact ih
    · rw [bc_t, Bool.true_and]
      cases h2 : MatchP.readyF tch (fun j => l.getD j []) (fun j => d.getD j false) i
      · rw [bc_f, if_neg (by simp)]; exact ih
      · rw [bc_t, if_pos rfl]
theorem matG_F (l : List (List U)) : ∀ (xs : List (List U)) (d : List Bool) (out : List Int), d.length = l.length → (matG l d out xs).2 = MatchP.matchF rowEq tch l.length (fun j => l.getD j []) (fun j => d.getD j false) xs
  | [], d, out, hd => rfl
  | x :: xs, d, out, hd => by
    have hr := fnd_range l x d l.length 0
    have hf := fnd_first l x d l.length 0
    unfold matG MatchP.matchF
    split at hf
    · rename_i e
      first
        | rw [hf, e, dt (by omega), bc_t]
        | rw [hf, dt (by omega), bc_t]
    · rename_i j e
      rw [hf] at hr
      have hj0 : ¬ (j : Int) < 0 := Int.not_lt.2 (Int.natCast_nonneg j)
      have ih := fun o => matG_F l xs (d.set j true) o (by rw [List.length_set]; exact hd)
      first
        | rw [hf, e, df hj0, bc_f, Int.toNat_natCast, ih]
        | rw [hf, df hj0, bc_f, Int.toNat_natCast, ih]
      have : (fun i => (d.set j true).getD i false) = MatchP.upd (fun i => d.getD i false) j := by
        funext i
        unfold MatchP.upd
        by_cases e2 : i = j
        · subst e2
          rw [if_pos rfl, List.getD_eq_getElem?_getD, List.getElem?_set_self (by omega)]; rfl
        · rw [if_neg e2]
          show (d.set j true).getD i false = d.getD i false
          rw [List.getD_eq_getElem?_getD, List.getD_eq_getElem?_getD, List.getElem?_set_ne (fun h => e2 h.symm)]
      rw [this]
theorem sm5_of {n : Int} {l k : List (List U)} (h1 : chk4 n l = 0) (h2 : chk4 n k = 0) (hl : l.length = k.length) (h : MatchP.matchF rowEq tch l.length (fun j => l.getD j []) (fun _ => false) k = true) : sm5 n n l k = true ∧ both n n l k = 0 := by
  have hb : both n n l k = 0 := by unfold both; rw [h1]; exact h2
  refine ⟨?_, hb⟩
  unfold sm5 matW
  rw [hb]
  show (bc (n != n) ([], false) (bc (Int.ofNat l.length != Int.ofNat k.length) ([], false) (matG l (List.replicate l.length false) [] k))).2 = true
  rw [show (n != n) = false by simp, show (Int.ofNat l.length != Int.ofNat k.length) = false by rw [hl]; simp, bc_f, bc_f, matG_F _ _ _ _ List.length_replicate]
  have : (fun j => (List.replicate l.length false).getD j false) = fun _ => false := by
    funext j
    rw [List.getD_eq_getElem?_getD, List.getElem?_replicate]
    split <;> rfl
  rw [this]
  exact h
end Go.Proofs.Ythaljeccdeajoaa.Ev
namespace Go.Proofs.Ythaljeccdeajoaa.Ev
open Go.Proofs

def tchN (x y : Nat) : Bool := Nat.ble (x % 64) (y % 64 + 1) && Nat.ble (y % 64) (x % 64 + 1)
def pwB (a : Nat → Nat) : List Nat → Bool
  | [] => true
  | p :: l => l.all (fun q => !(Nat.blt q p && tchN (a q) (a p))) && pwB a l
def hasN (x : Nat) : List Nat → Bool
  | [] => false
  | y :: l => Nat.beq x y || hasN x l
def ndB : List Nat → Bool
  | [] => true
  | p :: l => !hasN p l && ndB l
def eqN2 : List Nat → List Nat → Bool
  | [], [] => true
  | x :: a, y :: b => Nat.beq x y && eqN2 a b
  | _, _ => false
def okOrd (L xs ord : List Nat) : Bool := ord.all (fun i => Nat.blt i L.length) && ((List.range L.length).all fun i => hasN i ord) && ndB ord && pwB (fun i => L.getD i 0) ord && eqN2 (ord.map fun i => L.getD i 0) xs
theorem hasN_iff (x : Nat) : ∀ l, hasN x l = true ↔ x ∈ l
  | [] => by simp [hasN]
  | y :: l => by
    unfold hasN
    rw [Bool.or_eq_true, hasN_iff x l, List.mem_cons, Nat.beq_eq]
theorem ndB_ok : ∀ {l}, ndB l = true → l.Nodup
  | [], _ => List.nodup_nil
  | p :: l, h => by
    unfold ndB at h
    simp only [Bool.and_eq_true, Bool.not_eq_true'] at h
    refine List.nodup_cons.2 ⟨fun hm => ?_, ndB_ok h.2⟩
    rw [(hasN_iff p l).2 hm] at h
    cases h.1
theorem eqN2_ok : ∀ {a b}, eqN2 a b = true → a = b
  | [], [], _ => rfl
  | x :: a, y :: b, h => by
    unfold eqN2 at h
    simp only [Bool.and_eq_true, Nat.beq_eq] at h
    rw [h.1, eqN2_ok h.2]
  | [], _ :: _, h => by cases h
  | _ :: _, [], h => by cases h
theorem pwB_ok {a : Nat → Nat} : ∀ {l}, pwB a l = true → l.Pairwise (fun p q => ¬ (q < p ∧ tchN (a q) (a p) = true))
  | [], _ => .nil
  | p :: l, h => by
    unfold pwB at h
    simp only [Bool.and_eq_true, List.all_eq_true, Bool.not_eq_true'] at h
    refine List.pairwise_cons.2 ⟨fun q hq e => ?_, pwB_ok h.2⟩
    have := h.1 q hq
    rw [bltD e.1, e.2] at this
    cases this
theorem okOrd_ok {L xs ord : List Nat} (h : okOrd L xs ord = true) : MatchP.matchF Nat.beq tchN L.length (fun i => L.getD i 0) (fun _ => false) xs = true := by
  unfold okOrd at h
  simp only [Bool.and_eq_true] at h
  obtain ⟨⟨⟨⟨h1, h2⟩, h3⟩, h4⟩, h5⟩ := h
  rw [← eqN2_ok h5]
  refine MatchP.matchF_of (fun i => Nat.beq_refl _) (fun i j e => ?_) ord _ (fun i hi => ?_) (ndB_ok h3) (fun i hi => ?_) (pwB_ok h4)
  · have e := Nat.eq_of_beq_eq_true e
    rw [e]
    unfold tchN
    rw [ble_of (by omega)]; rfl
  · exact blt_lt (List.all_eq_true.1 h1 i hi)
  · exact ⟨fun _ => (hasN_iff i ord).1 (List.all_eq_true.1 h2 i (List.mem_range.2 hi)), fun _ => rfl⟩
theorem matchF_ext {α : Type} {eq tch : α → α → Bool} {n : Nat} {a b : Nat → α} (h : ∀ i, i < n → a i = b i) : ∀ {xs : List α} {done : Nat → Bool}, MatchP.matchF eq tch n a done xs = MatchP.matchF eq tch n b done xs
  | [], done => rfl
  | x :: xs, done => by
    have ef : ∀ (m i : Nat), i + m ≤ n → MatchP.firstI (fun i => eq (a i) x && MatchP.readyF tch a done i) m i = MatchP.firstI (fun i => eq (b i) x && MatchP.readyF tch b done i) m i := by
      intro m
      induction m with
      | zero => intro i _; rfl
      | succ m ih =>
        intro i hi
        unfold MatchP.firstI
        have e1 : a i = b i := h i (by omega)
        have e2 : MatchP.readyF tch a done i = MatchP.readyF tch b done i := by
          unfold MatchP.readyF
          congr 1
          apply Bool.eq_iff_iff.2
          simp only [List.all_eq_true, List.mem_range]
          constructor
          · intro g k hk
            rw [← h k (by omega), ← h i (by omega)]; exact g k hk
          · intro g k hk
            rw [h k (by omega), h i (by omega)]; exact g k hk
        simp only [e1, e2]
        rw [ih (i + 1) (by omega)]
    show (match MatchP.firstI (fun i => eq (a i) x && MatchP.readyF tch a done i) n 0 with
      | none => false
      | some i => MatchP.matchF eq tch n a (MatchP.upd done i) xs) = (match MatchP.firstI (fun i => eq (b i) x && MatchP.readyF tch b done i) n 0 with
      | none => false
      | some i => MatchP.matchF eq tch n b (MatchP.upd done i) xs)
    rw [ef n 0 (by omega)]
    split
    · rfl
    · exact matchF_ext h

noncomputable def wCT : ByteArray := ByteArray.mk #[67, 84, 67]
noncomputable def wPi : ByteArray := ByteArray.mk #[80]
noncomputable def clW (w : ByteArray) : Nat := bc (w.data.toList == wCT.data.toList) 0 (bc (w.data.toList == wPi.data.toList) 1 2)
noncomputable def cw (r : List U) : Nat := clW (rW r) * 64 + (rA r).toNat

structure SpR (T : ByteArray) (r : List U) : Prop where
  kind : rK r = 1
  lo : 0 ≤ rA r
  hi : rA r < 64
  word : (rW r).data.toList = wCT.data.toList ∨ (rW r).data.toList = wPi.data.toList ∨ (rW r).data.toList = T.data.toList
theorem cp_ne : wPi.data.toList ≠ wCT.data.toList := by
  unfold wPi wCT; decide
theorem clW_eq {T : ByteArray} (h1 : T.data.toList ≠ wCT.data.toList) (h2 : T.data.toList ≠ wPi.data.toList) {x y : List U} (hx : SpR T x) (hy : SpR T y) : ((rW x).toList == (rW y).toList) = Nat.beq (clW (rW x)) (clW (rW y)) := by
  have bT : ∀ {a b : List UInt8}, a = b → (a == b) = true := fun h => by simp [h]
  have bF : ∀ {a b : List UInt8}, a ≠ b → (a == b) = false := fun h => by simp [h]
  rw [Lib.toList_data, Lib.toList_data]
  unfold clW
  rcases hx.word with e | e | e <;> rcases hy.word with f | f | f <;> rw [e, f]
  · rw [bT rfl]; rfl
  · rw [bF (Ne.symm cp_ne), bT rfl, bF cp_ne, bT rfl]; rfl
  · rw [bF (Ne.symm h1), bT rfl, bF h1, bF h2]; rfl
  · rw [bF cp_ne, bT rfl, bT rfl]; rfl
  · rw [bT rfl, bF cp_ne]; rfl
  · rw [bF (Ne.symm h2), bF cp_ne, bT rfl, bF h1, bF h2]; rfl
  · rw [bF h1, bF h2, bT rfl]; rfl
  · rw [bF h2, bF h1, bF cp_ne, bT rfl]; rfl
  · rw [bT rfl, bF h1, bF h2]; rfl
theorem clW_le (w : ByteArray) : clW w ≤ 2 := by
  unfold clW
  cases w.data.toList == wCT.data.toList
  · cases w.data.toList == wPi.data.toList <;> simp [bc]
  · simp [bc]
theorem cw_eq {T : ByteArray} (h1 : T.data.toList ≠ wCT.data.toList) (h2 : T.data.toList ≠ wPi.data.toList) (x y : List U) (hx : SpR T x) (hy : SpR T y) : rowEq x y = Nat.beq (cw x) (cw y) := by
  unfold rowEq
  rw [hx.kind, hy.kind, show ((1 : Int) == 1) = true from rfl, bc_t, clW_eq h1 h2 hx hy]
  have a1 := hx.lo
  have a2 := hx.hi
  have b1 := hy.lo
  have b2 := hy.hi
  unfold cw
  have c1 := clW_le (rW x)
  have c2 := clW_le (rW y)
  rw [Bool.eq_iff_iff, Nat.beq_eq]
  by_cases e : rA x = rA y
  · rw [e, show (rA y == rA y) = true by simp, bc_t]
    cases hb : Nat.beq (clW (rW x)) (clW (rW y))
    · have : clW (rW x) ≠ clW (rW y) := fun h => by rw [h, Nat.beq_refl] at hb; cases hb
      exact ⟨fun h => (by cases h), fun h => by omega⟩
    · have : clW (rW x) = clW (rW y) := Nat.eq_of_beq_eq_true hb
      exact ⟨fun _ => by omega, fun _ => rfl⟩
  · rw [show (rA x == rA y) = false by simp [e], bc_f]
    exact ⟨fun h => (by cases h), fun h => by omega⟩
theorem cw_tch {T : ByteArray} (x y : List U) (hx : SpR T x) (hy : SpR T y) : tch x y = tchN (cw x) (cw y) := by
  have a1 := hx.lo
  have a2 := hx.hi
  have b1 := hy.lo
  have b2 := hy.hi
  unfold tch tchN cw
  have m1 : (clW (rW x) * 64 + (rA x).toNat) % 64 = (rA x).toNat := by omega
  have m2 : (clW (rW y) * 64 + (rA y).toNat) % 64 = (rA y).toNat := by omega
  rw [m1, m2]
  by_cases h1 : rA x - rA y ≤ 1
  · rw [dt h1, bc_t, ble_of (show (rA x).toNat ≤ (rA y).toNat + 1 by omega), Bool.true_and]
    by_cases h2 : rA y - rA x ≤ 1
    · rw [dt h2, ble_of (by omega)]
    · rw [df h2, bleN (by omega)]
  · rw [df h1, bc_f, bleN (show ¬ (rA x).toNat ≤ (rA y).toNat + 1 by omega), Bool.false_and]

noncomputable def mrR (n : Int) (r : List U) : List U := mkR (rK r) (n - 2 - rA r) (rW r)
noncomputable def mrL (n : Int) (l : List (List U)) : List (List U) := l.map (mrR n)
theorem mrL_len (n : Int) (l : List (List U)) : (mrL n l).length = l.length := by unfold mrL; simp
theorem ValR.mr {n : Int} {r : List U} (h : ValR n r) : ValR n (mrR n r) :=
  ⟨h.kind, by show 0 ≤ n - 2 - rA r; have := h.hi; omega, by show n - 2 - rA r ≤ n - 2; have := h.lo; omega, h.sew, h.long, h.form⟩
theorem ValS.mr {n : Int} {l : List (List U)} (h : ValS n l) : ValS n (mrL n l) :=
  ⟨h.lo, h.hi, by rw [mrL_len]; exact h.len, fun r hr => by
    unfold mrL at hr
    obtain ⟨x, hx, rfl⟩ := List.mem_map.1 hr
    exact (h.val x hx).mr⟩
theorem SpR.mr {T : ByteArray} {n : Int} {r : List U} (h : SpR T r) (v : ValR n r) (hn : n ≤ 24) : SpR T (mrR n r) :=
  ⟨h.kind, by show 0 ≤ n - 2 - rA r; have := v.hi; omega, by show n - 2 - rA r < 64; have := v.lo; omega, h.word⟩
theorem flips_of {n : Int} {T : ByteArray} {A : List (List U)} (v : ValS n A) (hA : ∀ r, r ∈ A → SpR T r) (h1 : T.data.toList ≠ wCT.data.toList) (h2 : T.data.toList ≠ wPi.data.toList) {ord : List Nat} (ho : okOrd (A.map cw) ((mrL n A).map cw) ord = true) : sm5 n n A (mrL n A) = true ∧ both n n A (mrL n A) = 0 := by
  refine sm5_of (chk4_of v) (chk4_of v.mr) (mrL_len _ _).symm ?_
  have hm := okOrd_ok ho
  rw [List.length_map] at hm
  have hA' : ∀ r, r ∈ mrL n A → SpR T r := fun r hr => by
    unfold mrL at hr
    obtain ⟨x, hx, rfl⟩ := List.mem_map.1 hr
    exact (hA x hx).mr (v.val x hx) v.hi
  have key := MatchP.matchF_code (eq := rowEq) (tch := tch) (eq' := Nat.beq) (tch' := tchN) (n := A.length) (a := fun i => A.getD i []) (c := cw) (Q := SpR T) (fun i hi => by
    show SpR T (A.getD i [])
    rw [getD_at hi]; exact hA _ (List.getElem_mem hi)) (cw_eq h1 h2) (fun x y hx hy => cw_tch x y hx hy) (mrL n A) (fun _ => false) hA'
  rw [key]
  rw [matchF_ext (b := fun i => (A.map cw).getD i 0) (fun i hi => by
    show cw (A.getD i []) = (A.map cw).getD i 0
    rw [getD_at hi, getD_at (show i < (A.map cw).length by rw [List.length_map]; exact hi), List.getElem_map])]
  exact hm
end Go.Proofs.Ythaljeccdeajoaa.Ev
namespace Go.Proofs.Ythaljeccdeajoaa.EvM
open Go.Proofs Go.Proofs.Ythaljeccdeajoaa.Ev

noncomputable def shW : List Sh := [.int .i64, .int .i64, .str]
noncomputable abbrev wl (l : List (List U)) : EV := .lst (.recs shW l)
noncomputable def wk (w : ByteArray) (k : Int) : List U := [.i 1, .i k, .s w]
noncomputable abbrev bCT : ByteArray := ByteArray.mk #[67, 84]

noncomputable abbrev shE (p : Int) (l : List (List U)) (e : Int) : EV := .tup [.agg [iv p, wl l], iv e]
noncomputable def shN (e : Int) : EV := (EV.tup [(EV.v (Value.agg (Array.mk [(Value.int IntKind.i64 (0)), (Value.slice Option.none 0 0)]))), (EV.v (Value.int IntKind.i64 e))])
namespace MPlait
noncomputable def RUN (s : ES) : ZF := RZ 19 .nil (atS 1 75 1) [] [[(0,some (3, 76, .recs shW [])),(1,none),(8,none),(9,none),(10,none)],[(2,none),(4,none)]] false s

noncomputable def sW (l : List Int) (i : Int) (q : List (List U)) (nn : Bool) : NS := ⟨[⟨75, 29, [(0, (EV.ptr 0 0)), (1, (EV.v (Value.string (ByteArray.mk #[67, 84])))), (8, EV.slO 1 1 l.length true), (9, iv (Int.ofNat l.length)), (10, iv i)], [.it (.code (nav [1, 0, 0] (bodyOf Try.f75))), .it (.inLoop (nav [1, 0, 0] (bodyOf Try.f75))), .it (.inBlock 0)], [], Option.none⟩, ⟨19, 23, [(2, (EV.ptr 2 0)), (4, (EV.ptr 0 0))], [.ops (opsOf (nav [1, 1, 1, 0] (bodyOf Try.f19))) ((opsOf (nav [1, 1, 1, 0] (bodyOf Try.f19))).toList.drop 3), .it (.code (nav [1, 1, 1, 1] (bodyOf Try.f19)))], [], Option.none⟩], [(0, EK.cells 87 [iv 2, EV.slO 3 3 q.length nn] true), (1, EK.seq 3 (.ints .i64 l) true), (2, (EK.cells 24 [(EV.v (Value.int IntKind.i64 (0))), (EV.v (Value.slice Option.none 0 0))] true)), (3, EK.seq 76 (.recs shW q) nn)], 4⟩
theorem in_t (n : Int) : RUN (st0 19 [iv n]) = (bc (decide (n < (1 : Int))) (.done (EV.tup [(EV.v (Value.agg (Array.mk [(Value.int IntKind.i64 (0)), (Value.slice Option.none 0 0)]))), (EV.v (Value.int IntKind.i64 (7)))]) [] 0) (bc (decide ((100 : Int) < n)) (.done (EV.tup [(EV.v (Value.agg (Array.mk [(Value.int IntKind.i64 (0)), (Value.slice Option.none 0 0)]))), (EV.v (Value.int IntKind.i64 (7)))]) [] 0) (bc (bc (decide ((0 : Int) ≤ n)) (bc (decide (n ≤ n)) (decide (n ≤ (65536 : Int))) false) false) (.at (sW (zerosL (Int.toNat n)) ((0 : Int)) ([]) (false))) .bad))) := by kernel_rfl
theorem step_t (l : List Int) (i : Int) (q : List (List U)) (nn : Bool) : RUN (stOf (sW l i q nn)) = (bc (decide (i < Int.ofNat (List.length l))) (bc (bc (bc (decide ((0 : Int) ≤ i)) (Nat.blt (Int.toNat i) (List.length l)) false) true false) (bc (bc (Nat.blt (Int.toNat i) (List.length l)) true false) (bc (bc (Nat.beq (List.length q) (List.length q)) (bc (Nat.ble (List.length q + List.length [[U.i (1 : Int), U.i (List.getD l (Int.toNat i) (0 : Int)), U.s { data := #[(67 : UInt8), (84 : UInt8)] }]]) (65536 : Nat)) (bc nn true (bc nn false true)) false) false) (.at (sW (l) (IntKind.wrap IntKind.i64 (i + (1 : Int))) (q ++ [[U.i (1 : Int), U.i (List.getD l (Int.toNat i) (0 : Int)), U.s { data := #[(67 : UInt8), (84 : UInt8)] }]]) (bc nn true (Nat.blt (0 : Nat) (List.length [[U.i (1 : Int), U.i (List.getD l (Int.toNat i) (0 : Int)), U.s { data := #[(67 : UInt8), (84 : UInt8)] }]]))))) .bad) .bad) .bad) (bc (bc (bc (Nat.beq (List.length q) (List.length q)) true false) true false) (.done (EV.tup [(EV.agg [(EV.v (Value.int IntKind.i64 (2))), (EV.lst (SyC.recs [(Sh.int IntKind.i64), (Sh.int IntKind.i64), Sh.str] (q)))]), (EV.v (Value.int IntKind.i64 (0)))]) [] 0) .bad)) := by kernel_rfl
theorem step {l : List Int} {i : Nat} {q : List (List U)} {nn : Bool} (hi : i < l.length) (hl : l.length ≤ 100) (hq : q.length ≤ 60000) : RUN (stOf (sW l i q nn)) = .at (sW l (i + 1 : Nat) (q ++ [wk bCT l[i]]) true) := by
  rw [step_t]
  have e : l.getD i 0 = l[i] := getD_at hi
  simp (disch := omega) only [Nat.add_eq, eqSy_self, eqN_self, bc_same, List.length_cons, ofn, wrap_in, dt, df, bltD, bltN, ble_of, bleN, beqD, bc_t, bc_f, nn_ok, Nat.zero_add, to_nat, Int.zero_add, Int.sub_zero, Int.sub_self, Int.cast_ofNat_Int, Int.natCast_zero, Int.toNat_zero, List.take_zero, List.nil_append, List.length_append, List.length_nil, e]
  rfl
theorem last {l : List Int} {i : Nat} {q : List (List U)} {nn : Bool} (hi : l.length ≤ i) : RUN (stOf (sW l i q nn)) = .done (shE 2 q 0) [] 0 := by
  rw [step_t]
  simp (disch := omega) only [Nat.add_eq, eqSy_self, eqN_self, bc_same, List.length_cons, ofn, wrap_in, dt, df, bltD, bltN, ble_of, bleN, beqD, bc_t, bc_f, nn_ok, Nat.zero_add, to_nat, Int.zero_add, Int.sub_zero, Int.sub_self, Int.cast_ofNat_Int, Int.natCast_zero, Int.toNat_zero, List.take_zero, List.nil_append, List.length_append, List.length_nil]
  rfl
theorem loop {l : List Int} (hl : l.length ≤ 100) : ∀ (k i : Nat) (q : List (List U)) (nn : Bool), i + k = l.length → q.length ≤ 100 + i → EndZ 19 .nil false (stOf (sW l i q nn)) (shE 2 (q ++ (l.drop i).map (wk bCT)) 0) [] 0
  | 0, i, q, nn, h, hq => by
    rw [List.drop_eq_nil_of_le (by omega), List.map_nil, List.append_nil]
    exact .done (last (by omega))
  | k + 1, i, q, nn, h, hq => by
    have hi : i < l.length := by omega
    rw [List.drop_eq_getElem_cons hi, List.map_cons, show q ++ wk bCT l[i] :: (l.drop (i + 1)).map (wk bCT) = (q ++ [wk bCT l[i]]) ++ (l.drop (i + 1)).map (wk bCT) by simp]
    exact .at (.nil _) (step hi hl (by omega)) (loop hl k (i + 1) _ _ (by omega) (by simp; omega))
end MPlait
noncomputable def plaitL (n : Int) : List (List U) := bc (decide (n < 1)) [] (bc (decide (100 < n)) [] (List.replicate n.toNat (wk bCT 0)))
noncomputable def plaitP (n : Int) : Int := bc (decide (n < 1)) 0 (bc (decide (100 < n)) 0 2)
noncomputable def plaitE (n : Int) : Int := bc (decide (n < 1)) 7 (bc (decide (100 < n)) 7 0)
theorem shN_weak (e : Int) : Weak (shN e) (shE 0 [] e) := .tup (.cons (.aggV (.cons (Weak.refl _) (.cons (Weak.nil _) .nil))) (.cons (Weak.refl _) .nil))
theorem MPlait.ends (n : Int) : EndZ 19 .nil false (st0 19 [iv n]) (shE (plaitP n) (plaitL n) (plaitE n)) [] 0 := by
  have h := MPlait.in_t n
  unfold plaitP plaitL plaitE
  by_cases h1 : n < 1
  · simp only [dt h1, bc_t] at h ⊢; exact (EndZ.done h).weak (shN_weak 7)
  by_cases h2 : 100 < n
  · simp only [df h1, dt h2, bc_t, bc_f] at h ⊢; exact (EndZ.done h).weak (shN_weak 7)
  · simp only [df h1, df h2, bc_f, bc_t, dt (show 0 ≤ n by omega), dt (show n ≤ n by omega), dt (show n ≤ 65536 by omega)] at h ⊢
    have hl : (zerosL n.toNat).length = n.toNat := by unfold zerosL; simp
    have := MPlait.loop (l := zerosL n.toNat) (by rw [hl]; omega) n.toNat 0 [] false (by rw [hl]; omega) (by simp)
    rw [List.drop_zero, List.nil_append, show (zerosL n.toNat).map (wk bCT) = List.replicate n.toNat (wk bCT 0) by unfold zerosL; simp] at this
    exact .at (.nil _) h this
noncomputable def spPlait : ZCT := fun ax => match ax with
  | [.v (.int .i64 n)] => some ⟨true, shE (plaitP n) (plaitL n) (plaitE n), [], 0⟩
  | _ => none
theorem spPlait_ok : ZCtOk Try.prog 19 spPlait := fun γ w us ax r hs hc hax hN hfz => by
  unfold spPlait at hs
  split at hs
  · rename_i n
    obtain ⟨rfl⟩ := Option.some.inj hs
    exact (MPlait.ends n).calls (.nil _) (by kernel_rfl) hax hN hfz
  · cases hs
end Go.Proofs.Ythaljeccdeajoaa.EvM
namespace Go.Proofs.Ythaljeccdeajoaa.EvM
open Go.Proofs Go.Proofs.Ythaljeccdeajoaa.Ev

noncomputable def rowEq (x y : List U) : Bool := bc (U.int (x.getD 0 (.i 0)) == U.int (y.getD 0 (.i 0))) (bc (U.int (x.getD 1 (.i 0)) == U.int (y.getD 1 (.i 0))) (bc ((U.str (x.getD 2 (.i 0))).toList == (U.str (y.getD 2 (.i 0))).toList) true false) false) false
theorem rowEq_self (x : List U) : rowEq x x = true := by
  unfold rowEq
  simp [bc_t]
noncomputable def sameR : List (List U) → List (List U) → Bool
  | x :: a, y :: b => bc (rowEq x y) (sameR a b) false
  | _, _ => true
theorem sameR_self : ∀ a, sameR a a = true
  | [] => rfl
  | x :: a => by unfold sameR; rw [rowEq_self, bc_t, sameR_self a]
noncomputable def sameW (n m : Int) (a b : List (List U)) : Bool := bc (n != m) false (bc (Int.ofNat a.length != Int.ofNat b.length) false (sameR a b))
theorem sameW_self (n : Int) (a : List (List U)) : sameW n n a a = true := by
  unfold sameW
  simp [bc_f, sameR_self]
namespace MSame
noncomputable def RUN (s : ES) : ZF := RZ 20 .nil (atS 0 20 4) [] [[(2,none),(3,none),(5,none)]] false s

noncomputable def sSame (n m : Int) (a b : List (List U)) (i : Int) : NS := ⟨[⟨20, 38, [(2, (EV.ptr 0 0)), (3, (EV.ptr 1 0)), (5, iv i)], [.it (.code (nav [1, 1, 0, 1, 0, 0, 0] (bodyOf Try.f20))), .it (.code (nav [1, 1, 0, 1, 0, 0, 1] (bodyOf Try.f20))), .it (.inLoop (nav [1, 1, 0, 1, 0, 0] (bodyOf Try.f20))), .it (.inBlock 0), .it (.code (nav [1, 1, 1] (bodyOf Try.f20)))], [], Option.none⟩], [(0, (EK.cells 24 [(EV.v (Value.int IntKind.i64 (n))), (EV.lst (SyC.recs [(Sh.int IntKind.i64), (Sh.int IntKind.i64), Sh.str] (a)))] true)), (1, (EK.cells 24 [(EV.v (Value.int IntKind.i64 (m))), (EV.lst (SyC.recs [(Sh.int IntKind.i64), (Sh.int IntKind.i64), Sh.str] (b)))] true))], 2⟩
theorem in_t (n m : Int) (a b : List (List U)) : RUN (st0 20 [.agg [iv n, wl a], .agg [iv m, wl b]]) = (bc (n != m) (.done (EV.v (Value.bool false)) [] 0) (bc (Int.ofNat (List.length a) != Int.ofNat (List.length b)) (.done (EV.v (Value.bool false)) [] 0) (.at (sSame (n) (m) (a) (b) ((0 : Int)))))) := by kernel_rfl
theorem step_t (n m : Int) (a b : List (List U)) (i : Int) : RUN (stOf (sSame n m a b i)) = (bc (decide (i < Int.ofNat (List.length a))) (bc (bc (bc (bc (bc (decide ((0 : Int) ≤ i)) (Nat.blt (Int.toNat i) (List.length a)) false) true false) (bc (bc (Nat.blt (Int.toNat i) (List.length a)) true false) (bc (bc (bc (decide ((0 : Int) ≤ i)) (Nat.blt (Int.toNat i) (List.length b)) false) true false) (bc (bc (Nat.blt (Int.toNat i) (List.length b)) true false) true false) false) false) false) true false) (bc (bnot (bc (U.int (List.getD (List.getD a (Int.toNat i) []) (0 : Nat) (U.i (0 : Int))) == U.int (List.getD (List.getD b (Int.toNat i) []) (0 : Nat) (U.i (0 : Int)))) (bc (U.int (List.getD (List.getD a (Int.toNat i) []) (Nat.succ (0 : Nat)) (U.i (0 : Int))) == U.int (List.getD (List.getD b (Int.toNat i) []) (Nat.succ (0 : Nat)) (U.i (0 : Int)))) (bc (ByteArray.toList (U.str (List.getD (List.getD a (Int.toNat i) []) (Nat.succ (Nat.succ (0 : Nat))) (U.i (0 : Int)))) == ByteArray.toList (U.str (List.getD (List.getD b (Int.toNat i) []) (Nat.succ (Nat.succ (0 : Nat))) (U.i (0 : Int))))) true false) false) false)) (.done (EV.v (Value.bool false)) [] 0) (.at (sSame (n) (m) (a) (b) (IntKind.wrap IntKind.i64 (i + (1 : Int)))))) .bad) (.done (EV.v (Value.bool true)) [] 0)) := by kernel_rfl
theorem step {n m : Int} {a b : List (List U)} {i : Nat} (hi : i < a.length) (hl : a.length ≤ 100000) (hb : a.length = b.length) : RUN (stOf (sSame n m a b i)) = bc (rowEq a[i] (b[i]'(by omega))) (.at (sSame n m a b (i + 1 : Nat))) (.done (bv false) [] 0) := by
  rw [step_t]
  have e : a.getD i [] = a[i] := getD_at hi
  have e2 : b.getD i [] = b[i]'(by omega) := getD_at (by omega)
  simp (disch := omega) only [Nat.add_eq, eqSy_self, eqN_self, bc_same, List.length_cons, ofn, wrap_in, dt, df, bltD, bltN, ble_of, bleN, beqD, bc_t, bc_f, nn_ok, Nat.zero_add, to_nat, Int.zero_add, Int.sub_zero, Int.sub_self, Int.cast_ofNat_Int, Int.natCast_zero, Int.toNat_zero, List.take_zero, List.nil_append, List.length_append, List.length_nil, e, e2]
  show bc (bnot (rowEq _ _)) _ _ = _
  cases rowEq a[i] (b[i]'(by omega)) <;> rfl
theorem last {n m : Int} {a b : List (List U)} {i : Nat} (hi : a.length ≤ i) : RUN (stOf (sSame n m a b i)) = .done (bv true) [] 0 := by
  rw [step_t]
  simp (disch := omega) only [Nat.add_eq, eqSy_self, eqN_self, bc_same, List.length_cons, ofn, wrap_in, dt, df, bltD, bltN, ble_of, bleN, beqD, bc_t, bc_f, nn_ok, Nat.zero_add, to_nat, Int.zero_add, Int.sub_zero, Int.sub_self, Int.cast_ofNat_Int, Int.natCast_zero, Int.toNat_zero, List.take_zero, List.nil_append, List.length_append, List.length_nil]
theorem loop {n m : Int} {a b : List (List U)} (hl : a.length ≤ 100000) (hb : a.length = b.length) : ∀ (k i : Nat), i + k = a.length → EndZ 20 .nil false (stOf (sSame n m a b i)) (bv (sameR (a.drop i) (b.drop i))) [] 0
  | 0, i, h => by
    rw [List.drop_eq_nil_of_le (by omega)]
    exact .done (last (by omega))
  | k + 1, i, h => by
    have hi : i < a.length := by omega
    have hs := step (n := n) (m := m) hi hl hb
    rw [List.drop_eq_getElem_cons hi, List.drop_eq_getElem_cons (show i < b.length by omega)]
    unfold sameR
    cases hc : rowEq a[i] (b[i]'(by omega)) <;> rw [hc] at hs
    · exact .done hs
    · exact .at (.nil _) hs (loop hl hb k (i + 1) (by omega))
theorem ends (n m : Int) (a b : List (List U)) (hl : a.length ≤ 100000) : EndZ 20 .nil false (st0 20 [.agg [iv n, wl a], .agg [iv m, wl b]]) (bv (sameW n m a b)) [] 0 := by
  have h := in_t n m a b
  unfold sameW
  cases h1 : (n != m) <;> rw [h1] at h
  · cases h2 : (Int.ofNat a.length != Int.ofNat b.length) <;> rw [h2] at h
    · have hb : a.length = b.length := by have : (a.length : Int) = b.length := by simpa using h2
                                          omega
      exact .at (.nil _) h (loop hl hb a.length 0 (by omega))
    · exact .done h
  · exact .done h
end MSame
noncomputable def spSame : ZCT := fun ax => match ax with
  | [.agg [.v (.int .i64 n), .lst (.recs [.int .i64, .int .i64, .str] a)], .agg [.v (.int .i64 m), .lst (.recs [.int .i64, .int .i64, .str] b)]] => some ⟨Nat.ble a.length 100000, bv (sameW n m a b), [], 0⟩
  | _ => none
theorem spSame_ok : ZCtOk Try.prog 20 spSame := fun γ w us ax r hs hc hax hN hfz => by
  unfold spSame at hs
  split at hs
  · rename_i n a m b
    obtain ⟨rfl⟩ := Option.some.inj hs
    exact (MSame.ends n m a b (Nat.le_of_ble_eq_true hc)).calls (.nil _) (by kernel_rfl) hax hN hfz
  · cases hs

noncomputable def catN (o s : ByteArray) : Nat → ByteArray
  | 0 => o
  | k + 1 => catN (o ++ s) s k
theorem catN_size (s : ByteArray) : ∀ (k : Nat) (o : ByteArray), (catN o s k).size = o.size + k * s.size
  | 0, o => by unfold catN; omega
  | k + 1, o => by unfold catN; rw [catN_size s k, ByteArray.size_append, Nat.succ_mul]; omega
namespace MLet
noncomputable def RUN (s : ES) : ZF := RZ 85 .nil (atS 0 85 3) [] [[(0,none),(1,none),(5,none),(6,none)]] false s

noncomputable def sLet (s : ByteArray) (n : Int) (o : ByteArray) (i : Int) : NS := ⟨[⟨85, 16, [(0, (EV.v (Value.string (s)))), (1, (EV.v (Value.int IntKind.i64 (n)))), (5, sv o), (6, iv i)], [.it (.code (nav [1, 1, 0, 1, 0, 0, 0] (bodyOf Try.f85))), .it (.code (nav [1, 1, 0, 1, 0, 0, 1] (bodyOf Try.f85))), .it (.inLoop (nav [1, 1, 0, 1, 0, 0] (bodyOf Try.f85))), .it (.inBlock 0), .it (.code (nav [1, 1, 1] (bodyOf Try.f85)))], [], Option.none⟩], [], 0⟩
theorem in_t (s : ByteArray) (n : Int) : RUN (st0 85 [sv s, iv n]) = (.at (sLet (s) (n) ({ data := #[] }) ((0 : Int)))) := by kernel_rfl
theorem step_t (s : ByteArray) (n : Int) (o : ByteArray) (i : Int) : RUN (stOf (sLet s n o i)) = (bc (decide (i < n)) (bc (bc (Nat.blt (Nat.add (ByteArray.size o) (ByteArray.size s)) (9223372036854775808 : Nat)) true false) (.at (sLet (s) (n) (o ++ s) (IntKind.wrap IntKind.i64 (i + (1 : Int))))) .bad) (.done (EV.v (Value.string (o))) [] 0)) := by kernel_rfl
theorem step {s : ByteArray} {n : Int} {o : ByteArray} {i : Nat} (hi : (i : Int) < n) (hn : n ≤ 1000) (hs : s.size ≤ 1000) (ho : o.size ≤ 1000000 + 1000 * i) : RUN (stOf (sLet s n o i)) = .at (sLet s n (o ++ s) (i + 1 : Nat)) := by
  rw [step_t]
  simp (disch := omega) only [Nat.add_eq, eqSy_self, eqN_self, bc_same, List.length_cons, ofn, wrap_in, dt, df, bltD, bltN, ble_of, bleN, beqD, bc_t, bc_f, nn_ok, Nat.zero_add, to_nat, Int.zero_add, Int.sub_zero, Int.sub_self, Int.cast_ofNat_Int, Int.natCast_zero, Int.toNat_zero, List.take_zero, List.nil_append, List.length_append, List.length_nil]
  rfl
theorem last {s : ByteArray} {n : Int} {o : ByteArray} {i : Nat} (hi : n ≤ (i : Int)) : RUN (stOf (sLet s n o i)) = .done (sv o) [] 0 := by
  rw [step_t]
  simp (disch := omega) only [Nat.add_eq, eqSy_self, eqN_self, bc_same, List.length_cons, ofn, wrap_in, dt, df, bltD, bltN, ble_of, bleN, beqD, bc_t, bc_f, nn_ok, Nat.zero_add, to_nat, Int.zero_add, Int.sub_zero, Int.sub_self, Int.cast_ofNat_Int, Int.natCast_zero, Int.toNat_zero, List.take_zero, List.nil_append, List.length_append, List.length_nil]
theorem loop {s : ByteArray} {n : Int} (hn : n ≤ 1000) (hs : s.size ≤ 1000) : ∀ (k i : Nat) (o : ByteArray), n.toNat = i + k → o.size ≤ 1000000 + 1000 * i → EndZ 85 .nil false (stOf (sLet s n o i)) (sv (catN o s k)) [] 0
  | 0, i, o, h, ho => .done (last (by omega))
  | k + 1, i, o, h, ho => .at (.nil _) (step (by omega) hn hs ho) (loop hn hs k (i + 1) (o ++ s) (by omega) (by rw [ByteArray.size_append]; omega))
end MLet
noncomputable def lets (s : ByteArray) (n : Int) : ByteArray := catN (ByteArray.mk #[]) s n.toNat
noncomputable def spLet : ZCT := fun ax => match ax with
  | [.v (.string s), .v (.int .i64 n)] => some ⟨bc (decide (n ≤ 1000)) (Nat.ble s.size 1000) false, sv (lets s n), [], 0⟩
  | _ => none
theorem spLet_ok : ZCtOk Try.prog 85 spLet := fun γ w us ax r hs hc hax hN hfz => by
  unfold spLet at hs
  split at hs
  · rename_i s n
    obtain ⟨rfl⟩ := Option.some.inj hs
    have hc : bc (decide (n ≤ 1000)) (Nat.ble s.size 1000) false = true := hc
    obtain ⟨h1, h2⟩ := bcT hc
    have h1 := of_decide_eq_true h1
    have h2 := Nat.le_of_ble_eq_true h2
    have : EndZ 85 .nil false (st0 85 [sv s, iv n]) (sv (lets s n)) [] 0 := .at (.nil _) (MLet.in_t s n) (MLet.loop h1 h2 n.toNat 0 _ (by omega) (by show 0 ≤ _; omega))
    exact this.calls (.nil _) (by kernel_rfl) hax hN hfz
  · cases hs

noncomputable abbrev bCTC : ByteArray := ByteArray.mk #[67, 84, 67]
noncomputable def rowR (k : Int) (i : Nat) : Nat → List (List U)
  | 0 => []
  | m + 1 => wk bCTC (k + i) :: rowR k (i + 1) m
noncomputable def bodyR (n : Nat) : Nat → List (List U)
  | 0 => []
  | k + 1 => rowR k 0 n ++ bodyR n k
theorem rowR_len (k : Int) : ∀ (m i : Nat), (rowR k i m).length = m
  | 0, _ => rfl
  | m + 1, i => by unfold rowR; simp [rowR_len k m]
theorem bodyR_len (n : Nat) : ∀ k, (bodyR n k).length = k * n
  | 0 => by simp [bodyR]
  | k + 1 => by unfold bodyR; rw [List.length_append, rowR_len, bodyR_len n k, Nat.succ_mul]; omega
namespace MBody
noncomputable def RUN (s : ES) : ZF := RZ 86 .nil (atS 0 86 6) [] [[(0,none),(3,some (3, 76, .recs shW [])),(4,none),(5,none)]] false s

noncomputable def sBody (n : Int) (q : List (List U)) (nn : Bool) (k i : Int) : NS := ⟨[⟨86, 25, [(0, (EV.v (Value.int IntKind.i64 (n)))), (3, EV.slO 0 3 q.length nn), (4, iv k), (5, iv i)], [.it (.code (nav [1, 1, 0, 1, 0, 0, 1, 0, 0, 1, 0, 0, 0] (bodyOf Try.f86))), .it (.code (nav [1, 1, 0, 1, 0, 0, 1, 0, 0, 1, 0, 0, 1] (bodyOf Try.f86))), .it (.inLoop (nav [1, 1, 0, 1, 0, 0, 1, 0, 0, 1, 0, 0] (bodyOf Try.f86))), .it (.inBlock 2), .it (.inBlock 1), .it (.code (nav [1, 1, 0, 1, 0, 0, 1, 1] (bodyOf Try.f86))), .it (.inLoop (nav [1, 1, 0, 1, 0, 0] (bodyOf Try.f86))), .it (.inBlock 0), .it (.code (nav [1, 1, 1] (bodyOf Try.f86)))], [], Option.none⟩], [(0, EK.seq 76 (.recs shW q) nn)], 1⟩
theorem in_t (n : Int) : RUN (st0 86 [iv n]) = (bc (decide ((0 : Int) ≤ IntKind.wrap IntKind.i64 (n - (1 : Int)))) (.at (sBody (n) ([]) (false) (IntKind.wrap IntKind.i64 (n - (1 : Int))) ((0 : Int)))) (.done (EV.v (Value.slice Option.none 0 0)) [] 0)) := by kernel_rfl
theorem step_t (n : Int) (q : List (List U)) (nn : Bool) (k i : Int) : RUN (stOf (sBody n q nn k i)) = (bc (decide (i < n)) (bc (bc (Nat.beq (List.length q) (List.length q)) (bc (Nat.ble (List.length q + List.length [[U.i (1 : Int), U.i (IntKind.wrap IntKind.i64 (k + i)), U.s { data := #[(67 : UInt8), (84 : UInt8), (67 : UInt8)] }]]) (65536 : Nat)) (bc nn true (bc nn false true)) false) false) (.at (sBody (n) (q ++ [[U.i (1 : Int), U.i (IntKind.wrap IntKind.i64 (k + i)), U.s { data := #[(67 : UInt8), (84 : UInt8), (67 : UInt8)] }]]) (bc nn true (Nat.blt (0 : Nat) (List.length [[U.i (1 : Int), U.i (IntKind.wrap IntKind.i64 (k + i)), U.s { data := #[(67 : UInt8), (84 : UInt8), (67 : UInt8)] }]]))) (k) (IntKind.wrap IntKind.i64 (i + (1 : Int))))) .bad) (bc (decide ((0 : Int) ≤ IntKind.wrap IntKind.i64 (k - (1 : Int)))) (.at (sBody (n) (q) (nn) (IntKind.wrap IntKind.i64 (k - (1 : Int))) ((0 : Int)))) (bc (Nat.beq (List.length q) (List.length q)) (.done (EV.lst (SyC.recs [(Sh.int IntKind.i64), (Sh.int IntKind.i64), Sh.str] (q))) [] 0) .bad))) := by kernel_rfl
theorem step {n k i : Nat} {q : List (List U)} {nn : Bool} (hi : i < n) (hn : n ≤ 100) (hk : k < n) (hq : q.length < 65536) : RUN (stOf (sBody n q nn k i)) = .at (sBody n (q ++ [wk bCTC ((k : Int) + i)]) true k (i + 1 : Nat)) := by
  rw [step_t]
  simp (disch := omega) only [Nat.add_eq, eqSy_self, eqN_self, bc_same, List.length_cons, ofn, wrap_in, dt, df, bltD, bltN, ble_of, bleN, beqD, bc_t, bc_f, nn_ok, Nat.zero_add, to_nat, Int.zero_add, Int.sub_zero, Int.sub_self, Int.cast_ofNat_Int, Int.natCast_zero, Int.toNat_zero, List.take_zero, List.nil_append, List.length_append, List.length_nil]
  rfl
theorem next {n k i : Nat} {q : List (List U)} {nn : Bool} (hi : n ≤ i) (hn : n ≤ 100) (hk : k + 1 < n) : RUN (stOf (sBody n q nn (k + 1 : Nat) i)) = .at (sBody n q nn k 0) := by
  rw [step_t]
  have e : ((k + 1 : Nat) : Int) - 1 = k := by omega
  simp (disch := omega) only [Nat.add_eq, eqSy_self, eqN_self, bc_same, List.length_cons, ofn, wrap_in, dt, df, bltD, bltN, ble_of, bleN, beqD, bc_t, bc_f, nn_ok, Nat.zero_add, to_nat, Int.zero_add, Int.sub_zero, Int.sub_self, Int.cast_ofNat_Int, Int.natCast_zero, Int.toNat_zero, List.take_zero, List.nil_append, List.length_append, List.length_nil, e]
theorem fin {n i : Nat} {q : List (List U)} {nn : Bool} (hi : n ≤ i) (hn : n ≤ 100) : RUN (stOf (sBody n q nn 0 i)) = .done (wl q) [] 0 := by
  rw [step_t]
  simp (disch := omega) only [Nat.add_eq, eqSy_self, eqN_self, bc_same, List.length_cons, ofn, wrap_in, dt, df, bltD, bltN, ble_of, bleN, beqD, bc_t, bc_f, nn_ok, Nat.zero_add, to_nat, Int.zero_add, Int.sub_zero, Int.sub_self, Int.cast_ofNat_Int, Int.natCast_zero, Int.toNat_zero, List.take_zero, List.nil_append, List.length_append, List.length_nil]
  rfl
theorem rows {n : Nat} (hn : n ≤ 100) : ∀ (k m i : Nat) (q : List (List U)) (nn : Bool), i + m = n → k < n → q.length + m + k * n ≤ 60000 → EndZ 86 .nil false (stOf (sBody n q nn k i)) (wl (q ++ (rowR k i m ++ bodyR n k))) [] 0
  | k, m + 1, i, q, nn, h, hk, hq => by
    have := rows hn k m (i + 1) (q ++ [wk bCTC ((k : Int) + i)]) true (by omega) hk (by rw [List.length_append]; simp only [List.length_cons, List.length_nil]; omega)
    have e : q ++ (rowR k i (m + 1) ++ bodyR n k) = (q ++ [wk bCTC ((k : Int) + i)]) ++ (rowR k (i + 1) m ++ bodyR n k) := by
      show q ++ (wk bCTC ((k : Int) + i) :: rowR k (i + 1) m ++ bodyR n k) = _
      simp
    rw [e]
    exact .at (.nil _) (step (by omega) hn hk (by omega)) this
  | 0, 0, i, q, nn, h, hk, hq => by
    show EndZ _ _ _ _ (wl (q ++ ([] ++ []))) _ _
    rw [List.append_nil, List.append_nil]
    exact .done (fin (by omega) hn)
  | k + 1, 0, i, q, nn, h, hk, hq => by
    have := rows hn k n 0 q nn (by omega) (by omega) (by rw [Nat.succ_mul] at hq; omega)
    show EndZ _ _ _ _ (wl (q ++ ([] ++ (rowR k 0 n ++ bodyR n k)))) _ _
    rw [List.nil_append]
    exact .at (.nil _) (next (by omega) hn hk) this
termination_by k m => (k, m)
end MBody
noncomputable def bodyL (n : Int) : List (List U) := bodyR n.toNat n.toNat
noncomputable def spBody : ZCT := fun ax => match ax with
  | [.v (.int .i64 n)] => some ⟨bc (decide (1 ≤ n)) (decide (n ≤ 100)) false, wl (bodyL n), [], 0⟩
  | _ => none
theorem spBody_ok : ZCtOk Try.prog 86 spBody := fun γ w us ax r hs hc hax hN hfz => by
  unfold spBody at hs
  split at hs
  · rename_i n
    obtain ⟨rfl⟩ := Option.some.inj hs
    obtain ⟨h1, h2⟩ := bcT (show bc (decide (1 ≤ n)) (decide (n ≤ 100)) false = true from hc)
    have h1 := of_decide_eq_true h1
    have h2 := of_decide_eq_true h2
    have h := MBody.in_t n
    rw [wrap_in _ (by omega) (by omega), dt (show 0 ≤ n - 1 by omega), bc_t] at h
    obtain ⟨k, rfl⟩ : ∃ k : Nat, n = ((k + 1 : Nat) : Int) := ⟨(n - 1).toNat, by omega⟩
    rw [show ((k + 1 : Nat) : Int) - 1 = k by omega] at h
    have := MBody.rows (n := k + 1) (by omega) k (k + 1) 0 [] false (by omega) (by omega) (by
      have : k * (k + 1) ≤ 100 * 100 := Nat.mul_le_mul (by omega) (by omega)
      simp only [List.length_nil]; omega)
    exact EndZ.calls (.at (.nil _) h this) (.nil _) (by kernel_rfl) hax hN hfz
  · cases hs

namespace MRPlait
noncomputable def RUN (s : ES) : ZF := RZ 27 .nil (atS 0 27 5) [] [[(0,none),(2,none),(4,some (3, 76, .recs shW [])),(5,none)]] false s

noncomputable def sRP (n : Int) (i : Int) (q : List (List U)) (nn : Bool) : NS := ⟨[⟨27, 26, [(0, (EV.v (Value.int IntKind.i64 (n)))), (2, (EV.ptr 0 0)), (4, (EV.ptr 1 0)), (5, iv i)], [.it (.code (nav [1, 1, 1, 0, 1, 0, 0, 0] (bodyOf Try.f27))), .it (.code (nav [1, 1, 1, 0, 1, 0, 0, 1] (bodyOf Try.f27))), .it (.inLoop (nav [1, 1, 1, 0, 1, 0, 0] (bodyOf Try.f27))), .it (.inBlock 0), .it (.code (nav [1, 1, 1, 1] (bodyOf Try.f27)))], [], Option.none⟩], [(0, (EK.cells 24 [(EV.v (Value.int IntKind.i64 (0))), (EV.v (Value.slice Option.none 0 0))] true)), (1, EK.cells 24 [iv 2, EV.slO 2 3 q.length nn] true), (2, EK.seq 76 (.recs shW q) nn)], 3⟩
theorem in_t (n : Int) : RUN (st0 27 [iv n]) = (bc (decide (n < (1 : Int))) (.done (EV.tup [(EV.v (Value.agg (Array.mk [(Value.int IntKind.i64 (0)), (Value.slice Option.none 0 0)]))), (EV.v (Value.int IntKind.i64 (7)))]) [] 0) (bc (decide ((100 : Int) < n)) (.done (EV.tup [(EV.v (Value.agg (Array.mk [(Value.int IntKind.i64 (0)), (Value.slice Option.none 0 0)]))), (EV.v (Value.int IntKind.i64 (7)))]) [] 0) (.at (sRP (n) ((0 : Int)) ([]) (false))))) := by kernel_rfl
theorem step_t (n : Int) (i : Int) (q : List (List U)) (nn : Bool) : RUN (stOf (sRP n i q nn)) = (bc (decide (i < n)) (bc (bc (bc (bc (Nat.beq (List.length q) (List.length q)) (bc (Nat.ble (List.length q + List.length [[U.i (1 : Int), U.i (0 : Int), U.s { data := #[(67 : UInt8), (84 : UInt8)] }]]) (65536 : Nat)) (bc nn true (bc nn false true)) false) false) true false) (bc (bc (bc (bc (Nat.beq (List.length q) (List.length q)) (eqN nn nn) false) true false) true false) true false) false) (.at (sRP (n) (IntKind.wrap IntKind.i64 (i + (1 : Int))) (q ++ [[U.i (1 : Int), U.i (0 : Int), U.s { data := #[(67 : UInt8), (84 : UInt8)] }]]) (bc nn true (Nat.blt (0 : Nat) (List.length [[U.i (1 : Int), U.i (0 : Int), U.s { data := #[(67 : UInt8), (84 : UInt8)] }]]))))) .bad) (bc (bc (bc (Nat.beq (List.length q) (List.length q)) true false) true false) (.done (EV.tup [(EV.agg [(EV.v (Value.int IntKind.i64 (2))), (EV.lst (SyC.recs [(Sh.int IntKind.i64), (Sh.int IntKind.i64), Sh.str] (q)))]), (EV.v (Value.int IntKind.i64 (0)))]) [] 0) .bad)) := by kernel_rfl
theorem step {n : Int} {i : Nat} {q : List (List U)} {nn : Bool} (hi : (i : Int) < n) (hn : n ≤ 100) (hq : q.length < 65536) : RUN (stOf (sRP n i q nn)) = .at (sRP n (i + 1 : Nat) (q ++ [wk bCT 0]) true) := by
  rw [step_t]
  simp (disch := omega) only [Nat.add_eq, eqSy_self, eqN_self, bc_same, List.length_cons, ofn, wrap_in, dt, df, bltD, bltN, ble_of, bleN, beqD, bc_t, bc_f, nn_ok, Nat.zero_add, to_nat, Int.zero_add, Int.sub_zero, Int.sub_self, Int.cast_ofNat_Int, Int.natCast_zero, Int.toNat_zero, List.take_zero, List.nil_append, List.length_append, List.length_nil]
  rfl
theorem last {n : Int} {i : Nat} {q : List (List U)} {nn : Bool} (hi : n ≤ (i : Int)) : RUN (stOf (sRP n i q nn)) = .done (shE 2 q 0) [] 0 := by
  rw [step_t]
  simp (disch := omega) only [Nat.add_eq, eqSy_self, eqN_self, bc_same, List.length_cons, ofn, wrap_in, dt, df, bltD, bltN, ble_of, bleN, beqD, bc_t, bc_f, nn_ok, Nat.zero_add, to_nat, Int.zero_add, Int.sub_zero, Int.sub_self, Int.cast_ofNat_Int, Int.natCast_zero, Int.toNat_zero, List.take_zero, List.nil_append, List.length_append, List.length_nil]
  rfl
theorem loop {n : Int} (hn : n ≤ 100) : ∀ (k i : Nat) (q : List (List U)) (nn : Bool), (i : Int) + k = n → q.length ≤ 100 + i → EndZ 27 .nil false (stOf (sRP n i q nn)) (shE 2 (q ++ List.replicate k (wk bCT 0)) 0) [] 0
  | 0, i, q, nn, h, hq => by
    rw [List.replicate_zero, List.append_nil]
    exact .done (last (by omega))
  | k + 1, i, q, nn, h, hq => by
    rw [List.replicate_succ, show q ++ wk bCT 0 :: List.replicate k (wk bCT 0) = (q ++ [wk bCT 0]) ++ List.replicate k (wk bCT 0) by simp]
    exact .at (.nil _) (step (by omega) hn (by omega)) (loop hn k (i + 1) _ _ (by omega) (by simp; omega))
end MRPlait
theorem MRPlait.ends (n : Int) : EndZ 27 .nil false (st0 27 [iv n]) (shE (plaitP n) (plaitL n) (plaitE n)) [] 0 := by
  have h := MRPlait.in_t n
  unfold plaitP plaitL plaitE
  by_cases h1 : n < 1
  · simp only [dt h1, bc_t] at h ⊢; exact (EndZ.done h).weak (shN_weak 7)
  by_cases h2 : 100 < n
  · simp only [df h1, dt h2, bc_t, bc_f] at h ⊢; exact (EndZ.done h).weak (shN_weak 7)
  · simp only [df h1, df h2, bc_f, bc_t] at h ⊢
    have := MRPlait.loop (n := n) (by omega) n.toNat 0 [] false (by omega) (by simp)
    exact .at (.nil _) h this
noncomputable def ctR1 : Tr ZCC := (Tr.nil.put 85 (some (dC spLet))).put 86 (some (dC spBody))
theorem ctR1_ok : ZCtsOk Try.prog ctR1 := ((ZCtsOk.nil _).add rfl spLet_ok).add rfl spBody_ok
namespace MRPic
noncomputable def RUN (s : ES) : ZF := RZ 29 ctR1 (fun _ => false) [] [] false s
theorem in_t (n : Int) : RUN (st0 29 [iv n]) = (bc (decide (n < (1 : Int))) (.done (EV.tup [(EV.v (Value.agg (Array.mk [(Value.int IntKind.i64 (0)), (Value.slice Option.none 0 0)]))), (EV.v (Value.int IntKind.i64 (7)))]) [] 0) (bc (decide ((7 : Int) < n)) (.done (EV.tup [(EV.v (Value.agg (Array.mk [(Value.int IntKind.i64 (0)), (Value.slice Option.none 0 0)]))), (EV.v (Value.int IntKind.i64 (7)))]) [] 0) (bc (bc (bc (decide (n ≤ (1000 : Int))) (Nat.ble (ByteArray.size { data := #[(76 : UInt8)] }) (1000 : Nat)) false) true false) (bc (bc (Nat.blt (Nat.add (ByteArray.size (lets { data := #[(76 : UInt8)] } n)) (ByteArray.size { data := #[(80 : UInt8)] })) (9223372036854775808 : Nat)) true false) (bc (bc (bc (decide (n ≤ (1000 : Int))) (Nat.ble (ByteArray.size { data := #[(76 : UInt8)] }) (1000 : Nat)) false) true false) (bc (bc (Nat.blt (Nat.add (ByteArray.size (lets { data := #[(76 : UInt8)] } n ++ { data := #[(80 : UInt8)] })) (ByteArray.size (lets { data := #[(76 : UInt8)] } n))) (9223372036854775808 : Nat)) true false) (.done (EV.tup [(EV.agg [(EV.v (Value.int IntKind.i64 (2))), (EV.lst (SyC.recs [(Sh.int IntKind.i64), (Sh.int IntKind.i64), Sh.str] ([[U.i (1 : Int), U.i (0 : Int), U.s (lets { data := #[(76 : UInt8)] } n ++ { data := #[(80 : UInt8)] } ++ lets { data := #[(76 : UInt8)] } n)]])))]), (EV.v (Value.int IntKind.i64 (0)))]) [] 0) .bad) .bad) .bad) .bad))) := by kernel_rfl
end MRPic
namespace MRWin
end MRWin
namespace MRSp
noncomputable def RUN (s : ES) : ZF := RZ 30 ctR1 (atS 0 30 5) [] [[(0,none),(1,none),(4,none),(6,some (3, 76, .recs shW [])),(7,none)]] false s

noncomputable def sRS (n t : Int) (i : Int) (q : List (List U)) (nn : Bool) : NS := ⟨[⟨30, 75, [(0, (EV.v (Value.int IntKind.i64 (n)))), (1, (EV.v (Value.int IntKind.i64 (t)))), (4, (EV.ptr 0 0)), (6, EV.slO 1 3 q.length nn), (7, iv i)], [.it (.code (nav [1, 1, 1, 0, 1, 0, 0, 0] (bodyOf Try.f30))), .it (.code (nav [1, 1, 1, 0, 1, 0, 0, 1] (bodyOf Try.f30))), .it (.inLoop (nav [1, 1, 1, 0, 1, 0, 0] (bodyOf Try.f30))), .it (.inBlock 0), .it (.code (nav [1, 1, 1, 1] (bodyOf Try.f30)))], [], Option.none⟩], [(0, (EK.cells 24 [(EV.v (Value.int IntKind.i64 (0))), (EV.v (Value.slice Option.none 0 0))] true)), (1, EK.seq 76 (.recs shW q) nn)], 2⟩
theorem in_t (n t : Int) : RUN (st0 30 [iv n, iv t]) = (bc (decide (n < (1 : Int))) (.done (EV.tup [(EV.v (Value.agg (Array.mk [(Value.int IntKind.i64 (0)), (Value.slice Option.none 0 0)]))), (EV.v (Value.int IntKind.i64 (7)))]) [] 0) (bc (decide ((6 : Int) < n)) (.done (EV.tup [(EV.v (Value.agg (Array.mk [(Value.int IntKind.i64 (0)), (Value.slice Option.none 0 0)]))), (EV.v (Value.int IntKind.i64 (7)))]) [] 0) (bc (decide (t < (0 : Int))) (.done (EV.tup [(EV.v (Value.agg (Array.mk [(Value.int IntKind.i64 (0)), (Value.slice Option.none 0 0)]))), (EV.v (Value.int IntKind.i64 (7)))]) [] 0) (bc (decide ((16 : Int) < t)) (.done (EV.tup [(EV.v (Value.agg (Array.mk [(Value.int IntKind.i64 (0)), (Value.slice Option.none 0 0)]))), (EV.v (Value.int IntKind.i64 (7)))]) [] 0) (.at (sRS (n) (t) ((0 : Int)) ([]) (false))))))) := by kernel_rfl
theorem step_t (n t : Int) (i : Int) (q : List (List U)) (nn : Bool) : RUN (stOf (sRS n t i q nn)) = (bc (decide (i < n)) (bc (decide ((0 : Int) < t)) (bc (bc (bc (decide (t ≤ (1000 : Int))) (Nat.ble (ByteArray.size { data := #[(84 : UInt8)] }) (1000 : Nat)) false) true false) (bc (bc (Nat.beq (List.length q) (List.length q)) (bc (Nat.ble (List.length q + List.length [[U.i (1 : Int), U.i (IntKind.wrap IntKind.i64 ((2 : Int) * i)), U.s (lets { data := #[(84 : UInt8)] } t)]]) (65536 : Nat)) (bc nn true (bc nn false true)) false) false) (.at (sRS (n) (t) (IntKind.wrap IntKind.i64 (i + (1 : Int))) (q ++ [[U.i (1 : Int), U.i (IntKind.wrap IntKind.i64 ((2 : Int) * i)), U.s (lets { data := #[(84 : UInt8)] } t)]]) (bc nn true (Nat.blt (0 : Nat) (List.length [[U.i (1 : Int), U.i (IntKind.wrap IntKind.i64 ((2 : Int) * i)), U.s (lets { data := #[(84 : UInt8)] } t)]]))))) .bad) .bad) (bc (bc (Nat.beq (List.length q) (List.length q)) (bc (Nat.ble ((0 : Nat) + List.length q) (65536 : Nat)) true false) false) (bc (bc (bc (bc (decide ((1 : Int) ≤ n)) (decide (n ≤ (100 : Int))) false) (bc (bc (Nat.beq (List.length ([] ++ q)) (List.length ([] ++ q))) (bc (Nat.ble (List.length ([] ++ q) + List.length (bodyL n)) (65536 : Nat)) (bc (Nat.blt (0 : Nat) (List.length q)) true (bc (Nat.blt (0 : Nat) (List.length q)) false true)) false) false) true false) false) (bc (bc (bc (bc (Nat.beq (List.length ([] ++ q)) (List.length ([] ++ q))) (eqN (Nat.blt (0 : Nat) (List.length q)) (Nat.blt (0 : Nat) (List.length q))) false) true false) true false) true false) false) (bc (bc (bc (bc (Nat.beq (List.length ([] ++ q ++ bodyL n)) (List.length ([] ++ q ++ bodyL n))) (bc (Nat.ble (List.length ([] ++ q ++ bodyL n) + List.length [[U.i (1 : Int), U.i (IntKind.wrap IntKind.i64 (n - (1 : Int))), U.s { data := #[(80 : UInt8)] }]]) (65536 : Nat)) (bc (bc (Nat.blt (0 : Nat) (List.length q)) true (Nat.blt (0 : Nat) (List.length (bodyL n)))) true (bc (bc (Nat.blt (0 : Nat) (List.length q)) true (Nat.blt (0 : Nat) (List.length (bodyL n)))) false true)) false) false) true false) (bc (bc (bc (bc (Nat.beq (List.length ([] ++ q ++ bodyL n)) (List.length ([] ++ q ++ bodyL n))) (eqN (bc (Nat.blt (0 : Nat) (List.length q)) true (Nat.blt (0 : Nat) (List.length (bodyL n)))) (bc (Nat.blt (0 : Nat) (List.length q)) true (Nat.blt (0 : Nat) (List.length (bodyL n))))) false) true false) true false) true false) false) (bc (bc (bc (bc (decide ((1 : Int) ≤ n)) (decide (n ≤ (100 : Int))) false) (bc (bc (Nat.beq (List.length ([] ++ q ++ bodyL n ++ [[U.i (1 : Int), U.i (IntKind.wrap IntKind.i64 (n - (1 : Int))), U.s { data := #[(80 : UInt8)] }]])) (List.length ([] ++ q ++ bodyL n ++ [[U.i (1 : Int), U.i (IntKind.wrap IntKind.i64 (n - (1 : Int))), U.s { data := #[(80 : UInt8)] }]]))) (bc (Nat.ble (List.length ([] ++ q ++ bodyL n ++ [[U.i (1 : Int), U.i (IntKind.wrap IntKind.i64 (n - (1 : Int))), U.s { data := #[(80 : UInt8)] }]]) + List.length (bodyL n)) (65536 : Nat)) (bc (bc (bc (Nat.blt (0 : Nat) (List.length q)) true (Nat.blt (0 : Nat) (List.length (bodyL n)))) true (Nat.blt (0 : Nat) (List.length [[U.i (1 : Int), U.i (IntKind.wrap IntKind.i64 (n - (1 : Int))), U.s { data := #[(80 : UInt8)] }]]))) true (bc (bc (bc (Nat.blt (0 : Nat) (List.length q)) true (Nat.blt (0 : Nat) (List.length (bodyL n)))) true (Nat.blt (0 : Nat) (List.length [[U.i (1 : Int), U.i (IntKind.wrap IntKind.i64 (n - (1 : Int))), U.s { data := #[(80 : UInt8)] }]]))) false true)) false) false) true false) false) (bc (bc (bc (bc (Nat.beq (List.length ([] ++ q ++ bodyL n ++ [[U.i (1 : Int), U.i (IntKind.wrap IntKind.i64 (n - (1 : Int))), U.s { data := #[(80 : UInt8)] }]])) (List.length ([] ++ q ++ bodyL n ++ [[U.i (1 : Int), U.i (IntKind.wrap IntKind.i64 (n - (1 : Int))), U.s { data := #[(80 : UInt8)] }]]))) (eqN (bc (bc (Nat.blt (0 : Nat) (List.length q)) true (Nat.blt (0 : Nat) (List.length (bodyL n)))) true (Nat.blt (0 : Nat) (List.length [[U.i (1 : Int), U.i (IntKind.wrap IntKind.i64 (n - (1 : Int))), U.s { data := #[(80 : UInt8)] }]]))) (bc (bc (Nat.blt (0 : Nat) (List.length q)) true (Nat.blt (0 : Nat) (List.length (bodyL n)))) true (Nat.blt (0 : Nat) (List.length [[U.i (1 : Int), U.i (IntKind.wrap IntKind.i64 (n - (1 : Int))), U.s { data := #[(80 : UInt8)] }]])))) false) true false) true false) true false) false) (bc (bc (Nat.beq (List.length q) (List.length q)) (bc (Nat.beq (List.length ([] ++ q ++ bodyL n ++ [[U.i (1 : Int), U.i (IntKind.wrap IntKind.i64 (n - (1 : Int))), U.s { data := #[(80 : UInt8)] }]] ++ bodyL n)) (List.length ([] ++ q ++ bodyL n ++ [[U.i (1 : Int), U.i (IntKind.wrap IntKind.i64 (n - (1 : Int))), U.s { data := #[(80 : UInt8)] }]] ++ bodyL n))) (bc (Nat.ble (List.length ([] ++ q ++ bodyL n ++ [[U.i (1 : Int), U.i (IntKind.wrap IntKind.i64 (n - (1 : Int))), U.s { data := #[(80 : UInt8)] }]] ++ bodyL n) + List.length q) (65536 : Nat)) (bc (bc (bc (bc (Nat.blt (0 : Nat) (List.length q)) true (Nat.blt (0 : Nat) (List.length (bodyL n)))) true (Nat.blt (0 : Nat) (List.length [[U.i (1 : Int), U.i (IntKind.wrap IntKind.i64 (n - (1 : Int))), U.s { data := #[(80 : UInt8)] }]]))) true (Nat.blt (0 : Nat) (List.length (bodyL n)))) true (bc (bc (bc (bc (Nat.blt (0 : Nat) (List.length q)) true (Nat.blt (0 : Nat) (List.length (bodyL n)))) true (Nat.blt (0 : Nat) (List.length [[U.i (1 : Int), U.i (IntKind.wrap IntKind.i64 (n - (1 : Int))), U.s { data := #[(80 : UInt8)] }]]))) true (Nat.blt (0 : Nat) (List.length (bodyL n)))) false true)) false) false) false) (bc (bc (bc (Nat.beq (List.length ([] ++ q ++ bodyL n ++ [[U.i (1 : Int), U.i (IntKind.wrap IntKind.i64 (n - (1 : Int))), U.s { data := #[(80 : UInt8)] }]] ++ bodyL n ++ q)) (List.length ([] ++ q ++ bodyL n ++ [[U.i (1 : Int), U.i (IntKind.wrap IntKind.i64 (n - (1 : Int))), U.s { data := #[(80 : UInt8)] }]] ++ bodyL n ++ q))) true false) true false) (.done (EV.tup [(EV.agg [(EV.v (Value.int IntKind.i64 (IntKind.wrap IntKind.i64 ((2 : Int) * n)))), (EV.lst (SyC.recs [(Sh.int IntKind.i64), (Sh.int IntKind.i64), Sh.str] ([] ++ q ++ bodyL n ++ [[U.i (1 : Int), U.i (IntKind.wrap IntKind.i64 (n - (1 : Int))), U.s { data := #[(80 : UInt8)] }]] ++ bodyL n ++ q)))]), (EV.v (Value.int IntKind.i64 (0)))]) [] 0) .bad) .bad) .bad) .bad) .bad) .bad)) (bc (bc (Nat.beq (List.length q) (List.length q)) (bc (Nat.ble ((0 : Nat) + List.length q) (65536 : Nat)) true false) false) (bc (bc (bc (bc (decide ((1 : Int) ≤ n)) (decide (n ≤ (100 : Int))) false) (bc (bc (Nat.beq (List.length ([] ++ q)) (List.length ([] ++ q))) (bc (Nat.ble (List.length ([] ++ q) + List.length (bodyL n)) (65536 : Nat)) (bc (Nat.blt (0 : Nat) (List.length q)) true (bc (Nat.blt (0 : Nat) (List.length q)) false true)) false) false) true false) false) (bc (bc (bc (bc (Nat.beq (List.length ([] ++ q)) (List.length ([] ++ q))) (eqN (Nat.blt (0 : Nat) (List.length q)) (Nat.blt (0 : Nat) (List.length q))) false) true false) true false) true false) false) (bc (bc (bc (bc (Nat.beq (List.length ([] ++ q ++ bodyL n)) (List.length ([] ++ q ++ bodyL n))) (bc (Nat.ble (List.length ([] ++ q ++ bodyL n) + List.length [[U.i (1 : Int), U.i (IntKind.wrap IntKind.i64 (n - (1 : Int))), U.s { data := #[(80 : UInt8)] }]]) (65536 : Nat)) (bc (bc (Nat.blt (0 : Nat) (List.length q)) true (Nat.blt (0 : Nat) (List.length (bodyL n)))) true (bc (bc (Nat.blt (0 : Nat) (List.length q)) true (Nat.blt (0 : Nat) (List.length (bodyL n)))) false true)) false) false) true false) (bc (bc (bc (bc (Nat.beq (List.length ([] ++ q ++ bodyL n)) (List.length ([] ++ q ++ bodyL n))) (eqN (bc (Nat.blt (0 : Nat) (List.length q)) true (Nat.blt (0 : Nat) (List.length (bodyL n)))) (bc (Nat.blt (0 : Nat) (List.length q)) true (Nat.blt (0 : Nat) (List.length (bodyL n))))) false) true false) true false) true false) false) (bc (bc (bc (bc (decide ((1 : Int) ≤ n)) (decide (n ≤ (100 : Int))) false) (bc (bc (Nat.beq (List.length ([] ++ q ++ bodyL n ++ [[U.i (1 : Int), U.i (IntKind.wrap IntKind.i64 (n - (1 : Int))), U.s { data := #[(80 : UInt8)] }]])) (List.length ([] ++ q ++ bodyL n ++ [[U.i (1 : Int), U.i (IntKind.wrap IntKind.i64 (n - (1 : Int))), U.s { data := #[(80 : UInt8)] }]]))) (bc (Nat.ble (List.length ([] ++ q ++ bodyL n ++ [[U.i (1 : Int), U.i (IntKind.wrap IntKind.i64 (n - (1 : Int))), U.s { data := #[(80 : UInt8)] }]]) + List.length (bodyL n)) (65536 : Nat)) (bc (bc (bc (Nat.blt (0 : Nat) (List.length q)) true (Nat.blt (0 : Nat) (List.length (bodyL n)))) true (Nat.blt (0 : Nat) (List.length [[U.i (1 : Int), U.i (IntKind.wrap IntKind.i64 (n - (1 : Int))), U.s { data := #[(80 : UInt8)] }]]))) true (bc (bc (bc (Nat.blt (0 : Nat) (List.length q)) true (Nat.blt (0 : Nat) (List.length (bodyL n)))) true (Nat.blt (0 : Nat) (List.length [[U.i (1 : Int), U.i (IntKind.wrap IntKind.i64 (n - (1 : Int))), U.s { data := #[(80 : UInt8)] }]]))) false true)) false) false) true false) false) (bc (bc (bc (bc (Nat.beq (List.length ([] ++ q ++ bodyL n ++ [[U.i (1 : Int), U.i (IntKind.wrap IntKind.i64 (n - (1 : Int))), U.s { data := #[(80 : UInt8)] }]])) (List.length ([] ++ q ++ bodyL n ++ [[U.i (1 : Int), U.i (IntKind.wrap IntKind.i64 (n - (1 : Int))), U.s { data := #[(80 : UInt8)] }]]))) (eqN (bc (bc (Nat.blt (0 : Nat) (List.length q)) true (Nat.blt (0 : Nat) (List.length (bodyL n)))) true (Nat.blt (0 : Nat) (List.length [[U.i (1 : Int), U.i (IntKind.wrap IntKind.i64 (n - (1 : Int))), U.s { data := #[(80 : UInt8)] }]]))) (bc (bc (Nat.blt (0 : Nat) (List.length q)) true (Nat.blt (0 : Nat) (List.length (bodyL n)))) true (Nat.blt (0 : Nat) (List.length [[U.i (1 : Int), U.i (IntKind.wrap IntKind.i64 (n - (1 : Int))), U.s { data := #[(80 : UInt8)] }]])))) false) true false) true false) true false) false) (bc (bc (Nat.beq (List.length q) (List.length q)) (bc (Nat.beq (List.length ([] ++ q ++ bodyL n ++ [[U.i (1 : Int), U.i (IntKind.wrap IntKind.i64 (n - (1 : Int))), U.s { data := #[(80 : UInt8)] }]] ++ bodyL n)) (List.length ([] ++ q ++ bodyL n ++ [[U.i (1 : Int), U.i (IntKind.wrap IntKind.i64 (n - (1 : Int))), U.s { data := #[(80 : UInt8)] }]] ++ bodyL n))) (bc (Nat.ble (List.length ([] ++ q ++ bodyL n ++ [[U.i (1 : Int), U.i (IntKind.wrap IntKind.i64 (n - (1 : Int))), U.s { data := #[(80 : UInt8)] }]] ++ bodyL n) + List.length q) (65536 : Nat)) (bc (bc (bc (bc (Nat.blt (0 : Nat) (List.length q)) true (Nat.blt (0 : Nat) (List.length (bodyL n)))) true (Nat.blt (0 : Nat) (List.length [[U.i (1 : Int), U.i (IntKind.wrap IntKind.i64 (n - (1 : Int))), U.s { data := #[(80 : UInt8)] }]]))) true (Nat.blt (0 : Nat) (List.length (bodyL n)))) true (bc (bc (bc (bc (Nat.blt (0 : Nat) (List.length q)) true (Nat.blt (0 : Nat) (List.length (bodyL n)))) true (Nat.blt (0 : Nat) (List.length [[U.i (1 : Int), U.i (IntKind.wrap IntKind.i64 (n - (1 : Int))), U.s { data := #[(80 : UInt8)] }]]))) true (Nat.blt (0 : Nat) (List.length (bodyL n)))) false true)) false) false) false) (bc (bc (bc (Nat.beq (List.length ([] ++ q ++ bodyL n ++ [[U.i (1 : Int), U.i (IntKind.wrap IntKind.i64 (n - (1 : Int))), U.s { data := #[(80 : UInt8)] }]] ++ bodyL n ++ q)) (List.length ([] ++ q ++ bodyL n ++ [[U.i (1 : Int), U.i (IntKind.wrap IntKind.i64 (n - (1 : Int))), U.s { data := #[(80 : UInt8)] }]] ++ bodyL n ++ q))) true false) true false) (.done (EV.tup [(EV.agg [(EV.v (Value.int IntKind.i64 (IntKind.wrap IntKind.i64 ((2 : Int) * n)))), (EV.lst (SyC.recs [(Sh.int IntKind.i64), (Sh.int IntKind.i64), Sh.str] ([] ++ q ++ bodyL n ++ [[U.i (1 : Int), U.i (IntKind.wrap IntKind.i64 (n - (1 : Int))), U.s { data := #[(80 : UInt8)] }]] ++ bodyL n ++ q)))]), (EV.v (Value.int IntKind.i64 (0)))]) [] 0) .bad) .bad) .bad) .bad) .bad) .bad)) := by kernel_rfl
end MRSp
end Go.Proofs.Ythaljeccdeajoaa.EvM
