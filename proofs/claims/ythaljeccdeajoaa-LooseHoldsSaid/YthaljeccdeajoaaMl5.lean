/- Laid together: The table of functions for the reckoner. What all functions of a seat share: runs, leads, calls. What laws share: from a call's end to the statement's; closed calls that return true. References of the stitches and the sheets: index, Check, Check. Contracts of strings.Repeat, strings.Join over data. No program is named. The program's stitches and sheets: Check, Check. Plain facts on sheets that are checked. Reference of the assembling: Same, place, Beside, Below, Times. Placing: words exchanged, flips, mirrors, places: the reference's side. The program's assembling: cmp.Or, slices.Concat, changed, Beside, Below. The program's words exchanged; turned, Flip, Mirror, Place. Plain facts on words: letters, crossings, moves, the way back. Crossings of words, on both sides. Letters that are held: Check and Hold, on both sides. What a sheet holds: Hold, on both sides. awake, of what is held: it returns true, and leaves all that was there alone. From a call that leaves all that was there alone to a statement's closing condition. No program is named. -/
import Derived.Test.YthaljeccdeajoaaChecked
import Derived.ProofKit
import Derived.Test.YthaljeccdeajoaaMl4
set_option linter.unusedSimpArgs false
set_option linter.unusedVariables false
namespace Go.Proofs.Ythaljeccdeajoaa.Ev
open Go.Proofs
noncomputable def ft0 : Tr FI := .nil
theorem ft0Ok : FTok Try.prog ft0 := FTok.nil _
noncomputable def ft1 : Tr FI := ft0.put 2 (some (ofFunc Try.f2))
theorem ft1Ok : FTok Try.prog ft1 := ft0Ok.add (by kernel_rfl) Try.func2 (by kernel_rfl) (by kernel_rfl)
noncomputable def ft2 : Tr FI := ft1.put 3 (some (ofFunc Try.f3))
theorem ft2Ok : FTok Try.prog ft2 := ft1Ok.add (by kernel_rfl) Try.func3 (by kernel_rfl) (by kernel_rfl)
noncomputable def ft3 : Tr FI := ft2.put 4 (some (ofFunc Try.f4))
theorem ft3Ok : FTok Try.prog ft3 := ft2Ok.add (by kernel_rfl) Try.func4 (by kernel_rfl) (by kernel_rfl)
noncomputable def ft4 : Tr FI := ft3.put 5 (some (ofFunc Try.f5))
theorem ft4Ok : FTok Try.prog ft4 := ft3Ok.add (by kernel_rfl) Try.func5 (by kernel_rfl) (by kernel_rfl)
noncomputable def ft5 : Tr FI := ft4.put 6 (some (ofFunc Try.f6))
theorem ft5Ok : FTok Try.prog ft5 := ft4Ok.add (by kernel_rfl) Try.func6 (by kernel_rfl) (by kernel_rfl)
noncomputable def ft6 : Tr FI := ft5.put 7 (some (ofFunc Try.f7))
theorem ft6Ok : FTok Try.prog ft6 := ft5Ok.add (by kernel_rfl) Try.func7 (by kernel_rfl) (by kernel_rfl)
noncomputable def ft7 : Tr FI := ft6.put 8 (some (ofFunc Try.f8))
theorem ft7Ok : FTok Try.prog ft7 := ft6Ok.add (by kernel_rfl) Try.func8 (by kernel_rfl) (by kernel_rfl)
noncomputable def ft8 : Tr FI := ft7.put 9 (some (ofFunc Try.f9))
theorem ft8Ok : FTok Try.prog ft8 := ft7Ok.add (by kernel_rfl) Try.func9 (by kernel_rfl) (by kernel_rfl)
noncomputable def ft9 : Tr FI := ft8.put 10 (some (ofFunc Try.f10))
theorem ft9Ok : FTok Try.prog ft9 := ft8Ok.add (by kernel_rfl) Try.func10 (by kernel_rfl) (by kernel_rfl)
noncomputable def ft10 : Tr FI := ft9.put 11 (some (ofFunc Try.f11))
theorem ft10Ok : FTok Try.prog ft10 := ft9Ok.add (by kernel_rfl) Try.func11 (by kernel_rfl) (by kernel_rfl)
noncomputable def ft11 : Tr FI := ft10.put 12 (some (ofFunc Try.f12))
theorem ft11Ok : FTok Try.prog ft11 := ft10Ok.add (by kernel_rfl) Try.func12 (by kernel_rfl) (by kernel_rfl)
noncomputable def ft12 : Tr FI := ft11.put 13 (some (ofFunc Try.f13))
theorem ft12Ok : FTok Try.prog ft12 := ft11Ok.add (by kernel_rfl) Try.func13 (by kernel_rfl) (by kernel_rfl)
noncomputable def ft13 : Tr FI := ft12.put 14 (some (ofFunc Try.f14))
theorem ft13Ok : FTok Try.prog ft13 := ft12Ok.add (by kernel_rfl) Try.func14 (by kernel_rfl) (by kernel_rfl)
noncomputable def ft14 : Tr FI := ft13.put 15 (some (ofFunc Try.f15))
theorem ft14Ok : FTok Try.prog ft14 := ft13Ok.add (by kernel_rfl) Try.func15 (by kernel_rfl) (by kernel_rfl)
noncomputable def ft15 : Tr FI := ft14.put 16 (some (ofFunc Try.f16))
theorem ft15Ok : FTok Try.prog ft15 := ft14Ok.add (by kernel_rfl) Try.func16 (by kernel_rfl) (by kernel_rfl)
noncomputable def ft16 : Tr FI := ft15.put 17 (some (ofFunc Try.f17))
theorem ft16Ok : FTok Try.prog ft16 := ft15Ok.add (by kernel_rfl) Try.func17 (by kernel_rfl) (by kernel_rfl)
noncomputable def ft17 : Tr FI := ft16.put 18 (some (ofFunc Try.f18))
theorem ft17Ok : FTok Try.prog ft17 := ft16Ok.add (by kernel_rfl) Try.func18 (by kernel_rfl) (by kernel_rfl)
noncomputable def ft18 : Tr FI := ft17.put 19 (some (ofFunc Try.f19))
theorem ft18Ok : FTok Try.prog ft18 := ft17Ok.add (by kernel_rfl) Try.func19 (by kernel_rfl) (by kernel_rfl)
noncomputable def ft19 : Tr FI := ft18.put 20 (some (ofFunc Try.f20))
theorem ft19Ok : FTok Try.prog ft19 := ft18Ok.add (by kernel_rfl) Try.func20 (by kernel_rfl) (by kernel_rfl)
noncomputable def ft20 : Tr FI := ft19.put 21 (some (ofFunc Try.f21))
theorem ft20Ok : FTok Try.prog ft20 := ft19Ok.add (by kernel_rfl) Try.func21 (by kernel_rfl) (by kernel_rfl)
noncomputable def ft21 : Tr FI := ft20.put 22 (some (ofFunc Try.f22))
theorem ft21Ok : FTok Try.prog ft21 := ft20Ok.add (by kernel_rfl) Try.func22 (by kernel_rfl) (by kernel_rfl)
noncomputable def ft22 : Tr FI := ft21.put 23 (some (ofFunc Try.f23))
theorem ft22Ok : FTok Try.prog ft22 := ft21Ok.add (by kernel_rfl) Try.func23 (by kernel_rfl) (by kernel_rfl)
noncomputable def ft23 : Tr FI := ft22.put 24 (some (ofFunc Try.f24))
theorem ft23Ok : FTok Try.prog ft23 := ft22Ok.add (by kernel_rfl) Try.func24 (by kernel_rfl) (by kernel_rfl)
noncomputable def ft24 : Tr FI := ft23.put 25 (some (ofFunc Try.f25))
theorem ft24Ok : FTok Try.prog ft24 := ft23Ok.add (by kernel_rfl) Try.func25 (by kernel_rfl) (by kernel_rfl)
noncomputable def ft25 : Tr FI := ft24.put 26 (some (ofFunc Try.f26))
theorem ft25Ok : FTok Try.prog ft25 := ft24Ok.add (by kernel_rfl) Try.func26 (by kernel_rfl) (by kernel_rfl)
noncomputable def ft26 : Tr FI := ft25.put 27 (some (ofFunc Try.f27))
theorem ft26Ok : FTok Try.prog ft26 := ft25Ok.add (by kernel_rfl) Try.func27 (by kernel_rfl) (by kernel_rfl)
noncomputable def ft27 : Tr FI := ft26.put 28 (some (ofFunc Try.f28))
theorem ft27Ok : FTok Try.prog ft27 := ft26Ok.add (by kernel_rfl) Try.func28 (by kernel_rfl) (by kernel_rfl)
noncomputable def ft28 : Tr FI := ft27.put 29 (some (ofFunc Try.f29))
theorem ft28Ok : FTok Try.prog ft28 := ft27Ok.add (by kernel_rfl) Try.func29 (by kernel_rfl) (by kernel_rfl)
noncomputable def ft29 : Tr FI := ft28.put 30 (some (ofFunc Try.f30))
theorem ft29Ok : FTok Try.prog ft29 := ft28Ok.add (by kernel_rfl) Try.func30 (by kernel_rfl) (by kernel_rfl)
noncomputable def ft30 : Tr FI := ft29.put 31 (some (ofFunc Try.f31))
theorem ft30Ok : FTok Try.prog ft30 := ft29Ok.add (by kernel_rfl) Try.func31 (by kernel_rfl) (by kernel_rfl)
noncomputable def ft31 : Tr FI := ft30.put 32 (some (ofFunc Try.f32))
theorem ft31Ok : FTok Try.prog ft31 := ft30Ok.add (by kernel_rfl) Try.func32 (by kernel_rfl) (by kernel_rfl)
noncomputable def ft32 : Tr FI := ft31.put 33 (some (ofFunc Try.f33))
theorem ft32Ok : FTok Try.prog ft32 := ft31Ok.add (by kernel_rfl) Try.func33 (by kernel_rfl) (by kernel_rfl)
noncomputable def ft33 : Tr FI := ft32.put 34 (some (ofFunc Try.f34))
theorem ft33Ok : FTok Try.prog ft33 := ft32Ok.add (by kernel_rfl) Try.func34 (by kernel_rfl) (by kernel_rfl)
noncomputable def ft34 : Tr FI := ft33.put 35 (some (ofFunc Try.f35))
theorem ft34Ok : FTok Try.prog ft34 := ft33Ok.add (by kernel_rfl) Try.func35 (by kernel_rfl) (by kernel_rfl)
noncomputable def ft35 : Tr FI := ft34.put 36 (some (ofFunc Try.f36))
theorem ft35Ok : FTok Try.prog ft35 := ft34Ok.add (by kernel_rfl) Try.func36 (by kernel_rfl) (by kernel_rfl)
noncomputable def ft36 : Tr FI := ft35.put 37 (some (ofFunc Try.f37))
theorem ft36Ok : FTok Try.prog ft36 := ft35Ok.add (by kernel_rfl) Try.func37 (by kernel_rfl) (by kernel_rfl)
noncomputable def ft37 : Tr FI := ft36.put 38 (some (ofFunc Try.f38))
theorem ft37Ok : FTok Try.prog ft37 := ft36Ok.add (by kernel_rfl) Try.func38 (by kernel_rfl) (by kernel_rfl)
noncomputable def ft38 : Tr FI := ft37.put 39 (some (ofFunc Try.f39))
theorem ft38Ok : FTok Try.prog ft38 := ft37Ok.add (by kernel_rfl) Try.func39 (by kernel_rfl) (by kernel_rfl)
noncomputable def ft39 : Tr FI := ft38.put 40 (some (ofFunc Try.f40))
theorem ft39Ok : FTok Try.prog ft39 := ft38Ok.add (by kernel_rfl) Try.func40 (by kernel_rfl) (by kernel_rfl)
noncomputable def ft40 : Tr FI := ft39.put 41 (some (ofFunc Try.f41))
theorem ft40Ok : FTok Try.prog ft40 := ft39Ok.add (by kernel_rfl) Try.func41 (by kernel_rfl) (by kernel_rfl)
noncomputable def ft41 : Tr FI := ft40.put 42 (some (ofFunc Try.f42))
theorem ft41Ok : FTok Try.prog ft41 := ft40Ok.add (by kernel_rfl) Try.func42 (by kernel_rfl) (by kernel_rfl)
noncomputable def ft42 : Tr FI := ft41.put 43 (some (ofFunc Try.f43))
theorem ft42Ok : FTok Try.prog ft42 := ft41Ok.add (by kernel_rfl) Try.func43 (by kernel_rfl) (by kernel_rfl)
noncomputable def ft43 : Tr FI := ft42.put 44 (some (ofFunc Try.f44))
theorem ft43Ok : FTok Try.prog ft43 := ft42Ok.add (by kernel_rfl) Try.func44 (by kernel_rfl) (by kernel_rfl)
noncomputable def ft44 : Tr FI := ft43.put 45 (some (ofFunc Try.f45))
theorem ft44Ok : FTok Try.prog ft44 := ft43Ok.add (by kernel_rfl) Try.func45 (by kernel_rfl) (by kernel_rfl)
noncomputable def ft45 : Tr FI := ft44.put 46 (some (ofFunc Try.f46))
theorem ft45Ok : FTok Try.prog ft45 := ft44Ok.add (by kernel_rfl) Try.func46 (by kernel_rfl) (by kernel_rfl)
noncomputable def ft46 : Tr FI := ft45.put 47 (some (ofFunc Try.f47))
theorem ft46Ok : FTok Try.prog ft46 := ft45Ok.add (by kernel_rfl) Try.func47 (by kernel_rfl) (by kernel_rfl)
noncomputable def ft47 : Tr FI := ft46.put 48 (some (ofFunc Try.f48))
theorem ft47Ok : FTok Try.prog ft47 := ft46Ok.add (by kernel_rfl) Try.func48 (by kernel_rfl) (by kernel_rfl)
noncomputable def ft48 : Tr FI := ft47.put 49 (some (ofFunc Try.f49))
theorem ft48Ok : FTok Try.prog ft48 := ft47Ok.add (by kernel_rfl) Try.func49 (by kernel_rfl) (by kernel_rfl)
noncomputable def ft49 : Tr FI := ft48.put 50 (some (ofFunc Try.f50))
theorem ft49Ok : FTok Try.prog ft49 := ft48Ok.add (by kernel_rfl) Try.func50 (by kernel_rfl) (by kernel_rfl)
noncomputable def ft50 : Tr FI := ft49.put 51 (some (ofFunc Try.f51))
theorem ft50Ok : FTok Try.prog ft50 := ft49Ok.add (by kernel_rfl) Try.func51 (by kernel_rfl) (by kernel_rfl)
noncomputable def ft51 : Tr FI := ft50.put 52 (some (ofFunc Try.f52))
theorem ft51Ok : FTok Try.prog ft51 := ft50Ok.add (by kernel_rfl) Try.func52 (by kernel_rfl) (by kernel_rfl)
noncomputable def ft52 : Tr FI := ft51.put 53 (some (ofFunc Try.f53))
theorem ft52Ok : FTok Try.prog ft52 := ft51Ok.add (by kernel_rfl) Try.func53 (by kernel_rfl) (by kernel_rfl)
noncomputable def ft53 : Tr FI := ft52.put 54 (some (ofFunc Try.f54))
theorem ft53Ok : FTok Try.prog ft53 := ft52Ok.add (by kernel_rfl) Try.func54 (by kernel_rfl) (by kernel_rfl)
noncomputable def ft54 : Tr FI := ft53.put 55 (some (ofFunc Try.f55))
theorem ft54Ok : FTok Try.prog ft54 := ft53Ok.add (by kernel_rfl) Try.func55 (by kernel_rfl) (by kernel_rfl)
noncomputable def ft55 : Tr FI := ft54.put 56 (some (ofFunc Try.f56))
theorem ft55Ok : FTok Try.prog ft55 := ft54Ok.add (by kernel_rfl) Try.func56 (by kernel_rfl) (by kernel_rfl)
noncomputable def ft56 : Tr FI := ft55.put 57 (some (ofFunc Try.f57))
theorem ft56Ok : FTok Try.prog ft56 := ft55Ok.add (by kernel_rfl) Try.func57 (by kernel_rfl) (by kernel_rfl)
noncomputable def ft57 : Tr FI := ft56.put 58 (some (ofFunc Try.f58))
theorem ft57Ok : FTok Try.prog ft57 := ft56Ok.add (by kernel_rfl) Try.func58 (by kernel_rfl) (by kernel_rfl)
noncomputable def ft58 : Tr FI := ft57.put 59 (some (ofFunc Try.f59))
theorem ft58Ok : FTok Try.prog ft58 := ft57Ok.add (by kernel_rfl) Try.func59 (by kernel_rfl) (by kernel_rfl)
noncomputable def ft59 : Tr FI := ft58.put 60 (some (ofFunc Try.f60))
theorem ft59Ok : FTok Try.prog ft59 := ft58Ok.add (by kernel_rfl) Try.func60 (by kernel_rfl) (by kernel_rfl)
noncomputable def ft60 : Tr FI := ft59.put 61 (some (ofFunc Try.f61))
theorem ft60Ok : FTok Try.prog ft60 := ft59Ok.add (by kernel_rfl) Try.func61 (by kernel_rfl) (by kernel_rfl)
noncomputable def ft61 : Tr FI := ft60.put 62 (some (ofFunc Try.f62))
theorem ft61Ok : FTok Try.prog ft61 := ft60Ok.add (by kernel_rfl) Try.func62 (by kernel_rfl) (by kernel_rfl)
noncomputable def ft62 : Tr FI := ft61.put 63 (some (ofFunc Try.f63))
theorem ft62Ok : FTok Try.prog ft62 := ft61Ok.add (by kernel_rfl) Try.func63 (by kernel_rfl) (by kernel_rfl)
noncomputable def ft63 : Tr FI := ft62.put 64 (some (ofFunc Try.f64))
theorem ft63Ok : FTok Try.prog ft63 := ft62Ok.add (by kernel_rfl) Try.func64 (by kernel_rfl) (by kernel_rfl)
noncomputable def ft64 : Tr FI := ft63.put 65 (some (ofFunc Try.f65))
theorem ft64Ok : FTok Try.prog ft64 := ft63Ok.add (by kernel_rfl) Try.func65 (by kernel_rfl) (by kernel_rfl)
noncomputable def ft65 : Tr FI := ft64.put 66 (some (ofFunc Try.f66))
theorem ft65Ok : FTok Try.prog ft65 := ft64Ok.add (by kernel_rfl) Try.func66 (by kernel_rfl) (by kernel_rfl)
noncomputable def ft66 : Tr FI := ft65.put 67 (some (ofFunc Try.f67))
theorem ft66Ok : FTok Try.prog ft66 := ft65Ok.add (by kernel_rfl) Try.func67 (by kernel_rfl) (by kernel_rfl)
noncomputable def ft67 : Tr FI := ft66.put 68 (some (ofFunc Try.f68))
theorem ft67Ok : FTok Try.prog ft67 := ft66Ok.add (by kernel_rfl) Try.func68 (by kernel_rfl) (by kernel_rfl)
noncomputable def ft68 : Tr FI := ft67.put 69 (some (ofFunc Try.f69))
theorem ft68Ok : FTok Try.prog ft68 := ft67Ok.add (by kernel_rfl) Try.func69 (by kernel_rfl) (by kernel_rfl)
noncomputable def ft69 : Tr FI := ft68.put 70 (some (ofFunc Try.f70))
theorem ft69Ok : FTok Try.prog ft69 := ft68Ok.add (by kernel_rfl) Try.func70 (by kernel_rfl) (by kernel_rfl)
noncomputable def ft70 : Tr FI := ft69.put 71 (some (ofFunc Try.f71))
theorem ft70Ok : FTok Try.prog ft70 := ft69Ok.add (by kernel_rfl) Try.func71 (by kernel_rfl) (by kernel_rfl)
noncomputable def ft71 : Tr FI := ft70.put 72 (some (ofFunc Try.f72))
theorem ft71Ok : FTok Try.prog ft71 := ft70Ok.add (by kernel_rfl) Try.func72 (by kernel_rfl) (by kernel_rfl)
noncomputable def ft72 : Tr FI := ft71.put 73 (some (ofFunc Try.f73))
theorem ft72Ok : FTok Try.prog ft72 := ft71Ok.add (by kernel_rfl) Try.func73 (by kernel_rfl) (by kernel_rfl)
noncomputable def ft73 : Tr FI := ft72.put 74 (some (ofFunc Try.f74))
theorem ft73Ok : FTok Try.prog ft73 := ft72Ok.add (by kernel_rfl) Try.func74 (by kernel_rfl) (by kernel_rfl)
noncomputable def ft74 : Tr FI := ft73.put 75 (some (ofFunc Try.f75))
theorem ft74Ok : FTok Try.prog ft74 := ft73Ok.add (by kernel_rfl) Try.func75 (by kernel_rfl) (by kernel_rfl)
noncomputable def ft75 : Tr FI := ft74.put 76 (some (ofFunc Try.f76))
theorem ft75Ok : FTok Try.prog ft75 := ft74Ok.add (by kernel_rfl) Try.func76 (by kernel_rfl) (by kernel_rfl)
noncomputable def ft76 : Tr FI := ft75.put 77 (some (ofFunc Try.f77))
theorem ft76Ok : FTok Try.prog ft76 := ft75Ok.add (by kernel_rfl) Try.func77 (by kernel_rfl) (by kernel_rfl)
noncomputable def ft77 : Tr FI := ft76.put 78 (some (ofFunc Try.f78))
theorem ft77Ok : FTok Try.prog ft77 := ft76Ok.add (by kernel_rfl) Try.func78 (by kernel_rfl) (by kernel_rfl)
noncomputable def ft78 : Tr FI := ft77.put 79 (some (ofFunc Try.f79))
theorem ft78Ok : FTok Try.prog ft78 := ft77Ok.add (by kernel_rfl) Try.func79 (by kernel_rfl) (by kernel_rfl)
noncomputable def ft79 : Tr FI := ft78.put 80 (some (ofFuncC Try.f80 ctRepeat))
theorem ft79Ok : FTok Try.prog ft79 := ft78Ok.addC (by kernel_rfl) Try.func80 (by kernel_rfl) (by kernel_rfl) repeatOk
noncomputable def ft80 : Tr FI := ft79.put 81 (some (ofFunc Try.f81))
theorem ft80Ok : FTok Try.prog ft80 := ft79Ok.add (by kernel_rfl) Try.func81 (by kernel_rfl) (by kernel_rfl)
noncomputable def ft81 : Tr FI := ft80.put 82 (some (ofFunc Try.f82))
theorem ft81Ok : FTok Try.prog ft81 := ft80Ok.add (by kernel_rfl) Try.func82 (by kernel_rfl) (by kernel_rfl)
noncomputable def ft82 : Tr FI := ft81.put 83 (some (ofFunc Try.f83))
theorem ft82Ok : FTok Try.prog ft82 := ft81Ok.add (by kernel_rfl) Try.func83 (by kernel_rfl) (by kernel_rfl)
noncomputable def ft83 : Tr FI := ft82.put 84 (some (ofFunc Try.f84))
theorem ft83Ok : FTok Try.prog ft83 := ft82Ok.add (by kernel_rfl) Try.func84 (by kernel_rfl) (by kernel_rfl)
noncomputable def ft84 : Tr FI := ft83.put 85 (some (ofFunc Try.f85))
theorem ft84Ok : FTok Try.prog ft84 := ft83Ok.add (by kernel_rfl) Try.func85 (by kernel_rfl) (by kernel_rfl)
noncomputable def ft85 : Tr FI := ft84.put 86 (some (ofFunc Try.f86))
theorem ft85Ok : FTok Try.prog ft85 := ft84Ok.add (by kernel_rfl) Try.func86 (by kernel_rfl) (by kernel_rfl)
noncomputable def ft86 : Tr FI := ft85.put 87 (some (ofFunc Try.f87))
theorem ft86Ok : FTok Try.prog ft86 := ft85Ok.add (by kernel_rfl) Try.func87 (by kernel_rfl) (by kernel_rfl)
noncomputable def ft87 : Tr FI := ft86.put 88 (some (ofFunc Try.f88))
theorem ft87Ok : FTok Try.prog ft87 := ft86Ok.add (by kernel_rfl) Try.func88 (by kernel_rfl) (by kernel_rfl)
noncomputable def ft88 : Tr FI := ft87.put 89 (some (ofFunc Try.f89))
theorem ft88Ok : FTok Try.prog ft88 := ft87Ok.add (by kernel_rfl) Try.func89 (by kernel_rfl) (by kernel_rfl)
noncomputable def ft89 : Tr FI := ft88.put 90 (some (ofFunc Try.f90))
theorem ft89Ok : FTok Try.prog ft89 := ft88Ok.add (by kernel_rfl) Try.func90 (by kernel_rfl) (by kernel_rfl)
noncomputable def ft90 : Tr FI := ft89.put 91 (some (ofFunc Try.f91))
theorem ft90Ok : FTok Try.prog ft90 := ft89Ok.add (by kernel_rfl) Try.func91 (by kernel_rfl) (by kernel_rfl)
noncomputable def ft91 : Tr FI := ft90.put 92 (some (ofFunc Try.f92))
theorem ft91Ok : FTok Try.prog ft91 := ft90Ok.add (by kernel_rfl) Try.func92 (by kernel_rfl) (by kernel_rfl)
noncomputable def ft92 : Tr FI := ft91.put 93 (some (ofFunc Try.f93))
theorem ft92Ok : FTok Try.prog ft92 := ft91Ok.add (by kernel_rfl) Try.func93 (by kernel_rfl) (by kernel_rfl)
noncomputable def ft93 : Tr FI := ft92.put 94 (some (ofFunc Try.f94))
theorem ft93Ok : FTok Try.prog ft93 := ft92Ok.add (by kernel_rfl) Try.func94 (by kernel_rfl) (by kernel_rfl)
noncomputable def ft94 : Tr FI := ft93.put 95 (some (ofFunc Try.f95))
theorem ft94Ok : FTok Try.prog ft94 := ft93Ok.add (by kernel_rfl) Try.func95 (by kernel_rfl) (by kernel_rfl)
noncomputable def ft95 : Tr FI := ft94.put 96 (some (ofFunc Try.f96))
theorem ft95Ok : FTok Try.prog ft95 := ft94Ok.add (by kernel_rfl) Try.func96 (by kernel_rfl) (by kernel_rfl)
noncomputable def ft96 : Tr FI := ft95.put 97 (some (ofFunc Try.f97))
theorem ft96Ok : FTok Try.prog ft96 := ft95Ok.add (by kernel_rfl) Try.func97 (by kernel_rfl) (by kernel_rfl)
noncomputable def ft97 : Tr FI := ft96.put 98 (some (ofFunc Try.f98))
theorem ft97Ok : FTok Try.prog ft97 := ft96Ok.add (by kernel_rfl) Try.func98 (by kernel_rfl) (by kernel_rfl)
noncomputable def ft98 : Tr FI := ft97.put 99 (some (ofFunc Try.f99))
theorem ft98Ok : FTok Try.prog ft98 := ft97Ok.add (by kernel_rfl) Try.func99 (by kernel_rfl) (by kernel_rfl)
noncomputable def ft99 : Tr FI := ft98.put 100 (some (ofFunc Try.f100))
theorem ft99Ok : FTok Try.prog ft99 := ft98Ok.add (by kernel_rfl) Try.func100 (by kernel_rfl) (by kernel_rfl)
noncomputable def ft100 : Tr FI := ft99.put 101 (some (ofFunc Try.f101))
theorem ft100Ok : FTok Try.prog ft100 := ft99Ok.add (by kernel_rfl) Try.func101 (by kernel_rfl) (by kernel_rfl)
noncomputable def ft101 : Tr FI := ft100.put 102 (some (ofFunc Try.f102))
theorem ft101Ok : FTok Try.prog ft101 := ft100Ok.add (by kernel_rfl) Try.func102 (by kernel_rfl) (by kernel_rfl)
noncomputable def ft102 : Tr FI := ft101.put 103 (some (ofFunc Try.f103))
theorem ft102Ok : FTok Try.prog ft102 := ft101Ok.add (by kernel_rfl) Try.func103 (by kernel_rfl) (by kernel_rfl)
noncomputable def ft103 : Tr FI := ft102.put 104 (some (ofFunc Try.f104))
theorem ft103Ok : FTok Try.prog ft103 := ft102Ok.add (by kernel_rfl) Try.func104 (by kernel_rfl) (by kernel_rfl)
noncomputable def ft104 : Tr FI := ft103.put 105 (some (ofFunc Try.f105))
theorem ft104Ok : FTok Try.prog ft104 := ft103Ok.add (by kernel_rfl) Try.func105 (by kernel_rfl) (by kernel_rfl)
noncomputable def ft105 : Tr FI := ft104.put 106 (some (ofFunc Try.f106))
theorem ft105Ok : FTok Try.prog ft105 := ft104Ok.add (by kernel_rfl) Try.func106 (by kernel_rfl) (by kernel_rfl)
noncomputable def ft106 : Tr FI := ft105.put 107 (some (ofFunc Try.f107))
theorem ft106Ok : FTok Try.prog ft106 := ft105Ok.add (by kernel_rfl) Try.func107 (by kernel_rfl) (by kernel_rfl)
noncomputable def ft107 : Tr FI := ft106.put 108 (some (ofFunc Try.f108))
theorem ft107Ok : FTok Try.prog ft107 := ft106Ok.add (by kernel_rfl) Try.func108 (by kernel_rfl) (by kernel_rfl)
noncomputable def ft108 : Tr FI := ft107.put 109 (some (ofFunc Try.f109))
theorem ft108Ok : FTok Try.prog ft108 := ft107Ok.add (by kernel_rfl) Try.func109 (by kernel_rfl) (by kernel_rfl)
noncomputable def ft109 : Tr FI := ft108.put 110 (some (ofFunc Try.f110))
theorem ft109Ok : FTok Try.prog ft109 := ft108Ok.add (by kernel_rfl) Try.func110 (by kernel_rfl) (by kernel_rfl)
noncomputable def ft110 : Tr FI := ft109.put 111 (some (ofFunc Try.f111))
theorem ft110Ok : FTok Try.prog ft110 := ft109Ok.add (by kernel_rfl) Try.func111 (by kernel_rfl) (by kernel_rfl)
noncomputable def ft111 : Tr FI := ft110.put 112 (some (ofFunc Try.f112))
theorem ft111Ok : FTok Try.prog ft111 := ft110Ok.add (by kernel_rfl) Try.func112 (by kernel_rfl) (by kernel_rfl)
noncomputable def ft112 : Tr FI := ft111.put 113 (some (ofFunc Try.f113))
theorem ft112Ok : FTok Try.prog ft112 := ft111Ok.add (by kernel_rfl) Try.func113 (by kernel_rfl) (by kernel_rfl)
noncomputable def ft113 : Tr FI := ft112.put 114 (some (ofFunc Try.f114))
theorem ft113Ok : FTok Try.prog ft113 := ft112Ok.add (by kernel_rfl) Try.func114 (by kernel_rfl) (by kernel_rfl)
noncomputable def ft114 : Tr FI := ft113.put 115 (some (ofFunc Try.f115))
theorem ft114Ok : FTok Try.prog ft114 := ft113Ok.add (by kernel_rfl) Try.func115 (by kernel_rfl) (by kernel_rfl)
noncomputable def ft115 : Tr FI := ft114.put 116 (some (ofFunc Try.f116))
theorem ft115Ok : FTok Try.prog ft115 := ft114Ok.add (by kernel_rfl) Try.func116 (by kernel_rfl) (by kernel_rfl)
noncomputable def ft116 : Tr FI := ft115.put 117 (some (ofFunc Try.f117))
theorem ft116Ok : FTok Try.prog ft116 := ft115Ok.add (by kernel_rfl) Try.func117 (by kernel_rfl) (by kernel_rfl)
noncomputable def ft117 : Tr FI := ft116.put 118 (some (ofFunc Try.f118))
theorem ft117Ok : FTok Try.prog ft117 := ft116Ok.add (by kernel_rfl) Try.func118 (by kernel_rfl) (by kernel_rfl)
noncomputable def ft118 : Tr FI := ft117.put 119 (some (ofFunc Try.f119))
theorem ft118Ok : FTok Try.prog ft118 := ft117Ok.add (by kernel_rfl) Try.func119 (by kernel_rfl) (by kernel_rfl)
noncomputable def ft119 : Tr FI := ft118.put 120 (some (ofFunc Try.f120))
theorem ft119Ok : FTok Try.prog ft119 := ft118Ok.add (by kernel_rfl) Try.func120 (by kernel_rfl) (by kernel_rfl)
noncomputable def ft120 : Tr FI := ft119.put 121 (some (ofFunc Try.f121))
theorem ft120Ok : FTok Try.prog ft120 := ft119Ok.add (by kernel_rfl) Try.func121 (by kernel_rfl) (by kernel_rfl)
noncomputable def ft121 : Tr FI := ft120.put 122 (some (ofFunc Try.f122))
theorem ft121Ok : FTok Try.prog ft121 := ft120Ok.add (by kernel_rfl) Try.func122 (by kernel_rfl) (by kernel_rfl)
noncomputable def ft122 : Tr FI := ft121.put 123 (some (ofFunc Try.f123))
theorem ft122Ok : FTok Try.prog ft122 := ft121Ok.add (by kernel_rfl) Try.func123 (by kernel_rfl) (by kernel_rfl)
noncomputable def ft123 : Tr FI := ft122.put 124 (some (ofFunc Try.f124))
theorem ft123Ok : FTok Try.prog ft123 := ft122Ok.add (by kernel_rfl) Try.func124 (by kernel_rfl) (by kernel_rfl)
noncomputable def ft124 : Tr FI := ft123.put 125 (some (ofFunc Try.f125))
theorem ft124Ok : FTok Try.prog ft124 := ft123Ok.add (by kernel_rfl) Try.func125 (by kernel_rfl) (by kernel_rfl)
noncomputable def ft125 : Tr FI := ft124.put 126 (some (ofFunc Try.f126))
theorem ft125Ok : FTok Try.prog ft125 := ft124Ok.add (by kernel_rfl) Try.func126 (by kernel_rfl) (by kernel_rfl)
noncomputable def ft126 : Tr FI := ft125.put 127 (some (ofFunc Try.f127))
theorem ft126Ok : FTok Try.prog ft126 := ft125Ok.add (by kernel_rfl) Try.func127 (by kernel_rfl) (by kernel_rfl)
noncomputable def ft127 : Tr FI := ft126.put 128 (some (ofFunc Try.f128))
theorem ft127Ok : FTok Try.prog ft127 := ft126Ok.add (by kernel_rfl) Try.func128 (by kernel_rfl) (by kernel_rfl)
noncomputable def ft128 : Tr FI := ft127.put 129 (some (ofFunc Try.f129))
theorem ft128Ok : FTok Try.prog ft128 := ft127Ok.add (by kernel_rfl) Try.func129 (by kernel_rfl) (by kernel_rfl)
noncomputable def ft129 : Tr FI := ft128.put 130 (some (ofFunc Try.f130))
theorem ft129Ok : FTok Try.prog ft129 := ft128Ok.add (by kernel_rfl) Try.func130 (by kernel_rfl) (by kernel_rfl)
noncomputable def ft130 : Tr FI := ft129.put 131 (some (ofFunc Try.f131))
theorem ft130Ok : FTok Try.prog ft130 := ft129Ok.add (by kernel_rfl) Try.func131 (by kernel_rfl) (by kernel_rfl)
noncomputable def ft131 : Tr FI := ft130.put 132 (some (ofFunc Try.f132))
theorem ft131Ok : FTok Try.prog ft131 := ft130Ok.add (by kernel_rfl) Try.func132 (by kernel_rfl) (by kernel_rfl)
noncomputable def ft132 : Tr FI := ft131.put 133 (some (ofFunc Try.f133))
theorem ft132Ok : FTok Try.prog ft132 := ft131Ok.add (by kernel_rfl) Try.func133 (by kernel_rfl) (by kernel_rfl)
noncomputable def ft133 : Tr FI := ft132.put 134 (some (ofFunc Try.f134))
theorem ft133Ok : FTok Try.prog ft133 := ft132Ok.add (by kernel_rfl) Try.func134 (by kernel_rfl) (by kernel_rfl)
noncomputable def ft134 : Tr FI := ft133.put 135 (some (ofFuncC Try.f135 ctJoin))
theorem ft134Ok : FTok Try.prog ft134 := ft133Ok.addC (by kernel_rfl) Try.func135 (by kernel_rfl) (by kernel_rfl) joinOk
noncomputable def ft135 : Tr FI := ft134.put 136 (some (ofFunc Try.f136))
theorem ft135Ok : FTok Try.prog ft135 := ft134Ok.add (by kernel_rfl) Try.func136 (by kernel_rfl) (by kernel_rfl)
noncomputable def ft136 : Tr FI := ft135.put 137 (some (ofFunc Try.f137))
theorem ft136Ok : FTok Try.prog ft136 := ft135Ok.add (by kernel_rfl) Try.func137 (by kernel_rfl) (by kernel_rfl)
noncomputable def ft137 : Tr FI := ft136.put 138 (some (ofFunc Try.f138))
theorem ft137Ok : FTok Try.prog ft137 := ft136Ok.add (by kernel_rfl) Try.func138 (by kernel_rfl) (by kernel_rfl)
noncomputable def ft138 : Tr FI := ft137.put 139 (some (ofFunc Try.f139))
theorem ft138Ok : FTok Try.prog ft138 := ft137Ok.add (by kernel_rfl) Try.func139 (by kernel_rfl) (by kernel_rfl)
noncomputable def ft139 : Tr FI := ft138.put 140 (some (ofFunc Try.f140))
theorem ft139Ok : FTok Try.prog ft139 := ft138Ok.add (by kernel_rfl) Try.func140 (by kernel_rfl) (by kernel_rfl)
noncomputable def ft140 : Tr FI := ft139.put 141 (some (ofFunc Try.f141))
theorem ft140Ok : FTok Try.prog ft140 := ft139Ok.add (by kernel_rfl) Try.func141 (by kernel_rfl) (by kernel_rfl)
noncomputable def ft141 : Tr FI := ft140.put 142 (some (ofFunc Try.f142))
theorem ft141Ok : FTok Try.prog ft141 := ft140Ok.add (by kernel_rfl) Try.func142 (by kernel_rfl) (by kernel_rfl)
noncomputable def ft142 : Tr FI := ft141.put 143 (some (ofFunc Try.f143))
theorem ft142Ok : FTok Try.prog ft142 := ft141Ok.add (by kernel_rfl) Try.func143 (by kernel_rfl) (by kernel_rfl)
noncomputable def ft143 : Tr FI := ft142.put 144 (some (ofFunc Try.f144))
theorem ft143Ok : FTok Try.prog ft143 := ft142Ok.add (by kernel_rfl) Try.func144 (by kernel_rfl) (by kernel_rfl)
noncomputable def ft144 : Tr FI := ft143.put 145 (some (ofFunc Try.f145))
theorem ft144Ok : FTok Try.prog ft144 := ft143Ok.add (by kernel_rfl) Try.func145 (by kernel_rfl) (by kernel_rfl)
noncomputable def ft145 : Tr FI := ft144.put 146 (some (ofFunc Try.f146))
theorem ft145Ok : FTok Try.prog ft145 := ft144Ok.add (by kernel_rfl) Try.func146 (by kernel_rfl) (by kernel_rfl)
noncomputable def ft146 : Tr FI := ft145.put 147 (some (ofFunc Try.f147))
theorem ft146Ok : FTok Try.prog ft146 := ft145Ok.add (by kernel_rfl) Try.func147 (by kernel_rfl) (by kernel_rfl)
noncomputable def ft147 : Tr FI := ft146.put 148 (some (ofFunc Try.f148))
theorem ft147Ok : FTok Try.prog ft147 := ft146Ok.add (by kernel_rfl) Try.func148 (by kernel_rfl) (by kernel_rfl)
noncomputable def ft148 : Tr FI := ft147.put 149 (some (ofFunc Try.f149))
theorem ft148Ok : FTok Try.prog ft148 := ft147Ok.add (by kernel_rfl) Try.func149 (by kernel_rfl) (by kernel_rfl)
noncomputable def ft149 : Tr FI := ft148.put 150 (some (ofFunc Try.f150))
theorem ft149Ok : FTok Try.prog ft149 := ft148Ok.add (by kernel_rfl) Try.func150 (by kernel_rfl) (by kernel_rfl)
noncomputable def ft150 : Tr FI := ft149.put 151 (some (ofFunc Try.f151))
theorem ft150Ok : FTok Try.prog ft150 := ft149Ok.add (by kernel_rfl) Try.func151 (by kernel_rfl) (by kernel_rfl)
noncomputable def ft151 : Tr FI := ft150.put 152 (some (ofFunc Try.f152))
theorem ft151Ok : FTok Try.prog ft151 := ft150Ok.add (by kernel_rfl) Try.func152 (by kernel_rfl) (by kernel_rfl)
noncomputable def ft152 : Tr FI := ft151.put 153 (some (ofFunc Try.f153))
theorem ft152Ok : FTok Try.prog ft152 := ft151Ok.add (by kernel_rfl) Try.func153 (by kernel_rfl) (by kernel_rfl)
noncomputable def ft153 : Tr FI := ft152.put 154 (some (ofFunc Try.f154))
theorem ft153Ok : FTok Try.prog ft153 := ft152Ok.add (by kernel_rfl) Try.func154 (by kernel_rfl) (by kernel_rfl)
noncomputable def ft154 : Tr FI := ft153.put 155 (some (ofFunc Try.f155))
theorem ft154Ok : FTok Try.prog ft154 := ft153Ok.add (by kernel_rfl) Try.func155 (by kernel_rfl) (by kernel_rfl)
noncomputable def ft155 : Tr FI := ft154.put 156 (some (ofFunc Try.f156))
theorem ft155Ok : FTok Try.prog ft155 := ft154Ok.add (by kernel_rfl) Try.func156 (by kernel_rfl) (by kernel_rfl)
noncomputable def ft156 : Tr FI := ft155.put 157 (some (ofFunc Try.f157))
theorem ft156Ok : FTok Try.prog ft156 := ft155Ok.add (by kernel_rfl) Try.func157 (by kernel_rfl) (by kernel_rfl)
noncomputable def ft157 : Tr FI := ft156.put 158 (some (ofFunc Try.f158))
theorem ft157Ok : FTok Try.prog ft157 := ft156Ok.add (by kernel_rfl) Try.func158 (by kernel_rfl) (by kernel_rfl)
noncomputable def ft158 : Tr FI := ft157.put 159 (some (ofFunc Try.f159))
theorem ft158Ok : FTok Try.prog ft158 := ft157Ok.add (by kernel_rfl) Try.func159 (by kernel_rfl) (by kernel_rfl)
noncomputable def ft159 : Tr FI := ft158.put 160 (some (ofFunc Try.f160))
theorem ft159Ok : FTok Try.prog ft159 := ft158Ok.add (by kernel_rfl) Try.func160 (by kernel_rfl) (by kernel_rfl)
noncomputable def ft160 : Tr FI := ft159.put 161 (some (ofFunc Try.f161))
theorem ft160Ok : FTok Try.prog ft160 := ft159Ok.add (by kernel_rfl) Try.func161 (by kernel_rfl) (by kernel_rfl)
noncomputable def ft161 : Tr FI := ft160.put 162 (some (ofFunc Try.f162))
theorem ft161Ok : FTok Try.prog ft161 := ft160Ok.add (by kernel_rfl) Try.func162 (by kernel_rfl) (by kernel_rfl)
noncomputable def ft162 : Tr FI := ft161.put 163 (some (ofFunc Try.f163))
theorem ft162Ok : FTok Try.prog ft162 := ft161Ok.add (by kernel_rfl) Try.func163 (by kernel_rfl) (by kernel_rfl)
noncomputable def ft163 : Tr FI := ft162.put 164 (some (ofFunc Try.f164))
theorem ft163Ok : FTok Try.prog ft163 := ft162Ok.add (by kernel_rfl) Try.func164 (by kernel_rfl) (by kernel_rfl)
noncomputable def ft164 : Tr FI := ft163.put 165 (some (ofFunc Try.f165))
theorem ft164Ok : FTok Try.prog ft164 := ft163Ok.add (by kernel_rfl) Try.func165 (by kernel_rfl) (by kernel_rfl)
noncomputable def ft165 : Tr FI := ft164.put 166 (some (ofFunc Try.f166))
theorem ft165Ok : FTok Try.prog ft165 := ft164Ok.add (by kernel_rfl) Try.func166 (by kernel_rfl) (by kernel_rfl)
noncomputable def ft166 : Tr FI := ft165.put 167 (some (ofFunc Try.f167))
theorem ft166Ok : FTok Try.prog ft166 := ft165Ok.add (by kernel_rfl) Try.func167 (by kernel_rfl) (by kernel_rfl)
noncomputable def ft167 : Tr FI := ft166.put 168 (some (ofFunc Try.f168))
theorem ft167Ok : FTok Try.prog ft167 := ft166Ok.add (by kernel_rfl) Try.func168 (by kernel_rfl) (by kernel_rfl)
noncomputable def ft168 : Tr FI := ft167.put 169 (some (ofFunc Try.f169))
theorem ft168Ok : FTok Try.prog ft168 := ft167Ok.add (by kernel_rfl) Try.func169 (by kernel_rfl) (by kernel_rfl)
noncomputable def ft169 : Tr FI := ft168.put 170 (some (ofFunc Try.f170))
theorem ft169Ok : FTok Try.prog ft169 := ft168Ok.add (by kernel_rfl) Try.func170 (by kernel_rfl) (by kernel_rfl)
noncomputable def ft170 : Tr FI := ft169.put 171 (some (ofFunc Try.f171))
theorem ft170Ok : FTok Try.prog ft170 := ft169Ok.add (by kernel_rfl) Try.func171 (by kernel_rfl) (by kernel_rfl)
noncomputable def ft171 : Tr FI := ft170.put 172 (some (ofFunc Try.f172))
theorem ft171Ok : FTok Try.prog ft171 := ft170Ok.add (by kernel_rfl) Try.func172 (by kernel_rfl) (by kernel_rfl)
noncomputable def ft172 : Tr FI := ft171.put 173 (some (ofFunc Try.f173))
theorem ft172Ok : FTok Try.prog ft172 := ft171Ok.add (by kernel_rfl) Try.func173 (by kernel_rfl) (by kernel_rfl)
noncomputable def ft173 : Tr FI := ft172.put 174 (some (ofFunc Try.f174))
theorem ft173Ok : FTok Try.prog ft173 := ft172Ok.add (by kernel_rfl) Try.func174 (by kernel_rfl) (by kernel_rfl)
noncomputable def ft174 : Tr FI := ft173.put 175 (some (ofFunc Try.f175))
theorem ft174Ok : FTok Try.prog ft174 := ft173Ok.add (by kernel_rfl) Try.func175 (by kernel_rfl) (by kernel_rfl)
noncomputable def ft175 : Tr FI := ft174.put 176 (some (ofFunc Try.f176))
theorem ft175Ok : FTok Try.prog ft175 := ft174Ok.add (by kernel_rfl) Try.func176 (by kernel_rfl) (by kernel_rfl)
noncomputable def ft176 : Tr FI := ft175.put 177 (some (ofFunc Try.f177))
theorem ft176Ok : FTok Try.prog ft176 := ft175Ok.add (by kernel_rfl) Try.func177 (by kernel_rfl) (by kernel_rfl)
noncomputable def ft177 : Tr FI := ft176.put 178 (some (ofFunc Try.f178))
theorem ft177Ok : FTok Try.prog ft177 := ft176Ok.add (by kernel_rfl) Try.func178 (by kernel_rfl) (by kernel_rfl)
noncomputable def ft178 : Tr FI := ft177.put 179 (some (ofFunc Try.f179))
theorem ft178Ok : FTok Try.prog ft178 := ft177Ok.add (by kernel_rfl) Try.func179 (by kernel_rfl) (by kernel_rfl)
noncomputable def ft179 : Tr FI := ft178.put 180 (some (ofFunc Try.f180))
theorem ft179Ok : FTok Try.prog ft179 := ft178Ok.add (by kernel_rfl) Try.func180 (by kernel_rfl) (by kernel_rfl)
noncomputable def ft180 : Tr FI := ft179.put 181 (some (ofFunc Try.f181))
theorem ft180Ok : FTok Try.prog ft180 := ft179Ok.add (by kernel_rfl) Try.func181 (by kernel_rfl) (by kernel_rfl)
noncomputable def ft181 : Tr FI := ft180.put 182 (some (ofFunc Try.f182))
theorem ft181Ok : FTok Try.prog ft181 := ft180Ok.add (by kernel_rfl) Try.func182 (by kernel_rfl) (by kernel_rfl)
noncomputable def ft182 : Tr FI := ft181.put 183 (some (ofFunc Try.f183))
theorem ft182Ok : FTok Try.prog ft182 := ft181Ok.add (by kernel_rfl) Try.func183 (by kernel_rfl) (by kernel_rfl)
noncomputable def ft183 : Tr FI := ft182.put 184 (some (ofFunc Try.f184))
theorem ft183Ok : FTok Try.prog ft183 := ft182Ok.add (by kernel_rfl) Try.func184 (by kernel_rfl) (by kernel_rfl)
noncomputable def ft184 : Tr FI := ft183.put 185 (some (ofFunc Try.f185))
theorem ft184Ok : FTok Try.prog ft184 := ft183Ok.add (by kernel_rfl) Try.func185 (by kernel_rfl) (by kernel_rfl)
noncomputable def ft185 : Tr FI := ft184.put 186 (some (ofFunc Try.f186))
theorem ft185Ok : FTok Try.prog ft185 := ft184Ok.add (by kernel_rfl) Try.func186 (by kernel_rfl) (by kernel_rfl)
noncomputable def ft186 : Tr FI := ft185.put 187 (some (ofFunc Try.f187))
theorem ft186Ok : FTok Try.prog ft186 := ft185Ok.add (by kernel_rfl) Try.func187 (by kernel_rfl) (by kernel_rfl)
noncomputable def ft187 : Tr FI := ft186.put 188 (some (ofFunc Try.f188))
theorem ft187Ok : FTok Try.prog ft187 := ft186Ok.add (by kernel_rfl) Try.func188 (by kernel_rfl) (by kernel_rfl)
noncomputable def ft188 : Tr FI := ft187.put 189 (some (ofFunc Try.f189))
theorem ft188Ok : FTok Try.prog ft188 := ft187Ok.add (by kernel_rfl) Try.func189 (by kernel_rfl) (by kernel_rfl)
noncomputable def ft189 : Tr FI := ft188.put 190 (some (ofFunc Try.f190))
theorem ft189Ok : FTok Try.prog ft189 := ft188Ok.add (by kernel_rfl) Try.func190 (by kernel_rfl) (by kernel_rfl)
noncomputable def ft190 : Tr FI := ft189.put 191 (some (ofFunc Try.f191))
theorem ft190Ok : FTok Try.prog ft190 := ft189Ok.add (by kernel_rfl) Try.func191 (by kernel_rfl) (by kernel_rfl)
noncomputable def ft191 : Tr FI := ft190.put 192 (some (ofFunc Try.f192))
theorem ft191Ok : FTok Try.prog ft191 := ft190Ok.add (by kernel_rfl) Try.func192 (by kernel_rfl) (by kernel_rfl)
noncomputable def ft192 : Tr FI := ft191.put 193 (some (ofFunc Try.f193))
theorem ft192Ok : FTok Try.prog ft192 := ft191Ok.add (by kernel_rfl) Try.func193 (by kernel_rfl) (by kernel_rfl)
noncomputable def ft193 : Tr FI := ft192.put 194 (some (ofFunc Try.f194))
theorem ft193Ok : FTok Try.prog ft193 := ft192Ok.add (by kernel_rfl) Try.func194 (by kernel_rfl) (by kernel_rfl)
noncomputable def ft194 : Tr FI := ft193.put 195 (some (ofFunc Try.f195))
theorem ft194Ok : FTok Try.prog ft194 := ft193Ok.add (by kernel_rfl) Try.func195 (by kernel_rfl) (by kernel_rfl)
noncomputable def ft195 : Tr FI := ft194.put 196 (some (ofFunc Try.f196))
theorem ft195Ok : FTok Try.prog ft195 := ft194Ok.add (by kernel_rfl) Try.func196 (by kernel_rfl) (by kernel_rfl)
noncomputable def ft196 : Tr FI := ft195.put 197 (some (ofFunc Try.f197))
theorem ft196Ok : FTok Try.prog ft196 := ft195Ok.add (by kernel_rfl) Try.func197 (by kernel_rfl) (by kernel_rfl)
noncomputable def ft197 : Tr FI := ft196.put 198 (some (ofFunc Try.f198))
theorem ft197Ok : FTok Try.prog ft197 := ft196Ok.add (by kernel_rfl) Try.func198 (by kernel_rfl) (by kernel_rfl)
noncomputable def ft198 : Tr FI := ft197.put 199 (some (ofFunc Try.f199))
theorem ft198Ok : FTok Try.prog ft198 := ft197Ok.add (by kernel_rfl) Try.func199 (by kernel_rfl) (by kernel_rfl)
noncomputable def ft199 : Tr FI := ft198.put 200 (some (ofFunc Try.f200))
theorem ft199Ok : FTok Try.prog ft199 := ft198Ok.add (by kernel_rfl) Try.func200 (by kernel_rfl) (by kernel_rfl)
noncomputable def ft200 : Tr FI := ft199.put 201 (some (ofFunc Try.f201))
theorem ft200Ok : FTok Try.prog ft200 := ft199Ok.add (by kernel_rfl) Try.func201 (by kernel_rfl) (by kernel_rfl)
noncomputable def ft201 : Tr FI := ft200.put 202 (some (ofFunc Try.f202))
theorem ft201Ok : FTok Try.prog ft201 := ft200Ok.add (by kernel_rfl) Try.func202 (by kernel_rfl) (by kernel_rfl)
noncomputable def ft202 : Tr FI := ft201.put 203 (some (ofFunc Try.f203))
theorem ft202Ok : FTok Try.prog ft202 := ft201Ok.add (by kernel_rfl) Try.func203 (by kernel_rfl) (by kernel_rfl)
noncomputable def ft203 : Tr FI := ft202.put 204 (some (ofFunc Try.f204))
theorem ft203Ok : FTok Try.prog ft203 := ft202Ok.add (by kernel_rfl) Try.func204 (by kernel_rfl) (by kernel_rfl)
noncomputable def ft204 : Tr FI := ft203.put 205 (some (ofFunc Try.f205))
theorem ft204Ok : FTok Try.prog ft204 := ft203Ok.add (by kernel_rfl) Try.func205 (by kernel_rfl) (by kernel_rfl)
noncomputable def ft205 : Tr FI := ft204.put 208 (some (ofFuncD Try.f208 3))
theorem ft205Ok : FTok Try.prog ft205 := ft204Ok.addD (by kernel_rfl) Try.func208 (by kernel_rfl) (by kernel_rfl) lookIdle
noncomputable def ft206 : Tr FI := ft205.put 209 (some (ofFunc Try.f209))
theorem ft206Ok : FTok Try.prog ft206 := ft205Ok.add (by kernel_rfl) Try.func209 (by kernel_rfl) (by kernel_rfl)
noncomputable def ft207 : Tr FI := ft206.put 210 (some (ofFunc Try.f210))
theorem ft207Ok : FTok Try.prog ft207 := ft206Ok.add (by kernel_rfl) Try.func210 (by kernel_rfl) (by kernel_rfl)
noncomputable def ft208 : Tr FI := ft207.put 211 (some (ofFunc Try.f211))
theorem ft208Ok : FTok Try.prog ft208 := ft207Ok.add (by kernel_rfl) Try.func211 (by kernel_rfl) (by kernel_rfl)
noncomputable def ft209 : Tr FI := ft208.put 212 (some (ofFunc Try.f212))
theorem ft209Ok : FTok Try.prog ft209 := ft208Ok.add (by kernel_rfl) Try.func212 (by kernel_rfl) (by kernel_rfl)
noncomputable def ft210 : Tr FI := ft209.put 213 (some (ofFunc Try.f213))
theorem ft210Ok : FTok Try.prog ft210 := ft209Ok.add (by kernel_rfl) Try.func213 (by kernel_rfl) (by kernel_rfl)
noncomputable def ft211 : Tr FI := ft210.put 214 (some (ofFunc Try.f214))
theorem ft211Ok : FTok Try.prog ft211 := ft210Ok.add (by kernel_rfl) Try.func214 (by kernel_rfl) (by kernel_rfl)
noncomputable def ft212 : Tr FI := ft211.put 215 (some (ofFunc Try.f215))
theorem ft212Ok : FTok Try.prog ft212 := ft211Ok.add (by kernel_rfl) Try.func215 (by kernel_rfl) (by kernel_rfl)
noncomputable def ft213 : Tr FI := ft212.put 216 (some (ofFunc Try.f216))
theorem ft213Ok : FTok Try.prog ft213 := ft212Ok.add (by kernel_rfl) Try.func216 (by kernel_rfl) (by kernel_rfl)
noncomputable def ft214 : Tr FI := ft213.put 217 (some (ofFunc Try.f217))
theorem ft214Ok : FTok Try.prog ft214 := ft213Ok.add (by kernel_rfl) Try.func217 (by kernel_rfl) (by kernel_rfl)
noncomputable def ft215 : Tr FI := ft214.put 218 (some (ofFunc Try.f218))
theorem ft215Ok : FTok Try.prog ft215 := ft214Ok.add (by kernel_rfl) Try.func218 (by kernel_rfl) (by kernel_rfl)
noncomputable def ft216 : Tr FI := ft215.put 219 (some (ofFunc Try.f219))
theorem ft216Ok : FTok Try.prog ft216 := ft215Ok.add (by kernel_rfl) Try.func219 (by kernel_rfl) (by kernel_rfl)
noncomputable def ft217 : Tr FI := ft216.put 220 (some (ofFunc Try.f220))
theorem ft217Ok : FTok Try.prog ft217 := ft216Ok.add (by kernel_rfl) Try.func220 (by kernel_rfl) (by kernel_rfl)
noncomputable def ft218 : Tr FI := ft217.put 221 (some (ofFunc Try.f221))
theorem ft218Ok : FTok Try.prog ft218 := ft217Ok.add (by kernel_rfl) Try.func221 (by kernel_rfl) (by kernel_rfl)
noncomputable def ft219 : Tr FI := ft218.put 222 (some (ofFunc Try.f222))
theorem ft219Ok : FTok Try.prog ft219 := ft218Ok.add (by kernel_rfl) Try.func222 (by kernel_rfl) (by kernel_rfl)
noncomputable def ft220 : Tr FI := ft219.put 223 (some (ofFunc Try.f223))
theorem ft220Ok : FTok Try.prog ft220 := ft219Ok.add (by kernel_rfl) Try.func223 (by kernel_rfl) (by kernel_rfl)
noncomputable def ft221 : Tr FI := ft220.put 225 (some (ofFunc Try.f225))
theorem ft221Ok : FTok Try.prog ft221 := ft220Ok.add (by kernel_rfl) Try.func225 (by kernel_rfl) (by kernel_rfl)
noncomputable def ft222 : Tr FI := ft221.put 226 (some (ofFunc Try.f226))
theorem ft222Ok : FTok Try.prog ft222 := ft221Ok.add (by kernel_rfl) Try.func226 (by kernel_rfl) (by kernel_rfl)
noncomputable def ft223 : Tr FI := ft222.put 227 (some (ofFunc Try.f227))
theorem ft223Ok : FTok Try.prog ft223 := ft222Ok.add (by kernel_rfl) Try.func227 (by kernel_rfl) (by kernel_rfl)
noncomputable def ft224 : Tr FI := ft223.put 228 (some (ofFunc Try.f228))
theorem ft224Ok : FTok Try.prog ft224 := ft223Ok.add (by kernel_rfl) Try.func228 (by kernel_rfl) (by kernel_rfl)
noncomputable def ft225 : Tr FI := ft224.put 229 (some (ofFunc Try.f229))
theorem ft225Ok : FTok Try.prog ft225 := ft224Ok.add (by kernel_rfl) Try.func229 (by kernel_rfl) (by kernel_rfl)
noncomputable def ft226 : Tr FI := ft225.put 230 (some (ofFunc Try.f230))
theorem ft226Ok : FTok Try.prog ft226 := ft225Ok.add (by kernel_rfl) Try.func230 (by kernel_rfl) (by kernel_rfl)
noncomputable def ft227 : Tr FI := ft226.put 231 (some (ofFunc Try.f231))
theorem ft227Ok : FTok Try.prog ft227 := ft226Ok.add (by kernel_rfl) Try.func231 (by kernel_rfl) (by kernel_rfl)
noncomputable def ft228 : Tr FI := ft227.put 232 (some (ofFunc Try.f232))
theorem ft228Ok : FTok Try.prog ft228 := ft227Ok.add (by kernel_rfl) Try.func232 (by kernel_rfl) (by kernel_rfl)
noncomputable def ft229 : Tr FI := ft228.put 233 (some (ofFunc Try.f233))
theorem ft229Ok : FTok Try.prog ft229 := ft228Ok.add (by kernel_rfl) Try.func233 (by kernel_rfl) (by kernel_rfl)
noncomputable def ft230 : Tr FI := ft229.put 234 (some (ofFunc Try.f234))
theorem ft230Ok : FTok Try.prog ft230 := ft229Ok.add (by kernel_rfl) Try.func234 (by kernel_rfl) (by kernel_rfl)
noncomputable def ft231 : Tr FI := ft230.put 235 (some (ofFunc Try.f235))
theorem ft231Ok : FTok Try.prog ft231 := ft230Ok.add (by kernel_rfl) Try.func235 (by kernel_rfl) (by kernel_rfl)
noncomputable def ft232 : Tr FI := ft231.put 236 (some (ofFunc Try.f236))
theorem ft232Ok : FTok Try.prog ft232 := ft231Ok.add (by kernel_rfl) Try.func236 (by kernel_rfl) (by kernel_rfl)
noncomputable def ft233 : Tr FI := ft232.put 237 (some (ofFunc Try.f237))
theorem ft233Ok : FTok Try.prog ft233 := ft232Ok.add (by kernel_rfl) Try.func237 (by kernel_rfl) (by kernel_rfl)
noncomputable def ft234 : Tr FI := ft233.put 238 (some (ofFunc Try.f238))
theorem ft234Ok : FTok Try.prog ft234 := ft233Ok.add (by kernel_rfl) Try.func238 (by kernel_rfl) (by kernel_rfl)
noncomputable def ft235 : Tr FI := ft234.put 239 (some (ofFunc Try.f239))
theorem ft235Ok : FTok Try.prog ft235 := ft234Ok.add (by kernel_rfl) Try.func239 (by kernel_rfl) (by kernel_rfl)
noncomputable def ft236 : Tr FI := ft235.put 240 (some (ofFunc Try.f240))
theorem ft236Ok : FTok Try.prog ft236 := ft235Ok.add (by kernel_rfl) Try.func240 (by kernel_rfl) (by kernel_rfl)
noncomputable def ft237 : Tr FI := ft236.put 241 (some (ofFunc Try.f241))
theorem ft237Ok : FTok Try.prog ft237 := ft236Ok.add (by kernel_rfl) Try.func241 (by kernel_rfl) (by kernel_rfl)
noncomputable def ft238 : Tr FI := ft237.put 242 (some (ofFunc Try.f242))
theorem ft238Ok : FTok Try.prog ft238 := ft237Ok.add (by kernel_rfl) Try.func242 (by kernel_rfl) (by kernel_rfl)
noncomputable def ft239 : Tr FI := ft238.put 243 (some (ofFunc Try.f243))
theorem ft239Ok : FTok Try.prog ft239 := ft238Ok.add (by kernel_rfl) Try.func243 (by kernel_rfl) (by kernel_rfl)
noncomputable def ft240 : Tr FI := ft239.put 244 (some (ofFunc Try.f244))
theorem ft240Ok : FTok Try.prog ft240 := ft239Ok.add (by kernel_rfl) Try.func244 (by kernel_rfl) (by kernel_rfl)
noncomputable def ft241 : Tr FI := ft240.put 245 (some (ofFunc Try.f245))
theorem ft241Ok : FTok Try.prog ft241 := ft240Ok.add (by kernel_rfl) Try.func245 (by kernel_rfl) (by kernel_rfl)
noncomputable def ft242 : Tr FI := ft241.put 246 (some (ofFunc Try.f246))
theorem ft242Ok : FTok Try.prog ft242 := ft241Ok.add (by kernel_rfl) Try.func246 (by kernel_rfl) (by kernel_rfl)
noncomputable def ft243 : Tr FI := ft242.put 247 (some (ofFunc Try.f247))
theorem ft243Ok : FTok Try.prog ft243 := ft242Ok.add (by kernel_rfl) Try.func247 (by kernel_rfl) (by kernel_rfl)
noncomputable def ft244 : Tr FI := ft243.put 248 (some (ofFunc Try.f248))
theorem ft244Ok : FTok Try.prog ft244 := ft243Ok.add (by kernel_rfl) Try.func248 (by kernel_rfl) (by kernel_rfl)
noncomputable def ft245 : Tr FI := ft244.put 249 (some (ofFunc Try.f249))
theorem ft245Ok : FTok Try.prog ft245 := ft244Ok.add (by kernel_rfl) Try.func249 (by kernel_rfl) (by kernel_rfl)
noncomputable def ft246 : Tr FI := ft245.put 250 (some (ofFunc Try.f250))
theorem ft246Ok : FTok Try.prog ft246 := ft245Ok.add (by kernel_rfl) Try.func250 (by kernel_rfl) (by kernel_rfl)
noncomputable def ft247 : Tr FI := ft246.put 251 (some (ofFunc Try.f251))
theorem ft247Ok : FTok Try.prog ft247 := ft246Ok.add (by kernel_rfl) Try.func251 (by kernel_rfl) (by kernel_rfl)
noncomputable def ft248 : Tr FI := ft247.put 252 (some (ofFunc Try.f252))
theorem ft248Ok : FTok Try.prog ft248 := ft247Ok.add (by kernel_rfl) Try.func252 (by kernel_rfl) (by kernel_rfl)
noncomputable def ft249 : Tr FI := ft248.put 253 (some (ofFunc Try.f253))
theorem ft249Ok : FTok Try.prog ft249 := ft248Ok.add (by kernel_rfl) Try.func253 (by kernel_rfl) (by kernel_rfl)
noncomputable def ft250 : Tr FI := ft249.put 254 (some (ofFunc Try.f254))
theorem ft250Ok : FTok Try.prog ft250 := ft249Ok.add (by kernel_rfl) Try.func254 (by kernel_rfl) (by kernel_rfl)
noncomputable def ft251 : Tr FI := ft250.put 255 (some (ofFunc Try.f255))
theorem ft251Ok : FTok Try.prog ft251 := ft250Ok.add (by kernel_rfl) Try.func255 (by kernel_rfl) (by kernel_rfl)
noncomputable def ft252 : Tr FI := ft251.put 256 (some (ofFunc Try.f256))
theorem ft252Ok : FTok Try.prog ft252 := ft251Ok.add (by kernel_rfl) Try.func256 (by kernel_rfl) (by kernel_rfl)
noncomputable def ft253 : Tr FI := ft252.put 257 (some (ofFunc Try.f257))
theorem ft253Ok : FTok Try.prog ft253 := ft252Ok.add (by kernel_rfl) Try.func257 (by kernel_rfl) (by kernel_rfl)
noncomputable def ft254 : Tr FI := ft253.put 258 (some (ofFunc Try.f258))
theorem ft254Ok : FTok Try.prog ft254 := ft253Ok.add (by kernel_rfl) Try.func258 (by kernel_rfl) (by kernel_rfl)
noncomputable def ft : Tr FI := (.node none (.node none (.node none (.node none (.node none (.node none (.node none (.node none (.node none .nil (.node (some (ofFunc Try.f256)) .nil .nil)) (.node (some (ofFunc Try.f128)) .nil .nil)) (.node (some (ofFunc Try.f64)) .nil (.node (some (ofFunc Try.f192)) .nil .nil))) (.node (some (ofFunc Try.f32)) (.node none .nil (.node (some (ofFunc Try.f160)) .nil .nil)) (.node (some (ofFunc Try.f96)) .nil .nil))) (.node (some (ofFunc Try.f16)) (.node none (.node none .nil (.node (some (ofFunc Try.f144)) .nil .nil)) (.node (some (ofFuncC Try.f80 ctRepeat)) .nil (.node (some (ofFuncD Try.f208 3)) .nil .nil))) (.node (some (ofFunc Try.f48)) (.node none .nil (.node (some (ofFunc Try.f176)) .nil .nil)) (.node (some (ofFunc Try.f112)) .nil (.node (some (ofFunc Try.f240)) .nil .nil))))) (.node (some (ofFunc Try.f8)) (.node none (.node none (.node none .nil (.node (some (ofFunc Try.f136)) .nil .nil)) (.node (some (ofFunc Try.f72)) .nil (.node (some (ofFunc Try.f200)) .nil .nil))) (.node (some (ofFunc Try.f40)) (.node none .nil (.node (some (ofFunc Try.f168)) .nil .nil)) (.node (some (ofFunc Try.f104)) .nil (.node (some (ofFunc Try.f232)) .nil .nil)))) (.node (some (ofFunc Try.f24)) (.node none (.node none .nil (.node (some (ofFunc Try.f152)) .nil .nil)) (.node (some (ofFunc Try.f88)) .nil (.node (some (ofFunc Try.f216)) .nil .nil))) (.node (some (ofFunc Try.f56)) (.node none .nil (.node (some (ofFunc Try.f184)) .nil .nil)) (.node (some (ofFunc Try.f120)) .nil (.node (some (ofFunc Try.f248)) .nil .nil)))))) (.node (some (ofFunc Try.f4)) (.node none (.node none (.node none (.node none .nil (.node (some (ofFunc Try.f132)) .nil .nil)) (.node (some (ofFunc Try.f68)) .nil (.node (some (ofFunc Try.f196)) .nil .nil))) (.node (some (ofFunc Try.f36)) (.node none .nil (.node (some (ofFunc Try.f164)) .nil .nil)) (.node (some (ofFunc Try.f100)) .nil (.node (some (ofFunc Try.f228)) .nil .nil)))) (.node (some (ofFunc Try.f20)) (.node none (.node none .nil (.node (some (ofFunc Try.f148)) .nil .nil)) (.node (some (ofFunc Try.f84)) .nil (.node (some (ofFunc Try.f212)) .nil .nil))) (.node (some (ofFunc Try.f52)) (.node none .nil (.node (some (ofFunc Try.f180)) .nil .nil)) (.node (some (ofFunc Try.f116)) .nil (.node (some (ofFunc Try.f244)) .nil .nil))))) (.node (some (ofFunc Try.f12)) (.node none (.node none (.node none .nil (.node (some (ofFunc Try.f140)) .nil .nil)) (.node (some (ofFunc Try.f76)) .nil (.node (some (ofFunc Try.f204)) .nil .nil))) (.node (some (ofFunc Try.f44)) (.node none .nil (.node (some (ofFunc Try.f172)) .nil .nil)) (.node (some (ofFunc Try.f108)) .nil (.node (some (ofFunc Try.f236)) .nil .nil)))) (.node (some (ofFunc Try.f28)) (.node none (.node none .nil (.node (some (ofFunc Try.f156)) .nil .nil)) (.node (some (ofFunc Try.f92)) .nil (.node (some (ofFunc Try.f220)) .nil .nil))) (.node (some (ofFunc Try.f60)) (.node none .nil (.node (some (ofFunc Try.f188)) .nil .nil)) (.node (some (ofFunc Try.f124)) .nil (.node (some (ofFunc Try.f252)) .nil .nil))))))) (.node (some (ofFunc Try.f2)) (.node none (.node none (.node none (.node none (.node none (.node none .nil (.node (some (ofFunc Try.f258)) .nil .nil)) (.node (some (ofFunc Try.f130)) .nil .nil)) (.node (some (ofFunc Try.f66)) .nil (.node (some (ofFunc Try.f194)) .nil .nil))) (.node (some (ofFunc Try.f34)) (.node none .nil (.node (some (ofFunc Try.f162)) .nil .nil)) (.node (some (ofFunc Try.f98)) .nil (.node (some (ofFunc Try.f226)) .nil .nil)))) (.node (some (ofFunc Try.f18)) (.node none (.node none .nil (.node (some (ofFunc Try.f146)) .nil .nil)) (.node (some (ofFunc Try.f82)) .nil (.node (some (ofFunc Try.f210)) .nil .nil))) (.node (some (ofFunc Try.f50)) (.node none .nil (.node (some (ofFunc Try.f178)) .nil .nil)) (.node (some (ofFunc Try.f114)) .nil (.node (some (ofFunc Try.f242)) .nil .nil))))) (.node (some (ofFunc Try.f10)) (.node none (.node none (.node none .nil (.node (some (ofFunc Try.f138)) .nil .nil)) (.node (some (ofFunc Try.f74)) .nil (.node (some (ofFunc Try.f202)) .nil .nil))) (.node (some (ofFunc Try.f42)) (.node none .nil (.node (some (ofFunc Try.f170)) .nil .nil)) (.node (some (ofFunc Try.f106)) .nil (.node (some (ofFunc Try.f234)) .nil .nil)))) (.node (some (ofFunc Try.f26)) (.node none (.node none .nil (.node (some (ofFunc Try.f154)) .nil .nil)) (.node (some (ofFunc Try.f90)) .nil (.node (some (ofFunc Try.f218)) .nil .nil))) (.node (some (ofFunc Try.f58)) (.node none .nil (.node (some (ofFunc Try.f186)) .nil .nil)) (.node (some (ofFunc Try.f122)) .nil (.node (some (ofFunc Try.f250)) .nil .nil)))))) (.node (some (ofFunc Try.f6)) (.node none (.node none (.node none (.node none .nil (.node (some (ofFunc Try.f134)) .nil .nil)) (.node (some (ofFunc Try.f70)) .nil (.node (some (ofFunc Try.f198)) .nil .nil))) (.node (some (ofFunc Try.f38)) (.node none .nil (.node (some (ofFunc Try.f166)) .nil .nil)) (.node (some (ofFunc Try.f102)) .nil (.node (some (ofFunc Try.f230)) .nil .nil)))) (.node (some (ofFunc Try.f22)) (.node none (.node none .nil (.node (some (ofFunc Try.f150)) .nil .nil)) (.node (some (ofFunc Try.f86)) .nil (.node (some (ofFunc Try.f214)) .nil .nil))) (.node (some (ofFunc Try.f54)) (.node none .nil (.node (some (ofFunc Try.f182)) .nil .nil)) (.node (some (ofFunc Try.f118)) .nil (.node (some (ofFunc Try.f246)) .nil .nil))))) (.node (some (ofFunc Try.f14)) (.node none (.node none (.node none .nil (.node (some (ofFunc Try.f142)) .nil .nil)) (.node (some (ofFunc Try.f78)) .nil .nil)) (.node (some (ofFunc Try.f46)) (.node none .nil (.node (some (ofFunc Try.f174)) .nil .nil)) (.node (some (ofFunc Try.f110)) .nil (.node (some (ofFunc Try.f238)) .nil .nil)))) (.node (some (ofFunc Try.f30)) (.node none (.node none .nil (.node (some (ofFunc Try.f158)) .nil .nil)) (.node (some (ofFunc Try.f94)) .nil (.node (some (ofFunc Try.f222)) .nil .nil))) (.node (some (ofFunc Try.f62)) (.node none .nil (.node (some (ofFunc Try.f190)) .nil .nil)) (.node (some (ofFunc Try.f126)) .nil (.node (some (ofFunc Try.f254)) .nil .nil)))))))) (.node none (.node none (.node none (.node none (.node none (.node none (.node none (.node none .nil (.node (some (ofFunc Try.f257)) .nil .nil)) (.node (some (ofFunc Try.f129)) .nil .nil)) (.node (some (ofFunc Try.f65)) .nil (.node (some (ofFunc Try.f193)) .nil .nil))) (.node (some (ofFunc Try.f33)) (.node none .nil (.node (some (ofFunc Try.f161)) .nil .nil)) (.node (some (ofFunc Try.f97)) .nil (.node (some (ofFunc Try.f225)) .nil .nil)))) (.node (some (ofFunc Try.f17)) (.node none (.node none .nil (.node (some (ofFunc Try.f145)) .nil .nil)) (.node (some (ofFunc Try.f81)) .nil (.node (some (ofFunc Try.f209)) .nil .nil))) (.node (some (ofFunc Try.f49)) (.node none .nil (.node (some (ofFunc Try.f177)) .nil .nil)) (.node (some (ofFunc Try.f113)) .nil (.node (some (ofFunc Try.f241)) .nil .nil))))) (.node (some (ofFunc Try.f9)) (.node none (.node none (.node none .nil (.node (some (ofFunc Try.f137)) .nil .nil)) (.node (some (ofFunc Try.f73)) .nil (.node (some (ofFunc Try.f201)) .nil .nil))) (.node (some (ofFunc Try.f41)) (.node none .nil (.node (some (ofFunc Try.f169)) .nil .nil)) (.node (some (ofFunc Try.f105)) .nil (.node (some (ofFunc Try.f233)) .nil .nil)))) (.node (some (ofFunc Try.f25)) (.node none (.node none .nil (.node (some (ofFunc Try.f153)) .nil .nil)) (.node (some (ofFunc Try.f89)) .nil (.node (some (ofFunc Try.f217)) .nil .nil))) (.node (some (ofFunc Try.f57)) (.node none .nil (.node (some (ofFunc Try.f185)) .nil .nil)) (.node (some (ofFunc Try.f121)) .nil (.node (some (ofFunc Try.f249)) .nil .nil)))))) (.node (some (ofFunc Try.f5)) (.node none (.node none (.node none (.node none .nil (.node (some (ofFunc Try.f133)) .nil .nil)) (.node (some (ofFunc Try.f69)) .nil (.node (some (ofFunc Try.f197)) .nil .nil))) (.node (some (ofFunc Try.f37)) (.node none .nil (.node (some (ofFunc Try.f165)) .nil .nil)) (.node (some (ofFunc Try.f101)) .nil (.node (some (ofFunc Try.f229)) .nil .nil)))) (.node (some (ofFunc Try.f21)) (.node none (.node none .nil (.node (some (ofFunc Try.f149)) .nil .nil)) (.node (some (ofFunc Try.f85)) .nil (.node (some (ofFunc Try.f213)) .nil .nil))) (.node (some (ofFunc Try.f53)) (.node none .nil (.node (some (ofFunc Try.f181)) .nil .nil)) (.node (some (ofFunc Try.f117)) .nil (.node (some (ofFunc Try.f245)) .nil .nil))))) (.node (some (ofFunc Try.f13)) (.node none (.node none (.node none .nil (.node (some (ofFunc Try.f141)) .nil .nil)) (.node (some (ofFunc Try.f77)) .nil (.node (some (ofFunc Try.f205)) .nil .nil))) (.node (some (ofFunc Try.f45)) (.node none .nil (.node (some (ofFunc Try.f173)) .nil .nil)) (.node (some (ofFunc Try.f109)) .nil (.node (some (ofFunc Try.f237)) .nil .nil)))) (.node (some (ofFunc Try.f29)) (.node none (.node none .nil (.node (some (ofFunc Try.f157)) .nil .nil)) (.node (some (ofFunc Try.f93)) .nil (.node (some (ofFunc Try.f221)) .nil .nil))) (.node (some (ofFunc Try.f61)) (.node none .nil (.node (some (ofFunc Try.f189)) .nil .nil)) (.node (some (ofFunc Try.f125)) .nil (.node (some (ofFunc Try.f253)) .nil .nil))))))) (.node (some (ofFunc Try.f3)) (.node none (.node none (.node none (.node none (.node none .nil (.node (some (ofFunc Try.f131)) .nil .nil)) (.node (some (ofFunc Try.f67)) .nil (.node (some (ofFunc Try.f195)) .nil .nil))) (.node (some (ofFunc Try.f35)) (.node none .nil (.node (some (ofFunc Try.f163)) .nil .nil)) (.node (some (ofFunc Try.f99)) .nil (.node (some (ofFunc Try.f227)) .nil .nil)))) (.node (some (ofFunc Try.f19)) (.node none (.node none .nil (.node (some (ofFunc Try.f147)) .nil .nil)) (.node (some (ofFunc Try.f83)) .nil (.node (some (ofFunc Try.f211)) .nil .nil))) (.node (some (ofFunc Try.f51)) (.node none .nil (.node (some (ofFunc Try.f179)) .nil .nil)) (.node (some (ofFunc Try.f115)) .nil (.node (some (ofFunc Try.f243)) .nil .nil))))) (.node (some (ofFunc Try.f11)) (.node none (.node none (.node none .nil (.node (some (ofFunc Try.f139)) .nil .nil)) (.node (some (ofFunc Try.f75)) .nil (.node (some (ofFunc Try.f203)) .nil .nil))) (.node (some (ofFunc Try.f43)) (.node none .nil (.node (some (ofFunc Try.f171)) .nil .nil)) (.node (some (ofFunc Try.f107)) .nil (.node (some (ofFunc Try.f235)) .nil .nil)))) (.node (some (ofFunc Try.f27)) (.node none (.node none .nil (.node (some (ofFunc Try.f155)) .nil .nil)) (.node (some (ofFunc Try.f91)) .nil (.node (some (ofFunc Try.f219)) .nil .nil))) (.node (some (ofFunc Try.f59)) (.node none .nil (.node (some (ofFunc Try.f187)) .nil .nil)) (.node (some (ofFunc Try.f123)) .nil (.node (some (ofFunc Try.f251)) .nil .nil)))))) (.node (some (ofFunc Try.f7)) (.node none (.node none (.node none (.node none .nil (.node (some (ofFuncC Try.f135 ctJoin)) .nil .nil)) (.node (some (ofFunc Try.f71)) .nil (.node (some (ofFunc Try.f199)) .nil .nil))) (.node (some (ofFunc Try.f39)) (.node none .nil (.node (some (ofFunc Try.f167)) .nil .nil)) (.node (some (ofFunc Try.f103)) .nil (.node (some (ofFunc Try.f231)) .nil .nil)))) (.node (some (ofFunc Try.f23)) (.node none (.node none .nil (.node (some (ofFunc Try.f151)) .nil .nil)) (.node (some (ofFunc Try.f87)) .nil (.node (some (ofFunc Try.f215)) .nil .nil))) (.node (some (ofFunc Try.f55)) (.node none .nil (.node (some (ofFunc Try.f183)) .nil .nil)) (.node (some (ofFunc Try.f119)) .nil (.node (some (ofFunc Try.f247)) .nil .nil))))) (.node (some (ofFunc Try.f15)) (.node none (.node none (.node none .nil (.node (some (ofFunc Try.f143)) .nil .nil)) (.node (some (ofFunc Try.f79)) .nil .nil)) (.node (some (ofFunc Try.f47)) (.node none .nil (.node (some (ofFunc Try.f175)) .nil .nil)) (.node (some (ofFunc Try.f111)) .nil (.node (some (ofFunc Try.f239)) .nil .nil)))) (.node (some (ofFunc Try.f31)) (.node none (.node none .nil (.node (some (ofFunc Try.f159)) .nil .nil)) (.node (some (ofFunc Try.f95)) .nil (.node (some (ofFunc Try.f223)) .nil .nil))) (.node (some (ofFunc Try.f63)) (.node none .nil (.node (some (ofFunc Try.f191)) .nil .nil)) (.node (some (ofFunc Try.f127)) .nil (.node (some (ofFunc Try.f255)) .nil .nil)))))))))
theorem ftOk : FTok Try.prog ft := (show ft254 = ft by kernel_rfl) ▸ ft254Ok
end Go.Proofs.Ythaljeccdeajoaa.Ev
namespace Go.Proofs.Ythaljeccdeajoaa.Ev
open Go.Proofs
noncomputable def dr4 := drD Try.prog ft 16 4
noncomputable def sub4 : Sub := exSub (fun f => exStep Try.prog ft f (drD Try.prog ft 16 3)) ft 16
theorem mix : Try.prog.follows .mixedOrders = true := by kernel_rfl
theorem dr4Ok : DrOk Try.prog dr4 := drD_ok mix ftOk 16 4
theorem sub4Ok : LoudOk Try.prog sub4 := loudOk ftOk (fun fid cs w0 γ s m hM => exStep_ok ftOk (drD_ok mix ftOk 16 3) hM) 16
theorem bc_t {α : Type} (x y : α) : bc true x y = x := rfl
theorem bc_f {α : Type} (x y : α) : bc false x y = y := rfl
theorem nn_ok (b : Bool) : bc b true (bc b false true) = true := by cases b <;> rfl
theorem dt {p : Prop} [Decidable p] (h : p) : decide p = true := decide_eq_true h
theorem df {p : Prop} [Decidable p] (h : ¬ p) : decide p = false := decide_eq_false h
theorem bltD {a b : Nat} (h : a < b) : Nat.blt a b = true := by unfold Nat.blt; exact Nat.ble_eq_true_of_le h
theorem bltN {a b : Nat} (h : ¬ a < b) : Nat.blt a b = false := by
  cases e : Nat.blt a b with
  | false => rfl
  | true => exact absurd (blt_lt e) h
theorem ble_of {a b : Nat} (h : a ≤ b) : Nat.ble a b = true := Nat.ble_eq_true_of_le h
theorem bleN {a b : Nat} (h : ¬ a ≤ b) : Nat.ble a b = false := by
  cases e : Nat.ble a b with
  | false => rfl
  | true => exact absurd (Nat.le_of_ble_eq_true e) h
theorem beqD {a b : Nat} (h : a = b) : Nat.beq a b = true := by subst h; exact Nat.beq_refl a
theorem ofn (n : Nat) : Int.ofNat n = (n : Int) := rfl
theorem to_nat (i : Nat) : Int.toNat (i : Int) = i := Int.toNat_natCast i
theorem wrap_in (x : Int) (h1 : -4611686018427387904 ≤ x) (h2 : x < 4611686018427387904) : IntKind.i64.wrap x = x := IntWalk.i64_in _ (by omega)
theorem getD_at {α : Type} {l : List α} {d : α} {i : Nat} (h : i < l.length) : l.getD i d = l[i] := by rw [List.getD_eq_getElem?_getD, List.getElem?_eq_getElem h]; rfl

noncomputable def ent (f : FuncId) (args : List EV) : EF := Option.rec ⟨f, 0, .nil, [], [], none, false⟩ (fun e => e) (exEnter ft f args)
noncomputable def st0 (f : FuncId) (args : List EV) : ES := ⟨ent f args, [], .nil, 0⟩

noncomputable abbrev iv (n : Int) : EV := .v (.int .i64 n)
noncomputable abbrev bv (b : Bool) : EV := .v (.bool b)
noncomputable abbrev sv (s : ByteArray) : EV := .v (.string s)
noncomputable abbrev il (l : List Int) : EV := .lst (.ints .i64 l)

noncomputable def RZs (f : FuncId) (ct : Tr ZCC) (ps : PLs) (lk : List Nat) (own : Bool) (s : ES) : ZF := runZ (stepZ Try.prog ft f dr4 sub4 ct) (atPs ps) (endP lk ps own) 600 s

noncomputable abbrev RZ (f : FuncId) (ct : Tr ZCC) (p : ES → Bool) (lk : List Nat) (ls : List SZ) (own : Bool) (s : ES) : ZF := RZs f ct [(p, ls)] lk own s
theorem leadsZ {f : FuncId} {ct : Tr ZCC} (hct : ZCtsOk Try.prog ct) {ps : PLs} {lk : List Nat} {own : Bool} {s : ES} {r : NS} (h : RZs f ct ps lk own s = .at r) : LeadsZ Try.prog s (stOf r) :=
  leadsF (f := f) mix ftOk dr4Ok sub4Ok hct endP_ok h
theorem callsZ {γ : G} {w : World} {f : FuncId} {ct : Tr ZCC} (hct : ZCtsOk Try.prog ct) {ps : PLs} {lk : List Nat} {own : Bool} {s : ES} {args : List EV} {us : Array Value} {a : EV} {K : List (Nat × EK)} {n' : Nat} (he : (exEnter ft f args).isSome = true) (hargs : ECL γ args us.toList) (hN : ∀ i, γ i = none) (hfz : FzAt γ w)
    (hl : LeadsZ Try.prog (st0 f args) s) (hd : RZs f ct ps lk own s = .done a K n') :
    Calls Try.prog f us w fun e w' => ∃ γ' x, e = .returned x ∧ EC γ' a x ∧ HR γ' (Bs.ofG w γ) (mkT K) n' w' := by
  obtain ⟨e, he⟩ := Option.isSome_iff_exists.1 he
  have : ent f args = e := by unfold ent; rw [he]
  unfold st0 at hl
  rw [this] at hl
  exact callsF mix ftOk dr4Ok sub4Ok hct endP_ok he hargs hN hfz hl hd

def Weak (a a' : EV) : Prop := ∀ γ x, EC γ a x → EC γ a' x
theorem Weak.refl (a : EV) : Weak a a := fun _ _ h => h
theorem Weak.nil (sh : List Sh) : Weak (.v (.slice none 0 0)) (.lst (.recs sh [])) := fun γ x h => by
  rw [ec_v h]
  exact .lst _ _ (.empty _ _ none 0 rfl (Nat.zero_le _) fun _ => rfl)
theorem Weak.nilI (k : IntKind) : Weak (.v (.slice none 0 0)) (.lst (.ints k [])) := fun γ x h => by
  rw [ec_v h]
  exact .lst _ _ (.empty _ _ none 0 rfl (Nat.zero_le _) fun _ => rfl)
inductive WeakL : List EV → List EV → Prop
  | nil : WeakL [] []
  | cons {a b : EV} {l r : List EV} (h : Weak a b) (t : WeakL l r) : WeakL (a :: l) (b :: r)
theorem WeakL.ok {γ : G} : ∀ {l r : List EV} {vs : List Value}, WeakL l r → ECL γ l vs → ECL γ r vs
  | _, _, vs, .nil, h => h
  | _, _, vs, .cons h t, k => by
    obtain ⟨x, ys, rfl, h1, h2⟩ := ECL.inv k
    exact ECL.cons (h _ _ h1) (t.ok h2)
theorem Weak.tup {l r : List EV} (h : WeakL l r) : Weak (.tup l) (.tup r) := fun γ x k => by
  cases k with
  | tup _ vs h1 h2 => have := h.ok (γ := γ) ⟨h1, h2⟩; exact .tup _ vs this.1 this.2
theorem Weak.agg {l r : List EV} (h : WeakL l r) : Weak (.agg l) (.agg r) := fun γ x k => by
  cases k with
  | agg _ vs h1 h2 => have := h.ok (γ := γ) ⟨h1, h2⟩; exact .agg _ vs this.1 this.2
theorem Weak.aggV {vs : List Value} {r : List EV} (h : WeakL (vs.map .v) r) : Weak (.v (.agg (Array.mk vs))) (.agg r) := fun γ x k => by
  rw [ec_v k]
  have := h.ok (γ := γ) (ECL.vals γ vs)
  exact .agg _ vs this.1 this.2
theorem Weak.trans {a b c : EV} (h : Weak a b) (k : Weak b c) : Weak a c := fun γ x e => k γ x (h γ x e)

def EndZ (f : FuncId) (ct : Tr ZCC) (own : Bool) (s : ES) (a : EV) (K : List (Nat × EK)) (n : Nat) : Prop := ∃ ps lk s' a', LeadsZ Try.prog s s' ∧ RZs f ct ps lk own s' = .done a' K n ∧ Weak a' a
theorem EndZ.done {f : FuncId} {ct : Tr ZCC} {own : Bool} {s : ES} {a : EV} {K : List (Nat × EK)} {n : Nat} {ps : PLs} {lk : List Nat} (h : RZs f ct ps lk own s = .done a K n) : EndZ f ct own s a K n := ⟨ps, lk, s, a, LeadsZ.refl s, h, Weak.refl a⟩
theorem EndZ.weak {f : FuncId} {ct : Tr ZCC} {own : Bool} {s : ES} {a b : EV} {K : List (Nat × EK)} {n : Nat} (h : EndZ f ct own s a K n) (k : Weak a b) : EndZ f ct own s b K n := by
  obtain ⟨ps, lk, t, a', h1, h2, h3⟩ := h
  exact ⟨ps, lk, t, a', h1, h2, h3.trans k⟩
theorem EndZ.lead {f : FuncId} {ct : Tr ZCC} {own : Bool} {s s' : ES} {a : EV} {K : List (Nat × EK)} {n : Nat} (h : LeadsZ Try.prog s s') (k : EndZ f ct own s' a K n) : EndZ f ct own s a K n := by
  obtain ⟨ps, lk, t, a', h1, h2, h3⟩ := k
  exact ⟨ps, lk, t, a', h.trans h1, h2, h3⟩
theorem EndZ.at {f : FuncId} {ct : Tr ZCC} (hct : ZCtsOk Try.prog ct) {own own' : Bool} {s : ES} {r : NS} {a : EV} {K : List (Nat × EK)} {n : Nat} {ps : PLs} {lk : List Nat} (h : RZs f ct ps lk own' s = .at r) (k : EndZ f ct own (stOf r) a K n) : EndZ f ct own s a K n := k.lead (leadsZ hct h)
theorem EndZ.calls {γ : G} {w : World} {f : FuncId} {ct : Tr ZCC} {own : Bool} {args : List EV} {a : EV} {K : List (Nat × EK)} {n' : Nat} (h : EndZ f ct own (st0 f args) a K n') (hct : ZCtsOk Try.prog ct) {us : Array Value} (he : (exEnter ft f args).isSome = true) (hargs : ECL γ args us.toList) (hN : ∀ i, γ i = none) (hfz : FzAt γ w) :
    Calls Try.prog f us w fun e w' => ∃ γ' x, e = .returned x ∧ EC γ' a x ∧ HR γ' (Bs.ofG w γ) (mkT K) n' w' := by
  obtain ⟨ps, lk, t, a', h1, h2, h3⟩ := h
  refine (callsZ hct he hargs hN hfz h1 h2).mono fun e w' ⟨γ', x, k1, k2, k3⟩ => ⟨γ', x, k1, h3 γ' x k2, k3⟩

noncomputable def st0m (f : FuncId) (args : List EV) (K0 : List (Nat × EK)) (m : Nat) : ES := ⟨ent f args, [], mkT K0, m⟩

noncomputable def RMs (k : Nat) (f : FuncId) (ct : Tr ZCC) (ps : PLs) (lk : List Nat) (nl : NLs) (s : ES) : ZF := runZ (stepZ Try.prog ft f dr4 sub4 ct) (atPs ps) (endM k lk ps nl) 600 s
theorem leadsMZ {k : Nat} {f : FuncId} {ct : Tr ZCC} (hct : ZCtsOk Try.prog ct) {ps : PLs} {lk : List Nat} {s : ES} {r : NS} {nl : NLs} (h : RMs k f ct ps lk nl s = .at r) : LeadsM Try.prog k s (stOf r) :=
  leadsM (f := f) mix ftOk dr4Ok sub4Ok hct h
def EndM (k : Nat) (f : FuncId) (ct : Tr ZCC) (s : ES) (a : EV) (K : List (Nat × EK)) (n : Nat) : Prop := ∃ ps lk nl s', LeadsM Try.prog k s s' ∧ RMs k f ct ps lk nl s' = .done a K n
theorem EndM.done {k : Nat} {f : FuncId} {ct : Tr ZCC} {s : ES} {a : EV} {K : List (Nat × EK)} {n : Nat} {ps : PLs} {lk : List Nat} {nl : NLs} (h : RMs k f ct ps lk nl s = .done a K n) : EndM k f ct s a K n := ⟨ps, lk, nl, s, LeadsM.refl k s, h⟩
theorem EndM.lead {k : Nat} {f : FuncId} {ct : Tr ZCC} {s s' : ES} {a : EV} {K : List (Nat × EK)} {n : Nat} (h : LeadsM Try.prog k s s') (g : EndM k f ct s' a K n) : EndM k f ct s a K n := by
  obtain ⟨ps, lk, nl, t, h1, h2⟩ := g
  exact ⟨ps, lk, nl, t, h.trans h1, h2⟩
theorem EndM.at {k : Nat} {f : FuncId} {ct : Tr ZCC} (hct : ZCtsOk Try.prog ct) {s : ES} {r : NS} {a : EV} {K : List (Nat × EK)} {n : Nat} {ps : PLs} {lk : List Nat} {nl : NLs} (h : RMs k f ct ps lk nl s = .at r) (g : EndM k f ct (stOf r) a K n) : EndM k f ct s a K n := g.lead (leadsMZ hct h)
theorem EndM.calls {k : Nat} {γ : G} {w0 : Bs} {w : World} {f : FuncId} {ct : Tr ZCC} {args : List EV} {K0 : List (Nat × EK)} {m0 : Nat} {a : EV} {K : List (Nat × EK)} {n' : Nat} (h : EndM k f ct (st0m f args K0 m0) a K n') (hct : ZCtsOk Try.prog ct) {us : Array Value} (he : (exEnter ft f args).isSome = true) (hres : ∀ i, ¬ w0.res i) (hargs : ECL γ args us.toList) (hH : HR γ w0 (mkT K0) m0 w) :
    Calls Try.prog f us w fun e w' => ∃ γ' x, e = .returned x ∧ EC γ' a x ∧ HR γ' w0 (mkT K) n' w' ∧ ∀ j p, j < k → γ j = some p → γ' j = some p := by
  obtain ⟨ps, lk, nl, t, h1, h2⟩ := h
  obtain ⟨e, he⟩ := Option.isSome_iff_exists.1 he
  have : ent f args = e := by unfold ent; rw [he]
  unfold st0m at h1
  rw [this] at h1
  exact callsM mix ftOk dr4Ok sub4Ok hct he hres hargs hH h1 h2
theorem bc_same {α : Type} (b : Bool) (x : α) : bc b x x = x := by cases b <;> rfl

noncomputable def ZMT.or (a b : ZMT) : ZMT := fun ax K m => match a ax K m with
  | some r => some r
  | none => b ax K m
theorem ZMtOk.or {P : Program} {g : FuncId} {a b : ZMT} (ha : ZMtOk P g a) (hb : ZMtOk P g b) : ZMtOk P g (a.or b) := fun γ w0 w us ax K0 m r hs => by
  unfold ZMT.or at hs
  split at hs
  · rename_i r' hr
    injection hs with hs; subst hs
    exact ha γ w0 w us ax K0 m _ hr
  · exact hb γ w0 w us ax K0 m r hs
noncomputable def ZCT.or (a b : ZCT) : ZCT := fun ax => match a ax with
  | some r => some r
  | none => b ax
theorem ZCtOk.or {P : Program} {g : FuncId} {a b : ZCT} (ha : ZCtOk P g a) (hb : ZCtOk P g b) : ZCtOk P g (a.or b) := fun γ w us ax r hs => by
  unfold ZCT.or at hs
  split at hs
  · rename_i r' hr
    injection hs with hs; subst hs
    exact ha γ w us ax _ hr
  · exact hb γ w us ax r hs
end Go.Proofs.Ythaljeccdeajoaa.Ev
namespace Go.Proofs.Ythaljeccdeajoaa.Ev
open Go.Proofs
theorem closed_ct {P : Program} {f : FuncId} {γ : G} {w : World} {us : Array Value} (h : Calls P f #[] w fun e w' => e = .returned (.bool true) ∧ Stays w w') (hax : ECL γ [] us.toList) (hfz : FzAt γ w) : Calls P f us w fun e w' => ∃ γ' x, e = .returned x ∧ EC γ' (bv true) x ∧ HR γ' (Bs.ofG w γ) (mkT (zseqs [])) 0 w' := by
  have hu : us = #[] := by
    have := hax.1
    apply Array.toList_inj.1
    exact List.eq_nil_of_length_eq_zero this.symm
  subst hu
  refine h.mono ?_
  rintro e w' ⟨rfl, hs⟩
  refine ⟨⟨fun _ => none, γ.fz⟩, _, rfl, .v _, ⟨(fun i k hk => by cases hk), (fun i j ki kj hi => by cases hi), (fun _ _ => rfl), (fun i hi => hi.elim), (fun i p hp => by cases hp), ⟨hs.os, hs.tape, hs.output, hs.size, hs.block⟩, ⟨fun k a hk => ?_, fun k hk => hk⟩⟩⟩
  obtain ⟨ty, fz, h1⟩ := hfz k a hk
  have hk2 := (Array.getElem?_eq_some_iff.1 h1).1
  exact ⟨⟨ty, fz, (hs.block k hk2).trans h1⟩, .inl ⟨a, hk⟩, fun i ki b m hi => by cases hi⟩
noncomputable def spTrue : ZCT := fun ax => match ax with
  | [] => some ⟨true, bv true, [], 0⟩
  | _ => none
theorem spTrue_ok {P : Program} {f : FuncId} (h : ∀ w, Calls P f #[] w fun e w' => e = .returned (.bool true) ∧ Stays w w') : ZCtOk P f spTrue := fun γ w us ax r hs hc hax hN hfz => by
  unfold spTrue at hs
  split at hs
  case h_2 => cases hs
  obtain ⟨rfl⟩ := Option.some.inj hs
  exact closed_ct (h w) hax hfz
theorem law_of {P : Program} {f : FuncId} {γ : G} {w : World} {us : Array Value} {K : List (Nat × EK)} {n : Nat} (h : Calls P f us w fun e w' => ∃ γ' x, e = .returned x ∧ EC γ' (bv true) x ∧ HR γ' (Bs.ofG w γ) (mkT K) n w') : Calls P f us w fun e w' => e = .returned (.bool true) ∧ Stays w w' := h.mono fun e w' ⟨γ', x, h1, h2, h3⟩ => ⟨by rw [h1, ec_v h2], staysOf h3.stays⟩
end Go.Proofs.Ythaljeccdeajoaa.Ev
namespace Go.Proofs.Ythaljeccdeajoaa.Ev
open Go.Proofs
noncomputable def shW : List Sh := [.int .i64, .int .i64, .str]
noncomputable abbrev wl (l : List (List U)) : EV := .lst (.recs shW l)
noncomputable abbrev bLet : ByteArray := ByteArray.mk #[67, 84, 76, 82, 80, 99, 116, 108, 114]
theorem bc_bc {α : Type} (a b c : Bool) (x y : α) : bc (bc a b c) x y = bc a (bc b x y) (bc c x y) := by cases a <;> rfl

noncomputable def rK (r : List U) : Int := U.int (r.getD 0 (.i 0))
noncomputable def rA (r : List U) : Int := U.int (r.getD 1 (.i 0))
noncomputable def rW (r : List U) : ByteArray := U.str (r.getD 2 (.i 0))
theorem fK0 (r : List U) : U.int (r.getD 0 (.i 0)) = rK r := rfl
theorem fA0 (r : List U) : U.int (r.getD (Nat.succ 0) (.i 0)) = rA r := rfl
theorem fA1 (r : List U) : U.int (r.getD (Nat.add 0 1) (.i 0)) = rA r := rfl
theorem fA2 (r : List U) : U.int (r.getD 1 (.i 0)) = rA r := rfl
theorem fW0 (r : List U) : U.str (r.getD (Nat.succ (Nat.succ 0)) (.i 0)) = rW r := rfl
theorem fW1 (r : List U) : U.str (r.getD (Nat.add 0 2) (.i 0)) = rW r := rfl
theorem fW2 (r : List U) : U.str (r.getD 2 (.i 0)) = rW r := rfl
theorem fK1 (r : List U) : U.int (r.getD (Nat.add 0 0) (.i 0)) = rK r := rfl

noncomputable def idxB (s : ByteArray) (c : Int) (i : Nat) : Nat → Int
  | 0 => -1
  | k + 1 => bc (byteAt s i == c) (i : Int) (idxB s c (i + 1) k)
noncomputable def idx (s : ByteArray) (c : Int) : Int := idxB s c 0 s.size
namespace RIdx
noncomputable def RUN (s : ES) : ZF := RZ 166 .nil (atS 0 166 2) [] [[(0,none),(1,none),(5,none)]] false s

noncomputable def sI (s : ByteArray) (c i : Int) : NS := ⟨[⟨166, 18, [(0, (EV.v (Value.string (s)))), (1, (EV.v (Value.int IntKind.u8 (c)))), (5, iv i)], [.it (.code (nav [1, 0, 1, 0, 0, 0] (bodyOf Try.f166))), .it (.code (nav [1, 0, 1, 0, 0, 1] (bodyOf Try.f166))), .it (.inLoop (nav [1, 0, 1, 0, 0] (bodyOf Try.f166))), .it (.inBlock 0), .it (.code (nav [1, 1] (bodyOf Try.f166)))], [], Option.none⟩], [], 0⟩
theorem in_t (s : ByteArray) (c : Int) : RUN (st0 166 [sv s, .v (.int .u8 c)]) = (.at (sI (s) (c) ((0 : Int)))) := by kernel_rfl
theorem step_t (s : ByteArray) (c i : Int) : RUN (stOf (sI s c i)) = (bc (decide (i < Int.ofNat (ByteArray.size s))) (bc (bc (bc (decide ((0 : Int) ≤ i)) (Nat.blt (Int.toNat i) (ByteArray.size s)) false) true false) (bc (byteAt s (Int.toNat i) == c) (.done (EV.v (Value.int IntKind.i64 (i))) [] 0) (.at (sI (s) (c) (IntKind.wrap IntKind.i64 (i + (1 : Int)))))) .bad) (.done (EV.v (Value.int IntKind.i64 (-1))) [] 0)) := by kernel_rfl
theorem step {s : ByteArray} {c : Int} {i : Nat} (hi : i < s.size) (hs : s.size ≤ 100000) : RUN (stOf (sI s c i)) = bc (byteAt s i == c) (.done (iv i) [] 0) (.at (sI s c (i + 1 : Nat))) := by
  rw [step_t]
  simp (disch := omega) only [Nat.add_eq, eqSy_self, eqN_self, bc_same, List.length_cons, ofn, wrap_in, dt, df, bltD, bltN, ble_of, bleN, beqD, bc_t, bc_f, nn_ok, Nat.zero_add, to_nat, Int.zero_add, Int.sub_zero, Int.sub_self, Int.cast_ofNat_Int, Int.natCast_zero, Int.toNat_zero, List.take_zero, List.nil_append, List.length_append, List.length_nil]
  rfl
theorem last {s : ByteArray} {c : Int} {i : Nat} (hi : s.size ≤ i) : RUN (stOf (sI s c i)) = .done (iv (-1)) [] 0 := by
  rw [step_t]
  simp (disch := omega) only [Nat.add_eq, eqSy_self, eqN_self, bc_same, List.length_cons, ofn, wrap_in, dt, df, bltD, bltN, ble_of, bleN, beqD, bc_t, bc_f, nn_ok, Nat.zero_add, to_nat, Int.zero_add, Int.sub_zero, Int.sub_self, Int.cast_ofNat_Int, Int.natCast_zero, Int.toNat_zero, List.take_zero, List.nil_append, List.length_append, List.length_nil]
theorem loop {s : ByteArray} {c : Int} (hs : s.size ≤ 100000) : ∀ (k i : Nat), i + k = s.size → EndZ 166 .nil false (stOf (sI s c i)) (iv (idxB s c i k)) [] 0
  | 0, i, h => .done (last (by omega))
  | k + 1, i, h => by
    have := step (c := c) (show i < s.size by omega) hs
    unfold idxB
    cases hb : byteAt s i == c <;> rw [hb] at this
    · exact .at (.nil _) this (loop hs k (i + 1) (by omega))
    · exact .done this
end RIdx
noncomputable def spIdx : ZCT := fun ax => match ax with
  | [.v (.string s), .v (.int .u8 c)] => some ⟨decide (s.size ≤ 100000), iv (idx s c), [], 0⟩
  | _ => none
theorem spIdx_ok : ZCtOk Try.prog 166 spIdx := fun γ w us ax r hs hc hax hN hfz => by
  unfold spIdx at hs
  split at hs
  case h_2 => cases hs
  rename_i s c
  obtain ⟨rfl⟩ := Option.some.inj hs
  have hc_0 : decide (s.size ≤ 100000) = true := hc
  have hc := of_decide_eq_true hc_0
  exact EndZ.calls (.at (.nil _) (RIdx.in_t s c) (RIdx.loop hc s.size 0 (by omega))) (.nil _) (by kernel_rfl) hax hN hfz
noncomputable def ctI : Tr ZCC := Tr.nil.put 166 (some (dC spIdx))
theorem ctI_ok : ZCtsOk Try.prog ctI := (ZCtsOk.nil _).add rfl spIdx_ok

noncomputable def badF (w : ByteArray) (i : Nat) : Nat → Bool
  | 0 => false
  | k + 1 => bc (decide (idx bLet (byteAt w i) < 0)) true (badF w (i + 1) k)
noncomputable def chk3 (w : ByteArray) : Int := bc (decide (16 < (w.size : Int))) 3 (bc (badF w 0 w.size) 6 0)
namespace RChk3
noncomputable def RUN (s : ES) : ZF := RZ 120 ctI (atS 0 120 4) [] [[(0,none),(3,none)]] false s

noncomputable def sC (s : ByteArray) (i : Int) : NS := ⟨[⟨120, 18, [(0, (EV.v (Value.string (s)))), (3, iv i)], [.it (.code (nav [1, 1, 0, 1, 0, 0, 0] (bodyOf Try.f120))), .it (.code (nav [1, 1, 0, 1, 0, 0, 1] (bodyOf Try.f120))), .it (.inLoop (nav [1, 1, 0, 1, 0, 0] (bodyOf Try.f120))), .it (.inBlock 0), .it (.code (nav [1, 1, 1] (bodyOf Try.f120)))], [], Option.none⟩], [], 0⟩
theorem in_t (s : ByteArray) : RUN (st0 120 [sv s]) = (bc (decide ((16 : Int) < Int.ofNat (ByteArray.size s))) (.done (EV.v (Value.int IntKind.i64 (3))) [] 0) (.at (sC (s) ((0 : Int))))) := by kernel_rfl
theorem step_t (s : ByteArray) (i : Int) : RUN (stOf (sC s i)) = (bc (decide (i < Int.ofNat (ByteArray.size s))) (bc (bc (bc (decide ((0 : Int) ≤ i)) (Nat.blt (Int.toNat i) (ByteArray.size s)) false) true false) (bc (decide (idx { data := #[(67 : UInt8), (84 : UInt8), (76 : UInt8), (82 : UInt8), (80 : UInt8), (99 : UInt8), (116 : UInt8), (108 : UInt8), (114 : UInt8)] } (byteAt s (Int.toNat i)) < (0 : Int))) (.done (EV.v (Value.int IntKind.i64 (6))) [] 0) (.at (sC (s) (IntKind.wrap IntKind.i64 (i + (1 : Int)))))) .bad) (.done (EV.v (Value.int IntKind.i64 (0))) [] 0)) := by kernel_rfl
theorem step {s : ByteArray} {i : Nat} (hi : i < s.size) (hs : s.size ≤ 1000) : RUN (stOf (sC s i)) = bc (decide (idx bLet (byteAt s i) < 0)) (.done (iv 6) [] 0) (.at (sC s (i + 1 : Nat))) := by
  rw [step_t]
  simp (disch := omega) only [Nat.add_eq, eqSy_self, eqN_self, bc_same, List.length_cons, ofn, wrap_in, dt, df, bltD, bltN, ble_of, bleN, beqD, bc_t, bc_f, nn_ok, Nat.zero_add, to_nat, Int.zero_add, Int.sub_zero, Int.sub_self, Int.cast_ofNat_Int, Int.natCast_zero, Int.toNat_zero, List.take_zero, List.nil_append, List.length_append, List.length_nil]
  rfl
theorem last {s : ByteArray} {i : Nat} (hi : s.size ≤ i) : RUN (stOf (sC s i)) = .done (iv 0) [] 0 := by
  rw [step_t]
  simp (disch := omega) only [Nat.add_eq, eqSy_self, eqN_self, bc_same, List.length_cons, ofn, wrap_in, dt, df, bltD, bltN, ble_of, bleN, beqD, bc_t, bc_f, nn_ok, Nat.zero_add, to_nat, Int.zero_add, Int.sub_zero, Int.sub_self, Int.cast_ofNat_Int, Int.natCast_zero, Int.toNat_zero, List.take_zero, List.nil_append, List.length_append, List.length_nil]
theorem loop {s : ByteArray} (hs : s.size ≤ 1000) : ∀ (k i : Nat), i + k = s.size → EndZ 120 ctI false (stOf (sC s i)) (iv (bc (badF s i k) 6 0)) [] 0
  | 0, i, h => .done (last (by omega))
  | k + 1, i, h => by
    have := step (show i < s.size by omega) hs
    unfold badF
    cases hb : decide (idx bLet (byteAt s i) < 0) <;> rw [hb] at this
    · exact .at ctI_ok this (loop hs k (i + 1) (by omega))
    · exact .done this
theorem ends (s : ByteArray) : EndZ 120 ctI false (st0 120 [sv s]) (iv (chk3 s)) [] 0 := by
  have h := in_t s
  unfold chk3
  by_cases h1 : 16 < (s.size : Int)
  · simp only [ofn, dt h1, bc_t] at h ⊢; exact .done h
  · simp only [ofn, df h1, bc_f] at h ⊢
    exact .at ctI_ok h (loop (by omega) s.size 0 (by omega))
end RChk3
noncomputable def spChk3 : ZCT := fun ax => match ax with
  | [.v (.string s)] => some ⟨decide (True), iv (chk3 s), [], 0⟩
  | _ => none
theorem spChk3_ok : ZCtOk Try.prog 120 spChk3 := fun γ w us ax r hs hc hax hN hfz => by
  unfold spChk3 at hs
  split at hs
  case h_2 => cases hs
  rename_i s
  obtain ⟨rfl⟩ := Option.some.inj hs
  have hc_0 : decide (True) = true := hc
  have hc := of_decide_eq_true hc_0
  exact EndZ.calls (RChk3.ends s) ctI_ok (by kernel_rfl) hax hN hfz
noncomputable def ctC : Tr ZCC := ctI.put 120 (some (dC spChk3))
theorem ctC_ok : ZCtsOk Try.prog ctC := ctI_ok.add rfl spChk3_ok

noncomputable def longR (r : List U) : Bool := decide (16 < ((rW r).size : Int))
noncomputable def badR (n : Int) (r : List U) : Bool := bc (rK r != 1)
  (bc (rK r != 2) true (bc (decide (rA r < 0)) true (bc (decide (n - 2 < rA r)) true (bc (rK r == 2) (bc (!((rW r).toList == (ByteArray.mk #[]).toList)) true false) false))))
  (bc (decide (rA r < 0)) true (bc (decide (n - 2 < rA r)) true (bc (rK r == 2) (bc (!((rW r).toList == (ByteArray.mk #[]).toList)) true false) false)))
noncomputable def formR (r : List U) : Bool := chk3 (rW r) != 0
noncomputable def anyR (p : List U → Bool) : List (List U) → Bool
  | [] => false
  | r :: l => bc (p r) true (anyR p l)
theorem anyR_cons (p : List U → Bool) (r : List U) (l : List (List U)) : anyR p (r :: l) = bc (p r) true (anyR p l) := rfl
noncomputable def chk4 (n : Int) (l : List (List U)) : Int := bc (decide (24 < n)) 3 (bc (decide (400 < (l.length : Int))) 3 (bc (anyR longR l) 3 (bc (decide (n < 2)) 2 (bc (anyR (badR n) l) 2 (bc (anyR formR l) 6 0)))))
namespace RChk4
noncomputable def RUN (s : ES) : ZF := RZs 64 ctC [(atS 0 64 4, [[(1,none),(3,none)]]), (atS 0 64 11, [[(1,none),(4,none)]]), (atS 0 64 17, [[(1,none),(6,none)]])] [] false s

noncomputable def sA (n : Int) (l : List (List U)) (i : Int) : NS := ⟨[⟨64, 92, [(1, (EV.ptr 0 0)), (3, iv i)], [.it (.code (nav [1, 1, 0, 1, 0, 0, 0] (bodyOf Try.f64))), .it (.code (nav [1, 1, 0, 1, 0, 0, 1] (bodyOf Try.f64))), .it (.inLoop (nav [1, 1, 0, 1, 0, 0] (bodyOf Try.f64))), .it (.inBlock 0), .it (.code (nav [1, 1, 1] (bodyOf Try.f64)))], [], Option.none⟩], [(0, (EK.cells 24 [(EV.v (Value.int IntKind.i64 (n))), (EV.lst (SyC.recs [(Sh.int IntKind.i64), (Sh.int IntKind.i64), Sh.str] (l)))] true))], 1⟩
noncomputable def sB (n : Int) (l : List (List U)) (i : Int) : NS := ⟨[⟨64, 92, [(1, (EV.ptr 0 0)), (4, iv i)], [.it (.code (nav [1, 1, 1, 1, 0, 1, 0, 0, 0] (bodyOf Try.f64))), .it (.code (nav [1, 1, 1, 1, 0, 1, 0, 0, 1] (bodyOf Try.f64))), .it (.inLoop (nav [1, 1, 1, 1, 0, 1, 0, 0] (bodyOf Try.f64))), .it (.inBlock 2), .it (.code (nav [1, 1, 1, 1, 1] (bodyOf Try.f64)))], [], Option.none⟩], [(0, EK.cells 24 [iv n, wl l] true)], 1⟩
noncomputable def sC (n : Int) (l : List (List U)) (i : Int) : NS := ⟨[⟨64, 92, [(1, (EV.ptr 0 0)), (6, iv i)], [.it (.code (nav [1, 1, 1, 1, 1, 0, 1, 0, 0, 0] (bodyOf Try.f64))), .it (.code (nav [1, 1, 1, 1, 1, 0, 1, 0, 0, 1] (bodyOf Try.f64))), .it (.inLoop (nav [1, 1, 1, 1, 1, 0, 1, 0, 0] (bodyOf Try.f64))), .it (.inBlock 4), .it (.code (nav [1, 1, 1, 1, 1, 1] (bodyOf Try.f64)))], [], Option.none⟩], [(0, EK.cells 24 [iv n, wl l] true)], 1⟩
theorem in_t (n : Int) (l : List (List U)) : RUN (st0 64 [.agg [iv n, wl l]]) = (bc (decide ((24 : Int) < n)) (.done (EV.v (Value.int IntKind.i64 (3))) [] 0) (bc (decide ((400 : Int) < Int.ofNat (List.length l))) (.done (EV.v (Value.int IntKind.i64 (3))) [] 0) (.at (sA (n) (l) ((0 : Int)))))) := by kernel_rfl
theorem a_t (n : Int) (l : List (List U)) (i : Int) : RUN (stOf (sA n l i)) = (bc (decide (i < Int.ofNat (List.length l))) (bc (bc (bc (decide ((0 : Int) ≤ i)) (Nat.blt (Int.toNat i) (List.length l)) false) true false) (bc (bc (Nat.blt (Int.toNat i) (List.length l)) true false) (bc (decide ((16 : Int) < Int.ofNat (ByteArray.size (U.str (List.getD (List.getD l (Int.toNat i) []) (Nat.add (0 : Nat) (2 : Nat)) (U.i (0 : Int))))))) (.done (EV.v (Value.int IntKind.i64 (3))) [] 0) (.at (sA (n) (l) (IntKind.wrap IntKind.i64 (i + (1 : Int)))))) .bad) .bad) (bc (decide (n < (2 : Int))) (.done (EV.v (Value.int IntKind.i64 (2))) [] 0) (.at (sB (n) (l) ((0 : Int)))))) := by kernel_rfl
theorem b_t (n : Int) (l : List (List U)) (i : Int) : RUN (stOf (sB n l i)) = (bc (decide (i < Int.ofNat (List.length l))) (bc (bc (bc (decide ((0 : Int) ≤ i)) (Nat.blt (Int.toNat i) (List.length l)) false) true false) (bc (bc (Nat.blt (Int.toNat i) (List.length l)) true false) (bc (U.int (List.getD (List.getD l (Int.toNat i) []) (0 : Nat) (U.i (0 : Int))) != (1 : Int)) (bc (U.int (List.getD (List.getD l (Int.toNat i) []) (0 : Nat) (U.i (0 : Int))) != (2 : Int)) (.done (EV.v (Value.int IntKind.i64 (2))) [] 0) (bc (decide (U.int (List.getD (List.getD l (Int.toNat i) []) (Nat.succ (0 : Nat)) (U.i (0 : Int))) < (0 : Int))) (.done (EV.v (Value.int IntKind.i64 (2))) [] 0) (bc (decide (IntKind.wrap IntKind.i64 (n - (2 : Int)) < U.int (List.getD (List.getD l (Int.toNat i) []) (Nat.succ (0 : Nat)) (U.i (0 : Int))))) (.done (EV.v (Value.int IntKind.i64 (2))) [] 0) (bc (U.int (List.getD (List.getD l (Int.toNat i) []) (0 : Nat) (U.i (0 : Int))) == (2 : Int)) (bc (!ByteArray.toList (U.str (List.getD (List.getD l (Int.toNat i) []) (Nat.succ (Nat.succ (0 : Nat))) (U.i (0 : Int)))) == ByteArray.toList { data := #[] }) (.done (EV.v (Value.int IntKind.i64 (2))) [] 0) (.at (sB (n) (l) (IntKind.wrap IntKind.i64 (i + (1 : Int)))))) (.at (sB (n) (l) (IntKind.wrap IntKind.i64 (i + (1 : Int))))))))) (bc (decide (U.int (List.getD (List.getD l (Int.toNat i) []) (Nat.succ (0 : Nat)) (U.i (0 : Int))) < (0 : Int))) (.done (EV.v (Value.int IntKind.i64 (2))) [] 0) (bc (decide (IntKind.wrap IntKind.i64 (n - (2 : Int)) < U.int (List.getD (List.getD l (Int.toNat i) []) (Nat.succ (0 : Nat)) (U.i (0 : Int))))) (.done (EV.v (Value.int IntKind.i64 (2))) [] 0) (bc (U.int (List.getD (List.getD l (Int.toNat i) []) (0 : Nat) (U.i (0 : Int))) == (2 : Int)) (bc (!ByteArray.toList (U.str (List.getD (List.getD l (Int.toNat i) []) (Nat.succ (Nat.succ (0 : Nat))) (U.i (0 : Int)))) == ByteArray.toList { data := #[] }) (.done (EV.v (Value.int IntKind.i64 (2))) [] 0) (.at (sB (n) (l) (IntKind.wrap IntKind.i64 (i + (1 : Int)))))) (.at (sB (n) (l) (IntKind.wrap IntKind.i64 (i + (1 : Int))))))))) .bad) .bad) (.at (sC (n) (l) ((0 : Int))))) := by kernel_rfl
theorem c_t (n : Int) (l : List (List U)) (i : Int) : RUN (stOf (sC n l i)) = (bc (decide (i < Int.ofNat (List.length l))) (bc (bc (bc (decide ((0 : Int) ≤ i)) (Nat.blt (Int.toNat i) (List.length l)) false) true false) (bc (bc (Nat.blt (Int.toNat i) (List.length l)) true false) (bc (chk3 (U.str (List.getD (List.getD l (Int.toNat i) []) (Nat.add (0 : Nat) (2 : Nat)) (U.i (0 : Int)))) != (0 : Int)) (.done (EV.v (Value.int IntKind.i64 (6))) [] 0) (.at (sC (n) (l) (IntKind.wrap IntKind.i64 (i + (1 : Int)))))) .bad) .bad) (.done (EV.v (Value.int IntKind.i64 (0))) [] 0)) := by kernel_rfl
theorem aStep {n : Int} {l : List (List U)} {i : Nat} (hi : i < l.length) (hl : l.length ≤ 400) : RUN (stOf (sA n l i)) = bc (longR l[i]) (.done (iv 3) [] 0) (.at (sA n l (i + 1 : Nat))) := by
  rw [a_t]
  have e : l.getD i [] = l[i] := getD_at hi
  simp (disch := omega) only [Nat.add_eq, eqSy_self, eqN_self, bc_same, List.length_cons, ofn, wrap_in, dt, df, bltD, bltN, ble_of, bleN, beqD, bc_t, bc_f, nn_ok, Nat.zero_add, to_nat, Int.zero_add, Int.sub_zero, Int.sub_self, Int.cast_ofNat_Int, Int.natCast_zero, Int.toNat_zero, List.take_zero, List.nil_append, List.length_append, List.length_nil, e, fK0, fK1, fA0, fA1, fA2, fW0, fW1, fW2]
  rfl
theorem aLast {n : Int} {l : List (List U)} {i : Nat} (hi : l.length ≤ i) : RUN (stOf (sA n l i)) = bc (decide (n < 2)) (.done (iv 2) [] 0) (.at (sB n l 0)) := by
  rw [a_t]
  simp (disch := omega) only [Nat.add_eq, eqSy_self, eqN_self, bc_same, List.length_cons, ofn, wrap_in, dt, df, bltD, bltN, ble_of, bleN, beqD, bc_t, bc_f, nn_ok, Nat.zero_add, to_nat, Int.zero_add, Int.sub_zero, Int.sub_self, Int.cast_ofNat_Int, Int.natCast_zero, Int.toNat_zero, List.take_zero, List.nil_append, List.length_append, List.length_nil]
theorem bStep {n : Int} {l : List (List U)} {i : Nat} (hi : i < l.length) (hl : l.length ≤ 400) (h2 : 2 ≤ n) (h3 : n ≤ 24) : RUN (stOf (sB n l i)) = bc (badR n l[i]) (.done (iv 2) [] 0) (.at (sB n l (i + 1 : Nat))) := by
  rw [b_t]
  have e : l.getD i [] = l[i] := getD_at hi
  unfold badR
  simp (disch := omega) only [Nat.add_eq, eqSy_self, eqN_self, bc_same, List.length_cons, ofn, wrap_in, dt, df, bltD, bltN, ble_of, bleN, beqD, bc_t, bc_f, nn_ok, Nat.zero_add, to_nat, Int.zero_add, Int.sub_zero, Int.sub_self, Int.cast_ofNat_Int, Int.natCast_zero, Int.toNat_zero, List.take_zero, List.nil_append, List.length_append, List.length_nil, e, fK0, fK1, fA0, fA1, fA2, fW0, fW1, fW2, bc_bc]
  rfl
theorem bLast {n : Int} {l : List (List U)} {i : Nat} (hi : l.length ≤ i) : RUN (stOf (sB n l i)) = .at (sC n l 0) := by
  rw [b_t]
  simp (disch := omega) only [Nat.add_eq, eqSy_self, eqN_self, bc_same, List.length_cons, ofn, wrap_in, dt, df, bltD, bltN, ble_of, bleN, beqD, bc_t, bc_f, nn_ok, Nat.zero_add, to_nat, Int.zero_add, Int.sub_zero, Int.sub_self, Int.cast_ofNat_Int, Int.natCast_zero, Int.toNat_zero, List.take_zero, List.nil_append, List.length_append, List.length_nil]
theorem cStep {n : Int} {l : List (List U)} {i : Nat} (hi : i < l.length) (hl : l.length ≤ 400) : RUN (stOf (sC n l i)) = bc (formR l[i]) (.done (iv 6) [] 0) (.at (sC n l (i + 1 : Nat))) := by
  rw [c_t]
  have e : l.getD i [] = l[i] := getD_at hi
  simp (disch := omega) only [Nat.add_eq, eqSy_self, eqN_self, bc_same, List.length_cons, ofn, wrap_in, dt, df, bltD, bltN, ble_of, bleN, beqD, bc_t, bc_f, nn_ok, Nat.zero_add, to_nat, Int.zero_add, Int.sub_zero, Int.sub_self, Int.cast_ofNat_Int, Int.natCast_zero, Int.toNat_zero, List.take_zero, List.nil_append, List.length_append, List.length_nil, e, fK0, fK1, fA0, fA1, fA2, fW0, fW1, fW2]
  rfl
theorem cLast {n : Int} {l : List (List U)} {i : Nat} (hi : l.length ≤ i) : RUN (stOf (sC n l i)) = .done (iv 0) [] 0 := by
  rw [c_t]
  simp (disch := omega) only [Nat.add_eq, eqSy_self, eqN_self, bc_same, List.length_cons, ofn, wrap_in, dt, df, bltD, bltN, ble_of, bleN, beqD, bc_t, bc_f, nn_ok, Nat.zero_add, to_nat, Int.zero_add, Int.sub_zero, Int.sub_self, Int.cast_ofNat_Int, Int.natCast_zero, Int.toNat_zero, List.take_zero, List.nil_append, List.length_append, List.length_nil]
theorem cLoop {n : Int} {l : List (List U)} (hl : l.length ≤ 400) : ∀ (k i : Nat), i + k = l.length → EndZ 64 ctC false (stOf (sC n l i)) (iv (bc (anyR formR (l.drop i)) 6 0)) [] 0
  | 0, i, h => by
    rw [List.drop_eq_nil_of_le (by omega)]
    exact .done (cLast (by omega))
  | k + 1, i, h => by
    have hi : i < l.length := by omega
    have := cStep (n := n) hi hl
    rw [List.drop_eq_getElem_cons hi, anyR_cons]
    cases hb : formR l[i] <;> rw [hb] at this
    · exact .at ctC_ok this (cLoop hl k (i + 1) (by omega))
    · exact .done this
theorem bLoop {n : Int} {l : List (List U)} (hl : l.length ≤ 400) (h2 : 2 ≤ n) (h3 : n ≤ 24) : ∀ (k i : Nat), i + k = l.length → EndZ 64 ctC false (stOf (sB n l i)) (iv (bc (anyR (badR n) (l.drop i)) 2 (bc (anyR formR l) 6 0))) [] 0
  | 0, i, h => by
    rw [List.drop_eq_nil_of_le (by omega)]
    exact .at ctC_ok (bLast (by omega)) (cLoop hl l.length 0 (by omega))
  | k + 1, i, h => by
    have hi : i < l.length := by omega
    have := bStep (n := n) hi hl h2 h3
    rw [List.drop_eq_getElem_cons hi, anyR_cons]
    cases hb : badR n l[i] <;> rw [hb] at this
    · exact .at ctC_ok this (bLoop hl h2 h3 k (i + 1) (by omega))
    · exact .done this
theorem aLoop {n : Int} {l : List (List U)} (hl : l.length ≤ 400) (h3 : n ≤ 24) : ∀ (k i : Nat), i + k = l.length → EndZ 64 ctC false (stOf (sA n l i)) (iv (bc (anyR longR (l.drop i)) 3 (bc (decide (n < 2)) 2 (bc (anyR (badR n) l) 2 (bc (anyR formR l) 6 0))))) [] 0
  | 0, i, h => by
    rw [List.drop_eq_nil_of_le (by omega)]
    have := aLast (n := n) (l := l) (i := i) (by omega)
    by_cases h2 : n < 2
    · rw [dt h2, bc_t] at this ⊢; exact .done this
    · rw [df h2, bc_f] at this ⊢; exact .at ctC_ok this (bLoop hl (by omega) h3 l.length 0 (by omega))
  | k + 1, i, h => by
    have hi : i < l.length := by omega
    have := aStep (n := n) hi hl
    rw [List.drop_eq_getElem_cons hi, anyR_cons]
    cases hb : longR l[i] <;> rw [hb] at this
    · exact .at ctC_ok this (aLoop hl h3 k (i + 1) (by omega))
    · exact .done this
theorem ends (n : Int) (l : List (List U)) : EndZ 64 ctC false (st0 64 [.agg [iv n, wl l]]) (iv (chk4 n l)) [] 0 := by
  have h := in_t n l
  unfold chk4
  by_cases h1 : 24 < n
  · simp only [dt h1, bc_t] at h ⊢; exact .done h
  by_cases h2 : 400 < (l.length : Int)
  · simp only [ofn, df h1, dt h2, bc_t, bc_f] at h ⊢; exact .done h
  · simp only [ofn, df h1, df h2, bc_f] at h ⊢
    exact .at ctC_ok h (aLoop (by omega) (by omega) l.length 0 (by omega))
end RChk4
noncomputable def spChk4 : ZCT := fun ax => match ax with
  | [.agg [.v (.int .i64 n), .lst (.recs [.int .i64, .int .i64, .str] l)]] => some ⟨decide (True), iv (chk4 n l), [], 0⟩
  | _ => none
theorem spChk4_ok : ZCtOk Try.prog 64 spChk4 := fun γ w us ax r hs hc hax hN hfz => by
  unfold spChk4 at hs
  split at hs
  case h_2 => cases hs
  rename_i n l
  obtain ⟨rfl⟩ := Option.some.inj hs
  have hc_0 : decide (True) = true := hc
  have hc := of_decide_eq_true hc_0
  exact EndZ.calls (RChk4.ends n l) ctC_ok (by kernel_rfl) hax hN hfz
end Go.Proofs.Ythaljeccdeajoaa.Ev
namespace Go.Proofs.Ythaljeccdeajoaa.Ev
open Go.RowKit
variable {P : Program} {γ γ' : G} {w0 : Bs} {w w' : World} {H H' : Tr EK} {n n' : Nat}
theorem HR.start (hN : ∀ i, γ i = none) (hfz : FzAt γ w) : HR γ (Bs.ofG w γ) .nil 0 w :=
  ⟨(fun i k hk => by cases hk), (fun i j ki kj hi => by cases hi), (fun i _ => hN i), (fun i hi => hi.elim), (fun i p hp => by rw [hN i] at hp; cases hp), ⟨rfl, rfl, rfl, Nat.le_refl _, fun _ _ => rfl⟩, FZ.init hfz⟩
end Go.Proofs.Ythaljeccdeajoaa.Ev
namespace Go.Proofs.Ythaljeccdeajoaa.Ev
open Go.Proofs
theorem byteAt_lo (s : ByteArray) (i : Nat) : 0 ≤ byteAt s i := by unfold byteAt; exact Int.natCast_nonneg _
theorem byteAt_hi (s : ByteArray) (i : Nat) : byteAt s i < 256 := by
  unfold byteAt
  have := (s.data.toList.getD i 0).toNat_lt
  show ((s.data.toList.getD i 0).toNat : Int) < 256
  omega
theorem idxB_lib (s : ByteArray) (b : UInt8) : ∀ (k i : Nat), i + k = s.size → idxB s (b.toNat : Int) i k = if Lib.indexByte (s.data.toList.drop i) b = -1 then -1 else Lib.indexByte (s.data.toList.drop i) b + i
  | 0, i, h => by
    rw [List.drop_eq_nil_of_le (by have : s.data.toList.length = s.size := by rw [Array.length_toList]; rfl
                                   omega)]
    rfl
  | k + 1, i, h => by
    have hl : s.data.toList.length = s.size := by rw [Array.length_toList]; rfl
    have hi : i < s.data.toList.length := by omega
    rw [List.drop_eq_getElem_cons hi]
    unfold idxB
    rw [idxB_lib s b k (i + 1) (by omega)]
    have e : (byteAt s i == (b.toNat : Int)) = (s.data.toList[i] == b) := by
      unfold byteAt
      rw [getD_at hi]
      apply Bool.eq_iff_iff.2
      simp only [beq_iff_eq]
      constructor
      · intro h; exact UInt8.toNat_inj.1 (by have h : ((s.data.toList[i]).toNat : Int) = b.toNat := h; omega)
      · intro h; rw [h]; rfl
    rw [e]
    rw [show Lib.indexByte (s.data.toList[i] :: s.data.toList.drop (i + 1)) b = if (s.data.toList[i] == b) = true then 0 else if (Lib.indexByte (s.data.toList.drop (i + 1)) b == -1) = true then -1 else Lib.indexByte (s.data.toList.drop (i + 1)) b + 1 from rfl]
    have ge := Lib.indexByte_ge (s.data.toList.drop (i + 1)) b
    by_cases h1 : (s.data.toList[i] == b) = true
    · rw [h1]; simp [bc]
    · have h1 : (s.data.toList[i] == b) = false := by simpa using h1
      rw [h1]
      by_cases h2 : Lib.indexByte (s.data.toList.drop (i + 1)) b = -1
      · simp [bc, h2]
      · have h3 : (Lib.indexByte (s.data.toList.drop (i + 1)) b == -1) = false := by simpa using h2
        simp only [bc, h3, if_neg h2]
        rw [if_neg (by simp; omega)]
        simp
        omega
theorem idx_lib (s : ByteArray) (c : Int) (h1 : 0 ≤ c) (h2 : c < 256) : Lib.indexByte s.data.toList c.toNat.toUInt8 = idx s c := by
  have e : ((c.toNat.toUInt8).toNat : Int) = c := by
    have : c.toNat % 256 = c.toNat := Nat.mod_eq_of_lt (by omega)
    show ((c.toNat % 256 : Nat) : Int) = c
    omega
  unfold idx
  rw [← e, idxB_lib s _ s.size 0 (by omega), List.drop_zero, e]
  split
  · rename_i h; rw [h]
  · simp
noncomputable def spIB : ZCT := fun ax => match ax with
  | [.v (.string s), .v (.int .u8 c)] => some ⟨bc (decide (0 ≤ c)) (decide (c < 256)) false, iv (idx s c), [], 0⟩
  | _ => none
theorem spIB_ok : ZCtOk Try.prog 172 spIB := fun γ w us ax r hs hc hax hN hfz => by
  unfold spIB at hs
  split at hs
  case h_2 => cases hs
  rename_i s c
  obtain ⟨rfl⟩ := Option.some.inj hs
  obtain ⟨h1, h2⟩ := bcT (show bc (decide (0 ≤ c)) (decide (c < 256)) false = true from hc)
  have h1 := of_decide_eq_true h1
  have h2 := of_decide_eq_true h2
  obtain ⟨x, r1, e1, hx, hc1⟩ := ECL.inv hax
  obtain ⟨y, r2, e2, hy, hc2⟩ := ECL.inv hc1
  have e3 : r2 = [] := by apply List.eq_nil_of_length_eq_zero; have := hc2.1; simpa using this.symm
  have hx := ec_v hx
  have hy := ec_v hy
  subst hx; subst hy; subst e3; subst e2
  have eu : us = #[.string s, .int .u8 c] := by apply Array.ext'; simpa using e1
  rw [eu]
  refine (Try.strings_IndexByte s c w).mono ?_
  rintro e w' ⟨rfl, rfl⟩
  exact ⟨γ, _, rfl, by rw [idx_lib s c h1 h2]; exact .v _, HR.start hN hfz⟩
noncomputable def ctP1 : Tr ZCC := Tr.nil.put 172 (some (dC spIB))
theorem ctP1_ok : ZCtsOk Try.prog ctP1 := (ZCtsOk.nil _).add rfl spIB_ok

namespace PChk3
noncomputable def RUN (s : ES) : ZF := RZ 130 ctP1 (atS 0 130 4) [] [[(0,none),(8,none),(9,none)]] false s

noncomputable def sC (s : ByteArray) (i : Int) : NS := ⟨[⟨130, 18, [(0, (EV.v (Value.string (s)))), (8, (EV.v (Value.int IntKind.i64 (Int.ofNat (ByteArray.size s))))), (9, iv i)], [.it (.code (nav [1, 1, 0, 1, 0, 0] (bodyOf Try.f130))), .it (.inLoop (nav [1, 1, 0, 1, 0, 0] (bodyOf Try.f130))), .it (.inBlock 0), .it (.code (nav [1, 1, 1] (bodyOf Try.f130)))], [], Option.none⟩], [], 0⟩
theorem in_t (s : ByteArray) : RUN (st0 130 [sv s]) = (bc (decide ((16 : Int) < Int.ofNat (ByteArray.size s))) (.done (EV.v (Value.int IntKind.i64 (3))) [] 0) (.at (sC (s) ((0 : Int))))) := by kernel_rfl
theorem step_t (s : ByteArray) (i : Int) : RUN (stOf (sC s i)) = (bc (decide (i < Int.ofNat (ByteArray.size s))) (bc (bc (bc (decide ((0 : Int) ≤ i)) (Nat.blt (Int.toNat i) (ByteArray.size s)) false) true false) (bc (bc (decide (byteAt s (Int.toNat i) < (256 : Int))) true false) (bc (decide (idx { data := #[(67 : UInt8), (84 : UInt8), (76 : UInt8), (82 : UInt8), (80 : UInt8), (99 : UInt8), (116 : UInt8), (108 : UInt8), (114 : UInt8)] } (byteAt s (Int.toNat i)) < (0 : Int))) (.done (EV.v (Value.int IntKind.i64 (6))) [] 0) (.at (sC (s) (IntKind.wrap IntKind.i64 (i + (1 : Int)))))) .bad) .bad) (.done (EV.v (Value.int IntKind.i64 (0))) [] 0)) := by kernel_rfl
theorem step {s : ByteArray} {i : Nat} (hi : i < s.size) (hs : s.size ≤ 1000) : RUN (stOf (sC s i)) = bc (decide (idx bLet (byteAt s i) < 0)) (.done (iv 6) [] 0) (.at (sC s (i + 1 : Nat))) := by
  rw [step_t]
  have h1 := byteAt_lo s i
  have h2 := byteAt_hi s i
  simp (disch := omega) only [Nat.add_eq, eqSy_self, eqN_self, bc_same, List.length_cons, ofn, wrap_in, dt, df, bltD, bltN, ble_of, bleN, beqD, bc_t, bc_f, nn_ok, Nat.zero_add, to_nat, Int.zero_add, Int.sub_zero, Int.sub_self, Int.cast_ofNat_Int, Int.natCast_zero, Int.toNat_zero, List.take_zero, List.nil_append, List.length_append, List.length_nil]
  rfl
theorem last {s : ByteArray} {i : Nat} (hi : s.size ≤ i) : RUN (stOf (sC s i)) = .done (iv 0) [] 0 := by
  rw [step_t]
  simp (disch := omega) only [Nat.add_eq, eqSy_self, eqN_self, bc_same, List.length_cons, ofn, wrap_in, dt, df, bltD, bltN, ble_of, bleN, beqD, bc_t, bc_f, nn_ok, Nat.zero_add, to_nat, Int.zero_add, Int.sub_zero, Int.sub_self, Int.cast_ofNat_Int, Int.natCast_zero, Int.toNat_zero, List.take_zero, List.nil_append, List.length_append, List.length_nil]
theorem loop {s : ByteArray} (hs : s.size ≤ 1000) : ∀ (k i : Nat), i + k = s.size → EndZ 130 ctP1 false (stOf (sC s i)) (iv (bc (badF s i k) 6 0)) [] 0
  | 0, i, h => .done (last (by omega))
  | k + 1, i, h => by
    have := step (show i < s.size by omega) hs
    unfold badF
    cases hb : decide (idx bLet (byteAt s i) < 0) <;> rw [hb] at this
    · exact .at ctP1_ok this (loop hs k (i + 1) (by omega))
    · exact .done this
theorem ends (s : ByteArray) : EndZ 130 ctP1 false (st0 130 [sv s]) (iv (chk3 s)) [] 0 := by
  have h := in_t s
  unfold chk3
  by_cases h1 : 16 < (s.size : Int)
  · simp only [ofn, dt h1, bc_t] at h ⊢; exact .done h
  · simp only [ofn, df h1, bc_f] at h ⊢
    exact .at ctP1_ok h (loop (by omega) s.size 0 (by omega))
end PChk3
noncomputable def spPChk3 : ZCT := fun ax => match ax with
  | [.v (.string s)] => some ⟨decide (True), iv (chk3 s), [], 0⟩
  | _ => none
theorem spPChk3_ok : ZCtOk Try.prog 130 spPChk3 := fun γ w us ax r hs hc hax hN hfz => by
  unfold spPChk3 at hs
  split at hs
  case h_2 => cases hs
  rename_i s
  obtain ⟨rfl⟩ := Option.some.inj hs
  have hc_0 : decide (True) = true := hc
  have hc := of_decide_eq_true hc_0
  exact EndZ.calls (PChk3.ends s) ctP1_ok (by kernel_rfl) hax hN hfz
noncomputable def ctP2 : Tr ZCC := ctP1.put 130 (some (dC spPChk3))
theorem ctP2_ok : ZCtsOk Try.prog ctP2 := ctP1_ok.add rfl spPChk3_ok

namespace PAny
noncomputable def RUN (s : ES) : ZF := RZ 171 .nil (atS 0 171 2) [] [[(0,none),(1,none),(7,none),(8,none)]] false s
noncomputable abbrev args (l : List (List U)) : List EV := [wl l, .fn 129 []]

noncomputable def sF (l : List (List U)) (i : Int) : NS := ⟨[⟨171, 19, [(0, (EV.lst (SyC.recs [(Sh.int IntKind.i64), (Sh.int IntKind.i64), Sh.str] (l)))), (1, (EV.fn 129 [])), (7, (EV.v (Value.int IntKind.i64 (Int.ofNat (List.length l))))), (8, iv i)], [.it (.code (nav [1, 0, 1, 0, 0] (bodyOf Try.f171))), .it (.inLoop (nav [1, 0, 1, 0, 0] (bodyOf Try.f171))), .it (.inBlock 0), .it (.code (nav [1, 1] (bodyOf Try.f171)))], [], Option.none⟩], [], 0⟩
theorem in_t (l : List (List U)) : RUN (st0 171 (args l)) = (.at (sF (l) ((0 : Int)))) := by kernel_rfl
theorem step_t (l : List (List U)) (i : Int) : RUN (stOf (sF l i)) = (bc (decide (i < Int.ofNat (List.length l))) (bc (bc (bc (decide ((0 : Int) ≤ i)) (Nat.blt (Int.toNat i) (List.length l)) false) true false) (bc (bc (Nat.blt (Int.toNat i) (List.length l)) true false) (bc (decide ((16 : Int) < Int.ofNat (ByteArray.size (U.str (List.getD (List.getD l (Int.toNat i) []) (Nat.succ (Nat.succ (0 : Nat))) (U.i (0 : Int))))))) (.done (EV.v (Value.int IntKind.i64 (i))) [] 0) (.at (sF (l) (IntKind.wrap IntKind.i64 (i + (1 : Int)))))) .bad) .bad) (.done (EV.v (Value.int IntKind.i64 (-1))) [] 0)) := by kernel_rfl
noncomputable def at' (l : List (List U)) (i : Nat) : List (List U) → Int
  | [] => -1
  | r :: q => bc (longR r) (i : Int) (at' l (i + 1) q)
theorem step {l : List (List U)} {i : Nat} (hi : i < l.length) (hl : l.length ≤ 100000) : RUN (stOf (sF l i)) = bc (longR l[i]) (.done (iv i) [] 0) (.at (sF l (i + 1 : Nat))) := by
  rw [step_t]
  have e : l.getD i [] = l[i] := getD_at hi
  simp (disch := omega) only [Nat.add_eq, eqSy_self, eqN_self, bc_same, List.length_cons, ofn, wrap_in, dt, df, bltD, bltN, ble_of, bleN, beqD, bc_t, bc_f, nn_ok, Nat.zero_add, to_nat, Int.zero_add, Int.sub_zero, Int.sub_self, Int.cast_ofNat_Int, Int.natCast_zero, Int.toNat_zero, List.take_zero, List.nil_append, List.length_append, List.length_nil, e, fK0, fK1, fA0, fA1, fA2, fW0, fW1, fW2]
  rfl
theorem last {l : List (List U)} {i : Nat} (hi : l.length ≤ i) : RUN (stOf (sF l i)) = .done (iv (-1)) [] 0 := by
  rw [step_t]
  simp (disch := omega) only [Nat.add_eq, eqSy_self, eqN_self, bc_same, List.length_cons, ofn, wrap_in, dt, df, bltD, bltN, ble_of, bleN, beqD, bc_t, bc_f, nn_ok, Nat.zero_add, to_nat, Int.zero_add, Int.sub_zero, Int.sub_self, Int.cast_ofNat_Int, Int.natCast_zero, Int.toNat_zero, List.take_zero, List.nil_append, List.length_append, List.length_nil]
theorem loop {l : List (List U)} (hl : l.length ≤ 100000) : ∀ (k i : Nat), i + k = l.length → EndZ 171 .nil false (stOf (sF l i)) (iv (at' l i (l.drop i))) [] 0
  | 0, i, h => by
    rw [List.drop_eq_nil_of_le (by omega)]
    exact .done (last (by omega))
  | k + 1, i, h => by
    have hi : i < l.length := by omega
    have := step hi hl
    rw [List.drop_eq_getElem_cons hi]
    unfold at'
    cases hb : longR l[i] <;> rw [hb] at this
    · exact .at (.nil _) this (loop hl k (i + 1) (by omega))
    · exact .done this
theorem sign (l : List (List U)) : ∀ (q : List (List U)) (i : Nat), decide (0 ≤ at' l i q) = anyR longR q
  | [], i => rfl
  | r :: q, i => by
    rw [anyR_cons]
    unfold at'
    cases longR r
    · exact sign l q (i + 1)
    · exact dt (Int.natCast_nonneg i)
end PAny
noncomputable def spIxF : ZCT := fun ax => match ax with
  | [.lst (.recs [.int .i64, .int .i64, .str] l), .fn 129 []] => some ⟨decide (l.length ≤ 100000), iv (PAny.at' l 0 l), [], 0⟩
  | _ => none
theorem spIxF_ok : ZCtOk Try.prog 171 spIxF := fun γ w us ax r hs hc hax hN hfz => by
  unfold spIxF at hs
  split at hs
  case h_2 => cases hs
  rename_i l
  obtain ⟨rfl⟩ := Option.some.inj hs
  have hc_0 : decide (l.length ≤ 100000) = true := hc
  have hc := of_decide_eq_true hc_0
  exact EndZ.calls (.at (.nil _) (PAny.in_t l) (PAny.loop hc l.length 0 (by omega))) (.nil _) (by kernel_rfl) hax hN hfz
noncomputable def ctP3 : Tr ZCC := ctP2.put 171 (some (dC spIxF))
theorem ctP3_ok : ZCtsOk Try.prog ctP3 := ctP2_ok.add rfl spIxF_ok

namespace PChk4
noncomputable def RUN (s : ES) : ZF := RZ 71 ctP3 (atS 0 71 7) [] [[(1,none),(3,none),(24,none),(25,none),(26,none)]] false s

noncomputable def sB (n : Int) (l : List (List U)) (f i : Int) : NS := ⟨[⟨71, 63, [(1, (EV.ptr 0 0)), (3, iv f), (24, (EV.lst (SyC.recs [(Sh.int IntKind.i64), (Sh.int IntKind.i64), Sh.str] (l)))), (25, (EV.v (Value.int IntKind.i64 (Int.ofNat (List.length l))))), (26, iv i)], [.it (.code (nav [1, 1, 1, 1, 0, 1, 0, 0] (bodyOf Try.f71))), .it (.inLoop (nav [1, 1, 1, 1, 0, 1, 0, 0] (bodyOf Try.f71))), .it (.inBlock 0), .it (.code (nav [1, 1, 1, 1, 1] (bodyOf Try.f71)))], [], Option.none⟩], [(0, (EK.cells 24 [(EV.v (Value.int IntKind.i64 (n))), (EV.lst (SyC.recs [(Sh.int IntKind.i64), (Sh.int IntKind.i64), Sh.str] (l)))] true))], 1⟩
theorem in_t (n : Int) (l : List (List U)) : RUN (st0 71 [.agg [iv n, wl l]]) = (bc (decide ((24 : Int) < n)) (.done (EV.v (Value.int IntKind.i64 (3))) [] 0) (bc (decide ((400 : Int) < Int.ofNat (List.length l))) (.done (EV.v (Value.int IntKind.i64 (3))) [] 0) (bc (bc (decide (List.length l ≤ (100000 : Nat))) true false) (bc (decide ((0 : Int) ≤ PAny.at' l (0 : Nat) l)) (.done (EV.v (Value.int IntKind.i64 (3))) [] 0) (bc (decide (n < (2 : Int))) (.done (EV.v (Value.int IntKind.i64 (2))) [] 0) (.at (sB (n) (l) ((0 : Int)) ((0 : Int)))))) .bad))) := by kernel_rfl
theorem b_t (n : Int) (l : List (List U)) (f i : Int) : RUN (stOf (sB n l f i)) = (bc (decide (i < Int.ofNat (List.length l))) (bc (bc (bc (decide ((0 : Int) ≤ i)) (Nat.blt (Int.toNat i) (List.length l)) false) true false) (bc (bc (Nat.blt (Int.toNat i) (List.length l)) true false) (bc (U.int (List.getD (List.getD l (Int.toNat i) []) (0 : Nat) (U.i (0 : Int))) != (1 : Int)) (bc (U.int (List.getD (List.getD l (Int.toNat i) []) (0 : Nat) (U.i (0 : Int))) != (2 : Int)) (.done (EV.v (Value.int IntKind.i64 (2))) [] 0) (bc (!ByteArray.toList (U.str (List.getD (List.getD l (Int.toNat i) []) (Nat.succ (Nat.succ (0 : Nat))) (U.i (0 : Int)))) == ByteArray.toList { data := #[] }) (.done (EV.v (Value.int IntKind.i64 (2))) [] 0) (bc (decide (U.int (List.getD (List.getD l (Int.toNat i) []) (Nat.succ (0 : Nat)) (U.i (0 : Int))) < (0 : Int))) (.done (EV.v (Value.int IntKind.i64 (2))) [] 0) (bc (decide (IntKind.wrap IntKind.i64 (n - (2 : Int)) < U.int (List.getD (List.getD l (Int.toNat i) []) (Nat.succ (0 : Nat)) (U.i (0 : Int))))) (.done (EV.v (Value.int IntKind.i64 (2))) [] 0) (.at (sB (n) (l) (if chk3 (U.str (List.getD (List.getD l (Int.toNat i) []) (Nat.succ (Nat.succ (0 : Nat))) (U.i (0 : Int)))) > f then chk3 (U.str (List.getD (List.getD l (Int.toNat i) []) (Nat.succ (Nat.succ (0 : Nat))) (U.i (0 : Int)))) else f) (IntKind.wrap IntKind.i64 (i + (1 : Int))))))))) (bc (decide (U.int (List.getD (List.getD l (Int.toNat i) []) (Nat.succ (0 : Nat)) (U.i (0 : Int))) < (0 : Int))) (.done (EV.v (Value.int IntKind.i64 (2))) [] 0) (bc (decide (IntKind.wrap IntKind.i64 (n - (2 : Int)) < U.int (List.getD (List.getD l (Int.toNat i) []) (Nat.succ (0 : Nat)) (U.i (0 : Int))))) (.done (EV.v (Value.int IntKind.i64 (2))) [] 0) (.at (sB (n) (l) (if chk3 (U.str (List.getD (List.getD l (Int.toNat i) []) (Nat.succ (Nat.succ (0 : Nat))) (U.i (0 : Int)))) > f then chk3 (U.str (List.getD (List.getD l (Int.toNat i) []) (Nat.succ (Nat.succ (0 : Nat))) (U.i (0 : Int)))) else f) (IntKind.wrap IntKind.i64 (i + (1 : Int)))))))) .bad) .bad) (.done (EV.v (Value.int IntKind.i64 (f))) [] 0)) := by kernel_rfl
noncomputable def badP (n : Int) (r : List U) : Bool := bc (rK r != 1)
  (bc (rK r != 2) true (bc (!((rW r).toList == (ByteArray.mk #[]).toList)) true (bc (decide (rA r < 0)) true (bc (decide (n - 2 < rA r)) true false))))
  (bc (decide (rA r < 0)) true (bc (decide (n - 2 < rA r)) true false))
theorem badP_eq (n : Int) (r : List U) : badP n r = badR n r := by
  unfold badP badR
  by_cases h1 : rK r = 1
  · have e1 : (rK r != 1) = false := by simp [h1]
    have e2 : (rK r == 2) = false := by simp [h1]
    rw [e1, e2]; simp only [bc_f]
  · have e1 : (rK r != 1) = true := by simp [h1]
    by_cases h2 : rK r = 2
    · have e2 : (rK r != 2) = false := by simp [h2]
      have e3 : (rK r == 2) = true := by simp [h2]
      rw [e1, e2, e3]
      simp only [bc_t, bc_f]
      cases decide (rA r < 0) <;> cases decide (n - 2 < rA r) <;> cases ((rW r).toList == (ByteArray.mk #[]).toList) <;> rfl
    · have e2 : (rK r != 2) = true := by simp [h2]
      rw [e1, e2]; simp only [bc_t]
theorem step {n f : Int} {l : List (List U)} {i : Nat} (hi : i < l.length) (hl : l.length ≤ 400) (h2 : 2 ≤ n) (h3 : n ≤ 24) : RUN (stOf (sB n l f i)) = bc (badR n l[i]) (.done (iv 2) [] 0) (.at (sB n l (if chk3 (rW l[i]) > f then chk3 (rW l[i]) else f) (i + 1 : Nat))) := by
  rw [b_t, ← badP_eq]
  have e : l.getD i [] = l[i] := getD_at hi
  unfold badP
  simp (disch := omega) only [Nat.add_eq, eqSy_self, eqN_self, bc_same, List.length_cons, ofn, wrap_in, dt, df, bltD, bltN, ble_of, bleN, beqD, bc_t, bc_f, nn_ok, Nat.zero_add, to_nat, Int.zero_add, Int.sub_zero, Int.sub_self, Int.cast_ofNat_Int, Int.natCast_zero, Int.toNat_zero, List.take_zero, List.nil_append, List.length_append, List.length_nil, e, fK0, fK1, fA0, fA1, fA2, fW0, fW1, fW2, bc_bc]
  rfl
theorem last {n f : Int} {l : List (List U)} {i : Nat} (hi : l.length ≤ i) : RUN (stOf (sB n l f i)) = .done (iv f) [] 0 := by
  rw [b_t]
  simp (disch := omega) only [Nat.add_eq, eqSy_self, eqN_self, bc_same, List.length_cons, ofn, wrap_in, dt, df, bltD, bltN, ble_of, bleN, beqD, bc_t, bc_f, nn_ok, Nat.zero_add, to_nat, Int.zero_add, Int.sub_zero, Int.sub_self, Int.cast_ofNat_Int, Int.natCast_zero, Int.toNat_zero, List.take_zero, List.nil_append, List.length_append, List.length_nil]
theorem form_step {r : List U} {f : Int} (hr : longR r = false) (hf : f = 0 ∨ f = 6) : (if chk3 (rW r) > f then chk3 (rW r) else f) = bc (formR r) 6 f := by
  unfold longR at hr
  unfold formR chk3
  rw [hr, bc_f]
  cases badF (rW r) 0 (rW r).size
  · rw [bc_f]
    have e : ((0 : Int) != 0) = false := rfl
    rw [e, bc_f]
    rcases hf with rfl | rfl <;> rfl
  · rw [bc_t]
    have e : ((6 : Int) != 0) = true := rfl
    rw [e, bc_t]
    rcases hf with rfl | rfl <;> rfl
theorem loop {n : Int} {l : List (List U)} (hl : l.length ≤ 400) (h2 : 2 ≤ n) (h3 : n ≤ 24) : ∀ (k i : Nat) (f : Int), i + k = l.length → anyR longR (l.drop i) = false → f = 0 ∨ f = 6 → EndZ 71 ctP3 false (stOf (sB n l f i)) (iv (bc (anyR (badR n) (l.drop i)) 2 (bc (anyR formR (l.drop i)) 6 f))) [] 0
  | 0, i, f, h, _, _ => by
    rw [List.drop_eq_nil_of_le (by omega)]
    exact .done (last (by omega))
  | k + 1, i, f, h, hg, hf => by
    have hi : i < l.length := by omega
    have := step (n := n) (f := f) hi hl h2 h3
    rw [List.drop_eq_getElem_cons hi] at hg ⊢
    rw [anyR_cons] at hg
    rw [anyR_cons, anyR_cons]
    cases hlr : longR l[i] with
    | true => rw [hlr, bc_t] at hg; cases hg
    | false =>
      rw [hlr, bc_f] at hg
      rw [form_step hlr hf] at this
      cases hb : badR n l[i] <;> rw [hb] at this
      · rw [bc_f] at this
        have key := loop hl h2 h3 k (i + 1) (bc (formR l[i]) 6 f) (by omega) hg (by cases formR l[i]; exact hf; exact .inr rfl)
        have e : bc (anyR formR (l.drop (i + 1))) 6 (bc (formR l[i]) 6 f) = bc (bc (formR l[i]) true (anyR formR (l.drop (i + 1)))) 6 f := by
          cases formR l[i] <;> cases anyR formR (l.drop (i + 1)) <;> rfl
        rw [e] at key
        exact .at ctP3_ok this key
      · exact .done this
theorem ends (n : Int) (l : List (List U)) : EndZ 71 ctP3 false (st0 71 [.agg [iv n, wl l]]) (iv (chk4 n l)) [] 0 := by
  have h := in_t n l
  rw [PAny.sign] at h
  unfold chk4
  by_cases h1 : 24 < n
  · simp only [dt h1, bc_t] at h ⊢; exact .done h
  by_cases h2 : 400 < (l.length : Int)
  · simp only [ofn, df h1, dt h2, bc_t, bc_f] at h ⊢; exact .done h
  have h3 : l.length ≤ 100000 := by omega
  simp only [ofn, df h1, df h2, dt h3, bc_f, bc_t] at h ⊢
  cases h4 : anyR longR l <;> rw [h4] at h
  · by_cases h5 : n < 2
    · simp only [dt h5, bc_f, bc_t] at h ⊢; exact .done h
    · simp only [df h5, bc_f] at h ⊢
      exact .at ctP3_ok h (loop (by omega) (by omega) (by omega) l.length 0 0 (by omega) h4 (.inl rfl))
  · exact .done h
end PChk4
noncomputable def spPChk4 : ZCT := fun ax => match ax with
  | [.agg [.v (.int .i64 n), .lst (.recs [.int .i64, .int .i64, .str] l)]] => some ⟨decide (True), iv (chk4 n l), [], 0⟩
  | _ => none
theorem spPChk4_ok : ZCtOk Try.prog 71 spPChk4 := fun γ w us ax r hs hc hax hN hfz => by
  unfold spPChk4 at hs
  split at hs
  case h_2 => cases hs
  rename_i n l
  obtain ⟨rfl⟩ := Option.some.inj hs
  have hc_0 : decide (True) = true := hc
  have hc := of_decide_eq_true hc_0
  exact EndZ.calls (PChk4.ends n l) ctP3_ok (by kernel_rfl) hax hN hfz
end Go.Proofs.Ythaljeccdeajoaa.Ev
namespace Go.Proofs.Ythaljeccdeajoaa.Ev
open Go.Proofs
theorem anyR_false {p : List U → Bool} : ∀ {l : List (List U)}, anyR p l = false → ∀ r, r ∈ l → p r = false
  | [], _, r, h => by simp at h
  | x :: l, h, r, hr => by
    rw [anyR_cons] at h
    cases hx : p x with
    | true => rw [hx, bc_t] at h; cases h
    | false =>
      rw [hx, bc_f] at h
      rcases List.mem_cons.1 hr with rfl | hr
      · exact hx
      · exact anyR_false h r hr
structure ValR (n : Int) (r : List U) : Prop where
  kind : rK r = 1 ∨ rK r = 2
  lo : 0 ≤ rA r
  hi : rA r ≤ n - 2
  sew : rK r = 2 → (rW r).toList = (ByteArray.mk #[]).toList
  long : (rW r).size ≤ 16
  form : badF (rW r) 0 (rW r).size = false
theorem chk3_ok {w : ByteArray} (h : chk3 w = 0) : w.size ≤ 16 ∧ badF w 0 w.size = false := by
  unfold chk3 at h
  by_cases h1 : 16 < (w.size : Int)
  · rw [dt h1, bc_t] at h; cases h
  · rw [df h1, bc_f] at h
    refine ⟨by omega, ?_⟩
    cases hb : badF w 0 w.size
    · rfl
    · rw [hb, bc_t] at h; cases h
theorem chk3_of {w : ByteArray} (h1 : w.size ≤ 16) (h2 : badF w 0 w.size = false) : chk3 w = 0 := by
  unfold chk3
  rw [df (by omega), bc_f, h2, bc_f]
theorem badR_false {n : Int} {r : List U} (h : badR n r = false) : (rK r = 1 ∨ rK r = 2) ∧ 0 ≤ rA r ∧ rA r ≤ n - 2 ∧ (rK r = 2 → (rW r).toList = (ByteArray.mk #[]).toList) := by
  unfold badR at h
  by_cases h1 : rK r = 1
  · rw [show (rK r != 1) = false by simp [h1], bc_f] at h
    by_cases h2 : rA r < 0
    · rw [dt h2, bc_t] at h; cases h
    rw [df h2, bc_f] at h
    by_cases h3 : n - 2 < rA r
    · rw [dt h3, bc_t] at h; cases h
    exact ⟨.inl h1, by omega, by omega, fun h4 => by omega⟩
  · rw [show (rK r != 1) = true by simp [h1], bc_t] at h
    by_cases h0 : rK r = 2
    · rw [show (rK r != 2) = false by simp [h0], bc_f] at h
      by_cases h2 : rA r < 0
      · rw [dt h2, bc_t] at h; cases h
      rw [df h2, bc_f] at h
      by_cases h3 : n - 2 < rA r
      · rw [dt h3, bc_t] at h; cases h
      rw [df h3, bc_f, show (rK r == 2) = true by simp [h0], bc_t] at h
      refine ⟨.inr h0, by omega, by omega, fun _ => ?_⟩
      cases h4 : ((rW r).toList == (ByteArray.mk #[]).toList) with
      | true => simpa using h4
      | false => rw [h4] at h; cases h
    · rw [show (rK r != 2) = true by simp [h0], bc_t] at h; cases h
structure ValS (n : Int) (l : List (List U)) : Prop where
  lo : 2 ≤ n
  hi : n ≤ 24
  len : l.length ≤ 400
  val : ∀ r, r ∈ l → ValR n r
theorem chk4_ok {n : Int} {l : List (List U)} (h : chk4 n l = 0) : ValS n l := by
  unfold chk4 at h
  by_cases h1 : 24 < n
  · rw [dt h1, bc_t] at h; cases h
  rw [df h1, bc_f] at h
  by_cases h2 : 400 < (l.length : Int)
  · rw [dt h2, bc_t] at h; cases h
  rw [df h2, bc_f] at h
  cases h3 : anyR longR l with
  | true => rw [h3, bc_t] at h; cases h
  | false =>
    rw [h3, bc_f] at h
    by_cases h4 : n < 2
    · rw [dt h4, bc_t] at h; cases h
    rw [df h4, bc_f] at h
    cases h5 : anyR (badR n) l with
    | true => rw [h5, bc_t] at h; cases h
    | false =>
      rw [h5, bc_f] at h
      cases h6 : anyR formR l with
      | true => rw [h6, bc_t] at h; cases h
      | false =>
        refine ⟨by omega, by omega, by omega, fun r hr => ?_⟩
        obtain ⟨k1, k2, k3, k4⟩ := badR_false (anyR_false h5 r hr)
        have k5 := anyR_false h6 r hr
        unfold formR at k5
        obtain ⟨k6, k7⟩ := chk3_ok (w := rW r) (by simpa using k5)
        exact ⟨k1, k2, k3, k4, k6, k7⟩
def AtOk (l : List (List U)) : Prop := ∀ r, r ∈ l → 0 ≤ rA r ∧ rA r ≤ 1000
noncomputable instance AtOk.dec (l : List (List U)) : Decidable (AtOk l) := Classical.propDecidable _
theorem ValS.at {n : Int} {l : List (List U)} (h : ValS n l) : AtOk l := fun r hr => ⟨(h.val r hr).lo, by have := (h.val r hr).hi; have := h.hi; omega⟩
noncomputable def mkR (k a : Int) (w : ByteArray) : List U := [.i k, .i a, .s w]
noncomputable def shR (d : Int) (r : List U) : List U := mkR (rK r) (rA r + d) (rW r)
theorem ValR.sh {n m d : Int} {r : List U} (h : ValR n r) (h1 : 0 ≤ d) (h2 : n + d ≤ m) : ValR m (shR d r) :=
  ⟨h.kind, by show 0 ≤ rA r + d; have := h.lo; omega, by show rA r + d ≤ m - 2; have := h.hi; omega, h.sew, h.long, h.form⟩
theorem ValR.mono {n m : Int} {r : List U} (h : ValR n r) (h1 : n ≤ m) : ValR m r := ⟨h.kind, h.lo, by have := h.hi; omega, h.sew, h.long, h.form⟩
end Go.Proofs.Ythaljeccdeajoaa.Ev
namespace Go.Proofs.Ythaljeccdeajoaa.Ev
open Go.Proofs

namespace MSame
end MSame
namespace RPlc
end RPlc
noncomputable def both (n m : Int) (l k : List (List U)) : Int := bc (chk4 n l != 0) (chk4 n l) (chk4 m k)
theorem ne0 {x : Int} (h : (x != 0) = false) : x = 0 := by simpa using h
noncomputable abbrev as2 (n m : Int) (l k : List (List U)) : List EV := [.agg [iv n, wl l], .agg [iv m, wl k]]
namespace RBes
end RBes
namespace RBel
end RBel
namespace RTim
end RTim
end Go.Proofs.Ythaljeccdeajoaa.Ev
namespace Go.Proofs.Ythaljeccdeajoaa.Ev
open Go.Proofs

theorem idxB_lt {s : ByteArray} {c : Int} : ∀ (k i : Nat), i + k = s.size → idxB s c i k < s.size
  | 0, i, h => by show (-1 : Int) < _; omega
  | k + 1, i, h => by
    unfold idxB
    cases byteAt s i == c
    · exact idxB_lt k (i + 1) (by omega)
    · show (i : Int) < _; omega
theorem idx_lt (s : ByteArray) (c : Int) : idx s c < s.size := idxB_lt _ _ (by omega)
noncomputable def chgB (t w : ByteArray) (i : Nat) (q : ByteArray) : Nat → ByteArray
  | 0 => q
  | k + 1 => chgB t w (i + 1) (q ++ t.extract (idx bLet (byteAt w i)).toNat ((idx bLet (byteAt w i)).toNat + 1)) k
noncomputable def chg (t w : ByteArray) : ByteArray := chgB t w 0 ByteArray.empty w.size
noncomputable def chgW (t w : ByteArray) : ByteArray := bc (chk3 w != 0) ByteArray.empty (chg t w)
namespace RChg
noncomputable def RUN (s : ES) : ZF := RZ 148 ctC (atS 0 148 6) [] [[(0,none),(1,none),(7,none),(8,none)]] false s

noncomputable def sG (w t : ByteArray) (i : Int) (q : ByteArray) : NS := ⟨[⟨148, 33, [(0, sv w), (1, sv t), (7, sv q), (8, iv i)], [.it (.code (nav [1, 1, 1, 1, 0, 1, 0, 0, 0] (bodyOf Try.f148))), .it (.code (nav [1, 1, 1, 1, 0, 1, 0, 0, 1] (bodyOf Try.f148))), .it (.inLoop (nav [1, 1, 1, 1, 0, 1, 0, 0] (bodyOf Try.f148))), .it (.inBlock 0), .it (.code (nav [1, 1, 1, 1, 1] (bodyOf Try.f148)))], [], Option.none⟩], [], 0⟩
theorem step_t (w t : ByteArray) (i : Int) (q : ByteArray) : RUN (stOf (sG w t i q)) = (bc (decide (i < Int.ofNat (ByteArray.size w))) (bc (bc (bc (decide ((0 : Int) ≤ i)) (Nat.blt (Int.toNat i) (ByteArray.size w)) false) true false) (bc (bc (bc (decide ((0 : Int) ≤ idx { data := #[(67 : UInt8), (84 : UInt8), (76 : UInt8), (82 : UInt8), (80 : UInt8), (99 : UInt8), (116 : UInt8), (108 : UInt8), (114 : UInt8)] } (byteAt w (Int.toNat i)))) (bc (decide (idx { data := #[(67 : UInt8), (84 : UInt8), (76 : UInt8), (82 : UInt8), (80 : UInt8), (99 : UInt8), (116 : UInt8), (108 : UInt8), (114 : UInt8)] } (byteAt w (Int.toNat i)) ≤ IntKind.wrap IntKind.i64 (idx { data := #[(67 : UInt8), (84 : UInt8), (76 : UInt8), (82 : UInt8), (80 : UInt8), (99 : UInt8), (116 : UInt8), (108 : UInt8), (114 : UInt8)] } (byteAt w (Int.toNat i)) + (1 : Int)))) (decide (IntKind.wrap IntKind.i64 (idx { data := #[(67 : UInt8), (84 : UInt8), (76 : UInt8), (82 : UInt8), (80 : UInt8), (99 : UInt8), (116 : UInt8), (108 : UInt8), (114 : UInt8)] } (byteAt w (Int.toNat i)) + (1 : Int)) ≤ Int.ofNat (ByteArray.size t))) false) false) true false) (bc (bc (Nat.blt (Nat.add (ByteArray.size q) (ByteArray.size (ByteArray.extract t (Int.toNat (idx { data := #[(67 : UInt8), (84 : UInt8), (76 : UInt8), (82 : UInt8), (80 : UInt8), (99 : UInt8), (116 : UInt8), (108 : UInt8), (114 : UInt8)] } (byteAt w (Int.toNat i)))) (Int.toNat (IntKind.wrap IntKind.i64 (idx { data := #[(67 : UInt8), (84 : UInt8), (76 : UInt8), (82 : UInt8), (80 : UInt8), (99 : UInt8), (116 : UInt8), (108 : UInt8), (114 : UInt8)] } (byteAt w (Int.toNat i)) + (1 : Int))))))) (9223372036854775808 : Nat)) true false) (.at (sG (w) (t) (IntKind.wrap IntKind.i64 (i + (1 : Int))) (q ++ ByteArray.extract t (Int.toNat (idx { data := #[(67 : UInt8), (84 : UInt8), (76 : UInt8), (82 : UInt8), (80 : UInt8), (99 : UInt8), (116 : UInt8), (108 : UInt8), (114 : UInt8)] } (byteAt w (Int.toNat i)))) (Int.toNat (IntKind.wrap IntKind.i64 (idx { data := #[(67 : UInt8), (84 : UInt8), (76 : UInt8), (82 : UInt8), (80 : UInt8), (99 : UInt8), (116 : UInt8), (108 : UInt8), (114 : UInt8)] } (byteAt w (Int.toNat i)) + (1 : Int))))))) .bad) .bad) .bad) (.done (EV.tup [(EV.v (Value.string (q))), (EV.v (Value.int IntKind.i64 (0)))]) [] 0)) := by kernel_rfl
theorem in_t (w t : ByteArray) : RUN (st0 148 [sv w, sv t]) = (bc (chk3 w != (0 : Int)) (.done (EV.tup [(EV.v (Value.string (ByteArray.mk #[]))), (EV.v (Value.int IntKind.i64 (chk3 w)))]) [] 0) (.at (sG (w) (t) ((0 : Int)) ({ data := #[] })))) := by kernel_rfl
theorem step {w t q : ByteArray} {i j : Nat} (hi : i < w.size) (hw : w.size ≤ 16) (ht : t.size = 9) (hj : idx bLet (byteAt w i) = (j : Int)) (hj9 : j < 9) (hq : q.size ≤ 1000) : RUN (stOf (sG w t i q)) = .at (sG w t (i + 1 : Nat) (q ++ t.extract j (j + 1))) := by
  rw [step_t]
  have e : idx (ByteArray.mk #[(67 : UInt8), (84 : UInt8), (76 : UInt8), (82 : UInt8), (80 : UInt8), (99 : UInt8), (116 : UInt8), (108 : UInt8), (114 : UInt8)]) (byteAt w (Int.toNat (i : Int))) = (j : Int) := hj
  have e2 : IntKind.wrap IntKind.i64 ((j : Int) + 1) = ((j + 1 : Nat) : Int) := by simp (disch := omega) only [wrap_in]; rfl
  simp only [e, e2]
  have e3 : (t.extract j (j + 1)).size = 1 := by rw [ByteArray.size_extract]; omega
  simp (disch := omega) only [Nat.add_eq, eqSy_self, eqN_self, bc_same, List.length_cons, ofn, wrap_in, dt, df, bltD, bltN, ble_of, bleN, beqD, bc_t, bc_f, nn_ok, Nat.zero_add, to_nat, Int.zero_add, Int.sub_zero, Int.sub_self, Int.cast_ofNat_Int, Int.natCast_zero, Int.toNat_zero, List.take_zero, List.nil_append, List.length_append, List.length_nil, e3, Int.toNat_natCast]
  rfl
theorem last {w t q : ByteArray} {i : Nat} (hi : w.size ≤ i) : RUN (stOf (sG w t i q)) = .done (.tup [sv q, iv 0]) [] 0 := by
  rw [step_t]
  simp (disch := omega) only [Nat.add_eq, eqSy_self, eqN_self, bc_same, List.length_cons, ofn, wrap_in, dt, df, bltD, bltN, ble_of, bleN, beqD, bc_t, bc_f, nn_ok, Nat.zero_add, to_nat, Int.zero_add, Int.sub_zero, Int.sub_self, Int.cast_ofNat_Int, Int.natCast_zero, Int.toNat_zero, List.take_zero, List.nil_append, List.length_append, List.length_nil]
theorem loop {w t : ByteArray} (hw : w.size ≤ 16) (ht : t.size = 9) : ∀ (k i : Nat) (q : ByteArray), i + k = w.size → q.size ≤ i → badF w i k = false → EndZ 148 ctC false (stOf (sG w t i q)) (.tup [sv (chgB t w i q k), iv 0]) [] 0
  | 0, i, q, h, hq, hb => .done (last (by omega))
  | k + 1, i, q, h, hq, hb => by
    unfold badF at hb
    have h0 : ¬ idx bLet (byteAt w i) < 0 := fun h => by rw [dt h, bc_t] at hb; cases hb
    rw [df h0, bc_f] at hb
    obtain ⟨j, hj⟩ := Int.eq_ofNat_of_zero_le (show 0 ≤ idx bLet (byteAt w i) by omega)
    have h9 : idx bLet (byteAt w i) < 9 := idx_lt bLet _
    have e3 : (t.extract j (j + 1)).size = 1 := by rw [ByteArray.size_extract]; omega
    unfold chgB
    rw [hj, Int.toNat_natCast]
    exact .at ctC_ok (step (by omega) hw ht hj (by omega) (by omega)) (loop hw ht k (i + 1) _ (by omega) (by rw [ByteArray.size_append, e3]; omega) hb)
end RChg
theorem chk3_0 {w : ByteArray} (h : chk3 w = 0) : w.size ≤ 16 ∧ badF w 0 w.size = false := by
  unfold chk3 at h
  by_cases h1 : 16 < (w.size : Int)
  · rw [dt h1, bc_t] at h; cases h
  rw [df h1, bc_f] at h
  refine ⟨by omega, ?_⟩
  cases hb : badF w 0 w.size
  · rfl
  · rw [hb, bc_t] at h; cases h
theorem RChg.ends (w t : ByteArray) (ht : t.size = 9) : EndZ 148 ctC false (st0 148 [sv w, sv t]) (.tup [sv (chgW t w), iv (chk3 w)]) [] 0 := by
  have h := RChg.in_t w t
  unfold chgW
  cases h1 : (chk3 w != 0) <;> rw [h1] at h
  · have e := ne0 h1
    rw [e]
    exact .at ctC_ok h (RChg.loop (chk3_0 e).1 ht w.size 0 _ (by omega) (Nat.le_refl _) (chk3_0 e).2)
  · exact .done h
namespace RWFlip
end RWFlip
namespace RWMir
end RWMir
namespace RFlp
end RFlp
namespace RFlip
end RFlip
namespace RMir
end RMir
namespace RPla
end RPla
end Go.Proofs.Ythaljeccdeajoaa.Ev
namespace Go.Proofs.Ythaljeccdeajoaa.Ev
open Go.Proofs
noncomputable abbrev l2 (l k : List (List U)) : EV := .lst (.recs [.list shW] [[.l l], [.l k]])
namespace POr
end POr
namespace PCat
end PCat
namespace PChg
end PChg
namespace PBes
end PBes
namespace PBel
end PBel
end Go.Proofs.Ythaljeccdeajoaa.Ev
namespace Go.Proofs.Ythaljeccdeajoaa.Ev
open Go.Proofs
namespace PExc
end PExc
namespace PWFlip
end PWFlip
namespace PWMir
end PWMir
namespace PChF
end PChF
namespace PChM
end PChM
namespace PFlip
end PFlip
namespace PMir
end PMir
namespace PPla
end PPla
end Go.Proofs.Ythaljeccdeajoaa.Ev
namespace Go.Proofs.Ythaljeccdeajoaa.Ev
open Go.Proofs
theorem idx_list (c : Int) : idx bLet c = bc (67 == c) 0 (bc (84 == c) 1 (bc (76 == c) 2 (bc (82 == c) 3 (bc (80 == c) 4 (bc (99 == c) 5 (bc (116 == c) 6 (bc (108 == c) 7 (bc (114 == c) 8 (-1))))))))) := by kernel_rfl
theorem beq_bc {a c : Int} (h : a ≠ c) : (a == c) = false := by simp [h]

def Let (c : Int) : Prop := c = 67 ∨ c = 84 ∨ c = 76 ∨ c = 82 ∨ c = 80 ∨ c = 99 ∨ c = 116 ∨ c = 108 ∨ c = 114
noncomputable instance Let.dec (c : Int) : Decidable (Let c) := Classical.propDecidable _
theorem let_of {c : Int} (h : 0 ≤ idx bLet c) : Let c := by
  unfold Let
  rw [idx_list] at h
  by_cases h0 : (67 : Int) = c
  · omega
  by_cases h1 : (84 : Int) = c
  · omega
  by_cases h2 : (76 : Int) = c
  · omega
  by_cases h3 : (82 : Int) = c
  · omega
  by_cases h4 : (80 : Int) = c
  · omega
  by_cases h5 : (99 : Int) = c
  · omega
  by_cases h6 : (116 : Int) = c
  · omega
  by_cases h7 : (108 : Int) = c
  · omega
  by_cases h8 : (114 : Int) = c
  · omega
  rw [beq_bc h0, beq_bc h1, beq_bc h2, beq_bc h3, beq_bc h4, beq_bc h5, beq_bc h6, beq_bc h7, beq_bc h8] at h
  cases h
theorem badF_let {w : ByteArray} : ∀ (k i : Nat), badF w i k = false → ∀ j, i ≤ j → j < i + k → Let (byteAt w j)
  | 0, i, _, j, h1, h2 => by omega
  | k + 1, i, h, j, h1, h2 => by
    unfold badF at h
    by_cases h0 : idx bLet (byteAt w i) < 0
    · rw [dt h0, bc_t] at h; cases h
    rw [df h0, bc_f] at h
    by_cases e : j = i
    · subst e; exact let_of (by omega)
    · exact badF_let k (i + 1) h j (by omega) (by omega)
theorem word_let {w : ByteArray} (h : chk3 w = 0) {j : Nat} (hj : j < w.size) : Let (byteAt w j) := badF_let w.size 0 (chk3_0 h).2 j (Nat.zero_le _) (by omega)

noncomputable def crL (c : Int) : List Int := bc (c == 67) [2] (bc (c == 76) [-1] (bc (c == 82) [-3] (bc (c == 84) [-1, -3] (bc (c == 99) [-2] (bc (c == 108) [1] (bc (c == 114) [3] (bc (c == 116) [1, 3] [])))))))
noncomputable def crB (w : ByteArray) (i : Nat) : Nat → List Int
  | 0 => []
  | k + 1 => crL (byteAt w i) ++ crB w (i + 1) k
noncomputable def crW (w : ByteArray) : List Int := crB w 0 w.size
theorem crL_len {c : Int} : (crL c).length ≤ 2 := by
  unfold crL
  cases c == 67 <;> cases c == 76 <;> cases c == 82 <;> cases c == 84 <;> cases c == 99 <;> cases c == 108 <;> cases c == 114 <;> cases c == 116 <;> decide
theorem crL_mem {c : Int} (h : Let c) : ∀ x, x ∈ crL c → x = 1 ∨ x = 2 ∨ x = 3 ∨ x = -1 ∨ x = -2 ∨ x = -3 := by
  rcases h with rfl | rfl | rfl | rfl | rfl | rfl | rfl | rfl | rfl <;> intro x hx <;> simp [crL, bc] at hx <;> omega
end Go.Proofs.Ythaljeccdeajoaa.Ev
namespace Go.Proofs.Ythaljeccdeajoaa.Ev
open Go.Proofs
namespace RCrg
noncomputable def RUN (s : ES) : ZF := RZ 174 .nil (fun _ => false) [] [] false s
theorem in_t (c : Int) : RUN (st0 174 [.v (.int .u8 c)]) = (bc (c == (67 : Int)) (.done (EV.lst (SyC.ints IntKind.i64 [(2)])) [] 0) (bc (c == (76 : Int)) (.done (EV.lst (SyC.ints IntKind.i64 [(-1)])) [] 0) (bc (c == (82 : Int)) (.done (EV.lst (SyC.ints IntKind.i64 [(-3)])) [] 0) (bc (c == (84 : Int)) (.done (EV.lst (SyC.ints IntKind.i64 [(-1), (-3)])) [] 0) (bc (c == (99 : Int)) (.done (EV.lst (SyC.ints IntKind.i64 [(-2)])) [] 0) (bc (c == (108 : Int)) (.done (EV.lst (SyC.ints IntKind.i64 [(1)])) [] 0) (bc (c == (114 : Int)) (.done (EV.lst (SyC.ints IntKind.i64 [(3)])) [] 0) (bc (c == (116 : Int)) (.done (EV.lst (SyC.ints IntKind.i64 [(1), (3)])) [] 0) (.done (EV.v (Value.slice Option.none 0 0)) [] 0))))))))) := by kernel_rfl
theorem ends (c : Int) : EndZ 174 .nil false (st0 174 [.v (.int .u8 c)]) (il (crL c)) [] 0 := by
  have h := in_t c
  unfold crL
  cases h1 : c == 67 <;> rw [h1] at h
  · cases h2 : c == 76 <;> rw [h2] at h
    · cases h3 : c == 82 <;> rw [h3] at h
      · cases h4 : c == 84 <;> rw [h4] at h
        · cases h5 : c == 99 <;> rw [h5] at h
          · cases h6 : c == 108 <;> rw [h6] at h
            · cases h7 : c == 114 <;> rw [h7] at h
              · cases h8 : c == 116 <;> rw [h8] at h
                · exact (EndZ.done h).weak (Weak.nilI _)
                · exact .done h
              · exact .done h
            · exact .done h
          · exact .done h
        · exact .done h
      · exact .done h
    · exact .done h
  · exact .done h
end RCrg
noncomputable def spCrg : ZCT := fun ax => match ax with
  | [.v (.int .u8 c)] => some ⟨decide (True), il (crL c), [], 0⟩
  | _ => none
theorem spCrg_ok : ZCtOk Try.prog 174 spCrg := fun γ w us ax r hs hc hax hN hfz => by
  unfold spCrg at hs
  split at hs
  case h_2 => cases hs
  rename_i c
  obtain ⟨rfl⟩ := Option.some.inj hs
  have hc_0 : decide (True) = true := hc
  have hc := of_decide_eq_true hc_0
  exact EndZ.calls (RCrg.ends c) (.nil _) (by kernel_rfl) hax hN hfz
noncomputable def ctCg : Tr ZCC := ctC.put 174 (some (dC spCrg))
theorem ctCg_ok : ZCtsOk Try.prog ctCg := ctC_ok.add rfl spCrg_ok
noncomputable def nnx (nn : Bool) (c : Int) : Bool := bc nn true (Nat.blt 0 (crL c).length)
namespace RCrs
noncomputable def RUN (s : ES) : ZF := RZ 132 ctCg (atS 0 132 3) [] [[(0,none),(3,some (1, 3, .ints .i64 [])),(4,none)]] false s

noncomputable def sR (s : ByteArray) (q : List Int) (nn : Bool) (i : Int) : NS := ⟨[⟨132, 18, [(0, (EV.v (Value.string (s)))), (3, EV.slO 0 1 q.length nn), (4, iv i)], [.it (.code (nav [1, 1, 0, 1, 0, 0, 0] (bodyOf Try.f132))), .it (.code (nav [1, 1, 0, 1, 0, 0, 1] (bodyOf Try.f132))), .it (.inLoop (nav [1, 1, 0, 1, 0, 0] (bodyOf Try.f132))), .it (.inBlock 0), .it (.code (nav [1, 1, 1] (bodyOf Try.f132)))], [], Option.none⟩], [(0, EK.seq 3 (.ints .i64 q) nn)], 1⟩
theorem in_t (s : ByteArray) : RUN (st0 132 [sv s]) = (.at (sR (s) ([]) (false) ((0 : Int)))) := by kernel_rfl
theorem step_t (s : ByteArray) (q : List Int) (nn : Bool) (i : Int) : RUN (stOf (sR s q nn i)) = (bc (decide (i < Int.ofNat (ByteArray.size s))) (bc (bc (bc (decide ((0 : Int) ≤ i)) (Nat.blt (Int.toNat i) (ByteArray.size s)) false) true false) (bc (bc (Nat.beq (List.length q) (List.length q)) (bc (Nat.ble (List.length q + List.length (crL (byteAt s (Int.toNat i)))) (65536 : Nat)) (bc nn true (bc nn false true)) false) false) (.at (sR (s) (q ++ crL (byteAt s (Int.toNat i))) (bc nn true (Nat.blt (0 : Nat) (List.length (crL (byteAt s (Int.toNat i)))))) (IntKind.wrap IntKind.i64 (i + (1 : Int))))) .bad) .bad) (bc (Nat.beq (List.length q) (List.length q)) (.done (EV.lst (SyC.ints IntKind.i64 (q))) [] 0) .bad)) := by kernel_rfl
theorem step {s : ByteArray} {q : List Int} {nn : Bool} {i : Nat} (hi : i < s.size) (hs : s.size ≤ 1000) (hq : q.length ≤ 2 * i) : RUN (stOf (sR s q nn i)) = .at (sR s (q ++ crL (byteAt s i)) (nnx nn (byteAt s i)) (i + 1 : Nat)) := by
  rw [step_t]
  have := crL_len (c := byteAt s i)
  simp (disch := omega) only [Nat.add_eq, eqSy_self, eqN_self, bc_same, List.length_cons, ofn, wrap_in, dt, df, bltD, bltN, ble_of, bleN, beqD, bc_t, bc_f, nn_ok, Nat.zero_add, to_nat, Int.zero_add, Int.sub_zero, Int.sub_self, Int.cast_ofNat_Int, Int.natCast_zero, Int.toNat_zero, List.take_zero, List.nil_append, List.length_append, List.length_nil]
  rfl
theorem last {s : ByteArray} {q : List Int} {nn : Bool} {i : Nat} (hi : s.size ≤ i) : RUN (stOf (sR s q nn i)) = .done (il q) [] 0 := by
  rw [step_t]
  simp (disch := omega) only [Nat.add_eq, eqSy_self, eqN_self, bc_same, List.length_cons, ofn, wrap_in, dt, df, bltD, bltN, ble_of, bleN, beqD, bc_t, bc_f, nn_ok, Nat.zero_add, to_nat, Int.zero_add, Int.sub_zero, Int.sub_self, Int.cast_ofNat_Int, Int.natCast_zero, Int.toNat_zero, List.take_zero, List.nil_append, List.length_append, List.length_nil]
theorem loop {s : ByteArray} (hs : s.size ≤ 1000) : ∀ (k i : Nat) (q : List Int) (nn : Bool), i + k = s.size → q.length ≤ 2 * i → EndZ 132 ctCg false (stOf (sR s q nn i)) (il (q ++ crB s i k)) [] 0
  | 0, i, q, nn, h, hq => by
    show EndZ _ _ _ _ (il (q ++ [])) _ _
    rw [List.append_nil]
    exact .done (last (by omega))
  | k + 1, i, q, nn, h, hq => by
    unfold crB
    rw [← List.append_assoc]
    have := crL_len (c := byteAt s i)
    exact .at ctCg_ok (step (by omega) hs hq) (loop hs k (i + 1) _ _ (by omega) (by rw [List.length_append]; omega))
end RCrs
noncomputable def spRCrs : ZCT := fun ax => match ax with
  | [.v (.string s)] => some ⟨decide (s.size ≤ 1000), il (crW s), [], 0⟩
  | _ => none
theorem spRCrs_ok : ZCtOk Try.prog 132 spRCrs := fun γ w us ax r hs hc hax hN hfz => by
  unfold spRCrs at hs
  split at hs
  case h_2 => cases hs
  rename_i s
  obtain ⟨rfl⟩ := Option.some.inj hs
  have hc_0 : decide (s.size ≤ 1000) = true := hc
  have hc := of_decide_eq_true hc_0
  exact EndZ.calls (.at ctCg_ok (RCrs.in_t s) (RCrs.loop hc s.size 0 [] false (by omega) (Nat.le_refl _))) ctCg_ok (by kernel_rfl) hax hN hfz
noncomputable def ctRC : Tr ZCC := ctC.put 132 (some (dC spRCrs))
theorem ctRC_ok : ZCtsOk Try.prog ctRC := ctC_ok.add rfl spRCrs_ok
noncomputable def crE (s : ByteArray) : List Int := bc (chk3 s != 0) [] (crW s)
namespace RCro
noncomputable def RUN (s : ES) : ZF := RZ 73 ctRC (fun _ => false) [] [] false s
theorem in_t (s : ByteArray) : RUN (st0 73 [sv s]) = (bc (chk3 s != (0 : Int)) (.done (EV.tup [(EV.v (Value.slice Option.none 0 0)), (EV.v (Value.int IntKind.i64 (chk3 s)))]) [] 0) (bc (decide (ByteArray.size s ≤ (1000 : Nat))) (.done (EV.tup [(EV.lst (SyC.ints IntKind.i64 (crW s))), (EV.v (Value.int IntKind.i64 (0)))]) [] 0) .bad)) := by kernel_rfl
theorem ends (s : ByteArray) : EndZ 73 ctRC false (st0 73 [sv s]) (.tup [il (crE s), iv (chk3 s)]) [] 0 := by
  have h := in_t s
  unfold crE
  cases h1 : (chk3 s != 0) <;> rw [h1] at h
  · have e : chk3 s = 0 := by simpa using h1
    have := (chk3_0 e).1
    have hq : s.size ≤ 1000 := by omega
    simp only [bc_f, dt hq, bc_t] at h
    rw [e]
    exact .done h
  · exact (EndZ.done h).weak (.tup (.cons (Weak.nilI _) (.cons (Weak.refl _) .nil)))
end RCro
noncomputable def spRCro : ZCT := fun ax => match ax with
  | [.v (.string s)] => some ⟨decide (True), .tup [il (crE s), iv (chk3 s)], [], 0⟩
  | _ => none
theorem spRCro_ok : ZCtOk Try.prog 73 spRCro := fun γ w us ax r hs hc hax hN hfz => by
  unfold spRCro at hs
  split at hs
  case h_2 => cases hs
  rename_i s
  obtain ⟨rfl⟩ := Option.some.inj hs
  have hc_0 : decide (True) = true := hc
  have hc := of_decide_eq_true hc_0
  exact EndZ.calls (RCro.ends s) ctRC_ok (by kernel_rfl) hax hN hfz

noncomputable def tw0 (c : Int) : Int := bc (c == 76) (-1) (bc (c == 84) (-1) (bc (c == 108) 1 (bc (c == 116) 1 0)))
noncomputable def tw1 (c : Int) : Int := bc (c == 67) 1 (bc (c == 99) (-1) 0)
noncomputable def tw2 (c : Int) : Int := bc (c == 82) (-1) (bc (c == 84) (-1) (bc (c == 114) 1 (bc (c == 116) 1 0)))
noncomputable def twR (c : Int) : EV := .arr (.ints .i64 [tw0 c, tw1 c, tw2 c])
noncomputable abbrev twA (c : Int) : EV := .agg [iv (tw0 c), iv (tw1 c), iv (tw2 c)]
theorem tw_weak (a b c : Int) : Weak (.arr (.ints .i64 [a, b, c])) (.agg [iv a, iv b, iv c]) := fun γ x h => by
  cases h with
  | arr _ vs h =>
    injection (show some [Value.int .i64 a, .int .i64 b, .int .i64 c] = some vs from h) with h
    subst h
    exact .agg _ _ rfl (ECL.cons (.v _) (ECL.cons (.v _) (ECL.cons (.v _) (ECL.nil γ)))).2
namespace PTws
noncomputable def RUN (s : ES) : ZF := RZ 173 .nil (fun _ => false) [] [] false s
theorem ends (c : Int) (h : Let c) : EndZ 173 .nil false (st0 173 [.v (.int .u8 c)]) (twR c) [] 0 := by
  rcases h with rfl | rfl | rfl | rfl | rfl | rfl | rfl | rfl | rfl
  · exact .done (show RUN (st0 173 [.v (.int .u8 67)]) = .done (twR 67) [] 0 by kernel_rfl)
  · exact .done (show RUN (st0 173 [.v (.int .u8 84)]) = .done (twR 84) [] 0 by kernel_rfl)
  · exact .done (show RUN (st0 173 [.v (.int .u8 76)]) = .done (twR 76) [] 0 by kernel_rfl)
  · exact .done (show RUN (st0 173 [.v (.int .u8 82)]) = .done (twR 82) [] 0 by kernel_rfl)
  · exact .done (show RUN (st0 173 [.v (.int .u8 80)]) = .done (twR 80) [] 0 by kernel_rfl)
  · exact .done (show RUN (st0 173 [.v (.int .u8 99)]) = .done (twR 99) [] 0 by kernel_rfl)
  · exact .done (show RUN (st0 173 [.v (.int .u8 116)]) = .done (twR 116) [] 0 by kernel_rfl)
  · exact .done (show RUN (st0 173 [.v (.int .u8 108)]) = .done (twR 108) [] 0 by kernel_rfl)
  · exact .done (show RUN (st0 173 [.v (.int .u8 114)]) = .done (twR 114) [] 0 by kernel_rfl)
end PTws
noncomputable def spTws : ZCT := fun ax => match ax with
  | [.v (.int .u8 c)] => some ⟨decide (Let c), twA c, [], 0⟩
  | _ => none
theorem spTws_ok : ZCtOk Try.prog 173 spTws := fun γ w us ax r hs hc hax hN hfz => by
  unfold spTws at hs
  split at hs
  case h_2 => cases hs
  rename_i c
  obtain ⟨rfl⟩ := Option.some.inj hs
  have hc_0 : decide (Let c) = true := hc
  have hc := of_decide_eq_true hc_0
  exact EndZ.calls ((PTws.ends c hc).weak (tw_weak _ _ _)) (.nil _) (by kernel_rfl) hax hN hfz
noncomputable def ctTw : Tr ZCC := Tr.nil.put 173 (some (dC spTws))
theorem ctTw_ok : ZCtsOk Try.prog ctTw := (ZCtsOk.nil _).add rfl spTws_ok
namespace PCrs
noncomputable def RUN (s : ES) : ZF := RZ 131 ctTw (atS 0 131 3) [] [[(0,none),(3,some (1, 3, .ints .i64 [])),(8,none),(9,none)]] false s

noncomputable def sR (s : ByteArray) (q : List Int) (nn : Bool) (i : Int) : NS := ⟨[⟨131, 32, [(0, (EV.v (Value.string (s)))), (3, EV.slO 0 1 q.length nn), (8, (EV.v (Value.int IntKind.i64 (Int.ofNat (ByteArray.size s))))), (9, iv i)], [.it (.code (nav [1, 1, 0, 1, 0, 0] (bodyOf Try.f131))), .it (.inLoop (nav [1, 1, 0, 1, 0, 0] (bodyOf Try.f131))), .it (.inBlock 0), .it (.code (nav [1, 1, 1] (bodyOf Try.f131)))], [], Option.none⟩], [(0, EK.seq 3 (.ints .i64 q) nn)], 1⟩
theorem in_t (s : ByteArray) : RUN (st0 131 [sv s]) = (.at (sR (s) ([]) (false) ((0 : Int)))) := by kernel_rfl
theorem step_t (s : ByteArray) (q : List Int) (nn : Bool) (i : Int) : RUN (stOf (sR s q nn i)) = (bc (decide (i < Int.ofNat (ByteArray.size s))) (bc (bc (bc (decide ((0 : Int) ≤ i)) (Nat.blt (Int.toNat i) (ByteArray.size s)) false) true false) (bc (bc (decide (Let (byteAt s (Int.toNat i)))) true false) (bc (tw0 (byteAt s (Int.toNat i)) != (0 : Int)) (bc (bc (Nat.beq (List.length q) (List.length q)) (bc (Nat.ble (List.length q + List.length (List.map (fun r => U.int (List.headD r (U.i (0 : Int)))) [[U.i (IntKind.wrap IntKind.i64 (tw0 (byteAt s (Int.toNat i)) * IntKind.wrap IntKind.i64 ((0 : Int) + (1 : Int))))]])) (65536 : Nat)) (bc nn true (bc nn false true)) false) false) (bc (tw1 (byteAt s (Int.toNat i)) != (0 : Int)) (bc (bc (Nat.beq (List.length (q ++ List.map (fun r => U.int (List.headD r (U.i (0 : Int)))) [[U.i (IntKind.wrap IntKind.i64 (tw0 (byteAt s (Int.toNat i)) * IntKind.wrap IntKind.i64 ((0 : Int) + (1 : Int))))]])) (List.length (q ++ List.map (fun r => U.int (List.headD r (U.i (0 : Int)))) [[U.i (IntKind.wrap IntKind.i64 (tw0 (byteAt s (Int.toNat i)) * IntKind.wrap IntKind.i64 ((0 : Int) + (1 : Int))))]]))) (bc (Nat.ble (List.length (q ++ List.map (fun r => U.int (List.headD r (U.i (0 : Int)))) [[U.i (IntKind.wrap IntKind.i64 (tw0 (byteAt s (Int.toNat i)) * IntKind.wrap IntKind.i64 ((0 : Int) + (1 : Int))))]]) + List.length (List.map (fun r => U.int (List.headD r (U.i (0 : Int)))) [[U.i (IntKind.wrap IntKind.i64 (tw1 (byteAt s (Int.toNat i)) * IntKind.wrap IntKind.i64 (IntKind.wrap IntKind.i64 ((0 : Int) + (1 : Int)) + (1 : Int))))]])) (65536 : Nat)) (bc (bc nn true (Nat.blt (0 : Nat) (List.length (List.map (fun r => U.int (List.headD r (U.i (0 : Int)))) [[U.i (IntKind.wrap IntKind.i64 (tw0 (byteAt s (Int.toNat i)) * IntKind.wrap IntKind.i64 ((0 : Int) + (1 : Int))))]])))) true (bc (bc nn true (Nat.blt (0 : Nat) (List.length (List.map (fun r => U.int (List.headD r (U.i (0 : Int)))) [[U.i (IntKind.wrap IntKind.i64 (tw0 (byteAt s (Int.toNat i)) * IntKind.wrap IntKind.i64 ((0 : Int) + (1 : Int))))]])))) false true)) false) false) (bc (tw2 (byteAt s (Int.toNat i)) != (0 : Int)) (bc (bc (Nat.beq (List.length (q ++ List.map (fun r => U.int (List.headD r (U.i (0 : Int)))) [[U.i (IntKind.wrap IntKind.i64 (tw0 (byteAt s (Int.toNat i)) * IntKind.wrap IntKind.i64 ((0 : Int) + (1 : Int))))]] ++ List.map (fun r => U.int (List.headD r (U.i (0 : Int)))) [[U.i (IntKind.wrap IntKind.i64 (tw1 (byteAt s (Int.toNat i)) * IntKind.wrap IntKind.i64 (IntKind.wrap IntKind.i64 ((0 : Int) + (1 : Int)) + (1 : Int))))]])) (List.length (q ++ List.map (fun r => U.int (List.headD r (U.i (0 : Int)))) [[U.i (IntKind.wrap IntKind.i64 (tw0 (byteAt s (Int.toNat i)) * IntKind.wrap IntKind.i64 ((0 : Int) + (1 : Int))))]] ++ List.map (fun r => U.int (List.headD r (U.i (0 : Int)))) [[U.i (IntKind.wrap IntKind.i64 (tw1 (byteAt s (Int.toNat i)) * IntKind.wrap IntKind.i64 (IntKind.wrap IntKind.i64 ((0 : Int) + (1 : Int)) + (1 : Int))))]]))) (bc (Nat.ble (List.length (q ++ List.map (fun r => U.int (List.headD r (U.i (0 : Int)))) [[U.i (IntKind.wrap IntKind.i64 (tw0 (byteAt s (Int.toNat i)) * IntKind.wrap IntKind.i64 ((0 : Int) + (1 : Int))))]] ++ List.map (fun r => U.int (List.headD r (U.i (0 : Int)))) [[U.i (IntKind.wrap IntKind.i64 (tw1 (byteAt s (Int.toNat i)) * IntKind.wrap IntKind.i64 (IntKind.wrap IntKind.i64 ((0 : Int) + (1 : Int)) + (1 : Int))))]]) + List.length (List.map (fun r => U.int (List.headD r (U.i (0 : Int)))) [[U.i (IntKind.wrap IntKind.i64 (tw2 (byteAt s (Int.toNat i)) * IntKind.wrap IntKind.i64 (IntKind.wrap IntKind.i64 (IntKind.wrap IntKind.i64 ((0 : Int) + (1 : Int)) + (1 : Int)) + (1 : Int))))]])) (65536 : Nat)) (bc (bc (bc nn true (Nat.blt (0 : Nat) (List.length (List.map (fun r => U.int (List.headD r (U.i (0 : Int)))) [[U.i (IntKind.wrap IntKind.i64 (tw0 (byteAt s (Int.toNat i)) * IntKind.wrap IntKind.i64 ((0 : Int) + (1 : Int))))]])))) true (Nat.blt (0 : Nat) (List.length (List.map (fun r => U.int (List.headD r (U.i (0 : Int)))) [[U.i (IntKind.wrap IntKind.i64 (tw1 (byteAt s (Int.toNat i)) * IntKind.wrap IntKind.i64 (IntKind.wrap IntKind.i64 ((0 : Int) + (1 : Int)) + (1 : Int))))]])))) true (bc (bc (bc nn true (Nat.blt (0 : Nat) (List.length (List.map (fun r => U.int (List.headD r (U.i (0 : Int)))) [[U.i (IntKind.wrap IntKind.i64 (tw0 (byteAt s (Int.toNat i)) * IntKind.wrap IntKind.i64 ((0 : Int) + (1 : Int))))]])))) true (Nat.blt (0 : Nat) (List.length (List.map (fun r => U.int (List.headD r (U.i (0 : Int)))) [[U.i (IntKind.wrap IntKind.i64 (tw1 (byteAt s (Int.toNat i)) * IntKind.wrap IntKind.i64 (IntKind.wrap IntKind.i64 ((0 : Int) + (1 : Int)) + (1 : Int))))]])))) false true)) false) false) (.at (sR (s) (q ++ List.map (fun r => U.int (List.headD r (U.i (0 : Int)))) [[U.i (IntKind.wrap IntKind.i64 (tw0 (byteAt s (Int.toNat i)) * IntKind.wrap IntKind.i64 ((0 : Int) + (1 : Int))))]] ++ List.map (fun r => U.int (List.headD r (U.i (0 : Int)))) [[U.i (IntKind.wrap IntKind.i64 (tw1 (byteAt s (Int.toNat i)) * IntKind.wrap IntKind.i64 (IntKind.wrap IntKind.i64 ((0 : Int) + (1 : Int)) + (1 : Int))))]] ++ List.map (fun r => U.int (List.headD r (U.i (0 : Int)))) [[U.i (IntKind.wrap IntKind.i64 (tw2 (byteAt s (Int.toNat i)) * IntKind.wrap IntKind.i64 (IntKind.wrap IntKind.i64 (IntKind.wrap IntKind.i64 ((0 : Int) + (1 : Int)) + (1 : Int)) + (1 : Int))))]]) (bc (bc (bc nn true (Nat.blt (0 : Nat) (List.length (List.map (fun r => U.int (List.headD r (U.i (0 : Int)))) [[U.i (IntKind.wrap IntKind.i64 (tw0 (byteAt s (Int.toNat i)) * IntKind.wrap IntKind.i64 ((0 : Int) + (1 : Int))))]])))) true (Nat.blt (0 : Nat) (List.length (List.map (fun r => U.int (List.headD r (U.i (0 : Int)))) [[U.i (IntKind.wrap IntKind.i64 (tw1 (byteAt s (Int.toNat i)) * IntKind.wrap IntKind.i64 (IntKind.wrap IntKind.i64 ((0 : Int) + (1 : Int)) + (1 : Int))))]])))) true (Nat.blt (0 : Nat) (List.length (List.map (fun r => U.int (List.headD r (U.i (0 : Int)))) [[U.i (IntKind.wrap IntKind.i64 (tw2 (byteAt s (Int.toNat i)) * IntKind.wrap IntKind.i64 (IntKind.wrap IntKind.i64 (IntKind.wrap IntKind.i64 ((0 : Int) + (1 : Int)) + (1 : Int)) + (1 : Int))))]])))) (IntKind.wrap IntKind.i64 (i + (1 : Int))))) .bad) (.at (sR (s) (q ++ List.map (fun r => U.int (List.headD r (U.i (0 : Int)))) [[U.i (IntKind.wrap IntKind.i64 (tw0 (byteAt s (Int.toNat i)) * IntKind.wrap IntKind.i64 ((0 : Int) + (1 : Int))))]] ++ List.map (fun r => U.int (List.headD r (U.i (0 : Int)))) [[U.i (IntKind.wrap IntKind.i64 (tw1 (byteAt s (Int.toNat i)) * IntKind.wrap IntKind.i64 (IntKind.wrap IntKind.i64 ((0 : Int) + (1 : Int)) + (1 : Int))))]]) (bc (bc nn true (Nat.blt (0 : Nat) (List.length (List.map (fun r => U.int (List.headD r (U.i (0 : Int)))) [[U.i (IntKind.wrap IntKind.i64 (tw0 (byteAt s (Int.toNat i)) * IntKind.wrap IntKind.i64 ((0 : Int) + (1 : Int))))]])))) true (Nat.blt (0 : Nat) (List.length (List.map (fun r => U.int (List.headD r (U.i (0 : Int)))) [[U.i (IntKind.wrap IntKind.i64 (tw1 (byteAt s (Int.toNat i)) * IntKind.wrap IntKind.i64 (IntKind.wrap IntKind.i64 ((0 : Int) + (1 : Int)) + (1 : Int))))]])))) (IntKind.wrap IntKind.i64 (i + (1 : Int)))))) .bad) (bc (tw2 (byteAt s (Int.toNat i)) != (0 : Int)) (bc (bc (Nat.beq (List.length (q ++ List.map (fun r => U.int (List.headD r (U.i (0 : Int)))) [[U.i (IntKind.wrap IntKind.i64 (tw0 (byteAt s (Int.toNat i)) * IntKind.wrap IntKind.i64 ((0 : Int) + (1 : Int))))]])) (List.length (q ++ List.map (fun r => U.int (List.headD r (U.i (0 : Int)))) [[U.i (IntKind.wrap IntKind.i64 (tw0 (byteAt s (Int.toNat i)) * IntKind.wrap IntKind.i64 ((0 : Int) + (1 : Int))))]]))) (bc (Nat.ble (List.length (q ++ List.map (fun r => U.int (List.headD r (U.i (0 : Int)))) [[U.i (IntKind.wrap IntKind.i64 (tw0 (byteAt s (Int.toNat i)) * IntKind.wrap IntKind.i64 ((0 : Int) + (1 : Int))))]]) + List.length (List.map (fun r => U.int (List.headD r (U.i (0 : Int)))) [[U.i (IntKind.wrap IntKind.i64 (tw2 (byteAt s (Int.toNat i)) * IntKind.wrap IntKind.i64 (IntKind.wrap IntKind.i64 (IntKind.wrap IntKind.i64 ((0 : Int) + (1 : Int)) + (1 : Int)) + (1 : Int))))]])) (65536 : Nat)) (bc (bc nn true (Nat.blt (0 : Nat) (List.length (List.map (fun r => U.int (List.headD r (U.i (0 : Int)))) [[U.i (IntKind.wrap IntKind.i64 (tw0 (byteAt s (Int.toNat i)) * IntKind.wrap IntKind.i64 ((0 : Int) + (1 : Int))))]])))) true (bc (bc nn true (Nat.blt (0 : Nat) (List.length (List.map (fun r => U.int (List.headD r (U.i (0 : Int)))) [[U.i (IntKind.wrap IntKind.i64 (tw0 (byteAt s (Int.toNat i)) * IntKind.wrap IntKind.i64 ((0 : Int) + (1 : Int))))]])))) false true)) false) false) (.at (sR (s) (q ++ List.map (fun r => U.int (List.headD r (U.i (0 : Int)))) [[U.i (IntKind.wrap IntKind.i64 (tw0 (byteAt s (Int.toNat i)) * IntKind.wrap IntKind.i64 ((0 : Int) + (1 : Int))))]] ++ List.map (fun r => U.int (List.headD r (U.i (0 : Int)))) [[U.i (IntKind.wrap IntKind.i64 (tw2 (byteAt s (Int.toNat i)) * IntKind.wrap IntKind.i64 (IntKind.wrap IntKind.i64 (IntKind.wrap IntKind.i64 ((0 : Int) + (1 : Int)) + (1 : Int)) + (1 : Int))))]]) (bc (bc nn true (Nat.blt (0 : Nat) (List.length (List.map (fun r => U.int (List.headD r (U.i (0 : Int)))) [[U.i (IntKind.wrap IntKind.i64 (tw0 (byteAt s (Int.toNat i)) * IntKind.wrap IntKind.i64 ((0 : Int) + (1 : Int))))]])))) true (Nat.blt (0 : Nat) (List.length (List.map (fun r => U.int (List.headD r (U.i (0 : Int)))) [[U.i (IntKind.wrap IntKind.i64 (tw2 (byteAt s (Int.toNat i)) * IntKind.wrap IntKind.i64 (IntKind.wrap IntKind.i64 (IntKind.wrap IntKind.i64 ((0 : Int) + (1 : Int)) + (1 : Int)) + (1 : Int))))]])))) (IntKind.wrap IntKind.i64 (i + (1 : Int))))) .bad) (.at (sR (s) (q ++ List.map (fun r => U.int (List.headD r (U.i (0 : Int)))) [[U.i (IntKind.wrap IntKind.i64 (tw0 (byteAt s (Int.toNat i)) * IntKind.wrap IntKind.i64 ((0 : Int) + (1 : Int))))]]) (bc nn true (Nat.blt (0 : Nat) (List.length (List.map (fun r => U.int (List.headD r (U.i (0 : Int)))) [[U.i (IntKind.wrap IntKind.i64 (tw0 (byteAt s (Int.toNat i)) * IntKind.wrap IntKind.i64 ((0 : Int) + (1 : Int))))]])))) (IntKind.wrap IntKind.i64 (i + (1 : Int))))))) .bad) (bc (tw1 (byteAt s (Int.toNat i)) != (0 : Int)) (bc (bc (Nat.beq (List.length q) (List.length q)) (bc (Nat.ble (List.length q + List.length (List.map (fun r => U.int (List.headD r (U.i (0 : Int)))) [[U.i (IntKind.wrap IntKind.i64 (tw1 (byteAt s (Int.toNat i)) * IntKind.wrap IntKind.i64 (IntKind.wrap IntKind.i64 ((0 : Int) + (1 : Int)) + (1 : Int))))]])) (65536 : Nat)) (bc nn true (bc nn false true)) false) false) (bc (tw2 (byteAt s (Int.toNat i)) != (0 : Int)) (bc (bc (Nat.beq (List.length (q ++ List.map (fun r => U.int (List.headD r (U.i (0 : Int)))) [[U.i (IntKind.wrap IntKind.i64 (tw1 (byteAt s (Int.toNat i)) * IntKind.wrap IntKind.i64 (IntKind.wrap IntKind.i64 ((0 : Int) + (1 : Int)) + (1 : Int))))]])) (List.length (q ++ List.map (fun r => U.int (List.headD r (U.i (0 : Int)))) [[U.i (IntKind.wrap IntKind.i64 (tw1 (byteAt s (Int.toNat i)) * IntKind.wrap IntKind.i64 (IntKind.wrap IntKind.i64 ((0 : Int) + (1 : Int)) + (1 : Int))))]]))) (bc (Nat.ble (List.length (q ++ List.map (fun r => U.int (List.headD r (U.i (0 : Int)))) [[U.i (IntKind.wrap IntKind.i64 (tw1 (byteAt s (Int.toNat i)) * IntKind.wrap IntKind.i64 (IntKind.wrap IntKind.i64 ((0 : Int) + (1 : Int)) + (1 : Int))))]]) + List.length (List.map (fun r => U.int (List.headD r (U.i (0 : Int)))) [[U.i (IntKind.wrap IntKind.i64 (tw2 (byteAt s (Int.toNat i)) * IntKind.wrap IntKind.i64 (IntKind.wrap IntKind.i64 (IntKind.wrap IntKind.i64 ((0 : Int) + (1 : Int)) + (1 : Int)) + (1 : Int))))]])) (65536 : Nat)) (bc (bc nn true (Nat.blt (0 : Nat) (List.length (List.map (fun r => U.int (List.headD r (U.i (0 : Int)))) [[U.i (IntKind.wrap IntKind.i64 (tw1 (byteAt s (Int.toNat i)) * IntKind.wrap IntKind.i64 (IntKind.wrap IntKind.i64 ((0 : Int) + (1 : Int)) + (1 : Int))))]])))) true (bc (bc nn true (Nat.blt (0 : Nat) (List.length (List.map (fun r => U.int (List.headD r (U.i (0 : Int)))) [[U.i (IntKind.wrap IntKind.i64 (tw1 (byteAt s (Int.toNat i)) * IntKind.wrap IntKind.i64 (IntKind.wrap IntKind.i64 ((0 : Int) + (1 : Int)) + (1 : Int))))]])))) false true)) false) false) (.at (sR (s) (q ++ List.map (fun r => U.int (List.headD r (U.i (0 : Int)))) [[U.i (IntKind.wrap IntKind.i64 (tw1 (byteAt s (Int.toNat i)) * IntKind.wrap IntKind.i64 (IntKind.wrap IntKind.i64 ((0 : Int) + (1 : Int)) + (1 : Int))))]] ++ List.map (fun r => U.int (List.headD r (U.i (0 : Int)))) [[U.i (IntKind.wrap IntKind.i64 (tw2 (byteAt s (Int.toNat i)) * IntKind.wrap IntKind.i64 (IntKind.wrap IntKind.i64 (IntKind.wrap IntKind.i64 ((0 : Int) + (1 : Int)) + (1 : Int)) + (1 : Int))))]]) (bc (bc nn true (Nat.blt (0 : Nat) (List.length (List.map (fun r => U.int (List.headD r (U.i (0 : Int)))) [[U.i (IntKind.wrap IntKind.i64 (tw1 (byteAt s (Int.toNat i)) * IntKind.wrap IntKind.i64 (IntKind.wrap IntKind.i64 ((0 : Int) + (1 : Int)) + (1 : Int))))]])))) true (Nat.blt (0 : Nat) (List.length (List.map (fun r => U.int (List.headD r (U.i (0 : Int)))) [[U.i (IntKind.wrap IntKind.i64 (tw2 (byteAt s (Int.toNat i)) * IntKind.wrap IntKind.i64 (IntKind.wrap IntKind.i64 (IntKind.wrap IntKind.i64 ((0 : Int) + (1 : Int)) + (1 : Int)) + (1 : Int))))]])))) (IntKind.wrap IntKind.i64 (i + (1 : Int))))) .bad) (.at (sR (s) (q ++ List.map (fun r => U.int (List.headD r (U.i (0 : Int)))) [[U.i (IntKind.wrap IntKind.i64 (tw1 (byteAt s (Int.toNat i)) * IntKind.wrap IntKind.i64 (IntKind.wrap IntKind.i64 ((0 : Int) + (1 : Int)) + (1 : Int))))]]) (bc nn true (Nat.blt (0 : Nat) (List.length (List.map (fun r => U.int (List.headD r (U.i (0 : Int)))) [[U.i (IntKind.wrap IntKind.i64 (tw1 (byteAt s (Int.toNat i)) * IntKind.wrap IntKind.i64 (IntKind.wrap IntKind.i64 ((0 : Int) + (1 : Int)) + (1 : Int))))]])))) (IntKind.wrap IntKind.i64 (i + (1 : Int)))))) .bad) (bc (tw2 (byteAt s (Int.toNat i)) != (0 : Int)) (bc (bc (Nat.beq (List.length q) (List.length q)) (bc (Nat.ble (List.length q + List.length (List.map (fun r => U.int (List.headD r (U.i (0 : Int)))) [[U.i (IntKind.wrap IntKind.i64 (tw2 (byteAt s (Int.toNat i)) * IntKind.wrap IntKind.i64 (IntKind.wrap IntKind.i64 (IntKind.wrap IntKind.i64 ((0 : Int) + (1 : Int)) + (1 : Int)) + (1 : Int))))]])) (65536 : Nat)) (bc nn true (bc nn false true)) false) false) (.at (sR (s) (q ++ List.map (fun r => U.int (List.headD r (U.i (0 : Int)))) [[U.i (IntKind.wrap IntKind.i64 (tw2 (byteAt s (Int.toNat i)) * IntKind.wrap IntKind.i64 (IntKind.wrap IntKind.i64 (IntKind.wrap IntKind.i64 ((0 : Int) + (1 : Int)) + (1 : Int)) + (1 : Int))))]]) (bc nn true (Nat.blt (0 : Nat) (List.length (List.map (fun r => U.int (List.headD r (U.i (0 : Int)))) [[U.i (IntKind.wrap IntKind.i64 (tw2 (byteAt s (Int.toNat i)) * IntKind.wrap IntKind.i64 (IntKind.wrap IntKind.i64 (IntKind.wrap IntKind.i64 ((0 : Int) + (1 : Int)) + (1 : Int)) + (1 : Int))))]])))) (IntKind.wrap IntKind.i64 (i + (1 : Int))))) .bad) (.at (sR (s) (q) (nn) (IntKind.wrap IntKind.i64 (i + (1 : Int)))))))) .bad) .bad) (bc (Nat.beq (List.length q) (List.length q)) (.done (EV.lst (SyC.ints IntKind.i64 (q))) [] 0) .bad)) := by kernel_rfl
theorem zz : ((0 : Int) != 0) = false := rfl
theorem o1 : ((1 : Int) != 0) = true := rfl
theorem m1 : ((-1 : Int) != 0) = true := rfl
theorem step {s : ByteArray} {q : List Int} {nn : Bool} {i : Nat} (hi : i < s.size) (hs : s.size ≤ 1000) (hq : q.length ≤ 2 * i) (hl : Let (byteAt s i)) : RUN (stOf (sR s q nn i)) = .at (sR s (q ++ crL (byteAt s i)) (nnx nn (byteAt s i)) (i + 1 : Nat)) := by
  rw [step_t]
  have e : Int.toNat (i : Int) = i := rfl
  simp only [e, dt hl]
  generalize byteAt s i = c at hl ⊢
  rcases hl with rfl | rfl | rfl | rfl | rfl | rfl | rfl | rfl | rfl
  · have a0 : tw0 67 = 0 := rfl
    have a1 : tw1 67 = 1 := rfl
    have a2 : tw2 67 = 0 := rfl
    simp (disch := omega) only [Nat.add_eq, eqSy_self, eqN_self, bc_same, List.length_cons, ofn, wrap_in, dt, df, bltD, bltN, ble_of, bleN, beqD, bc_t, bc_f, nn_ok, Nat.zero_add, to_nat, Int.zero_add, Int.sub_zero, Int.sub_self, Int.cast_ofNat_Int, Int.natCast_zero, Int.toNat_zero, List.take_zero, List.nil_append, List.length_append, List.length_nil, a0, a1, a2, zz, o1, m1, List.map_cons, List.map_nil, List.append_assoc, List.cons_append]
    cases nn <;> rfl
  · have a0 : tw0 84 = -1 := rfl
    have a1 : tw1 84 = 0 := rfl
    have a2 : tw2 84 = -1 := rfl
    simp (disch := omega) only [Nat.add_eq, eqSy_self, eqN_self, bc_same, List.length_cons, ofn, wrap_in, dt, df, bltD, bltN, ble_of, bleN, beqD, bc_t, bc_f, nn_ok, Nat.zero_add, to_nat, Int.zero_add, Int.sub_zero, Int.sub_self, Int.cast_ofNat_Int, Int.natCast_zero, Int.toNat_zero, List.take_zero, List.nil_append, List.length_append, List.length_nil, a0, a1, a2, zz, o1, m1, List.map_cons, List.map_nil, List.append_assoc, List.cons_append]
    cases nn <;> rfl
  · have a0 : tw0 76 = -1 := rfl
    have a1 : tw1 76 = 0 := rfl
    have a2 : tw2 76 = 0 := rfl
    simp (disch := omega) only [Nat.add_eq, eqSy_self, eqN_self, bc_same, List.length_cons, ofn, wrap_in, dt, df, bltD, bltN, ble_of, bleN, beqD, bc_t, bc_f, nn_ok, Nat.zero_add, to_nat, Int.zero_add, Int.sub_zero, Int.sub_self, Int.cast_ofNat_Int, Int.natCast_zero, Int.toNat_zero, List.take_zero, List.nil_append, List.length_append, List.length_nil, a0, a1, a2, zz, o1, m1, List.map_cons, List.map_nil, List.append_assoc, List.cons_append]
    cases nn <;> rfl
  · have a0 : tw0 82 = 0 := rfl
    have a1 : tw1 82 = 0 := rfl
    have a2 : tw2 82 = -1 := rfl
    simp (disch := omega) only [Nat.add_eq, eqSy_self, eqN_self, bc_same, List.length_cons, ofn, wrap_in, dt, df, bltD, bltN, ble_of, bleN, beqD, bc_t, bc_f, nn_ok, Nat.zero_add, to_nat, Int.zero_add, Int.sub_zero, Int.sub_self, Int.cast_ofNat_Int, Int.natCast_zero, Int.toNat_zero, List.take_zero, List.nil_append, List.length_append, List.length_nil, a0, a1, a2, zz, o1, m1, List.map_cons, List.map_nil, List.append_assoc, List.cons_append]
    cases nn <;> rfl
  · have a0 : tw0 80 = 0 := rfl
    have a1 : tw1 80 = 0 := rfl
    have a2 : tw2 80 = 0 := rfl
    simp (disch := omega) only [Nat.add_eq, eqSy_self, eqN_self, bc_same, List.length_cons, ofn, wrap_in, dt, df, bltD, bltN, ble_of, bleN, beqD, bc_t, bc_f, nn_ok, Nat.zero_add, to_nat, Int.zero_add, Int.sub_zero, Int.sub_self, Int.cast_ofNat_Int, Int.natCast_zero, Int.toNat_zero, List.take_zero, List.nil_append, List.length_append, List.length_nil, a0, a1, a2, zz, o1, m1, List.map_cons, List.map_nil, List.append_assoc, List.cons_append]
    rw [show crL 80 = [] from rfl, List.append_nil]
    cases nn <;> rfl
  · have a0 : tw0 99 = 0 := rfl
    have a1 : tw1 99 = -1 := rfl
    have a2 : tw2 99 = 0 := rfl
    simp (disch := omega) only [Nat.add_eq, eqSy_self, eqN_self, bc_same, List.length_cons, ofn, wrap_in, dt, df, bltD, bltN, ble_of, bleN, beqD, bc_t, bc_f, nn_ok, Nat.zero_add, to_nat, Int.zero_add, Int.sub_zero, Int.sub_self, Int.cast_ofNat_Int, Int.natCast_zero, Int.toNat_zero, List.take_zero, List.nil_append, List.length_append, List.length_nil, a0, a1, a2, zz, o1, m1, List.map_cons, List.map_nil, List.append_assoc, List.cons_append]
    cases nn <;> rfl
  · have a0 : tw0 116 = 1 := rfl
    have a1 : tw1 116 = 0 := rfl
    have a2 : tw2 116 = 1 := rfl
    simp (disch := omega) only [Nat.add_eq, eqSy_self, eqN_self, bc_same, List.length_cons, ofn, wrap_in, dt, df, bltD, bltN, ble_of, bleN, beqD, bc_t, bc_f, nn_ok, Nat.zero_add, to_nat, Int.zero_add, Int.sub_zero, Int.sub_self, Int.cast_ofNat_Int, Int.natCast_zero, Int.toNat_zero, List.take_zero, List.nil_append, List.length_append, List.length_nil, a0, a1, a2, zz, o1, m1, List.map_cons, List.map_nil, List.append_assoc, List.cons_append]
    cases nn <;> rfl
  · have a0 : tw0 108 = 1 := rfl
    have a1 : tw1 108 = 0 := rfl
    have a2 : tw2 108 = 0 := rfl
    simp (disch := omega) only [Nat.add_eq, eqSy_self, eqN_self, bc_same, List.length_cons, ofn, wrap_in, dt, df, bltD, bltN, ble_of, bleN, beqD, bc_t, bc_f, nn_ok, Nat.zero_add, to_nat, Int.zero_add, Int.sub_zero, Int.sub_self, Int.cast_ofNat_Int, Int.natCast_zero, Int.toNat_zero, List.take_zero, List.nil_append, List.length_append, List.length_nil, a0, a1, a2, zz, o1, m1, List.map_cons, List.map_nil, List.append_assoc, List.cons_append]
    cases nn <;> rfl
  · have a0 : tw0 114 = 0 := rfl
    have a1 : tw1 114 = 0 := rfl
    have a2 : tw2 114 = 1 := rfl
    simp (disch := omega) only [Nat.add_eq, eqSy_self, eqN_self, bc_same, List.length_cons, ofn, wrap_in, dt, df, bltD, bltN, ble_of, bleN, beqD, bc_t, bc_f, nn_ok, Nat.zero_add, to_nat, Int.zero_add, Int.sub_zero, Int.sub_self, Int.cast_ofNat_Int, Int.natCast_zero, Int.toNat_zero, List.take_zero, List.nil_append, List.length_append, List.length_nil, a0, a1, a2, zz, o1, m1, List.map_cons, List.map_nil, List.append_assoc, List.cons_append]
    cases nn <;> rfl
theorem last {s : ByteArray} {q : List Int} {nn : Bool} {i : Nat} (hi : s.size ≤ i) : RUN (stOf (sR s q nn i)) = .done (il q) [] 0 := by
  rw [step_t]
  simp (disch := omega) only [Nat.add_eq, eqSy_self, eqN_self, bc_same, List.length_cons, ofn, wrap_in, dt, df, bltD, bltN, ble_of, bleN, beqD, bc_t, bc_f, nn_ok, Nat.zero_add, to_nat, Int.zero_add, Int.sub_zero, Int.sub_self, Int.cast_ofNat_Int, Int.natCast_zero, Int.toNat_zero, List.take_zero, List.nil_append, List.length_append, List.length_nil]
theorem loop {s : ByteArray} (hs : s.size ≤ 1000) (hl : ∀ j, j < s.size → Let (byteAt s j)) : ∀ (k i : Nat) (q : List Int) (nn : Bool), i + k = s.size → q.length ≤ 2 * i → EndZ 131 ctTw false (stOf (sR s q nn i)) (il (q ++ crB s i k)) [] 0
  | 0, i, q, nn, h, hq => by
    show EndZ _ _ _ _ (il (q ++ [])) _ _
    rw [List.append_nil]
    exact .done (last (by omega))
  | k + 1, i, q, nn, h, hq => by
    unfold crB
    rw [← List.append_assoc]
    have := crL_len (c := byteAt s i)
    exact .at ctTw_ok (step (by omega) hs hq (hl i (by omega))) (loop hs hl k (i + 1) _ _ (by omega) (by rw [List.length_append]; omega))
end PCrs
noncomputable def spPCrs : ZCT := fun ax => match ax with
  | [.v (.string s)] => some ⟨decide (chk3 s = 0), il (crW s), [], 0⟩
  | _ => none
theorem spPCrs_ok : ZCtOk Try.prog 131 spPCrs := fun γ w us ax r hs hc hax hN hfz => by
  unfold spPCrs at hs
  split at hs
  case h_2 => cases hs
  rename_i s
  obtain ⟨rfl⟩ := Option.some.inj hs
  have hc_0 : decide (chk3 s = 0) = true := hc
  have hc := of_decide_eq_true hc_0
  exact EndZ.calls (.at ctTw_ok (PCrs.in_t s) (PCrs.loop (by have := (chk3_0 hc).1; omega) (fun j hj => word_let hc hj) s.size 0 [] false (by omega) (Nat.le_refl _))) ctTw_ok (by kernel_rfl) hax hN hfz
noncomputable def ctPC : Tr ZCC := ctP2.put 131 (some (dC spPCrs))
theorem ctPC_ok : ZCtsOk Try.prog ctPC := ctP2_ok.add rfl spPCrs_ok
namespace PCro
noncomputable def RUN (s : ES) : ZF := RZ 72 ctPC (fun _ => false) [] [] false s
theorem in_t (s : ByteArray) : RUN (st0 72 [sv s]) = (bc (chk3 s != (0 : Int)) (.done (EV.tup [(EV.v (Value.slice Option.none 0 0)), (EV.v (Value.int IntKind.i64 (chk3 s)))]) [] 0) (bc (decide (chk3 s = (0 : Int))) (.done (EV.tup [(EV.lst (SyC.ints IntKind.i64 (crW s))), (EV.v (Value.int IntKind.i64 (0)))]) [] 0) .bad)) := by kernel_rfl
theorem ends (s : ByteArray) : EndZ 72 ctPC false (st0 72 [sv s]) (.tup [il (crE s), iv (chk3 s)]) [] 0 := by
  have h := in_t s
  unfold crE
  cases h1 : (chk3 s != 0) <;> rw [h1] at h
  · have e : chk3 s = 0 := by simpa using h1
    simp only [bc_f, dt e, bc_t] at h
    rw [e]
    exact .done h
  · exact (EndZ.done h).weak (.tup (.cons (Weak.nilI _) (.cons (Weak.refl _) .nil)))
end PCro
noncomputable def spPCro : ZCT := fun ax => match ax with
  | [.v (.string s)] => some ⟨decide (True), .tup [il (crE s), iv (chk3 s)], [], 0⟩
  | _ => none
theorem spPCro_ok : ZCtOk Try.prog 72 spPCro := fun γ w us ax r hs hc hax hN hfz => by
  unfold spPCro at hs
  split at hs
  case h_2 => cases hs
  rename_i s
  obtain ⟨rfl⟩ := Option.some.inj hs
  have hc_0 : decide (True) = true := hc
  have hc := of_decide_eq_true hc_0
  exact EndZ.calls (PCro.ends s) ctPC_ok (by kernel_rfl) hax hN hfz
end Go.Proofs.Ythaljeccdeajoaa.Ev
namespace Go.Proofs.Ythaljeccdeajoaa.Ev
open Go.Proofs
noncomputable def badL (t x : Int) : Bool := bc (decide (x ≤ -t)) true (bc (x == 0) true (bc (decide (t ≤ x)) (bc (decide (x ≤ 1000)) true (decide (1000 + t ≤ x))) false))
noncomputable def anyI (p : Int → Bool) : List Int → Bool
  | [] => false
  | x :: l => bc (p x) true (anyI p l)
noncomputable def chkL (t : Int) (l : List Int) : Int := bc (decide (t < 2)) 2 (bc (decide (48 < t)) 2 (bc (decide (2000 < (l.length : Int))) 3 (bc (anyI (badL t) l) 7 0)))

def In64 (l : List Int) : Prop := ∀ j, j < l.length → -9223372036854775808 ≤ l.getD j 0 ∧ l.getD j 0 ≤ 9223372036854775807
noncomputable instance In64.dec (l : List Int) : Decidable (In64 l) := Classical.propDecidable _
theorem w64 {x : Int} (h : -9223372036854775808 ≤ x ∧ x ≤ 9223372036854775807) : IntKind.wrap IntKind.i64 x = x := IntWalk.i64_in _ h
theorem eqF {x y : Int} (h : x ≠ y) : (x == y) = false := by simp [h]
theorem eqT {x y : Int} (h : x = y) : (x == y) = true := by simp [h]
namespace PChL
noncomputable def RUN (s : ES) : ZF := RZ 16 .nil (atS 0 16 6) [] [[(1,none),(19,none),(20,none),(21,none)]] false s

noncomputable def sC (t : Int) (l : List Int) (i : Int) : NS := ⟨[⟨16, 44, [(1, (EV.ptr 0 0)), (19, (EV.lst (SyC.ints IntKind.i64 (l)))), (20, (EV.v (Value.int IntKind.i64 (Int.ofNat (List.length l))))), (21, iv i)], [.it (.code (nav [1, 1, 1, 0, 1, 0, 0] (bodyOf Try.f16))), .it (.inLoop (nav [1, 1, 1, 0, 1, 0, 0] (bodyOf Try.f16))), .it (.inBlock 0), .it (.code (nav [1, 1, 1, 1] (bodyOf Try.f16)))], [], Option.none⟩], [(0, (EK.cells 27 [(EV.v (Value.int IntKind.i64 (t))), (EV.lst (SyC.ints IntKind.i64 (l)))] true))], 1⟩
theorem in_t (t : Int) (l : List Int) : RUN (st0 16 [.agg [iv t, il l]]) = (bc (decide (t < (2 : Int))) (.done (EV.v (Value.int IntKind.i64 (2))) [] 0) (bc (decide ((48 : Int) < t)) (.done (EV.v (Value.int IntKind.i64 (2))) [] 0) (bc (decide ((2000 : Int) < Int.ofNat (List.length l))) (.done (EV.v (Value.int IntKind.i64 (3))) [] 0) (.at (sC (t) (l) ((0 : Int))))))) := by kernel_rfl
theorem step_t (t : Int) (l : List Int) (i : Int) : RUN (stOf (sC t l i)) = (bc (decide (i < Int.ofNat (List.length l))) (bc (bc (bc (decide ((0 : Int) ≤ i)) (Nat.blt (Int.toNat i) (List.length l)) false) true false) (bc (bc (Nat.blt (Int.toNat i) (List.length l)) true false) (bc (decide ((1000 : Int) < List.getD l (Int.toNat i) (0 : Int))) (bc (List.getD l (Int.toNat i) (0 : Int) == (0 : Int)) (.done (EV.v (Value.int IntKind.i64 (7))) [] 0) (bc (decide (List.getD l (Int.toNat i) (0 : Int) < (-48 : Int))) (.done (EV.v (Value.int IntKind.i64 (7))) [] 0) (bc (decide (IntKind.wrap IntKind.i64 (List.getD l (Int.toNat i) (0 : Int) - (1000 : Int)) < (1 : Int))) (.done (EV.v (Value.int IntKind.i64 (7))) [] 0) (bc (decide (t ≤ IntKind.wrap IntKind.i64 (List.getD l (Int.toNat i) (0 : Int) - (1000 : Int)))) (.done (EV.v (Value.int IntKind.i64 (7))) [] 0) (.at (sC (t) (l) (IntKind.wrap IntKind.i64 (i + (1 : Int))))))))) (bc (decide (List.getD l (Int.toNat i) (0 : Int) < (0 : Int))) (bc (List.getD l (Int.toNat i) (0 : Int) == (0 : Int)) (.done (EV.v (Value.int IntKind.i64 (7))) [] 0) (bc (decide (List.getD l (Int.toNat i) (0 : Int) < (-48 : Int))) (.done (EV.v (Value.int IntKind.i64 (7))) [] 0) (bc (decide (IntKind.wrap IntKind.i64 ((0 : Int) - List.getD l (Int.toNat i) (0 : Int)) < (1 : Int))) (.done (EV.v (Value.int IntKind.i64 (7))) [] 0) (bc (decide (t ≤ IntKind.wrap IntKind.i64 ((0 : Int) - List.getD l (Int.toNat i) (0 : Int)))) (.done (EV.v (Value.int IntKind.i64 (7))) [] 0) (.at (sC (t) (l) (IntKind.wrap IntKind.i64 (i + (1 : Int))))))))) (bc (List.getD l (Int.toNat i) (0 : Int) == (0 : Int)) (.done (EV.v (Value.int IntKind.i64 (7))) [] 0) (bc (decide (List.getD l (Int.toNat i) (0 : Int) < (-48 : Int))) (.done (EV.v (Value.int IntKind.i64 (7))) [] 0) (bc (decide (List.getD l (Int.toNat i) (0 : Int) < (1 : Int))) (.done (EV.v (Value.int IntKind.i64 (7))) [] 0) (bc (decide (t ≤ List.getD l (Int.toNat i) (0 : Int))) (.done (EV.v (Value.int IntKind.i64 (7))) [] 0) (.at (sC (t) (l) (IntKind.wrap IntKind.i64 (i + (1 : Int))))))))))) .bad) .bad) (.done (EV.v (Value.int IntKind.i64 (0))) [] 0)) := by kernel_rfl
theorem step {t : Int} {l : List Int} {i : Nat} (ht : 2 ≤ t ∧ t ≤ 48) (hi : i < l.length) (hl : l.length ≤ 3000) (hx : In64 l) : RUN (stOf (sC t l i)) = bc (badL t (l.getD i 0)) (.done (iv 7) [] 0) (.at (sC t l (i + 1 : Nat))) := by
  rw [step_t]
  have hx := hx i hi
  have e : Int.toNat (i : Int) = i := rfl
  have e2 : IntKind.wrap IntKind.i64 ((i : Int) + 1) = ((i + 1 : Nat) : Int) := by rw [w64 (by omega)]; rfl
  have g1 : decide ((i : Int) < Int.ofNat l.length) = true := dt (show (i : Int) < (l.length : Int) by omega)
  have g2 : decide ((0 : Int) ≤ (i : Int)) = true := dt (by omega)
  have g3 : Nat.blt i l.length = true := bltD hi
  simp only [e, e2, g1, g2, g3, bc_t]
  unfold badL
  generalize l.getD i 0 = x at hx ⊢
  by_cases h1 : 1000 < x
  · have w : IntKind.wrap IntKind.i64 (x - 1000) = x - 1000 := w64 (by omega)
    simp only [w, dt h1, eqF (show x ≠ 0 by omega), df (show ¬ x < -48 by omega), df (show ¬ x - 1000 < 1 by omega), df (show ¬ x ≤ -t by omega), dt (show t ≤ x by omega), df (show ¬ x ≤ 1000 by omega), bc_t, bc_f]
    by_cases h2 : t ≤ x - 1000
    · simp only [dt h2, dt (show 1000 + t ≤ x by omega), bc_t]
    · simp only [df h2, df (show ¬ 1000 + t ≤ x by omega), bc_f]
  · by_cases h2 : x < 0
    · simp only [df h1, dt h2, eqF (show x ≠ 0 by omega), bc_t, bc_f]
      by_cases h3 : x < -48
      · simp only [dt h3, dt (show x ≤ -t by omega), bc_t]
      · have w : IntKind.wrap IntKind.i64 (0 - x) = 0 - x := w64 (by omega)
        simp only [w, df h3, df (show ¬ 0 - x < 1 by omega), df (show ¬ t ≤ x by omega), bc_f]
        by_cases h4 : t ≤ 0 - x
        · simp only [dt h4, dt (show x ≤ -t by omega), bc_t]
        · simp only [df h4, df (show ¬ x ≤ -t by omega), bc_f]
    · simp only [df h1, df h2, df (show ¬ x < -48 by omega), df (show ¬ x ≤ -t by omega), dt (show x ≤ 1000 by omega), bc_t, bc_f]
      by_cases h3 : x = 0
      · simp only [eqT h3, bc_t]
      · simp only [eqF h3, df (show ¬ x < 1 by omega), bc_f]
        by_cases h4 : t ≤ x
        · simp only [dt h4, bc_t]
        · simp only [df h4, bc_f]
theorem last {t : Int} {l : List Int} {i : Nat} (hi : l.length ≤ i) : RUN (stOf (sC t l i)) = .done (iv 0) [] 0 := by
  rw [step_t]
  simp (disch := omega) only [Nat.add_eq, eqSy_self, eqN_self, bc_same, List.length_cons, ofn, wrap_in, dt, df, bltD, bltN, ble_of, bleN, beqD, bc_t, bc_f, nn_ok, Nat.zero_add, to_nat, Int.zero_add, Int.sub_zero, Int.sub_self, Int.cast_ofNat_Int, Int.natCast_zero, Int.toNat_zero, List.take_zero, List.nil_append, List.length_append, List.length_nil]
theorem loop {t : Int} {l : List Int} (ht : 2 ≤ t ∧ t ≤ 48) (hl : l.length ≤ 3000) (hx : In64 l) : ∀ (k i : Nat), i + k = l.length → EndZ 16 .nil false (stOf (sC t l i)) (iv (bc (anyI (badL t) (l.drop i)) 7 0)) [] 0
  | 0, i, h => by
    rw [List.drop_eq_nil_of_le (by omega)]
    exact .done (last (by omega))
  | k + 1, i, h => by
    have hi : i < l.length := by omega
    have hs := step ht hi hl hx
    rw [List.drop_eq_getElem_cons hi, ← getD_at (d := 0) hi]
    unfold anyI
    cases hb : badL t (l.getD i 0) <;> rw [hb] at hs
    · exact .at (.nil _) hs (loop ht hl hx k (i + 1) (by omega))
    · exact .done hs
theorem ends (t : Int) (l : List Int) (hx : In64 l) : EndZ 16 .nil false (st0 16 [.agg [iv t, il l]]) (iv (chkL t l)) [] 0 := by
  have h := in_t t l
  unfold chkL
  by_cases h1 : t < 2
  · rw [dt h1, bc_t] at h ⊢; exact .done h
  by_cases h2 : 48 < t
  · rw [df h1, bc_f, dt h2, bc_t] at h ⊢; exact .done h
  by_cases h3 : 2000 < (l.length : Int)
  · simp only [df h1, df h2, ofn, dt h3, bc_t, bc_f] at h ⊢; exact .done h
  simp only [df h1, df h2, ofn, df h3, bc_t, bc_f] at h ⊢
  exact .at (.nil _) h (loop ⟨by omega, by omega⟩ (by omega) hx l.length 0 (by omega))
end PChL
noncomputable def spPChL : ZCT := fun ax => match ax with
  | [.agg [.v (.int .i64 t), .lst (.ints .i64 l)]] => some ⟨decide (In64 l), iv (chkL t l), [], 0⟩
  | _ => none
theorem spPChL_ok : ZCtOk Try.prog 16 spPChL := fun γ w us ax r hs hc hax hN hfz => by
  unfold spPChL at hs
  split at hs
  case h_2 => cases hs
  rename_i t l
  obtain ⟨rfl⟩ := Option.some.inj hs
  have hc_0 : decide (In64 l) = true := hc
  have hc := of_decide_eq_true hc_0
  exact EndZ.calls (PChL.ends t l hc) (.nil _) (by kernel_rfl) hax hN hfz
namespace RChL
noncomputable def RUN (s : ES) : ZF := RZ 17 .nil (atS 0 17 6) [] [[(1,none),(3,none)]] false s

noncomputable def sR (t : Int) (l : List Int) (i : Int) : NS := ⟨[⟨17, 55, [(1, (EV.ptr 0 0)), (3, iv i)], [.it (.code (nav [1, 1, 1, 0, 1, 0, 0, 0] (bodyOf Try.f17))), .it (.code (nav [1, 1, 1, 0, 1, 0, 0, 1] (bodyOf Try.f17))), .it (.inLoop (nav [1, 1, 1, 0, 1, 0, 0] (bodyOf Try.f17))), .it (.inBlock 0), .it (.code (nav [1, 1, 1, 1] (bodyOf Try.f17)))], [], Option.none⟩], [(0, (EK.cells 27 [(EV.v (Value.int IntKind.i64 (t))), (EV.lst (SyC.ints IntKind.i64 (l)))] true))], 1⟩
theorem in_t (t : Int) (l : List Int) : RUN (st0 17 [.agg [iv t, il l]]) = (bc (decide (t < (2 : Int))) (.done (EV.v (Value.int IntKind.i64 (2))) [] 0) (bc (decide ((48 : Int) < t)) (.done (EV.v (Value.int IntKind.i64 (2))) [] 0) (bc (decide ((2000 : Int) < Int.ofNat (List.length l))) (.done (EV.v (Value.int IntKind.i64 (3))) [] 0) (.at (sR (t) (l) ((0 : Int))))))) := by kernel_rfl
theorem step_t (t : Int) (l : List Int) (i : Int) : RUN (stOf (sR t l i)) = (bc (decide (i < Int.ofNat (List.length l))) (bc (bc (bc (decide ((0 : Int) ≤ i)) (Nat.blt (Int.toNat i) (List.length l)) false) true false) (bc (bc (Nat.blt (Int.toNat i) (List.length l)) true false) (bc (decide (List.getD l (Int.toNat i) (0 : Int) ≤ IntKind.wrap IntKind.i64 ((0 : Int) - t))) (.done (EV.v (Value.int IntKind.i64 (7))) [] 0) (bc (List.getD l (Int.toNat i) (0 : Int) == (0 : Int)) (.done (EV.v (Value.int IntKind.i64 (7))) [] 0) (bc (decide (t ≤ List.getD l (Int.toNat i) (0 : Int))) (bc (decide (List.getD l (Int.toNat i) (0 : Int) ≤ (1000 : Int))) (.done (EV.v (Value.int IntKind.i64 (7))) [] 0) (bc (decide (IntKind.wrap IntKind.i64 ((1000 : Int) + t) ≤ List.getD l (Int.toNat i) (0 : Int))) (.done (EV.v (Value.int IntKind.i64 (7))) [] 0) (.at (sR (t) (l) (IntKind.wrap IntKind.i64 (i + (1 : Int))))))) (.at (sR (t) (l) (IntKind.wrap IntKind.i64 (i + (1 : Int)))))))) .bad) .bad) (.done (EV.v (Value.int IntKind.i64 (0))) [] 0)) := by kernel_rfl
theorem step {t : Int} {l : List Int} {i : Nat} (ht : 2 ≤ t ∧ t ≤ 48) (hi : i < l.length) (hl : l.length ≤ 3000) : RUN (stOf (sR t l i)) = bc (badL t (l.getD i 0)) (.done (iv 7) [] 0) (.at (sR t l (i + 1 : Nat))) := by
  rw [step_t]
  have e : Int.toNat (i : Int) = i := rfl
  have e2 : IntKind.wrap IntKind.i64 ((i : Int) + 1) = ((i + 1 : Nat) : Int) := by rw [w64 (by omega)]; rfl
  have g1 : decide ((i : Int) < Int.ofNat l.length) = true := dt (show (i : Int) < (l.length : Int) by omega)
  have g2 : decide ((0 : Int) ≤ (i : Int)) = true := dt (by omega)
  have g3 : Nat.blt i l.length = true := bltD hi
  have w1 : IntKind.wrap IntKind.i64 (0 - t) = -t := by rw [w64 (by omega)]; omega
  have w2 : IntKind.wrap IntKind.i64 (1000 + t) = 1000 + t := w64 (by omega)
  simp only [e, e2, g1, g2, g3, w1, w2, bc_t]
  unfold badL
  generalize l.getD i 0 = x
  cases decide (x ≤ -t)
  · cases x == 0
    · cases decide (t ≤ x)
      · rfl
      · cases decide (x ≤ 1000)
        · cases decide (1000 + t ≤ x) <;> rfl
        · rfl
    · rfl
  · rfl
theorem last {t : Int} {l : List Int} {i : Nat} (hi : l.length ≤ i) : RUN (stOf (sR t l i)) = .done (iv 0) [] 0 := by
  rw [step_t]
  simp (disch := omega) only [Nat.add_eq, eqSy_self, eqN_self, bc_same, List.length_cons, ofn, wrap_in, dt, df, bltD, bltN, ble_of, bleN, beqD, bc_t, bc_f, nn_ok, Nat.zero_add, to_nat, Int.zero_add, Int.sub_zero, Int.sub_self, Int.cast_ofNat_Int, Int.natCast_zero, Int.toNat_zero, List.take_zero, List.nil_append, List.length_append, List.length_nil]
theorem loop {t : Int} {l : List Int} (ht : 2 ≤ t ∧ t ≤ 48) (hl : l.length ≤ 3000) : ∀ (k i : Nat), i + k = l.length → EndZ 17 .nil false (stOf (sR t l i)) (iv (bc (anyI (badL t) (l.drop i)) 7 0)) [] 0
  | 0, i, h => by
    rw [List.drop_eq_nil_of_le (by omega)]
    exact .done (last (by omega))
  | k + 1, i, h => by
    have hi : i < l.length := by omega
    have hs := step ht hi hl
    rw [List.drop_eq_getElem_cons hi, ← getD_at (d := 0) hi]
    unfold anyI
    cases hb : badL t (l.getD i 0) <;> rw [hb] at hs
    · exact .at (.nil _) hs (loop ht hl k (i + 1) (by omega))
    · exact .done hs
theorem ends (t : Int) (l : List Int) : EndZ 17 .nil false (st0 17 [.agg [iv t, il l]]) (iv (chkL t l)) [] 0 := by
  have h := in_t t l
  unfold chkL
  by_cases h1 : t < 2
  · rw [dt h1, bc_t] at h ⊢; exact .done h
  by_cases h2 : 48 < t
  · rw [df h1, bc_f, dt h2, bc_t] at h ⊢; exact .done h
  by_cases h3 : 2000 < (l.length : Int)
  · simp only [df h1, df h2, ofn, dt h3, bc_t, bc_f] at h ⊢; exact .done h
  simp only [df h1, df h2, ofn, df h3, bc_t, bc_f] at h ⊢
  exact .at (.nil _) h (loop ⟨by omega, by omega⟩ (by omega) l.length 0 (by omega))
end RChL
noncomputable def spRChL : ZCT := fun ax => match ax with
  | [.agg [.v (.int .i64 t), .lst (.ints .i64 l)]] => some ⟨decide (True), iv (chkL t l), [], 0⟩
  | _ => none
theorem spRChL_ok : ZCtOk Try.prog 17 spRChL := fun γ w us ax r hs hc hax hN hfz => by
  unfold spRChL at hs
  split at hs
  case h_2 => cases hs
  rename_i t l
  obtain ⟨rfl⟩ := Option.some.inj hs
  have hc_0 : decide (True) = true := hc
  have hc := of_decide_eq_true hc_0
  exact EndZ.calls (RChL.ends t l) (.nil _) (by kernel_rfl) hax hN hfz
end Go.Proofs.Ythaljeccdeajoaa.Ev
namespace Go.Proofs.Ythaljeccdeajoaa.Ev
open Go.Proofs
noncomputable def ctHo : Tr ZCC := ((ctC.put 73 (some (dC spRCro))).put 64 (some (dC spChk4)))
theorem ctHo_ok : ZCtsOk Try.prog ctHo := (ctC_ok.add rfl spRCro_ok).add rfl spChk4_ok
noncomputable def ctHp : Tr ZCC := ((ctC.put 72 (some (dC spPCro))).put 71 (some (dC spPChk4)))
theorem ctHp_ok : ZCtsOk Try.prog ctHp := (ctC_ok.add rfl spPCro_ok).add rfl spPChk4_ok
noncomputable def hN (a x : Int) : Int := bc (decide (x < 0)) (x - 2 * a) (x + 2 * a)
noncomputable def hP (a : Int) (b : Bool) : List Int := bc b [1000 + 2 * a + 2] []
noncomputable def hB (a : Int) (w : ByteArray) (j : Nat) : Nat → List Int
  | 0 => []
  | k + 1 => hP a (byteAt w j == 80) ++ ((crL (byteAt w j)).map (hN a) ++ hB a w (j + 1) k)
noncomputable def hW (r : List U) : List Int := hP (rA r) (rK r == 2) ++ hB (rA r) (rW r) 0 (rW r).size
noncomputable def hS : List (List U) → List Int
  | [] => []
  | r :: l => hW r ++ hS l
theorem idx_let {c : Int} (h : Let c) : 0 ≤ idx bLet c := by
  rcases h with rfl | rfl | rfl | rfl | rfl | rfl | rfl | rfl | rfl <;> exact of_decide_eq_true (by kernel_rfl)
theorem byteAt_sub (w : ByteArray) {j : Nat} (hj : j < w.size) : byteAt (w.extract j (j + 1)) 0 = byteAt w j := by
  have hl : j < w.data.toList.length := by rw [Array.length_toList]; exact hj
  unfold byteAt
  rw [ByteArray.data_extract, Array.toList_extract, List.extract_eq_take_drop, show j + 1 - j = 1 by omega, List.drop_eq_getElem_cons hl, getD_at hl]
  rfl
theorem one_crE {w : ByteArray} {j : Nat} (hj : j < w.size) (h : Let (byteAt w j)) : crE (w.extract j (j + 1)) = crL (byteAt w j) := by
  have hs : (w.extract j (j + 1)).size = 1 := by rw [ByteArray.size_extract]; omega
  have hb := byteAt_sub w hj
  have h0 : chk3 (w.extract j (j + 1)) = 0 := by
    refine chk3_of (by omega) ?_
    rw [hs]
    unfold badF
    rw [hb, df (by have := idx_let h; omega), bc_f]
    rfl
  unfold crE
  rw [h0]
  show crW (w.extract j (j + 1)) = _
  unfold crW
  rw [hs]
  unfold crB
  rw [hb]
  show crL (byteAt w j) ++ [] = _
  rw [List.append_nil]
noncomputable def hoE (n : Int) (l : List (List U)) : Int := bc (chk4 n l != 0) (chk4 n l) (bc (decide (2000 < ((hS l).length : Int))) 3 0)
noncomputable def hoP (n : Int) (l : List (List U)) : Int := bc (hoE n l != 0) 0 (2 * n)
noncomputable def hoL (n : Int) (l : List (List U)) : List Int := bc (hoE n l != 0) [] (hS l)
noncomputable abbrev hoV (p : Int) (q : List Int) (e : Int) : EV := .tup [.agg [iv p, il q], iv e]
theorem hoN_weak (e : Int) : Weak (EV.tup [(EV.v (Value.agg (Array.mk [(Value.int IntKind.i64 (0)), (Value.slice Option.none 0 0)]))), (EV.v (Value.int IntKind.i64 e))]) (hoV 0 [] e) := .tup (.cons (.aggV (.cons (Weak.refl _) (.cons (Weak.nilI _) .nil))) (.cons (Weak.refl _) .nil))
noncomputable def fin (t : Int) (q : List Int) : EV := bc (decide (2000 < (q.length : Int))) (hoV 0 [] 3) (hoV t q 0)
theorem hb_len (a : Int) (b : Bool) : (hP a b).length ≤ 1 := by cases b <;> simp [hP, bc]
theorem wrap_pin {a : Int} (h : 0 ≤ a ∧ a ≤ 1000) : IntKind.wrap IntKind.i64 (IntKind.wrap IntKind.i64 (1000 + IntKind.wrap IntKind.i64 (2 * a)) + 2) = 1000 + 2 * a + 2 := by
  rw [w64 (x := 2 * a) (by omega), w64 (x := 1000 + 2 * a) (by omega), w64 (by omega)]
def Sm (x : Int) : Prop := -3 ≤ x ∧ x ≤ 3 ∧ x ≠ 0
theorem hB_len {a : Int} {w : ByteArray} : ∀ (k j : Nat), (hB a w j k).length ≤ 3 * k
  | 0, j => Nat.zero_le _
  | k + 1, j => by
    have := hB_len (a := a) (w := w) k (j + 1)
    have := crL_len (c := byteAt w j)
    have := hb_len a (byteAt w j == 80)
    unfold hB
    rw [List.length_append, List.length_append, List.length_map]
    omega
theorem ValR.word2 {n : Int} {r : List U} (h : ValR n r) : chk3 (rW r) = 0 := chk3_of h.long h.form
theorem sm_cr {c : Int} (h : Let c) : ∀ m, m < (crL c).length → Sm ((crL c).getD m 0) := fun m hm => by
  rw [getD_at hm]
  have := crL_mem h _ (List.getElem_mem hm)
  unfold Sm
  omega
namespace PHol
noncomputable def RUN (s : ES) : ZF := RZs 14 ctHp [(atS 0 14 6, [[(2,none),(5,some (1, 3, .ints .i64 [])),(25,none),(26,none),(27,none)]]), (atS 0 14 12, [[(2,none),(5,some (1, 3, .ints .i64 [])),(7,none),(8,none),(25,none),(26,none),(27,none),(47,none),(48,none)]]), (atS 0 14 18, [[(2,none),(5,some (1, 3, .ints .i64 [])),(7,none),(8,none),(25,none),(26,none),(27,none),(47,none),(48,none),(72,none),(73,none),(74,none)]])] [] false s

noncomputable def sO (l : List (List U)) (t : Int) (q : List Int) (nn : Bool) (i : Int) : NS := ⟨[⟨14, 105, [(2, (EV.ptr 0 0)), (5, (EV.ptr 1 0)), (25, (EV.lst (SyC.recs [(Sh.int IntKind.i64), (Sh.int IntKind.i64), Sh.str] (l)))), (26, (EV.v (Value.int IntKind.i64 (Int.ofNat (List.length l))))), (27, iv i)], [.it (.code (nav [1, 1, 1, 0, 1, 0, 0] (bodyOf Try.f14))), .it (.inLoop (nav [1, 1, 1, 0, 1, 0, 0] (bodyOf Try.f14))), .it (.inBlock 0), .it (.code (nav [1, 1, 1, 1] (bodyOf Try.f14)))], [], Option.none⟩], [(0, (EK.cells 27 [(EV.v (Value.int IntKind.i64 (0))), (EV.v (Value.slice Option.none 0 0))] true)), (1, EK.cells 27 [iv t, EV.slO 2 1 q.length nn] true), (2, EK.seq 3 (.ints .i64 q) nn)], 3⟩
noncomputable def sM (l : List (List U)) (t : Int) (q : List Int) (nn : Bool) (i k a : Int) (w : ByteArray) (p j : Int) : NS := ⟨[⟨14, 105, [(2, (EV.ptr 0 0)), (5, (EV.ptr 1 0)), (7, (EV.ptr 2 0)), (8, iv p), (25, (EV.lst (SyC.recs [(Sh.int IntKind.i64), (Sh.int IntKind.i64), Sh.str] (l)))), (26, (EV.v (Value.int IntKind.i64 (Int.ofNat (List.length l))))), (27, (EV.v (Value.int IntKind.i64 (i)))), (47, iv (w.size : Int)), (48, iv j)], [.it (.code (nav [1, 1, 1, 0, 1, 0, 0, 1, 1, 0, 0, 1, 1, 1, 1, 0, 0] (bodyOf Try.f14))), .it (.inLoop (nav [1, 1, 1, 0, 1, 0, 0, 1, 1, 0, 0, 1, 1, 1, 1, 0, 0] (bodyOf Try.f14))), .it (.inBlock 2), .it (.inBlock 1), .it (.code (nav [1, 1, 1, 0, 1, 0, 0, 1, 1, 1] (bodyOf Try.f14))), .it (.inLoop (nav [1, 1, 1, 0, 1, 0, 0] (bodyOf Try.f14))), .it (.inBlock 0), .it (.code (nav [1, 1, 1, 1] (bodyOf Try.f14)))], [], Option.none⟩], [(0, (EK.cells 27 [(EV.v (Value.int IntKind.i64 (0))), (EV.v (Value.slice Option.none 0 0))] true)), (1, EK.cells 27 [iv t, EV.slO 3 1 q.length nn] true), (2, EK.cells 76 [iv k, iv a, sv w] true), (3, EK.seq 3 (.ints .i64 q) nn)], 4⟩
noncomputable def sN (l : List (List U)) (t : Int) (q : List Int) (nn : Bool) (i k a : Int) (w : ByteArray) (p j : Int) (L : List Int) (m : Int) : NS := ⟨[⟨14, 105, [(2, (EV.ptr 0 0)), (5, (EV.ptr 1 0)), (7, (EV.ptr 2 0)), (8, (EV.v (Value.int IntKind.i64 (p)))), (25, (EV.lst (SyC.recs [(Sh.int IntKind.i64), (Sh.int IntKind.i64), Sh.str] (l)))), (26, (EV.v (Value.int IntKind.i64 (Int.ofNat (List.length l))))), (27, (EV.v (Value.int IntKind.i64 (i)))), (47, (EV.v (Value.int IntKind.i64 ((Nat.cast (ByteArray.size w) : Int))))), (48, (EV.v (Value.int IntKind.i64 (j)))), (72, il L), (73, iv (L.length : Int)), (74, iv m)], [.it (.code (nav [1, 1, 1, 0, 1, 0, 0, 1, 1, 0, 0, 1, 1, 1, 1, 0, 0, 1, 1, 0, 0, 1, 1, 1, 1, 0, 0] (bodyOf Try.f14))), .it (.inLoop (nav [1, 1, 1, 0, 1, 0, 0, 1, 1, 0, 0, 1, 1, 1, 1, 0, 0, 1, 1, 0, 0, 1, 1, 1, 1, 0, 0] (bodyOf Try.f14))), .it (.inBlock 4), .it (.inBlock 3), .it (.code (nav [1, 1, 1, 0, 1, 0, 0, 1, 1, 0, 0, 1, 1, 1, 1, 0, 0, 1, 1, 1] (bodyOf Try.f14))), .it (.inLoop (nav [1, 1, 1, 0, 1, 0, 0, 1, 1, 0, 0, 1, 1, 1, 1, 0, 0] (bodyOf Try.f14))), .it (.inBlock 2), .it (.inBlock 1), .it (.code (nav [1, 1, 1, 0, 1, 0, 0, 1, 1, 1] (bodyOf Try.f14))), .it (.inLoop (nav [1, 1, 1, 0, 1, 0, 0] (bodyOf Try.f14))), .it (.inBlock 0), .it (.code (nav [1, 1, 1, 1] (bodyOf Try.f14)))], [], Option.none⟩], [(0, (EK.cells 27 [(EV.v (Value.int IntKind.i64 (0))), (EV.v (Value.slice Option.none 0 0))] true)), (1, EK.cells 27 [iv t, EV.slO 3 1 q.length nn] true), (2, EK.cells 76 [iv k, iv a, sv w] true), (3, EK.seq 3 (.ints .i64 q) nn)], 4⟩
theorem in_t (n : Int) (l : List (List U)) : RUN (st0 14 [.agg [iv n, wl l]]) = (bc (chk4 n l != (0 : Int)) (.done (EV.tup [(EV.v (Value.agg (Array.mk [(Value.int IntKind.i64 (0)), (Value.slice Option.none 0 0)]))), (EV.v (Value.int IntKind.i64 (chk4 n l)))]) [] 0) (.at (sO (l) (IntKind.wrap IntKind.i64 ((2 : Int) * n)) ([]) (false) ((0 : Int))))) := by kernel_rfl
theorem o_t (l : List (List U)) (t : Int) (q : List Int) (nn : Bool) (i : Int) : RUN (stOf (sO l t q nn i)) = (bc (decide (i < Int.ofNat (List.length l))) (bc (bc (bc (decide ((0 : Int) ≤ i)) (Nat.blt (Int.toNat i) (List.length l)) false) true false) (bc (bc (Nat.blt (Int.toNat i) (List.length l)) true false) (bc (U.int (List.getD (List.getD l (Int.toNat i) []) (0 : Nat) (U.i (0 : Int))) == (2 : Int)) (bc (bc (Nat.beq (List.length q) (List.length q)) (bc (Nat.ble (List.length q + List.length (List.map (fun r => U.int (List.headD r (U.i (0 : Int)))) [[U.i (IntKind.wrap IntKind.i64 (IntKind.wrap IntKind.i64 ((1000 : Int) + IntKind.wrap IntKind.i64 ((2 : Int) * U.int (List.getD (List.getD l (Int.toNat i) []) (Nat.succ (0 : Nat)) (U.i (0 : Int))))) + (2 : Int)))]])) (65536 : Nat)) (bc nn true (bc nn false true)) false) false) (.at (sM (l) (t) (q ++ List.map (fun r => U.int (List.headD r (U.i (0 : Int)))) [[U.i (IntKind.wrap IntKind.i64 (IntKind.wrap IntKind.i64 ((1000 : Int) + IntKind.wrap IntKind.i64 ((2 : Int) * U.int (List.getD (List.getD l (Int.toNat i) []) (Nat.succ (0 : Nat)) (U.i (0 : Int))))) + (2 : Int)))]]) (bc nn true (Nat.blt (0 : Nat) (List.length (List.map (fun r => U.int (List.headD r (U.i (0 : Int)))) [[U.i (IntKind.wrap IntKind.i64 (IntKind.wrap IntKind.i64 ((1000 : Int) + IntKind.wrap IntKind.i64 ((2 : Int) * U.int (List.getD (List.getD l (Int.toNat i) []) (Nat.succ (0 : Nat)) (U.i (0 : Int))))) + (2 : Int)))]])))) (i) (U.int (List.getD (List.getD l (Int.toNat i) []) (0 : Nat) (U.i (0 : Int)))) (U.int (List.getD (List.getD l (Int.toNat i) []) (Nat.succ (0 : Nat)) (U.i (0 : Int)))) (U.str (List.getD (List.getD l (Int.toNat i) []) (Nat.succ (Nat.succ (0 : Nat))) (U.i (0 : Int)))) (IntKind.wrap IntKind.i64 (IntKind.wrap IntKind.i64 ((1000 : Int) + IntKind.wrap IntKind.i64 ((2 : Int) * U.int (List.getD (List.getD l (Int.toNat i) []) (Nat.succ (0 : Nat)) (U.i (0 : Int))))) + (2 : Int))) ((0 : Int)))) .bad) (.at (sM (l) (t) (q) (nn) (i) (U.int (List.getD (List.getD l (Int.toNat i) []) (0 : Nat) (U.i (0 : Int)))) (U.int (List.getD (List.getD l (Int.toNat i) []) (Nat.succ (0 : Nat)) (U.i (0 : Int)))) (U.str (List.getD (List.getD l (Int.toNat i) []) (Nat.succ (Nat.succ (0 : Nat))) (U.i (0 : Int)))) (IntKind.wrap IntKind.i64 (IntKind.wrap IntKind.i64 ((1000 : Int) + IntKind.wrap IntKind.i64 ((2 : Int) * U.int (List.getD (List.getD l (Int.toNat i) []) (Nat.succ (0 : Nat)) (U.i (0 : Int))))) + (2 : Int))) ((0 : Int))))) .bad) .bad) (bc (decide ((2000 : Int) < Int.ofNat (List.length q))) (.done (EV.tup [(EV.v (Value.agg (Array.mk [(Value.int IntKind.i64 (0)), (Value.slice Option.none 0 0)]))), (EV.v (Value.int IntKind.i64 (3)))]) [] 0) (bc (bc (bc (Nat.beq (List.length q) (List.length q)) true false) true false) (.done (EV.tup [(EV.agg [(EV.v (Value.int IntKind.i64 (t))), (EV.lst (SyC.ints IntKind.i64 (q)))]), (EV.v (Value.int IntKind.i64 (0)))]) [] 0) .bad))) := by kernel_rfl
theorem m_t (l : List (List U)) (t : Int) (q : List Int) (nn : Bool) (i k a : Int) (w : ByteArray) (p j : Int) : RUN (stOf (sM l t q nn i k a w p j)) = (bc (decide (j < (Nat.cast (ByteArray.size w) : Int))) (bc (bc (bc (decide ((0 : Int) ≤ j)) (Nat.blt (Int.toNat j) (ByteArray.size w)) false) true false) (bc (byteAt w (Int.toNat j) == (80 : Int)) (bc (bc (Nat.beq (List.length q) (List.length q)) (bc (Nat.ble (List.length q + List.length (List.map (fun r => U.int (List.headD r (U.i (0 : Int)))) [[U.i p]])) (65536 : Nat)) (bc nn true (bc nn false true)) false) false) (bc (bc (bc (decide ((0 : Int) ≤ j)) (bc (decide (j ≤ IntKind.wrap IntKind.i64 (j + (1 : Int)))) (decide (IntKind.wrap IntKind.i64 (j + (1 : Int)) ≤ Int.ofNat (ByteArray.size w))) false) false) true false) (.at (sN (l) (t) (q ++ List.map (fun r => U.int (List.headD r (U.i (0 : Int)))) [[U.i p]]) (bc nn true (Nat.blt (0 : Nat) (List.length (List.map (fun r => U.int (List.headD r (U.i (0 : Int)))) [[U.i p]])))) (i) (k) (a) (w) (p) (j) (crE (ByteArray.extract w (Int.toNat j) (Int.toNat (IntKind.wrap IntKind.i64 (j + (1 : Int)))))) ((0 : Int)))) .bad) .bad) (bc (bc (bc (decide ((0 : Int) ≤ j)) (bc (decide (j ≤ IntKind.wrap IntKind.i64 (j + (1 : Int)))) (decide (IntKind.wrap IntKind.i64 (j + (1 : Int)) ≤ Int.ofNat (ByteArray.size w))) false) false) true false) (.at (sN (l) (t) (q) (nn) (i) (k) (a) (w) (p) (j) (crE (ByteArray.extract w (Int.toNat j) (Int.toNat (IntKind.wrap IntKind.i64 (j + (1 : Int)))))) ((0 : Int)))) .bad)) .bad) (.at (sO (l) (t) (q) (nn) (IntKind.wrap IntKind.i64 (i + (1 : Int)))))) := by kernel_rfl
theorem n_t (l : List (List U)) (t : Int) (q : List Int) (nn : Bool) (i k a : Int) (w : ByteArray) (p j : Int) (L : List Int) (m : Int) : RUN (stOf (sN l t q nn i k a w p j L m)) = (bc (decide (m < (Nat.cast (List.length L) : Int))) (bc (bc (bc (decide ((0 : Int) ≤ m)) (Nat.blt (Int.toNat m) (List.length L)) false) true false) (bc (bc (Nat.blt (Int.toNat m) (List.length L)) true false) (bc (decide (List.getD L (Int.toNat m) (0 : Int) < (0 : Int))) (bc (bc (Nat.beq (List.length q) (List.length q)) (bc (Nat.ble (List.length q + List.length (List.map (fun r => U.int (List.headD r (U.i (0 : Int)))) [[U.i (IntKind.wrap IntKind.i64 (List.getD L (Int.toNat m) (0 : Int) - IntKind.wrap IntKind.i64 ((2 : Int) * a)))]])) (65536 : Nat)) (bc nn true (bc nn false true)) false) false) (.at (sN (l) (t) (q ++ List.map (fun r => U.int (List.headD r (U.i (0 : Int)))) [[U.i (IntKind.wrap IntKind.i64 (List.getD L (Int.toNat m) (0 : Int) - IntKind.wrap IntKind.i64 ((2 : Int) * a)))]]) (bc nn true (Nat.blt (0 : Nat) (List.length (List.map (fun r => U.int (List.headD r (U.i (0 : Int)))) [[U.i (IntKind.wrap IntKind.i64 (List.getD L (Int.toNat m) (0 : Int) - IntKind.wrap IntKind.i64 ((2 : Int) * a)))]])))) (i) (k) (a) (w) (p) (j) (L) (IntKind.wrap IntKind.i64 (m + (1 : Int))))) .bad) (bc (bc (Nat.beq (List.length q) (List.length q)) (bc (Nat.ble (List.length q + List.length (List.map (fun r => U.int (List.headD r (U.i (0 : Int)))) [[U.i (IntKind.wrap IntKind.i64 (List.getD L (Int.toNat m) (0 : Int) + IntKind.wrap IntKind.i64 ((2 : Int) * a)))]])) (65536 : Nat)) (bc nn true (bc nn false true)) false) false) (.at (sN (l) (t) (q ++ List.map (fun r => U.int (List.headD r (U.i (0 : Int)))) [[U.i (IntKind.wrap IntKind.i64 (List.getD L (Int.toNat m) (0 : Int) + IntKind.wrap IntKind.i64 ((2 : Int) * a)))]]) (bc nn true (Nat.blt (0 : Nat) (List.length (List.map (fun r => U.int (List.headD r (U.i (0 : Int)))) [[U.i (IntKind.wrap IntKind.i64 (List.getD L (Int.toNat m) (0 : Int) + IntKind.wrap IntKind.i64 ((2 : Int) * a)))]])))) (i) (k) (a) (w) (p) (j) (L) (IntKind.wrap IntKind.i64 (m + (1 : Int))))) .bad)) .bad) .bad) (.at (sM (l) (t) (q) (nn) (i) (k) (a) (w) (p) (IntKind.wrap IntKind.i64 (j + (1 : Int)))))) := by kernel_rfl
theorem nstep {t : Int} {l : List (List U)} {q : List Int} {nn : Bool} {i k a : Int} {w : ByteArray} {j : Int} {L : List Int} {m : Nat} (hm : m < L.length) (hL : L.length ≤ 2) (hx : Sm (L.getD m 0)) (ha : 0 ≤ a ∧ a ≤ 1000) (hq : q.length ≤ 60000) : ∃ nn', RUN (stOf (sN l t q nn i k a w (1000 + 2 * a + 2) j L m)) = .at (sN l t (q ++ [hN a (L.getD m 0)]) nn' i k a w (1000 + 2 * a + 2) j L (m + 1 : Nat)) := by
  rw [n_t]
  have e : Int.toNat (m : Int) = m := rfl
  rw [e]
  generalize hg : L.getD m 0 = x at hx ⊢
  unfold Sm at hx
  have w1 : IntKind.wrap IntKind.i64 (2 * a) = 2 * a := w64 (by omega)
  have w2 : IntKind.wrap IntKind.i64 (2 * a + x) = x + 2 * a := by rw [w64 (by omega)]; omega
  have w3 : IntKind.wrap IntKind.i64 (x - 2 * a) = x - 2 * a := w64 (by omega)
  have w4 : IntKind.wrap IntKind.i64 (x + 2 * a) = x + 2 * a := w64 (by omega)
  unfold hN
  by_cases h : x < 0
  · simp (disch := omega) only [w1, w2, w3, w4, dt h, df (show ¬ 0 < x by omega), List.map_cons, List.map_nil, Nat.add_eq, eqSy_self, eqN_self, bc_same, List.length_cons, ofn, wrap_in, dt, df, bltD, bltN, ble_of, bleN, beqD, bc_t, bc_f, nn_ok, Nat.zero_add, to_nat, Int.zero_add, Int.sub_zero, Int.sub_self, Int.cast_ofNat_Int, Int.natCast_zero, Int.toNat_zero, List.take_zero, List.nil_append, List.length_append, List.length_nil]
    exact ⟨_, rfl⟩
  · simp (disch := omega) only [w1, w2, w3, w4, df h, dt (show 0 < x by omega), List.map_cons, List.map_nil, Nat.add_eq, eqSy_self, eqN_self, bc_same, List.length_cons, ofn, wrap_in, dt, df, bltD, bltN, ble_of, bleN, beqD, bc_t, bc_f, nn_ok, Nat.zero_add, to_nat, Int.zero_add, Int.sub_zero, Int.sub_self, Int.cast_ofNat_Int, Int.natCast_zero, Int.toNat_zero, List.take_zero, List.nil_append, List.length_append, List.length_nil]
    exact ⟨_, rfl⟩
theorem nlast {t : Int} {l : List (List U)} {q : List Int} {nn : Bool} {i k a : Int} {w : ByteArray} {j : Nat} {L : List Int} {m : Nat} (hm : L.length ≤ m) (hj : j ≤ 1000) : RUN (stOf (sN l t q nn i k a w (1000 + 2 * a + 2) j L m)) = .at (sM l t q nn i k a w (1000 + 2 * a + 2) (j + 1 : Nat)) := by
  rw [n_t]
  simp (disch := omega) only [Nat.add_eq, eqSy_self, eqN_self, bc_same, List.length_cons, ofn, wrap_in, dt, df, bltD, bltN, ble_of, bleN, beqD, bc_t, bc_f, nn_ok, Nat.zero_add, to_nat, Int.zero_add, Int.sub_zero, Int.sub_self, Int.cast_ofNat_Int, Int.natCast_zero, Int.toNat_zero, List.take_zero, List.nil_append, List.length_append, List.length_nil]
  rfl
theorem inner {t : Int} {l : List (List U)} {i k a : Int} {w : ByteArray} {j : Nat} {L : List Int} {V : EV} (hL : L.length ≤ 2) (hx : ∀ m, m < L.length → Sm (L.getD m 0)) (ha : 0 ≤ a ∧ a ≤ 1000) (hj : j ≤ 1000) : ∀ (kk m : Nat) (q : List Int) (nn : Bool), m + kk = L.length → q.length + kk ≤ 60000 → (∀ nn', EndZ 14 ctHp false (stOf (sM l t (q ++ (L.drop m).map (hN a)) nn' i k a w (1000 + 2 * a + 2) (j + 1 : Nat))) V [] 0) → EndZ 14 ctHp false (stOf (sN l t q nn i k a w (1000 + 2 * a + 2) j L m)) V [] 0
  | 0, m, q, nn, h, hq, H => by
    rw [List.drop_eq_nil_of_le (by omega)] at H
    have H := H nn
    rw [List.map_nil, List.append_nil] at H
    exact .at ctHp_ok (nlast (by omega) hj) H
  | kk + 1, m, q, nn, h, hq, H => by
    have hm : m < L.length := by omega
    obtain ⟨nn', hs⟩ := nstep (t := t) (l := l) (q := q) (nn := nn) (i := i) (k := k) (w := w) (j := (j : Int)) hm hL (hx m hm) ha (by omega)
    refine .at ctHp_ok hs (inner hL hx ha hj kk (m + 1) _ _ (by omega) (by simp; omega) fun n2 => ?_)
    have H := H n2
    rw [List.drop_eq_getElem_cons hm, List.map_cons, ← getD_at (d := 0) hm] at H
    rw [List.append_assoc]
    exact H
theorem mstep {t : Int} {l : List (List U)} {q : List Int} {nn : Bool} {i k a : Int} {w : ByteArray} {j : Nat} (hj : j < w.size) (hw : w.size ≤ 16) (hl : Let (byteAt w j)) (ha : 0 ≤ a ∧ a ≤ 1000) (hq : q.length ≤ 60000) : ∃ nn', RUN (stOf (sM l t q nn i k a w (1000 + 2 * a + 2) j)) = .at (sN l t (q ++ hP a (byteAt w j == 80)) nn' i k a w (1000 + 2 * a + 2) j (crL (byteAt w j)) (0 : Nat)) := by
  rw [m_t]
  have e : Int.toNat (j : Int) = j := rfl
  have e2 : IntKind.wrap IntKind.i64 ((j : Int) + 1) = ((j + 1 : Nat) : Int) := by rw [w64 (by omega)]; rfl
  have e3 : Int.toNat ((j + 1 : Nat) : Int) = j + 1 := rfl
  have w5 := wrap_pin ha
  simp only [e, e2, e3, one_crE hj hl, w5]
  unfold hP
  cases hb : byteAt w j == 80
  · simp (disch := omega) only [Nat.add_eq, eqSy_self, eqN_self, bc_same, List.length_cons, ofn, wrap_in, dt, df, bltD, bltN, ble_of, bleN, beqD, bc_t, bc_f, nn_ok, Nat.zero_add, to_nat, Int.zero_add, Int.sub_zero, Int.sub_self, Int.cast_ofNat_Int, Int.natCast_zero, Int.toNat_zero, List.take_zero, List.nil_append, List.length_append, List.length_nil, List.append_nil]
    exact ⟨_, rfl⟩
  · simp (disch := omega) only [Nat.add_eq, eqSy_self, eqN_self, bc_same, List.length_cons, ofn, wrap_in, dt, df, bltD, bltN, ble_of, bleN, beqD, bc_t, bc_f, nn_ok, Nat.zero_add, to_nat, Int.zero_add, Int.sub_zero, Int.sub_self, Int.cast_ofNat_Int, Int.natCast_zero, Int.toNat_zero, List.take_zero, List.nil_append, List.length_append, List.length_nil, List.map_cons, List.map_nil]
    exact ⟨_, rfl⟩
theorem mlast {t : Int} {l : List (List U)} {q : List Int} {nn : Bool} {i : Nat} {k a : Int} {w : ByteArray} {j : Nat} (hj : w.size ≤ j) (hi : i ≤ 1000) : RUN (stOf (sM l t q nn i k a w (1000 + 2 * a + 2) j)) = .at (sO l t q nn (i + 1 : Nat)) := by
  rw [m_t]
  simp (disch := omega) only [Nat.add_eq, eqSy_self, eqN_self, bc_same, List.length_cons, ofn, wrap_in, dt, df, bltD, bltN, ble_of, bleN, beqD, bc_t, bc_f, nn_ok, Nat.zero_add, to_nat, Int.zero_add, Int.sub_zero, Int.sub_self, Int.cast_ofNat_Int, Int.natCast_zero, Int.toNat_zero, List.take_zero, List.nil_append, List.length_append, List.length_nil]
  rfl
theorem mid {t : Int} {l : List (List U)} {i : Nat} {k a : Int} {w : ByteArray} {V : EV} (hw : w.size ≤ 16) (hl : ∀ j, j < w.size → Let (byteAt w j)) (ha : 0 ≤ a ∧ a ≤ 1000) (hi : i ≤ 1000) : ∀ (kk j : Nat) (q : List Int) (nn : Bool), j + kk = w.size → q.length + 3 * kk ≤ 60000 → (∀ nn', EndZ 14 ctHp false (stOf (sO l t (q ++ hB a w j kk) nn' (i + 1 : Nat))) V [] 0) → EndZ 14 ctHp false (stOf (sM l t q nn i k a w (1000 + 2 * a + 2) j)) V [] 0
  | 0, j, q, nn, h, hq, H => by
    have H : EndZ _ _ _ (stOf (sO l t (q ++ []) nn (i + 1 : Nat))) V [] 0 := H nn
    rw [List.append_nil] at H
    exact .at ctHp_ok (mlast (by omega) hi) H
  | kk + 1, j, q, nn, h, hq, H => by
    have hj : j < w.size := by omega
    obtain ⟨nn', hs⟩ := mstep (t := t) (l := l) (q := q) (nn := nn) (i := i) (k := k) hj hw (hl j hj) ha (by omega)
    have l1 := hb_len a (byteAt w j == 80)
    have l2 := crL_len (c := byteAt w j)
    refine .at ctHp_ok hs (inner l2 (sm_cr (hl j hj)) ha (by omega) (crL (byteAt w j)).length 0 _ _ (by omega) (by rw [List.length_append]; omega) fun n2 => ?_)
    refine mid hw hl ha hi kk (j + 1) _ _ (by omega) (by rw [List.drop_zero, List.length_append, List.length_append, List.length_map]; omega) fun n3 => ?_
    have H : EndZ _ _ _ (stOf (sO l t (q ++ (hP a (byteAt w j == 80) ++ ((crL (byteAt w j)).map (hN a) ++ hB a w (j + 1) kk))) n3 (i + 1 : Nat))) V [] 0 := H n3
    rw [List.drop_zero, List.append_assoc, List.append_assoc]
    exact H
theorem ostep {t : Int} {l : List (List U)} {q : List Int} {nn : Bool} {i : Nat} (hi : i < l.length) (ha : 0 ≤ rA (l.getD i []) ∧ rA (l.getD i []) ≤ 1000) (hq : q.length ≤ 60000) : ∃ nn', RUN (stOf (sO l t q nn i)) = .at (sM l t (q ++ hP (rA (l.getD i [])) (rK (l.getD i []) == 2)) nn' i (rK (l.getD i [])) (rA (l.getD i [])) (rW (l.getD i [])) (1000 + 2 * rA (l.getD i []) + 2) (0 : Nat)) := by
  rw [o_t]
  have e : Int.toNat (i : Int) = i := rfl
  have w5 := wrap_pin ha
  simp only [e, fK0, fK1, fA0, fA1, fA2, fW0, fW1, fW2, w5]
  unfold hP
  cases hb : rK (l.getD i []) == 2
  · simp (disch := omega) only [Nat.add_eq, eqSy_self, eqN_self, bc_same, List.length_cons, ofn, wrap_in, dt, df, bltD, bltN, ble_of, bleN, beqD, bc_t, bc_f, nn_ok, Nat.zero_add, to_nat, Int.zero_add, Int.sub_zero, Int.sub_self, Int.cast_ofNat_Int, Int.natCast_zero, Int.toNat_zero, List.take_zero, List.nil_append, List.length_append, List.length_nil, List.append_nil]
    exact ⟨_, rfl⟩
  · simp (disch := omega) only [Nat.add_eq, eqSy_self, eqN_self, bc_same, List.length_cons, ofn, wrap_in, dt, df, bltD, bltN, ble_of, bleN, beqD, bc_t, bc_f, nn_ok, Nat.zero_add, to_nat, Int.zero_add, Int.sub_zero, Int.sub_self, Int.cast_ofNat_Int, Int.natCast_zero, Int.toNat_zero, List.take_zero, List.nil_append, List.length_append, List.length_nil, List.map_cons, List.map_nil]
    exact ⟨_, rfl⟩
theorem olast {t : Int} {l : List (List U)} {q : List Int} {nn : Bool} {i : Nat} (hi : l.length ≤ i) : EndZ 14 ctHp false (stOf (sO l t q nn i)) (fin t q) [] 0 := by
  have h := o_t l t q nn i
  unfold fin
  simp only [ofn, df (show ¬ (i : Int) < (l.length : Int) by omega), bc_f, beqD (Eq.refl _), bc_t] at h
  by_cases h1 : 2000 < (q.length : Int)
  · rw [dt h1, bc_t] at h
    rw [dt h1, bc_t]
    exact (EndZ.done h).weak (hoN_weak 3)
  · rw [df h1, bc_f] at h
    rw [df h1, bc_f]
    exact .done h
theorem outer {t nv : Int} {l : List (List U)} (hl : l.length ≤ 400) (hv : ValS nv l) : ∀ (kk i : Nat) (q : List Int) (nn : Bool), i + kk = l.length → q.length ≤ 49 * i → EndZ 14 ctHp false (stOf (sO l t q nn i)) (fin t (q ++ hS (l.drop i))) [] 0
  | 0, i, q, nn, h, hq => by
    rw [List.drop_eq_nil_of_le (by omega)]
    show EndZ _ _ _ _ (fin t (q ++ [])) _ _
    rw [List.append_nil]
    exact olast (by omega)
  | kk + 1, i, q, nn, h, hq => by
    have hi : i < l.length := by omega
    have hr := hv.val _ (List.getElem_mem hi)
    rw [← getD_at (d := []) hi] at hr
    have h1 := hr.lo
    have h2 := hr.hi
    have h3 := hv.hi
    have h4 := hr.long
    have h5 := hb_len (rA (l.getD i [])) (rK (l.getD i []) == 2)
    have h6 := hB_len (a := rA (l.getD i [])) (w := rW (l.getD i [])) (rW (l.getD i [])).size 0
    have ha : 0 ≤ rA (l.getD i []) ∧ rA (l.getD i []) ≤ 1000 := ⟨h1, by omega⟩
    obtain ⟨nn', hs⟩ := ostep (t := t) (q := q) (nn := nn) hi ha (by omega)
    refine .at ctHp_ok hs (mid h4 (fun j hj => word_let hr.word2 hj) ha (by omega) (rW (l.getD i [])).size 0 _ _ (by omega) (by rw [List.length_append]; omega) fun n2 => ?_)
    have ih := outer (t := t) hl hv kk (i + 1) ((q ++ hP (rA (l.getD i [])) (rK (l.getD i []) == 2)) ++ hB (rA (l.getD i [])) (rW (l.getD i [])) 0 (rW (l.getD i [])).size) n2 (by omega) (by rw [List.length_append, List.length_append]; omega)
    rw [List.drop_eq_getElem_cons hi, ← getD_at (d := []) hi]
    have e : q ++ hS (l.getD i [] :: l.drop (i + 1)) = (q ++ hP (rA (l.getD i [])) (rK (l.getD i []) == 2)) ++ hB (rA (l.getD i [])) (rW (l.getD i [])) 0 (rW (l.getD i [])).size ++ hS (l.drop (i + 1)) := by
      show q ++ ((hP (rA (l.getD i [])) (rK (l.getD i []) == 2) ++ hB (rA (l.getD i [])) (rW (l.getD i [])) 0 (rW (l.getD i [])).size) ++ hS (l.drop (i + 1))) = _
      simp only [List.append_assoc]
    rw [e]
    exact ih
theorem ends (n : Int) (l : List (List U)) : EndZ 14 ctHp false (st0 14 [.agg [iv n, wl l]]) (hoV (hoP n l) (hoL n l) (hoE n l)) [] 0 := by
  have h := in_t n l
  cases h1 : (chk4 n l != 0) <;> rw [h1] at h
  · have v := chk4_ok (ne0 h1)
    have g1 := v.lo
    have g2 := v.hi
    have w1 : IntKind.wrap IntKind.i64 (2 * n) = 2 * n := w64 (by omega)
    rw [bc_f, w1] at h
    have key := outer (t := 2 * n) v.len v l.length 0 [] false (by omega) (by simp)
    rw [List.drop_zero, List.nil_append] at key
    have he : hoE n l = bc (decide (2000 < ((hS l).length : Int))) 3 0 := by unfold hoE; rw [h1, bc_f]
    unfold hoP hoL
    rw [he]
    unfold fin at key
    by_cases h2 : 2000 < ((hS l).length : Int)
    · rw [dt h2, bc_t] at key ⊢
      exact .at ctHp_ok h key
    · rw [df h2, bc_f] at key ⊢
      exact .at ctHp_ok h key
  · have he : hoE n l = chk4 n l := by unfold hoE; rw [h1, bc_t]
    unfold hoP hoL
    rw [he, h1, bc_t, bc_t]
    exact (EndZ.done h).weak (hoN_weak _)
end PHol
noncomputable def spPHol : ZCT := fun ax => match ax with
  | [.agg [.v (.int .i64 n), .lst (.recs [.int .i64, .int .i64, .str] l)]] => some ⟨decide (True), hoV (hoP n l) (hoL n l) (hoE n l), [], 0⟩
  | _ => none
theorem spPHol_ok : ZCtOk Try.prog 14 spPHol := fun γ w us ax r hs hc hax hN hfz => by
  unfold spPHol at hs
  split at hs
  case h_2 => cases hs
  rename_i n l
  obtain ⟨rfl⟩ := Option.some.inj hs
  have hc_0 : decide (True) = true := hc
  have hc := of_decide_eq_true hc_0
  exact EndZ.calls (PHol.ends n l) ctHp_ok (by kernel_rfl) hax hN hfz
namespace RHol
noncomputable def RUN (s : ES) : ZF := RZs 15 ctHo [(atS 0 15 6, [[(1,none),(2,none),(5,some (1, 3, .ints .i64 [])),(6,none)]]), (atS 0 15 12, [[(1,none),(2,none),(5,some (1, 3, .ints .i64 [])),(6,none),(7,none),(8,none)]]), (atS 0 15 18, [[(1,none),(2,none),(5,some (1, 3, .ints .i64 [])),(6,none),(7,none),(8,none),(9,none),(11,none)]])] [] false s

noncomputable def sO (n : Int) (l : List (List U)) (t : Int) (q : List Int) (nn : Bool) (i : Int) : NS := ⟨[⟨15, 122, [(1, (EV.ptr 0 0)), (2, (EV.ptr 1 0)), (5, (EV.ptr 2 0)), (6, iv i)], [.it (.code (nav [1, 1, 1, 1, 0, 1, 0, 0, 0] (bodyOf Try.f15))), .it (.code (nav [1, 1, 1, 1, 0, 1, 0, 0, 1] (bodyOf Try.f15))), .it (.inLoop (nav [1, 1, 1, 1, 0, 1, 0, 0] (bodyOf Try.f15))), .it (.inBlock 0), .it (.code (nav [1, 1, 1, 1, 1] (bodyOf Try.f15)))], [], Option.none⟩], [(0, (EK.cells 24 [(EV.v (Value.int IntKind.i64 (n))), (EV.lst (SyC.recs [(Sh.int IntKind.i64), (Sh.int IntKind.i64), Sh.str] (l)))] true)), (1, (EK.cells 27 [(EV.v (Value.int IntKind.i64 (0))), (EV.v (Value.slice Option.none 0 0))] true)), (2, EK.cells 27 [iv t, EV.slO 3 1 q.length nn] true), (3, EK.seq 3 (.ints .i64 q) nn)], 4⟩
noncomputable def sM (n : Int) (l : List (List U)) (t : Int) (q : List Int) (nn : Bool) (i k a : Int) (w : ByteArray) (j : Int) : NS := ⟨[⟨15, 122, [(1, (EV.ptr 0 0)), (2, (EV.ptr 1 0)), (5, (EV.ptr 2 0)), (6, (EV.v (Value.int IntKind.i64 (i)))), (7, (EV.ptr 3 0)), (8, iv j)], [.it (.code (nav [1, 1, 1, 1, 0, 1, 0, 0, 1, 0, 0, 1, 1, 1, 0, 0, 0] (bodyOf Try.f15))), .it (.code (nav [1, 1, 1, 1, 0, 1, 0, 0, 1, 0, 0, 1, 1, 1, 0, 0, 1] (bodyOf Try.f15))), .it (.inLoop (nav [1, 1, 1, 1, 0, 1, 0, 0, 1, 0, 0, 1, 1, 1, 0, 0] (bodyOf Try.f15))), .it (.inBlock 2), .it (.inBlock 1), .it (.code (nav [1, 1, 1, 1, 0, 1, 0, 0, 1, 1] (bodyOf Try.f15))), .it (.inLoop (nav [1, 1, 1, 1, 0, 1, 0, 0] (bodyOf Try.f15))), .it (.inBlock 0), .it (.code (nav [1, 1, 1, 1, 1] (bodyOf Try.f15)))], [], Option.none⟩], [(0, (EK.cells 24 [(EV.v (Value.int IntKind.i64 (n))), (EV.lst (SyC.recs [(Sh.int IntKind.i64), (Sh.int IntKind.i64), Sh.str] (l)))] true)), (1, (EK.cells 27 [(EV.v (Value.int IntKind.i64 (0))), (EV.v (Value.slice Option.none 0 0))] true)), (2, EK.cells 27 [iv t, EV.slO 4 1 q.length nn] true), (3, EK.cells 76 [iv k, iv a, sv w] true), (4, EK.seq 3 (.ints .i64 q) nn)], 5⟩
noncomputable def sN (n : Int) (l : List (List U)) (t : Int) (q : List Int) (nn : Bool) (i k a : Int) (w : ByteArray) (j : Int) (L : List Int) (m : Int) : NS := ⟨[⟨15, 122, [(1, (EV.ptr 0 0)), (2, (EV.ptr 1 0)), (5, (EV.ptr 2 0)), (6, (EV.v (Value.int IntKind.i64 (i)))), (7, (EV.ptr 3 0)), (8, (EV.v (Value.int IntKind.i64 (j)))), (9, il L), (11, iv m)], [.it (.code (nav [1, 1, 1, 1, 0, 1, 0, 0, 1, 0, 0, 1, 1, 1, 0, 0, 1, 0, 0, 1, 1, 1, 0, 0, 0] (bodyOf Try.f15))), .it (.code (nav [1, 1, 1, 1, 0, 1, 0, 0, 1, 0, 0, 1, 1, 1, 0, 0, 1, 0, 0, 1, 1, 1, 0, 0, 1] (bodyOf Try.f15))), .it (.inLoop (nav [1, 1, 1, 1, 0, 1, 0, 0, 1, 0, 0, 1, 1, 1, 0, 0, 1, 0, 0, 1, 1, 1, 0, 0] (bodyOf Try.f15))), .it (.inBlock 4), .it (.inBlock 3), .it (.code (nav [1, 1, 1, 1, 0, 1, 0, 0, 1, 0, 0, 1, 1, 1, 0, 0, 1, 1] (bodyOf Try.f15))), .it (.inLoop (nav [1, 1, 1, 1, 0, 1, 0, 0, 1, 0, 0, 1, 1, 1, 0, 0] (bodyOf Try.f15))), .it (.inBlock 2), .it (.inBlock 1), .it (.code (nav [1, 1, 1, 1, 0, 1, 0, 0, 1, 1] (bodyOf Try.f15))), .it (.inLoop (nav [1, 1, 1, 1, 0, 1, 0, 0] (bodyOf Try.f15))), .it (.inBlock 0), .it (.code (nav [1, 1, 1, 1, 1] (bodyOf Try.f15)))], [], Option.none⟩], [(0, (EK.cells 24 [(EV.v (Value.int IntKind.i64 (n))), (EV.lst (SyC.recs [(Sh.int IntKind.i64), (Sh.int IntKind.i64), Sh.str] (l)))] true)), (1, (EK.cells 27 [(EV.v (Value.int IntKind.i64 (0))), (EV.v (Value.slice Option.none 0 0))] true)), (2, EK.cells 27 [iv t, EV.slO 4 1 q.length nn] true), (3, EK.cells 76 [iv k, iv a, sv w] true), (4, EK.seq 3 (.ints .i64 q) nn)], 5⟩
theorem in_t (n : Int) (l : List (List U)) : RUN (st0 15 [.agg [iv n, wl l]]) = (bc (chk4 n l != (0 : Int)) (.done (EV.tup [(EV.v (Value.agg (Array.mk [(Value.int IntKind.i64 (0)), (Value.slice Option.none 0 0)]))), (EV.v (Value.int IntKind.i64 (chk4 n l)))]) [] 0) (.at (sO (n) (l) (IntKind.wrap IntKind.i64 ((2 : Int) * n)) ([]) (false) ((0 : Int))))) := by kernel_rfl
theorem o_t (n : Int) (l : List (List U)) (t : Int) (q : List Int) (nn : Bool) (i : Int) : RUN (stOf (sO n l t q nn i)) = (bc (decide (i < Int.ofNat (List.length l))) (bc (bc (bc (decide ((0 : Int) ≤ i)) (Nat.blt (Int.toNat i) (List.length l)) false) true false) (bc (bc (Nat.blt (Int.toNat i) (List.length l)) true false) (bc (U.int (List.getD (List.getD l (Int.toNat i) []) (0 : Nat) (U.i (0 : Int))) == (2 : Int)) (bc (bc (Nat.beq (List.length q) (List.length q)) (bc (Nat.ble (List.length q + List.length (List.map (fun r => U.int (List.headD r (U.i (0 : Int)))) [[U.i (IntKind.wrap IntKind.i64 (IntKind.wrap IntKind.i64 ((1000 : Int) + IntKind.wrap IntKind.i64 ((2 : Int) * U.int (List.getD (List.getD l (Int.toNat i) []) (Nat.succ (0 : Nat)) (U.i (0 : Int))))) + (2 : Int)))]])) (65536 : Nat)) (bc nn true (bc nn false true)) false) false) (.at (sM (n) (l) (t) (q ++ List.map (fun r => U.int (List.headD r (U.i (0 : Int)))) [[U.i (IntKind.wrap IntKind.i64 (IntKind.wrap IntKind.i64 ((1000 : Int) + IntKind.wrap IntKind.i64 ((2 : Int) * U.int (List.getD (List.getD l (Int.toNat i) []) (Nat.succ (0 : Nat)) (U.i (0 : Int))))) + (2 : Int)))]]) (bc nn true (Nat.blt (0 : Nat) (List.length (List.map (fun r => U.int (List.headD r (U.i (0 : Int)))) [[U.i (IntKind.wrap IntKind.i64 (IntKind.wrap IntKind.i64 ((1000 : Int) + IntKind.wrap IntKind.i64 ((2 : Int) * U.int (List.getD (List.getD l (Int.toNat i) []) (Nat.succ (0 : Nat)) (U.i (0 : Int))))) + (2 : Int)))]])))) (i) (U.int (List.getD (List.getD l (Int.toNat i) []) (0 : Nat) (U.i (0 : Int)))) (U.int (List.getD (List.getD l (Int.toNat i) []) (Nat.succ (0 : Nat)) (U.i (0 : Int)))) (U.str (List.getD (List.getD l (Int.toNat i) []) (Nat.succ (Nat.succ (0 : Nat))) (U.i (0 : Int)))) ((0 : Int)))) .bad) (.at (sM (n) (l) (t) (q) (nn) (i) (U.int (List.getD (List.getD l (Int.toNat i) []) (0 : Nat) (U.i (0 : Int)))) (U.int (List.getD (List.getD l (Int.toNat i) []) (Nat.succ (0 : Nat)) (U.i (0 : Int)))) (U.str (List.getD (List.getD l (Int.toNat i) []) (Nat.succ (Nat.succ (0 : Nat))) (U.i (0 : Int)))) ((0 : Int))))) .bad) .bad) (bc (decide ((2000 : Int) < Int.ofNat (List.length q))) (.done (EV.tup [(EV.v (Value.agg (Array.mk [(Value.int IntKind.i64 (0)), (Value.slice Option.none 0 0)]))), (EV.v (Value.int IntKind.i64 (3)))]) [] 0) (bc (bc (bc (Nat.beq (List.length q) (List.length q)) true false) true false) (.done (EV.tup [(EV.agg [(EV.v (Value.int IntKind.i64 (t))), (EV.lst (SyC.ints IntKind.i64 (q)))]), (EV.v (Value.int IntKind.i64 (0)))]) [] 0) .bad))) := by kernel_rfl
theorem m_t (n : Int) (l : List (List U)) (t : Int) (q : List Int) (nn : Bool) (i k a : Int) (w : ByteArray) (j : Int) : RUN (stOf (sM n l t q nn i k a w j)) = (bc (decide (j < Int.ofNat (ByteArray.size w))) (bc (bc (bc (decide ((0 : Int) ≤ j)) (Nat.blt (Int.toNat j) (ByteArray.size w)) false) true false) (bc (byteAt w (Int.toNat j) == (80 : Int)) (bc (bc (Nat.beq (List.length q) (List.length q)) (bc (Nat.ble (List.length q + List.length (List.map (fun r => U.int (List.headD r (U.i (0 : Int)))) [[U.i (IntKind.wrap IntKind.i64 (IntKind.wrap IntKind.i64 ((1000 : Int) + IntKind.wrap IntKind.i64 ((2 : Int) * a)) + (2 : Int)))]])) (65536 : Nat)) (bc nn true (bc nn false true)) false) false) (bc (bc (bc (decide ((0 : Int) ≤ j)) (bc (decide (j ≤ IntKind.wrap IntKind.i64 (j + (1 : Int)))) (decide (IntKind.wrap IntKind.i64 (j + (1 : Int)) ≤ Int.ofNat (ByteArray.size w))) false) false) true false) (.at (sN (n) (l) (t) (q ++ List.map (fun r => U.int (List.headD r (U.i (0 : Int)))) [[U.i (IntKind.wrap IntKind.i64 (IntKind.wrap IntKind.i64 ((1000 : Int) + IntKind.wrap IntKind.i64 ((2 : Int) * a)) + (2 : Int)))]]) (bc nn true (Nat.blt (0 : Nat) (List.length (List.map (fun r => U.int (List.headD r (U.i (0 : Int)))) [[U.i (IntKind.wrap IntKind.i64 (IntKind.wrap IntKind.i64 ((1000 : Int) + IntKind.wrap IntKind.i64 ((2 : Int) * a)) + (2 : Int)))]])))) (i) (k) (a) (w) (j) (crE (ByteArray.extract w (Int.toNat j) (Int.toNat (IntKind.wrap IntKind.i64 (j + (1 : Int)))))) ((0 : Int)))) .bad) .bad) (bc (bc (bc (decide ((0 : Int) ≤ j)) (bc (decide (j ≤ IntKind.wrap IntKind.i64 (j + (1 : Int)))) (decide (IntKind.wrap IntKind.i64 (j + (1 : Int)) ≤ Int.ofNat (ByteArray.size w))) false) false) true false) (.at (sN (n) (l) (t) (q) (nn) (i) (k) (a) (w) (j) (crE (ByteArray.extract w (Int.toNat j) (Int.toNat (IntKind.wrap IntKind.i64 (j + (1 : Int)))))) ((0 : Int)))) .bad)) .bad) (.at (sO (n) (l) (t) (q) (nn) (IntKind.wrap IntKind.i64 (i + (1 : Int)))))) := by kernel_rfl
theorem n_t (n : Int) (l : List (List U)) (t : Int) (q : List Int) (nn : Bool) (i k a : Int) (w : ByteArray) (j : Int) (L : List Int) (m : Int) : RUN (stOf (sN n l t q nn i k a w j L m)) = (bc (decide (m < Int.ofNat (List.length L))) (bc (bc (bc (decide ((0 : Int) ≤ m)) (Nat.blt (Int.toNat m) (List.length L)) false) true false) (bc (bc (Nat.blt (Int.toNat m) (List.length L)) true false) (bc (decide ((0 : Int) < List.getD L (Int.toNat m) (0 : Int))) (bc (bc (bc (bc (bc (decide ((0 : Int) ≤ m)) (Nat.blt (Int.toNat m) (List.length L)) false) true false) (bc (bc (Nat.blt (Int.toNat m) (List.length L)) true false) (bc (bc (Nat.beq (List.length q) (List.length q)) (bc (Nat.ble (List.length q + List.length (List.map (fun r => U.int (List.headD r (U.i (0 : Int)))) [[U.i (IntKind.wrap IntKind.i64 (IntKind.wrap IntKind.i64 ((2 : Int) * a) + List.getD L (Int.toNat m) (0 : Int)))]])) (65536 : Nat)) (bc nn true (bc nn false true)) false) false) true false) false) false) true false) (.at (sN (n) (l) (t) (q ++ List.map (fun r => U.int (List.headD r (U.i (0 : Int)))) [[U.i (IntKind.wrap IntKind.i64 (IntKind.wrap IntKind.i64 ((2 : Int) * a) + List.getD L (Int.toNat m) (0 : Int)))]]) (bc nn true (Nat.blt (0 : Nat) (List.length (List.map (fun r => U.int (List.headD r (U.i (0 : Int)))) [[U.i (IntKind.wrap IntKind.i64 (IntKind.wrap IntKind.i64 ((2 : Int) * a) + List.getD L (Int.toNat m) (0 : Int)))]])))) (i) (k) (a) (w) (j) (L) (IntKind.wrap IntKind.i64 (m + (1 : Int))))) .bad) (bc (bc (bc (bc (bc (decide ((0 : Int) ≤ m)) (Nat.blt (Int.toNat m) (List.length L)) false) true false) (bc (bc (Nat.blt (Int.toNat m) (List.length L)) true false) (bc (bc (Nat.beq (List.length q) (List.length q)) (bc (Nat.ble (List.length q + List.length (List.map (fun r => U.int (List.headD r (U.i (0 : Int)))) [[U.i (IntKind.wrap IntKind.i64 (List.getD L (Int.toNat m) (0 : Int) - IntKind.wrap IntKind.i64 ((2 : Int) * a)))]])) (65536 : Nat)) (bc nn true (bc nn false true)) false) false) true false) false) false) true false) (.at (sN (n) (l) (t) (q ++ List.map (fun r => U.int (List.headD r (U.i (0 : Int)))) [[U.i (IntKind.wrap IntKind.i64 (List.getD L (Int.toNat m) (0 : Int) - IntKind.wrap IntKind.i64 ((2 : Int) * a)))]]) (bc nn true (Nat.blt (0 : Nat) (List.length (List.map (fun r => U.int (List.headD r (U.i (0 : Int)))) [[U.i (IntKind.wrap IntKind.i64 (List.getD L (Int.toNat m) (0 : Int) - IntKind.wrap IntKind.i64 ((2 : Int) * a)))]])))) (i) (k) (a) (w) (j) (L) (IntKind.wrap IntKind.i64 (m + (1 : Int))))) .bad)) .bad) .bad) (.at (sM (n) (l) (t) (q) (nn) (i) (k) (a) (w) (IntKind.wrap IntKind.i64 (j + (1 : Int)))))) := by kernel_rfl
theorem nstep {n t : Int} {l : List (List U)} {q : List Int} {nn : Bool} {i k a : Int} {w : ByteArray} {j : Int} {L : List Int} {m : Nat} (hm : m < L.length) (hL : L.length ≤ 2) (hx : Sm (L.getD m 0)) (ha : 0 ≤ a ∧ a ≤ 1000) (hq : q.length ≤ 60000) : ∃ nn', RUN (stOf (sN n l t q nn i k a w j L m)) = .at (sN n l t (q ++ [hN a (L.getD m 0)]) nn' i k a w j L (m + 1 : Nat)) := by
  rw [n_t]
  have e : Int.toNat (m : Int) = m := rfl
  rw [e]
  generalize hg : L.getD m 0 = x at hx ⊢
  unfold Sm at hx
  have w1 : IntKind.wrap IntKind.i64 (2 * a) = 2 * a := w64 (by omega)
  have w2 : IntKind.wrap IntKind.i64 (2 * a + x) = x + 2 * a := by rw [w64 (by omega)]; omega
  have w3 : IntKind.wrap IntKind.i64 (x - 2 * a) = x - 2 * a := w64 (by omega)
  have w4 : IntKind.wrap IntKind.i64 (x + 2 * a) = x + 2 * a := w64 (by omega)
  unfold hN
  by_cases h : x < 0
  · simp (disch := omega) only [w1, w2, w3, w4, dt h, df (show ¬ 0 < x by omega), List.map_cons, List.map_nil, Nat.add_eq, eqSy_self, eqN_self, bc_same, List.length_cons, ofn, wrap_in, dt, df, bltD, bltN, ble_of, bleN, beqD, bc_t, bc_f, nn_ok, Nat.zero_add, to_nat, Int.zero_add, Int.sub_zero, Int.sub_self, Int.cast_ofNat_Int, Int.natCast_zero, Int.toNat_zero, List.take_zero, List.nil_append, List.length_append, List.length_nil]
    exact ⟨_, rfl⟩
  · simp (disch := omega) only [w1, w2, w3, w4, df h, dt (show 0 < x by omega), List.map_cons, List.map_nil, Nat.add_eq, eqSy_self, eqN_self, bc_same, List.length_cons, ofn, wrap_in, dt, df, bltD, bltN, ble_of, bleN, beqD, bc_t, bc_f, nn_ok, Nat.zero_add, to_nat, Int.zero_add, Int.sub_zero, Int.sub_self, Int.cast_ofNat_Int, Int.natCast_zero, Int.toNat_zero, List.take_zero, List.nil_append, List.length_append, List.length_nil]
    exact ⟨_, rfl⟩
theorem nlast {n t : Int} {l : List (List U)} {q : List Int} {nn : Bool} {i k a : Int} {w : ByteArray} {j : Nat} {L : List Int} {m : Nat} (hm : L.length ≤ m) (hj : j ≤ 1000) : RUN (stOf (sN n l t q nn i k a w j L m)) = .at (sM n l t q nn i k a w (j + 1 : Nat)) := by
  rw [n_t]
  simp (disch := omega) only [Nat.add_eq, eqSy_self, eqN_self, bc_same, List.length_cons, ofn, wrap_in, dt, df, bltD, bltN, ble_of, bleN, beqD, bc_t, bc_f, nn_ok, Nat.zero_add, to_nat, Int.zero_add, Int.sub_zero, Int.sub_self, Int.cast_ofNat_Int, Int.natCast_zero, Int.toNat_zero, List.take_zero, List.nil_append, List.length_append, List.length_nil]
  rfl
theorem inner {n t : Int} {l : List (List U)} {i k a : Int} {w : ByteArray} {j : Nat} {L : List Int} {V : EV} (hL : L.length ≤ 2) (hx : ∀ m, m < L.length → Sm (L.getD m 0)) (ha : 0 ≤ a ∧ a ≤ 1000) (hj : j ≤ 1000) : ∀ (kk m : Nat) (q : List Int) (nn : Bool), m + kk = L.length → q.length + kk ≤ 60000 → (∀ nn', EndZ 15 ctHo false (stOf (sM n l t (q ++ (L.drop m).map (hN a)) nn' i k a w (j + 1 : Nat))) V [] 0) → EndZ 15 ctHo false (stOf (sN n l t q nn i k a w j L m)) V [] 0
  | 0, m, q, nn, h, hq, H => by
    rw [List.drop_eq_nil_of_le (by omega)] at H
    have H := H nn
    rw [List.map_nil, List.append_nil] at H
    exact .at ctHo_ok (nlast (by omega) hj) H
  | kk + 1, m, q, nn, h, hq, H => by
    have hm : m < L.length := by omega
    obtain ⟨nn', hs⟩ := nstep (n := n) (t := t) (l := l) (q := q) (nn := nn) (i := i) (k := k) (w := w) (j := (j : Int)) hm hL (hx m hm) ha (by omega)
    refine .at ctHo_ok hs (inner hL hx ha hj kk (m + 1) _ _ (by omega) (by simp; omega) fun n2 => ?_)
    have H := H n2
    rw [List.drop_eq_getElem_cons hm, List.map_cons, ← getD_at (d := 0) hm] at H
    rw [List.append_assoc]
    exact H
theorem mstep {n t : Int} {l : List (List U)} {q : List Int} {nn : Bool} {i k a : Int} {w : ByteArray} {j : Nat} (hj : j < w.size) (hw : w.size ≤ 16) (hl : Let (byteAt w j)) (ha : 0 ≤ a ∧ a ≤ 1000) (hq : q.length ≤ 60000) : ∃ nn', RUN (stOf (sM n l t q nn i k a w j)) = .at (sN n l t (q ++ hP a (byteAt w j == 80)) nn' i k a w j (crL (byteAt w j)) (0 : Nat)) := by
  rw [m_t]
  have e : Int.toNat (j : Int) = j := rfl
  have e2 : IntKind.wrap IntKind.i64 ((j : Int) + 1) = ((j + 1 : Nat) : Int) := by rw [w64 (by omega)]; rfl
  have e3 : Int.toNat ((j + 1 : Nat) : Int) = j + 1 := rfl
  have w5 := wrap_pin ha
  simp only [e, e2, e3, one_crE hj hl, w5]
  unfold hP
  cases hb : byteAt w j == 80
  · simp (disch := omega) only [Nat.add_eq, eqSy_self, eqN_self, bc_same, List.length_cons, ofn, wrap_in, dt, df, bltD, bltN, ble_of, bleN, beqD, bc_t, bc_f, nn_ok, Nat.zero_add, to_nat, Int.zero_add, Int.sub_zero, Int.sub_self, Int.cast_ofNat_Int, Int.natCast_zero, Int.toNat_zero, List.take_zero, List.nil_append, List.length_append, List.length_nil, List.append_nil]
    exact ⟨_, rfl⟩
  · simp (disch := omega) only [Nat.add_eq, eqSy_self, eqN_self, bc_same, List.length_cons, ofn, wrap_in, dt, df, bltD, bltN, ble_of, bleN, beqD, bc_t, bc_f, nn_ok, Nat.zero_add, to_nat, Int.zero_add, Int.sub_zero, Int.sub_self, Int.cast_ofNat_Int, Int.natCast_zero, Int.toNat_zero, List.take_zero, List.nil_append, List.length_append, List.length_nil, List.map_cons, List.map_nil]
    exact ⟨_, rfl⟩
theorem mlast {n t : Int} {l : List (List U)} {q : List Int} {nn : Bool} {i : Nat} {k a : Int} {w : ByteArray} {j : Nat} (hj : w.size ≤ j) (hi : i ≤ 1000) : RUN (stOf (sM n l t q nn i k a w j)) = .at (sO n l t q nn (i + 1 : Nat)) := by
  rw [m_t]
  simp (disch := omega) only [Nat.add_eq, eqSy_self, eqN_self, bc_same, List.length_cons, ofn, wrap_in, dt, df, bltD, bltN, ble_of, bleN, beqD, bc_t, bc_f, nn_ok, Nat.zero_add, to_nat, Int.zero_add, Int.sub_zero, Int.sub_self, Int.cast_ofNat_Int, Int.natCast_zero, Int.toNat_zero, List.take_zero, List.nil_append, List.length_append, List.length_nil]
  rfl
theorem mid {n t : Int} {l : List (List U)} {i : Nat} {k a : Int} {w : ByteArray} {V : EV} (hw : w.size ≤ 16) (hl : ∀ j, j < w.size → Let (byteAt w j)) (ha : 0 ≤ a ∧ a ≤ 1000) (hi : i ≤ 1000) : ∀ (kk j : Nat) (q : List Int) (nn : Bool), j + kk = w.size → q.length + 3 * kk ≤ 60000 → (∀ nn', EndZ 15 ctHo false (stOf (sO n l t (q ++ hB a w j kk) nn' (i + 1 : Nat))) V [] 0) → EndZ 15 ctHo false (stOf (sM n l t q nn i k a w j)) V [] 0
  | 0, j, q, nn, h, hq, H => by
    have H : EndZ _ _ _ (stOf (sO n l t (q ++ []) nn (i + 1 : Nat))) V [] 0 := H nn
    rw [List.append_nil] at H
    exact .at ctHo_ok (mlast (by omega) hi) H
  | kk + 1, j, q, nn, h, hq, H => by
    have hj : j < w.size := by omega
    obtain ⟨nn', hs⟩ := mstep (n := n) (t := t) (l := l) (q := q) (nn := nn) (i := i) (k := k) hj hw (hl j hj) ha (by omega)
    have l1 := hb_len a (byteAt w j == 80)
    have l2 := crL_len (c := byteAt w j)
    refine .at ctHo_ok hs (inner l2 (sm_cr (hl j hj)) ha (by omega) (crL (byteAt w j)).length 0 _ _ (by omega) (by rw [List.length_append]; omega) fun n2 => ?_)
    refine mid hw hl ha hi kk (j + 1) _ _ (by omega) (by rw [List.drop_zero, List.length_append, List.length_append, List.length_map]; omega) fun n3 => ?_
    have H : EndZ _ _ _ (stOf (sO n l t (q ++ (hP a (byteAt w j == 80) ++ ((crL (byteAt w j)).map (hN a) ++ hB a w (j + 1) kk))) n3 (i + 1 : Nat))) V [] 0 := H n3
    rw [List.drop_zero, List.append_assoc, List.append_assoc]
    exact H
theorem ostep {n t : Int} {l : List (List U)} {q : List Int} {nn : Bool} {i : Nat} (hi : i < l.length) (ha : 0 ≤ rA (l.getD i []) ∧ rA (l.getD i []) ≤ 1000) (hq : q.length ≤ 60000) : ∃ nn', RUN (stOf (sO n l t q nn i)) = .at (sM n l t (q ++ hP (rA (l.getD i [])) (rK (l.getD i []) == 2)) nn' i (rK (l.getD i [])) (rA (l.getD i [])) (rW (l.getD i [])) (0 : Nat)) := by
  rw [o_t]
  have e : Int.toNat (i : Int) = i := rfl
  have w5 := wrap_pin ha
  simp only [e, fK0, fK1, fA0, fA1, fA2, fW0, fW1, fW2, w5]
  unfold hP
  cases hb : rK (l.getD i []) == 2
  · simp (disch := omega) only [Nat.add_eq, eqSy_self, eqN_self, bc_same, List.length_cons, ofn, wrap_in, dt, df, bltD, bltN, ble_of, bleN, beqD, bc_t, bc_f, nn_ok, Nat.zero_add, to_nat, Int.zero_add, Int.sub_zero, Int.sub_self, Int.cast_ofNat_Int, Int.natCast_zero, Int.toNat_zero, List.take_zero, List.nil_append, List.length_append, List.length_nil, List.append_nil]
    exact ⟨_, rfl⟩
  · simp (disch := omega) only [Nat.add_eq, eqSy_self, eqN_self, bc_same, List.length_cons, ofn, wrap_in, dt, df, bltD, bltN, ble_of, bleN, beqD, bc_t, bc_f, nn_ok, Nat.zero_add, to_nat, Int.zero_add, Int.sub_zero, Int.sub_self, Int.cast_ofNat_Int, Int.natCast_zero, Int.toNat_zero, List.take_zero, List.nil_append, List.length_append, List.length_nil, List.map_cons, List.map_nil]
    exact ⟨_, rfl⟩
theorem olast {n t : Int} {l : List (List U)} {q : List Int} {nn : Bool} {i : Nat} (hi : l.length ≤ i) : EndZ 15 ctHo false (stOf (sO n l t q nn i)) (fin t q) [] 0 := by
  have h := o_t n l t q nn i
  unfold fin
  simp only [ofn, df (show ¬ (i : Int) < (l.length : Int) by omega), bc_f, beqD (Eq.refl _), bc_t] at h
  by_cases h1 : 2000 < (q.length : Int)
  · rw [dt h1, bc_t] at h
    rw [dt h1, bc_t]
    exact (EndZ.done h).weak (hoN_weak 3)
  · rw [df h1, bc_f] at h
    rw [df h1, bc_f]
    exact .done h
theorem outer {n t nv : Int} {l : List (List U)} (hl : l.length ≤ 400) (hv : ValS nv l) : ∀ (kk i : Nat) (q : List Int) (nn : Bool), i + kk = l.length → q.length ≤ 49 * i → EndZ 15 ctHo false (stOf (sO n l t q nn i)) (fin t (q ++ hS (l.drop i))) [] 0
  | 0, i, q, nn, h, hq => by
    rw [List.drop_eq_nil_of_le (by omega)]
    show EndZ _ _ _ _ (fin t (q ++ [])) _ _
    rw [List.append_nil]
    exact olast (by omega)
  | kk + 1, i, q, nn, h, hq => by
    have hi : i < l.length := by omega
    have hr := hv.val _ (List.getElem_mem hi)
    rw [← getD_at (d := []) hi] at hr
    have h1 := hr.lo
    have h2 := hr.hi
    have h3 := hv.hi
    have h4 := hr.long
    have h5 := hb_len (rA (l.getD i [])) (rK (l.getD i []) == 2)
    have h6 := hB_len (a := rA (l.getD i [])) (w := rW (l.getD i [])) (rW (l.getD i [])).size 0
    have ha : 0 ≤ rA (l.getD i []) ∧ rA (l.getD i []) ≤ 1000 := ⟨h1, by omega⟩
    obtain ⟨nn', hs⟩ := ostep (n := n) (t := t) (q := q) (nn := nn) hi ha (by omega)
    refine .at ctHo_ok hs (mid h4 (fun j hj => word_let hr.word2 hj) ha (by omega) (rW (l.getD i [])).size 0 _ _ (by omega) (by rw [List.length_append]; omega) fun n2 => ?_)
    have ih := outer (n := n) (t := t) hl hv kk (i + 1) ((q ++ hP (rA (l.getD i [])) (rK (l.getD i []) == 2)) ++ hB (rA (l.getD i [])) (rW (l.getD i [])) 0 (rW (l.getD i [])).size) n2 (by omega) (by rw [List.length_append, List.length_append]; omega)
    rw [List.drop_eq_getElem_cons hi, ← getD_at (d := []) hi]
    have e : q ++ hS (l.getD i [] :: l.drop (i + 1)) = (q ++ hP (rA (l.getD i [])) (rK (l.getD i []) == 2)) ++ hB (rA (l.getD i [])) (rW (l.getD i [])) 0 (rW (l.getD i [])).size ++ hS (l.drop (i + 1)) := by
      show q ++ ((hP (rA (l.getD i [])) (rK (l.getD i []) == 2) ++ hB (rA (l.getD i [])) (rW (l.getD i [])) 0 (rW (l.getD i [])).size) ++ hS (l.drop (i + 1))) = _
      simp only [List.append_assoc]
    rw [e]
    exact ih
theorem ends (n : Int) (l : List (List U)) : EndZ 15 ctHo false (st0 15 [.agg [iv n, wl l]]) (hoV (hoP n l) (hoL n l) (hoE n l)) [] 0 := by
  have h := in_t n l
  cases h1 : (chk4 n l != 0) <;> rw [h1] at h
  · have v := chk4_ok (ne0 h1)
    have g1 := v.lo
    have g2 := v.hi
    have w1 : IntKind.wrap IntKind.i64 (2 * n) = 2 * n := w64 (by omega)
    rw [bc_f, w1] at h
    have key := outer (n := n) (t := 2 * n) v.len v l.length 0 [] false (by omega) (by simp)
    rw [List.drop_zero, List.nil_append] at key
    have he : hoE n l = bc (decide (2000 < ((hS l).length : Int))) 3 0 := by unfold hoE; rw [h1, bc_f]
    unfold hoP hoL
    rw [he]
    unfold fin at key
    by_cases h2 : 2000 < ((hS l).length : Int)
    · rw [dt h2, bc_t] at key ⊢
      exact .at ctHo_ok h key
    · rw [df h2, bc_f] at key ⊢
      exact .at ctHo_ok h key
  · have he : hoE n l = chk4 n l := by unfold hoE; rw [h1, bc_t]
    unfold hoP hoL
    rw [he, h1, bc_t, bc_t]
    exact (EndZ.done h).weak (hoN_weak _)
end RHol
noncomputable def spRHol : ZCT := fun ax => match ax with
  | [.agg [.v (.int .i64 n), .lst (.recs [.int .i64, .int .i64, .str] l)]] => some ⟨decide (True), hoV (hoP n l) (hoL n l) (hoE n l), [], 0⟩
  | _ => none
theorem spRHol_ok : ZCtOk Try.prog 15 spRHol := fun γ w us ax r hs hc hax hN hfz => by
  unfold spRHol at hs
  split at hs
  case h_2 => cases hs
  rename_i n l
  obtain ⟨rfl⟩ := Option.some.inj hs
  have hc_0 : decide (True) = true := hc
  have hc := of_decide_eq_true hc_0
  exact EndZ.calls (RHol.ends n l) ctHo_ok (by kernel_rfl) hax hN hfz
end Go.Proofs.Ythaljeccdeajoaa.Ev
namespace Go.Proofs.Ythaljeccdeajoaa.Ev
open Go.Proofs
theorem awakeL_run : endsB (exClosed Try.prog ft (drD Try.prog ft 16 4) 13 18) = true := by kernel_rfl
theorem awakeLC (w : World) : Calls Try.prog 13 #[] w fun e w' => e = .returned (.bool true) ∧ Stays w w' := closedTrue ftOk (drD_ok mix ftOk 16 4) awakeL_run w
theorem spAwakeL_ok : ZCtOk Try.prog 13 spTrue := spTrue_ok awakeLC
end Go.Proofs.Ythaljeccdeajoaa.Ev
namespace Go.Proofs.Ythaljeccdeajoaa
open Go.ChangeShapes Go.WideShapes Go.ChangeAt Go.RowKit

theorem kept_of_stays {W W' : World} (h : Ev.Stays W W') (may : MemPlace → Prop) : W.keptBut W' may := by
  refine ⟨h.os, h.output, fun i hi => ?_⟩
  have e := h.block i hi
  rw [e]
  cases hb : W.heap[i]? with
  | none => simp
  | some o =>
    cases o <;> first | exact ⟨rfl, rfl, rfl, fun _ _ => rfl⟩ | exact .inr ⟨rfl, rfl⟩ | rfl
theorem frozen_of_stays {W W' : World} (h : Ev.Stays W W') (a : Addr) (ha : a.block < W.heap.size) : W'.frozen? a = W.frozen? a := by
  unfold World.frozen?
  rw [h.block _ ha]
section
variable {H : Type} {enc : TypeId × Value → H} {P : Program}

theorem post_of_stays {f : Func} {s : ChangeSpec} {apart fresh handsOn again : Bool} {W W' : World} {args : Array Value} {v : Value} {ds gs : List (DataW H)} {before pa pv : List MemPlace}
    (hW : DataW.Whole enc P f.params.toList s.vars apart W args.toList ds gs before)
    (hres : ∀ (b : Nat) (sp : Nat → Bool) (hd : Bool), DataW.TrodAll enc P W' b sp hd f.resultTypes.toList (v.resultList f.resultTypes.size) (s.fn H (ds ++ gs)).results [])
    (hargs : ∀ sp : Nat → Bool, (∀ p ∈ before, sp p.block = true) → DataW.TrodAll enc P W' 0 sp true f.params.toList args.toList (s.fn H (ds ++ gs)).args pa)
    (hvars : ∀ sp : Nat → Bool, (∀ p ∈ before, sp p.block = true) → DataW.TrodVars enc P W' sp s.vars (s.fn H (ds ++ gs)).vars pv)
    (hps : before = pa ++ pv) (hst : Ev.Stays W W')
    (hok : ∀ (j : Nat) (t : TypeId) (r : Value), f.resultTypes[j]? = some t → (v.resultList f.resultTypes.size)[j]? = some r → Value.okWide P W' .any 0 t r) :
    s.post enc P f apart fresh handsOn again W args v W' := by
  have hk : W.keptBut W' (· ∈ before) := kept_of_stays hst _
  have hold : ∀ p ∈ before, (fun b => decide (b < W.heap.size)) p.block = true := fun p hp => by simpa using hW.lt p hp
  have hlt := fun p hp => hW.lt p hp
  refine ⟨ds, gs, before, [], pa, pv, hW, hres _ _ _, hargs _ hold, hvars _ hold, World.keptBut_mono (fun p hp => ⟨hp, ?_⟩) hk, fun _ => ?_⟩
  · rw [hps, List.mem_append] at hp
    exact Or.inr hp
  · obtain ⟨_, _, _, _, _, hz, hn⟩ := hW
    refine ⟨hok, _, _, ([] ++ pa) ++ pv, ⟨[] ++ pa, pv, trodAll_append (hargs _ (fun _ _ => rfl)) (hres _ _ _), hvars _ (fun _ _ => rfl), rfl, ?_, ?_⟩, ?_⟩
    · intro b off hp
      have hp2 : MemPlace.cell b off ∈ before := by rw [hps]; simpa using hp
      rw [frozen_of_stays hst _ (hlt _ hp2)]
      exact hz b off hp2
    · intro ha
      have := hn ha
      rw [hps] at this
      simpa using this
    · intro p hp _
      rw [hps]
      simpa using hp
end
end Go.Proofs.Ythaljeccdeajoaa
