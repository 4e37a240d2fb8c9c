import Derived.Test.YtpehpccahbofiaaEvA
import Derived.Test.YtpehpccahbofiaaProg
import Derived.KernelRfl
import Derived.Test.YtpehpccahbofiaaEvQ3
set_option linter.all false
set_option maxRecDepth 100000
namespace Go.Proofs.Ytpehpccahbofiaa.Tab
open Go Go.Proofs.Ytpehpccahbofiaa.Ev Go.Proofs Go.Proofs.Ytpehpccahbofiaa
-- functions [3, 6, 18, 7, 19, 40, 61, 74, 75, 77, 76, 89, 94, 98, 90, 95, 91, 96, 97, 78, 79, 80, 41, 62, 43, 47, 42, 44, 63, 81, 82, 45, 46, 64, 48, 65, 66, 83, 84, 85, 92, 8, 20, 21, 12, 26, 22, 49, 67, 56, 69, 86, 70, 71, 87, 72, 88, 93, 14, 29, 53, 68, 54, 23, 51, 50, 55, 30, 31, 57, 32, 24, 52, 16, 9, 10, 25, 33, 37, 13, 27, 28, 15, 35, 34, 17, 39, 59, 73, 36, 58, 38, 60, 11, 4, 5]
noncomputable def fi3 : FI := ⟨bodyOf Try.f3, 47, [.tmp 6], 3, false, false, none, [25, 26, 27], [4]⟩
theorem fok3 : FnOk Try.prog 3 fi3 := ⟨Try.f3, Try.func3, rfl, rfl, rfl, by decide⟩
noncomputable def fi6 : FI := ⟨bodyOf Try.f6, 107, [.tmp 4], 3, true, false, none, [25, 27], [4]⟩
theorem fok6 : FnOk Try.prog 6 fi6 := ⟨Try.f6, Try.func6, rfl, rfl, rfl, by decide⟩
noncomputable def fi18 : FI := ⟨bodyOf Try.f18, 88, [.tmp 2], 3, true, false, none, [25], [4]⟩
theorem fok18 : FnOk Try.prog 18 fi18 := ⟨Try.f18, Try.func18, rfl, rfl, rfl, by decide⟩
noncomputable def fi7 : FI := ⟨bodyOf Try.f7, 95, [.tmp 0], 1, true, false, none, [], [4]⟩
theorem fok7 : FnOk Try.prog 7 fi7 := ⟨Try.f7, Try.func7, rfl, rfl, rfl, by decide⟩
noncomputable def fi19 : FI := ⟨bodyOf Try.f19, 111, [.cell 2 25, .tmp 3, .tmp 4], 1, false, false, none, [9], [25, 3, 31]⟩
theorem fok19 : FnOk Try.prog 19 fi19 := ⟨Try.f19, Try.func19, rfl, rfl, rfl, by decide⟩
noncomputable def fi40 : FI := ⟨bodyOf Try.f40, 55, [.tmp 2, .tmp 3, .tmp 4], 1, false, false, none, [9], [84, 3, 31]⟩
theorem fok40 : FnOk Try.prog 40 fi40 := ⟨Try.f40, Try.func40, rfl, rfl, rfl, by decide⟩
noncomputable def fi61 : FI := ⟨bodyOf Try.f61, 95, [.cell 2 93, .tmp 3], 1, false, false, none, [9], [93, 4]⟩
theorem fok61 : FnOk Try.prog 61 fi61 := ⟨Try.f61, Try.func61, rfl, rfl, rfl, by decide⟩
noncomputable def fi74 : FI := ⟨bodyOf Try.f74, 9, [.tmp 2], 1, false, false, none, [5], [4]⟩
theorem fok74 : FnOk Try.prog 74 fi74 := ⟨Try.f74, Try.func74, rfl, rfl, rfl, by decide⟩
noncomputable def fi75 : FI := ⟨bodyOf Try.f75, 33, [.tmp 2], 1, false, false, none, [9], [3]⟩
theorem fok75 : FnOk Try.prog 75 fi75 := ⟨Try.f75, Try.func75, rfl, rfl, rfl, by decide⟩
noncomputable def fi77 : FI := ⟨bodyOf Try.f77, 9, [.tmp 2], 1, false, false, none, [5], [4]⟩
theorem fok77 : FnOk Try.prog 77 fi77 := ⟨Try.f77, Try.func77, rfl, rfl, rfl, by decide⟩
noncomputable def fi76 : FI := ⟨bodyOf Try.f76, 51, [.cell 2 56, .tmp 3], 1, false, false, none, [9], [56, 31]⟩
theorem fok76 : FnOk Try.prog 76 fi76 := ⟨Try.f76, Try.func76, rfl, rfl, rfl, by decide⟩
noncomputable def fi89 : FI := ⟨bodyOf Try.f89, 64, [.tmp 2, .tmp 3], 1, false, false, none, [9], [2, 4]⟩
theorem fok89 : FnOk Try.prog 89 fi89 := ⟨Try.f89, Try.func89, rfl, rfl, rfl, by decide⟩
noncomputable def fi94 : FI := ⟨bodyOf Try.f94, 13, [.tmp 2], 1, true, false, none, [2], [9]⟩
theorem fok94 : FnOk Try.prog 94 fi94 := ⟨Try.f94, Try.func94, rfl, rfl, rfl, by decide⟩
noncomputable def fi98 : FI := ⟨bodyOf Try.f98, 29, [.tmp 2], 1, true, false, none, [130], [9]⟩
theorem fok98 : FnOk Try.prog 98 fi98 := ⟨Try.f98, Try.func98, rfl, rfl, rfl, by decide⟩
noncomputable def fi90 : FI := ⟨bodyOf Try.f90, 64, [.tmp 2], 1, false, false, none, [9], [9]⟩
theorem fok90 : FnOk Try.prog 90 fi90 := ⟨Try.f90, Try.func90, rfl, rfl, rfl, by decide⟩
noncomputable def fi95 : FI := ⟨bodyOf Try.f95, 22, [.tmp 2], 1, true, false, none, [5], [3]⟩
theorem fok95 : FnOk Try.prog 95 fi95 := ⟨Try.f95, Try.func95, rfl, rfl, rfl, by decide⟩
noncomputable def fi91 : FI := ⟨bodyOf Try.f91, 22, [.tmp 2], 1, true, false, none, [56], [9]⟩
theorem fok91 : FnOk Try.prog 91 fi91 := ⟨Try.f91, Try.func91, rfl, rfl, rfl, by decide⟩
noncomputable def fi96 : FI := ⟨bodyOf Try.f96, 44, [.tmp 2], 1, true, false, none, [56], [4]⟩
theorem fok96 : FnOk Try.prog 96 fi96 := ⟨Try.f96, Try.func96, rfl, rfl, rfl, by decide⟩
noncomputable def fi97 : FI := ⟨bodyOf Try.f97, 63, [.tmp 2], 1, true, false, none, [9], [9]⟩
theorem fok97 : FnOk Try.prog 97 fi97 := ⟨Try.f97, Try.func97, rfl, rfl, rfl, by decide⟩
noncomputable def fi78 : FI := ⟨bodyOf Try.f78, 25, [.tmp 2], 1, false, false, none, [9], [3]⟩
theorem fok78 : FnOk Try.prog 78 fi78 := ⟨Try.f78, Try.func78, rfl, rfl, rfl, by decide⟩
noncomputable def fi79 : FI := ⟨bodyOf Try.f79, 22, [.tmp 2], 1, false, false, none, [9], [3]⟩
theorem fok79 : FnOk Try.prog 79 fi79 := ⟨Try.f79, Try.func79, rfl, rfl, rfl, by decide⟩
noncomputable def fi80 : FI := ⟨bodyOf Try.f80, 56, [.tmp 2], 1, false, false, none, [9], [3]⟩
theorem fok80 : FnOk Try.prog 80 fi80 := ⟨Try.f80, Try.func80, rfl, rfl, rfl, by decide⟩
noncomputable def fi41 : FI := ⟨bodyOf Try.f41, 11, [.tmp 4], 1, false, false, none, [87, 9], [4]⟩
theorem fok41 : FnOk Try.prog 41 fi41 := ⟨Try.f41, Try.func41, rfl, rfl, rfl, by decide⟩
noncomputable def fi62 : FI := ⟨bodyOf Try.f62, 29, [.tmp 4], 1, false, false, none, [87, 9], [4]⟩
theorem fok62 : FnOk Try.prog 62 fi62 := ⟨Try.f62, Try.func62, rfl, rfl, rfl, by decide⟩
noncomputable def fi43 : FI := ⟨bodyOf Try.f43, 13, [.cell 2 93], 1, false, false, none, [87], [93]⟩
theorem fok43 : FnOk Try.prog 43 fi43 := ⟨Try.f43, Try.func43, rfl, rfl, rfl, by decide⟩
noncomputable def fi47 : FI := ⟨bodyOf Try.f47, 21, [], 1, false, false, none, [87], []⟩
theorem fok47 : FnOk Try.prog 47 fi47 := ⟨Try.f47, Try.func47, rfl, rfl, rfl, by decide⟩
noncomputable def fi42 : FI := ⟨bodyOf Try.f42, 19, [], 1, false, false, none, [87, 31, 3], []⟩
theorem fok42 : FnOk Try.prog 42 fi42 := ⟨Try.f42, Try.func42, rfl, rfl, rfl, by decide⟩
noncomputable def fi44 : FI := ⟨bodyOf Try.f44, 18, [.tmp 2], 1, false, false, none, [87], [9]⟩
theorem fok44 : FnOk Try.prog 44 fi44 := ⟨Try.f44, Try.func44, rfl, rfl, rfl, by decide⟩
noncomputable def fi63 : FI := ⟨bodyOf Try.f63, 27, [.tmp 2], 1, false, false, none, [87], [4]⟩
theorem fok63 : FnOk Try.prog 63 fi63 := ⟨Try.f63, Try.func63, rfl, rfl, rfl, by decide⟩
noncomputable def fi81 : FI := ⟨bodyOf Try.f81, 47, [.tmp 2], 1, true, false, none, [9], [4]⟩
theorem fok81 : FnOk Try.prog 81 fi81 := ⟨Try.f81, Try.func81, rfl, rfl, rfl, by decide⟩
noncomputable def fi82 : FI := ⟨bodyOf Try.f82, 18, [.tmp 2], 1, true, false, none, [9], [4]⟩
theorem fok82 : FnOk Try.prog 82 fi82 := ⟨Try.f82, Try.func82, rfl, rfl, rfl, by decide⟩
noncomputable def fi45 : FI := ⟨bodyOf Try.f45, 13, [], 1, false, false, none, [87, 9], []⟩
theorem fok45 : FnOk Try.prog 45 fi45 := ⟨Try.f45, Try.func45, rfl, rfl, rfl, by decide⟩
noncomputable def fi46 : FI := ⟨bodyOf Try.f46, 75, [], 1, false, false, none, [87, 98], []⟩
theorem fok46 : FnOk Try.prog 46 fi46 := ⟨Try.f46, Try.func46, rfl, rfl, rfl, by decide⟩
noncomputable def fi64 : FI := ⟨bodyOf Try.f64, 55, [.tmp 4], 1, false, false, none, [87, 98], [4]⟩
theorem fok64 : FnOk Try.prog 64 fi64 := ⟨Try.f64, Try.func64, rfl, rfl, rfl, by decide⟩
noncomputable def fi48 : FI := ⟨bodyOf Try.f48, 57, [], 1, false, false, none, [87, 98], []⟩
theorem fok48 : FnOk Try.prog 48 fi48 := ⟨Try.f48, Try.func48, rfl, rfl, rfl, by decide⟩
noncomputable def fi65 : FI := ⟨bodyOf Try.f65, 24, [], 1, false, false, none, [87, 3], []⟩
theorem fok65 : FnOk Try.prog 65 fi65 := ⟨Try.f65, Try.func65, rfl, rfl, rfl, by decide⟩
noncomputable def fi66 : FI := ⟨bodyOf Try.f66, 116, [.cell 4 47], 1, false, false, none, [87, 3], [47]⟩
theorem fok66 : FnOk Try.prog 66 fi66 := ⟨Try.f66, Try.func66, rfl, rfl, rfl, by decide⟩
noncomputable def fi83 : FI := ⟨bodyOf Try.f83, 49, [.tmp 2], 1, false, false, none, [87], [45]⟩
theorem fok83 : FnOk Try.prog 83 fi83 := ⟨Try.f83, Try.func83, rfl, rfl, rfl, by decide⟩
noncomputable def fi84 : FI := ⟨bodyOf Try.f84, 24, [.cell 2 83], 1, false, false, none, [87], [83]⟩
theorem fok84 : FnOk Try.prog 84 fi84 := ⟨Try.f84, Try.func84, rfl, rfl, rfl, by decide⟩
noncomputable def fi85 : FI := ⟨bodyOf Try.f85, 13, [.tmp 2], 1, true, false, none, [9], [3]⟩
theorem fok85 : FnOk Try.prog 85 fi85 := ⟨Try.f85, Try.func85, rfl, rfl, rfl, by decide⟩
noncomputable def fi92 : FI := ⟨bodyOf Try.f92, 17, [.tmp 2], 1, true, false, none, [3], [9]⟩
theorem fok92 : FnOk Try.prog 92 fi92 := ⟨Try.f92, Try.func92, rfl, rfl, rfl, by decide⟩
noncomputable def fi8 : FI := ⟨bodyOf Try.f8, 24, [.tmp 6, .tmp 7], 4, true, false, none, [25, 26, 34], [30, 31]⟩
theorem fok8 : FnOk Try.prog 8 fi8 := ⟨Try.f8, Try.func8, rfl, rfl, rfl, by decide⟩
noncomputable def fi20 : FI := ⟨bodyOf Try.f20, 27, [.tmp 2], 3, true, false, none, [25], [23]⟩
theorem fok20 : FnOk Try.prog 20 fi20 := ⟨Try.f20, Try.func20, rfl, rfl, rfl, by decide⟩
noncomputable def fi21 : FI := ⟨bodyOf Try.f21, 58, [.tmp 6], 3, false, false, none, [1000030, 1000023, 1000025, 1000026, 1000034, 1000029], [4]⟩
theorem fok21 : FnOk Try.prog 21 fi21 := ⟨Try.f21, Try.func21, rfl, rfl, rfl, by decide⟩
noncomputable def fi12 : FI := ⟨bodyOf Try.f12, 42, [.tmp 4, .tmp 5], 4, false, true, none, [25, 30], [26, 31]⟩
theorem fok12 : FnOk Try.prog 12 fi12 := ⟨Try.f12, Try.func12, rfl, rfl, rfl, by decide⟩
noncomputable def fi26 : FI := ⟨bodyOf Try.f26, 78, [.tmp 4, .tmp 5], 3, true, false, none, [25, 30], [64, 4]⟩
theorem fok26 : FnOk Try.prog 26 fi26 := ⟨Try.f26, Try.func26, rfl, rfl, rfl, by decide⟩
noncomputable def fi22 : FI := ⟨bodyOf Try.f22, 9, [.tmp 4], 3, true, false, none, [26, 26], [4]⟩
theorem fok22 : FnOk Try.prog 22 fi22 := ⟨Try.f22, Try.func22, rfl, rfl, rfl, by decide⟩
noncomputable def fi49 : FI := ⟨bodyOf Try.f49, 8, [.tmp 4], 3, true, false, none, [26, 26], [3]⟩
theorem fok49 : FnOk Try.prog 49 fi49 := ⟨Try.f49, Try.func49, rfl, rfl, rfl, by decide⟩
noncomputable def fi67 : FI := ⟨bodyOf Try.f67, 39, [.tmp 6], 3, false, true, none, [26, 26, 104], [3]⟩
theorem fok67 : FnOk Try.prog 67 fi67 := ⟨Try.f67, Try.func67, rfl, rfl, rfl, by decide⟩
noncomputable def fi56 : FI := ⟨bodyOf Try.f56, 40, [.tmp 4], 3, true, false, none, [56, 56], [3]⟩
theorem fok56 : FnOk Try.prog 56 fi56 := ⟨Try.f56, Try.func56, rfl, rfl, rfl, by decide⟩
noncomputable def fi69 : FI := ⟨bodyOf Try.f69, 20, [.tmp 4], 3, true, false, none, [3, 3], [3]⟩
theorem fok69 : FnOk Try.prog 69 fi69 := ⟨Try.f69, Try.func69, rfl, rfl, rfl, by decide⟩
noncomputable def fi86 : FI := ⟨bodyOf Try.f86, 6, [.tmp 2], 3, true, false, none, [3], [4]⟩
theorem fok86 : FnOk Try.prog 86 fi86 := ⟨Try.f86, Try.func86, rfl, rfl, rfl, by decide⟩
noncomputable def fi70 : FI := ⟨bodyOf Try.f70, 4, [.tmp 2], 3, true, false, none, [4], [3]⟩
theorem fok70 : FnOk Try.prog 70 fi70 := ⟨Try.f70, Try.func70, rfl, rfl, rfl, by decide⟩
noncomputable def fi71 : FI := ⟨bodyOf Try.f71, 20, [.tmp 4], 3, true, false, none, [2, 2], [3]⟩
theorem fok71 : FnOk Try.prog 71 fi71 := ⟨Try.f71, Try.func71, rfl, rfl, rfl, by decide⟩
noncomputable def fi87 : FI := ⟨bodyOf Try.f87, 6, [.tmp 2], 3, true, false, none, [2], [4]⟩
theorem fok87 : FnOk Try.prog 87 fi87 := ⟨Try.f87, Try.func87, rfl, rfl, rfl, by decide⟩
noncomputable def fi72 : FI := ⟨bodyOf Try.f72, 8, [.tmp 4], 3, true, false, none, [9, 9], [3]⟩
theorem fok72 : FnOk Try.prog 72 fi72 := ⟨Try.f72, Try.func72, rfl, rfl, rfl, by decide⟩
noncomputable def fi88 : FI := ⟨bodyOf Try.f88, 8, [.tmp 4], 3, true, false, none, [9, 9], [3]⟩
theorem fok88 : FnOk Try.prog 88 fi88 := ⟨Try.f88, Try.func88, rfl, rfl, rfl, by decide⟩
theorem nok93 : NatOk Try.prog 93 1 := ⟨Try.f93, Try.func93, by kernel_rfl, by kernel_rfl, by kernel_rfl, by kernel_rfl⟩
noncomputable def fi14 : FI := ⟨bodyOf Try.f14, 72, [.tmp 6], 3, false, true, none, [25, 30, 34], [4]⟩
theorem fok14 : FnOk Try.prog 14 fi14 := ⟨Try.f14, Try.func14, rfl, rfl, rfl, by decide⟩
noncomputable def fi29 : FI := ⟨bodyOf Try.f29, 56, [.tmp 6], 3, true, false, none, [64, 47, 34], [4]⟩
theorem fok29 : FnOk Try.prog 29 fi29 := ⟨Try.f29, Try.func29, rfl, rfl, rfl, by decide⟩
noncomputable def fi53 : FI := ⟨bodyOf Try.f53, 27, [.cell 4 56, .tmp 5], 3, true, false, none, [64, 83], [56, 4]⟩
theorem fok53 : FnOk Try.prog 53 fi53 := ⟨Try.f53, Try.func53, rfl, rfl, rfl, by decide⟩
noncomputable def fi68 : FI := ⟨bodyOf Try.f68, 2, [.cell 0 56], 3, true, false, none, [], [56]⟩
theorem fok68 : FnOk Try.prog 68 fi68 := ⟨Try.f68, Try.func68, rfl, rfl, rfl, by decide⟩
noncomputable def fi54 : FI := ⟨bodyOf Try.f54, 47, [.tmp 6], 3, true, false, none, [3, 56, 56], [4]⟩
theorem fok54 : FnOk Try.prog 54 fi54 := ⟨Try.f54, Try.func54, rfl, rfl, rfl, by decide⟩
noncomputable def fi23 : FI := ⟨bodyOf Try.f23, 16, [.tmp 4], 3, true, false, none, [34, 9], [48]⟩
theorem fok23 : FnOk Try.prog 23 fi23 := ⟨Try.f23, Try.func23, rfl, rfl, rfl, by decide⟩
noncomputable def fi51 : FI := ⟨bodyOf Try.f51, 8, [.tmp 3], 3, false, false, none, [57, 1000009], [4]⟩
theorem fok51 : FnOk Try.prog 51 fi51 := ⟨Try.f51, Try.func51, rfl, rfl, rfl, by decide⟩
noncomputable def fi50 : FI := ⟨bodyOf Try.f50, 19, [.tmp 4], 3, false, true, none, [34, 100], [3]⟩
theorem fok50 : FnOk Try.prog 50 fi50 := ⟨Try.f50, Try.func50, rfl, rfl, rfl, by decide⟩
noncomputable def fi55 : FI := ⟨bodyOf Try.f55, 11, [.tmp 4], 3, false, false, none, [52, 1000064, 1000047], [4]⟩
theorem fok55 : FnOk Try.prog 55 fi55 := ⟨Try.f55, Try.func55, rfl, rfl, rfl, by decide⟩
noncomputable def fi30 : FI := ⟨bodyOf Try.f30, 42, [.tmp 6], 3, true, false, none, [64, 45, 26], [4]⟩
theorem fok30 : FnOk Try.prog 30 fi30 := ⟨Try.f30, Try.func30, rfl, rfl, rfl, by decide⟩
noncomputable def fi31 : FI := ⟨bodyOf Try.f31, 9, [.tmp 4], 3, false, true, none, [48, 76], [4]⟩
theorem fok31 : FnOk Try.prog 31 fi31 := ⟨Try.f31, Try.func31, rfl, rfl, rfl, by decide⟩
noncomputable def fi57 : FI := ⟨bodyOf Try.f57, 19, [.tmp 4], 3, false, true, none, [48, 76], [3]⟩
theorem fok57 : FnOk Try.prog 57 fi57 := ⟨Try.f57, Try.func57, rfl, rfl, rfl, by decide⟩
noncomputable def fi32 : FI := ⟨bodyOf Try.f32, 8, [.tmp 3], 3, false, false, none, [52, 1000026], [4]⟩
theorem fok32 : FnOk Try.prog 32 fi32 := ⟨Try.f32, Try.func32, rfl, rfl, rfl, by decide⟩
noncomputable def fi24 : FI := ⟨bodyOf Try.f24, 5, [.tmp 2], 3, true, false, none, [26], [26]⟩
theorem fok24 : FnOk Try.prog 24 fi24 := ⟨Try.f24, Try.func24, rfl, rfl, rfl, by decide⟩
noncomputable def fi52 : FI := ⟨bodyOf Try.f52, 8, [.tmp 2], 3, true, false, some 0, [26], [26]⟩
theorem fok52 : FnOk Try.prog 52 fi52 := ⟨Try.f52, Try.func52, rfl, rfl, rfl, by decide⟩
noncomputable def fi16 : FI := ⟨bodyOf Try.f16, 26, [.tmp 4], 3, true, false, none, [26, 26], [4]⟩
theorem fok16 : FnOk Try.prog 16 fi16 := ⟨Try.f16, Try.func16, rfl, rfl, rfl, by decide⟩
noncomputable def fi9 : FI := ⟨bodyOf Try.f9, 26, [.tmp 2], 3, true, false, none, [27], [34]⟩
theorem fok9 : FnOk Try.prog 9 fi9 := ⟨Try.f9, Try.func9, rfl, rfl, rfl, by decide⟩
noncomputable def fi10 : FI := ⟨bodyOf Try.f10, 23, [.tmp 6, .tmp 7], 3, true, false, none, [25, 26, 27], [30, 31]⟩
theorem fok10 : FnOk Try.prog 10 fi10 := ⟨Try.f10, Try.func10, rfl, rfl, rfl, by decide⟩
noncomputable def fi25 : FI := ⟨bodyOf Try.f25, 82, [.tmp 8, .tmp 9], 3, true, false, none, [25, 26, 27, 30], [30, 4]⟩
theorem fok25 : FnOk Try.prog 25 fi25 := ⟨Try.f25, Try.func25, rfl, rfl, rfl, by decide⟩
noncomputable def fi33 : FI := ⟨bodyOf Try.f33, 27, [.tmp 2], 3, true, false, none, [25], [23]⟩
theorem fok33 : FnOk Try.prog 33 fi33 := ⟨Try.f33, Try.func33, rfl, rfl, rfl, by decide⟩
noncomputable def fi37 : FI := ⟨bodyOf Try.f37, 11, [.tmp 2], 3, true, false, none, [47], [4]⟩
theorem fok37 : FnOk Try.prog 37 fi37 := ⟨Try.f37, Try.func37, rfl, rfl, rfl, by decide⟩
noncomputable def fi13 : FI := ⟨bodyOf Try.f13, 44, [.tmp 4, .tmp 5], 3, true, false, none, [25, 30], [26, 31]⟩
theorem fok13 : FnOk Try.prog 13 fi13 := ⟨Try.f13, Try.func13, rfl, rfl, rfl, by decide⟩
noncomputable def fi27 : FI := ⟨bodyOf Try.f27, 97, [.cell 4 69, .tmp 5], 3, true, false, none, [25, 30], [69, 4]⟩
theorem fok27 : FnOk Try.prog 27 fi27 := ⟨Try.f27, Try.func27, rfl, rfl, rfl, by decide⟩
noncomputable def fi28 : FI := ⟨bodyOf Try.f28, 34, [.cell 4 56, .tmp 5], 3, true, false, none, [69, 9], [56, 4]⟩
theorem fok28 : FnOk Try.prog 28 fi28 := ⟨Try.f28, Try.func28, rfl, rfl, rfl, by decide⟩
noncomputable def fi15 : FI := ⟨bodyOf Try.f15, 96, [.tmp 6], 3, true, false, none, [25, 30, 27], [4]⟩
theorem fok15 : FnOk Try.prog 15 fi15 := ⟨Try.f15, Try.func15, rfl, rfl, rfl, by decide⟩
noncomputable def fi35 : FI := ⟨bodyOf Try.f35, 24, [.tmp 4], 3, true, false, none, [27, 9], [48]⟩
theorem fok35 : FnOk Try.prog 35 fi35 := ⟨Try.f35, Try.func35, rfl, rfl, rfl, by decide⟩
noncomputable def fi34 : FI := ⟨bodyOf Try.f34, 19, [.tmp 4], 3, true, false, none, [48, 26], [4]⟩
theorem fok34 : FnOk Try.prog 34 fi34 := ⟨Try.f34, Try.func34, rfl, rfl, rfl, by decide⟩
noncomputable def fi17 : FI := ⟨bodyOf Try.f17, 9, [.tmp 4], 3, true, false, none, [26, 26], [4]⟩
theorem fok17 : FnOk Try.prog 17 fi17 := ⟨Try.f17, Try.func17, rfl, rfl, rfl, by decide⟩
noncomputable def fi39 : FI := ⟨bodyOf Try.f39, 41, [.tmp 4], 3, true, false, none, [26, 26], [3]⟩
theorem fok39 : FnOk Try.prog 39 fi39 := ⟨Try.f39, Try.func39, rfl, rfl, rfl, by decide⟩
noncomputable def fi59 : FI := ⟨bodyOf Try.f59, 46, [.tmp 4], 3, true, false, none, [56, 56], [3]⟩
theorem fok59 : FnOk Try.prog 59 fi59 := ⟨Try.f59, Try.func59, rfl, rfl, rfl, by decide⟩
noncomputable def fi73 : FI := ⟨bodyOf Try.f73, 42, [.tmp 4], 3, true, false, none, [9, 9], [3]⟩
theorem fok73 : FnOk Try.prog 73 fi73 := ⟨Try.f73, Try.func73, rfl, rfl, rfl, by decide⟩
noncomputable def fi36 : FI := ⟨bodyOf Try.f36, 51, [.tmp 6], 3, true, false, none, [69, 45, 26], [4]⟩
theorem fok36 : FnOk Try.prog 36 fi36 := ⟨Try.f36, Try.func36, rfl, rfl, rfl, by decide⟩
noncomputable def fi58 : FI := ⟨bodyOf Try.f58, 20, [.cell 4 56, .tmp 5], 3, true, false, none, [69, 83], [56, 4]⟩
theorem fok58 : FnOk Try.prog 58 fi58 := ⟨Try.f58, Try.func58, rfl, rfl, rfl, by decide⟩
noncomputable def fi38 : FI := ⟨bodyOf Try.f38, 84, [.tmp 6], 3, true, false, none, [69, 47, 27], [4]⟩
theorem fok38 : FnOk Try.prog 38 fi38 := ⟨Try.f38, Try.func38, rfl, rfl, rfl, by decide⟩
noncomputable def fi60 : FI := ⟨bodyOf Try.f60, 36, [.tmp 6], 3, true, false, none, [3, 56, 56], [4]⟩
theorem fok60 : FnOk Try.prog 60 fi60 := ⟨Try.f60, Try.func60, rfl, rfl, rfl, by decide⟩
noncomputable def fi11 : FI := ⟨bodyOf Try.f11, 27, [.tmp 4], 3, true, false, none, [30, 30], [4]⟩
theorem fok11 : FnOk Try.prog 11 fi11 := ⟨Try.f11, Try.func11, rfl, rfl, rfl, by decide⟩
noncomputable def fi4 : FI := ⟨bodyOf Try.f4, 70, [.tmp 6], 3, false, false, none, [25, 30, 27], [4]⟩
theorem fok4 : FnOk Try.prog 4 fi4 := ⟨Try.f4, Try.func4, rfl, rfl, rfl, by decide⟩
noncomputable def fi5 : FI := ⟨bodyOf Try.f5, 60, [.tmp 6], 3, false, false, none, [25, 26, 27], [4]⟩
theorem fok5 : FnOk Try.prog 5 fi5 := ⟨Try.f5, Try.func5, rfl, rfl, rfl, by decide⟩
noncomputable def tab : Tab := ⟨(.nd none (.nd (some ⟨.func #[] #[] false, 1, 8, (.lit .nilFunc), true, false⟩) (.nd (some ⟨.int .i64, 1, 8, (.lit (.int .i64 (0))), true, true⟩) (.nd (some ⟨.struct #[⟨ "x", 2, 0, false, "", "runtime", 0⟩, ⟨ "y", 3, 1, false, "", "runtime", 8⟩, ⟨ "signed", 4, 2, false, "", "runtime", 16⟩, ⟨ "code", 6, 3, false, "", "runtime", 17⟩], 4, 24, (.agg [(.lit (.int .i64 (0))), (.lit (.int .i64 (0))), (.lit (.bool false)), (.lit (.int .u8 (0)))]), true, true⟩) (.nd (some ⟨.pointer 137, 1, 8, (.lit (.pointer none)), true, true⟩) (.nd (some ⟨.int .i64, 1, 8, (.lit (.int .i64 (0))), true, true⟩) (.nd (some ⟨.map 9 56, 1, 8, (.lit (.map none)), true, false⟩) (.nd (some ⟨.func #[9] #[9] false, 1, 8, (.lit .nilFunc), true, false⟩) .lf .lf) .lf) (.nd (some ⟨.func #[] #[9] false, 1, 8, (.lit .nilFunc), true, false⟩) .lf .lf)) (.nd (some ⟨.struct #[⟨ "Not", 4, 0, false, "", "", 0⟩, ⟨ "Name", 9, 1, false, "", "", 8⟩, ⟨ "Args", 45, 2, false, "", "", 24⟩, ⟨ "Op", 3, 3, false, "", "", 48⟩], 4, 56, (.agg [(.lit (.bool false)), (.str []), (.lit (.slice none 0 0)), (.lit (.int .i64 (0)))]), true, false⟩) (.nd (some ⟨.func #[47] #[4] false, 1, 8, (.lit .nilFunc), true, false⟩) (.nd (some ⟨.int .u8, 1, 1, (.lit (.int .u8 (0))), true, true⟩) .lf .lf) .lf) (.nd (some ⟨.func #[26, 26, 104] #[3] false, 1, 8, (.lit .nilFunc), true, false⟩) .lf .lf))) (.nd (some ⟨.slice 47, 1, 24, (.lit (.slice none 0 0)), true, false⟩) (.nd none (.nd (some ⟨.func #[25, 30] #[69, 4] false, 1, 8, (.lit .nilFunc), true, false⟩) (.nd (some ⟨.func #[130] #[9] false, 1, 8, (.lit .nilFunc), true, false⟩) .lf .lf) .lf) (.nd (some ⟨.func #[3, 56, 56] #[4] false, 1, 8, (.lit .nilFunc), true, false⟩) .lf .lf)) (.nd (some ⟨.struct #[⟨ "Kind", 3, 0, false, "", "", 0⟩, ⟨ "Flag", 4, 1, false, "", "", 8⟩, ⟨ "Int", 2, 2, false, "", "", 16⟩, ⟨ "Text", 9, 3, false, "", "", 24⟩], 4, 40, (.agg [(.lit (.int .i64 (0))), (.lit (.bool false)), (.lit (.int .i64 (0))), (.str [])]), true, true⟩) (.nd (some ⟨.pointer 89, 1, 8, (.lit (.pointer none)), true, true⟩) (.nd none .lf .lf) .lf) (.nd none .lf .lf)))) (.nd (some ⟨.string, 1, 16, (.str []), true, true⟩) (.nd (some ⟨.struct #[⟨ "typ", 17, 0, false, "", "internal/runtime/maps", 0⟩], 1, 8, (.agg [(.lit (.pointer none))]), false, true⟩) (.nd (some ⟨.func #[27] #[34] false, 1, 8, (.lit .nilFunc), true, false⟩) (.nd none (.nd (some ⟨.func #[2] #[9] false, 1, 8, (.lit .nilFunc), true, false⟩) .lf .lf) .lf) (.nd (some ⟨.func #[34, 100] #[3] false, 1, 8, (.lit .nilFunc), true, false⟩) .lf .lf)) (.nd (some ⟨.struct #[⟨ "Row", 26, 0, false, "", "", 0⟩, ⟨ "Many", 2, 1, false, "", "", 24⟩], 2, 32, (.agg [(.lit (.slice none 0 0)), (.lit (.int .i64 (0)))]), true, false⟩) (.nd (some ⟨.struct #[⟨ "Var", 9, 0, false, "", "", 0⟩, ⟨ "Any", 4, 1, false, "", "", 16⟩, ⟨ "Val", 56, 2, false, "", "", 24⟩], 6, 64, (.agg [(.str []), (.lit (.bool false)), (.lit (.int .i64 (0))), (.lit (.bool false)), (.lit (.int .i64 (0))), (.str [])]), true, true⟩) (.nd (some ⟨.int .i32, 1, 4, (.lit (.int .i32 (0))), true, true⟩) .lf .lf) .lf) (.nd (some ⟨.func #[2, 2] #[3] false, 1, 8, (.lit .nilFunc), true, false⟩) .lf .lf))) (.nd (some ⟨.slice 50, 1, 24, (.lit (.slice none 0 0)), true, false⟩) (.nd (some ⟨.func #[26, 26] #[4] false, 1, 8, (.lit .nilFunc), true, false⟩) (.nd (some ⟨.func #[48, 76] #[4] false, 1, 8, (.lit .nilFunc), true, false⟩) (.nd (some ⟨.struct #[⟨ "_", 138, 0, false, "", "runtime", 0⟩], 0, 0, (.agg []), false, true⟩) .lf .lf) .lf) (.nd (some ⟨.func #[9] #[93, 4] false, 1, 8, (.lit .nilFunc), true, false⟩) .lf .lf)) (.nd (some ⟨.func #[34, 9] #[48] false, 1, 8, (.lit .nilFunc), true, false⟩) (.nd (some ⟨.func #[31, 3] #[] false, 1, 8, (.lit .nilFunc), true, false⟩) .lf .lf) (.nd (some ⟨.func #[3] #[4] false, 1, 8, (.lit .nilFunc), true, false⟩) .lf .lf))))) (.nd (some ⟨.int .u8, 1, 1, (.lit (.int .u8 (0))), true, true⟩) (.nd (some ⟨.string, 1, 16, (.str []), true, true⟩) (.nd (some ⟨.pointer 150, 1, 8, (.lit (.pointer none)), true, true⟩) (.nd (some ⟨.func #[25, 26, 34] #[30, 31] true, 1, 8, (.lit .nilFunc), true, false⟩) (.nd none (.nd (some ⟨.func #[3] #[9] false, 1, 8, (.lit .nilFunc), true, false⟩) .lf .lf) .lf) (.nd (some ⟨.func #[98] #[] false, 1, 8, (.lit .nilFunc), true, false⟩) .lf .lf)) (.nd (some ⟨.struct #[⟨ "Name", 9, 0, false, "", "", 0⟩, ⟨ "Rows", 48, 1, false, "", "", 16⟩], 2, 40, (.agg [(.str []), (.lit (.slice none 0 0))]), true, false⟩) (.nd (some ⟨.func #[26, 26] #[3] false, 1, 8, (.lit .nilFunc), true, false⟩) (.nd (some ⟨.func #[151, 151] #[4] false, 1, 8, (.lit .nilFunc), true, false⟩) .lf .lf) .lf) (.nd (some ⟨.func #[3, 3] #[3] false, 1, 8, (.lit .nilFunc), true, false⟩) .lf .lf))) (.nd (some ⟨.struct #[⟨ "Kind", 3, 0, false, "", "", 0⟩, ⟨ "Name", 9, 1, false, "", "", 8⟩, ⟨ "Head", 22, 2, false, "", "", 24⟩, ⟨ "Agg", 3, 3, false, "", "", 48⟩, ⟨ "Of", 9, 4, false, "", "", 56⟩, ⟨ "Limit", 2, 5, false, "", "", 72⟩, ⟨ "Body", 23, 6, false, "", "", 80⟩], 7, 104, (.agg [(.lit (.int .i64 (0))), (.str []), (.lit (.slice none 0 0)), (.lit (.int .i64 (0))), (.str []), (.lit (.int .i64 (0))), (.lit (.slice none 0 0))]), true, false⟩) (.nd (some ⟨.func #[25, 30, 34] #[4] true, 1, 8, (.lit .nilFunc), true, false⟩) (.nd (some ⟨.func #[47, 34] #[4] false, 1, 8, (.lit .nilFunc), true, false⟩) (.nd (some ⟨.struct #[⟨ "_interface", 17, 0, false, "", "runtime", 0⟩, ⟨ "concrete", 17, 1, false, "", "runtime", 8⟩, ⟨ "asserted", 17, 2, false, "", "runtime", 16⟩, ⟨ "missingMethod", 9, 3, false, "", "runtime", 24⟩], 4, 40, (.agg [(.lit (.pointer none)), (.lit (.pointer none)), (.lit (.pointer none)), (.str [])]), false, true⟩) .lf .lf) .lf) (.nd (some ⟨.func #[48, 76] #[3] false, 1, 8, (.lit .nilFunc), true, false⟩) .lf .lf)) (.nd (some ⟨.struct #[⟨ "Name", 9, 0, false, "", "", 0⟩, ⟨ "Rows", 48, 1, false, "", "", 16⟩], 2, 40, (.agg [(.str []), (.lit (.slice none 0 0))]), true, false⟩) (.nd (some ⟨.struct #[⟨ "l", 84, 0, false, "", "verderer/verdererref12", 0⟩, ⟨ "at", 3, 1, false, "", "verderer/verdererref12", 24⟩, ⟨ "why", 31, 2, false, "", "verderer/verdererref12", 32⟩, ⟨ "pos", 3, 3, false, "", "verderer/verdererref12", 40⟩], 4, 48, (.agg [(.lit (.slice none 0 0)), (.lit (.int .i64 (0))), (.lit (.int .i64 (0))), (.lit (.int .i64 (0)))]), true, false⟩) .lf .lf) (.nd (some ⟨.func #[] #[45] false, 1, 8, (.lit .nilFunc), true, false⟩) .lf .lf)))) (.nd (some ⟨.struct #[⟨ "msg", 9, 0, false, "", "runtime", 0⟩, ⟨ "addr", 12, 1, false, "", "runtime", 16⟩], 2, 24, (.agg [(.str []), (.lit (.int .u64 (0)))]), false, true⟩) (.nd (some ⟨.int .i32, 1, 4, (.lit (.int .i32 (0))), true, true⟩) (.nd (some ⟨.func #[30, 30] #[4] false, 1, 8, (.lit .nilFunc), true, false⟩) (.nd (some ⟨.struct #[⟨ "Names", 22, 0, false, "", "", 0⟩, ⟨ "L", 26, 1, false, "", "", 24⟩], 2, 48, (.agg [(.lit (.slice none 0 0)), (.lit (.slice none 0 0))]), true, false⟩) (.nd (some ⟨.func #[5] #[3] false, 1, 8, (.lit .nilFunc), true, false⟩) .lf .lf) .lf) (.nd (some ⟨.func #[26] #[26] false, 1, 8, (.lit .nilFunc), true, false⟩) .lf .lf)) (.nd none (.nd none (.nd (some ⟨.struct #[⟨ "Size_", 12, 0, false, "", "", 0⟩, ⟨ "PtrBytes", 12, 1, false, "", "", 8⟩, ⟨ "Hash", 142, 2, false, "", "", 16⟩, ⟨ "TFlag", 143, 3, false, "", "", 20⟩, ⟨ "Align_", 5, 4, false, "", "", 21⟩, ⟨ "FieldAlign_", 5, 5, false, "", "", 22⟩, ⟨ "Kind_", 144, 6, false, "", "", 23⟩, ⟨ "Equal", 145, 7, false, "", "", 24⟩, ⟨ "GCData", 146, 8, false, "", "", 32⟩, ⟨ "Str", 147, 9, false, "", "", 40⟩, ⟨ "PtrToThis", 148, 10, false, "", "", 44⟩], 11, 48, (.agg [(.lit (.int .u64 (0))), (.lit (.int .u64 (0))), (.lit (.int .u32 (0))), (.lit (.int .u8 (0))), (.lit (.int .u8 (0))), (.lit (.int .u8 (0))), (.lit (.int .u8 (0))), (.lit .nilFunc), (.lit (.pointer none)), (.lit (.int .i32 (0))), (.lit (.int .i32 (0)))]), false, false⟩) .lf .lf) .lf) (.nd (some ⟨.func #[5] #[4] false, 1, 8, (.lit .nilFunc), true, false⟩) .lf .lf))) (.nd (some ⟨.func #[] #[4] false, 1, 8, (.lit .nilFunc), true, false⟩) (.nd (some ⟨.slice 83, 1, 24, (.lit (.slice none 0 0)), true, false⟩) (.nd (some ⟨.func #[48, 26] #[4] false, 1, 8, (.lit .nilFunc), true, false⟩) (.nd (some ⟨.func #[] #[3] false, 1, 8, (.lit .nilFunc), true, false⟩) .lf .lf) .lf) (.nd (some ⟨.func #[3] #[] false, 1, 8, (.lit .nilFunc), true, false⟩) .lf .lf)) (.nd none (.nd (some ⟨.struct #[⟨ "Kind", 3, 0, false, "", "", 0⟩, ⟨ "Text", 9, 1, false, "", "", 8⟩, ⟨ "Val", 56, 2, false, "", "", 24⟩, ⟨ "At", 3, 6, false, "", "", 64⟩], 7, 72, (.agg [(.lit (.int .i64 (0))), (.str []), (.lit (.int .i64 (0))), (.lit (.bool false)), (.lit (.int .i64 (0))), (.str []), (.lit (.int .i64 (0)))]), true, true⟩) .lf .lf) (.nd none .lf .lf)))))) (.nd (some ⟨.int .i64, 1, 8, (.lit (.int .i64 (0))), true, true⟩) (.nd (some ⟨.bool, 1, 1, (.lit (.bool false)), true, true⟩) (.nd (some ⟨.struct #[⟨ "x", 2, 0, false, "", "runtime", 0⟩, ⟨ "y", 3, 1, false, "", "runtime", 8⟩, ⟨ "signed", 4, 2, false, "", "runtime", 16⟩, ⟨ "code", 6, 3, false, "", "runtime", 17⟩], 4, 24, (.agg [(.lit (.int .i64 (0))), (.lit (.int .i64 (0))), (.lit (.bool false)), (.lit (.int .u8 (0)))]), true, true⟩) (.nd (some ⟨.pointer 140, 1, 8, (.lit (.pointer none)), true, true⟩) (.nd none (.nd (some ⟨.map 9 56, 1, 8, (.lit (.map none)), true, false⟩) (.nd (some ⟨.func #[56] #[9] false, 1, 8, (.lit .nilFunc), true, false⟩) .lf .lf) .lf) (.nd (some ⟨.func #[9] #[] false, 1, 8, (.lit .nilFunc), true, false⟩) .lf .lf)) (.nd (some ⟨.slice 52, 1, 24, (.lit (.slice none 0 0)), true, false⟩) (.nd (some ⟨.func #[47, 27] #[4] false, 1, 8, (.lit .nilFunc), true, false⟩) (.nd (some ⟨.int .u8, 1, 1, (.lit (.int .u8 (0))), true, true⟩) .lf .lf) .lf) (.nd (some ⟨.func #[] #[56] false, 1, 8, (.lit .nilFunc), true, false⟩) .lf .lf))) (.nd (some ⟨.struct #[⟨ "Kind", 3, 0, false, "", "", 0⟩, ⟨ "Name", 9, 1, false, "", "", 8⟩, ⟨ "Head", 22, 2, false, "", "", 24⟩, ⟨ "Agg", 3, 3, false, "", "", 48⟩, ⟨ "Of", 9, 4, false, "", "", 56⟩, ⟨ "Limit", 2, 5, false, "", "", 72⟩, ⟨ "Body", 23, 6, false, "", "", 80⟩], 7, 104, (.agg [(.lit (.int .i64 (0))), (.str []), (.lit (.slice none 0 0)), (.lit (.int .i64 (0))), (.str []), (.lit (.int .i64 (0))), (.lit (.slice none 0 0))]), true, false⟩) (.nd (some ⟨.func #[25, 30] #[26, 31] false, 1, 8, (.lit .nilFunc), true, false⟩) (.nd (some ⟨.func #[9] #[56, 4] false, 1, 8, (.lit .nilFunc), true, false⟩) (.nd (some ⟨.struct #[⟨ "_interface", 17, 0, false, "", "runtime", 0⟩, ⟨ "concrete", 17, 1, false, "", "runtime", 8⟩, ⟨ "asserted", 17, 2, false, "", "runtime", 16⟩, ⟨ "missingMethod", 9, 3, false, "", "runtime", 24⟩], 4, 40, (.agg [(.lit (.pointer none)), (.lit (.pointer none)), (.lit (.pointer none)), (.str [])]), false, true⟩) .lf .lf) .lf) (.nd (some ⟨.func #[56, 56] #[3] false, 1, 8, (.lit .nilFunc), true, false⟩) .lf .lf)) (.nd (some ⟨.struct #[⟨ "Kind", 3, 0, false, "", "", 0⟩, ⟨ "Flag", 4, 1, false, "", "", 8⟩, ⟨ "Int", 2, 2, false, "", "", 16⟩, ⟨ "Text", 9, 3, false, "", "", 24⟩], 4, 40, (.agg [(.lit (.int .i64 (0))), (.lit (.bool false)), (.lit (.int .i64 (0))), (.str [])]), true, true⟩) (.nd (some ⟨.struct #[⟨ "l", 84, 0, false, "", "verderer/verdererref12", 0⟩, ⟨ "at", 3, 1, false, "", "verderer/verdererref12", 24⟩, ⟨ "why", 31, 2, false, "", "verderer/verdererref12", 32⟩, ⟨ "pos", 3, 3, false, "", "verderer/verdererref12", 40⟩], 4, 48, (.agg [(.lit (.slice none 0 0)), (.lit (.int .i64 (0))), (.lit (.int .i64 (0))), (.lit (.int .i64 (0)))]), true, false⟩) .lf .lf) (.nd (some ⟨.func #[9] #[56, 31] false, 1, 8, (.lit .nilFunc), true, false⟩) .lf .lf)))) (.nd (some ⟨.int .u64, 1, 8, (.lit (.int .u64 (0))), true, true⟩) (.nd (some ⟨.interface #[], 1, 16, (.lit .nilIface), true, true⟩) (.nd (some ⟨.func #[25, 26, 27] #[30, 31] false, 1, 8, (.lit .nilFunc), true, false⟩) (.nd (some ⟨.struct #[⟨ "Names", 22, 0, false, "", "", 0⟩, ⟨ "L", 26, 1, false, "", "", 24⟩], 2, 48, (.agg [(.lit (.slice none 0 0)), (.lit (.slice none 0 0))]), true, false⟩) (.nd (some ⟨.slice 5, 1, 24, (.lit (.slice none 0 0)), true, false⟩) .lf .lf) .lf) (.nd (some ⟨.func #[57] #[4] false, 1, 8, (.lit .nilFunc), true, false⟩) .lf .lf)) (.nd (some ⟨.struct #[⟨ "Row", 26, 0, false, "", "", 0⟩, ⟨ "Many", 2, 1, false, "", "", 24⟩], 2, 32, (.agg [(.lit (.slice none 0 0)), (.lit (.int .i64 (0)))]), true, false⟩) (.nd (some ⟨.slice 93, 1, 24, (.lit (.slice none 0 0)), true, false⟩) (.nd (some ⟨.int .i32, 1, 4, (.lit (.int .i32 (0))), true, true⟩) .lf .lf) .lf) (.nd (some ⟨.func #[9, 9] #[3] false, 1, 8, (.lit .nilFunc), true, false⟩) .lf .lf))) (.nd (some ⟨.func #[25, 27] #[4] false, 1, 8, (.lit .nilFunc), true, false⟩) (.nd (some ⟨.func #[25] #[4] false, 1, 8, (.lit .nilFunc), true, false⟩) (.nd (some ⟨.func #[52] #[4] false, 1, 8, (.lit .nilFunc), true, false⟩) (.nd (some ⟨.struct #[⟨ "_", 138, 0, false, "", "runtime", 0⟩], 0, 0, (.agg []), false, true⟩) .lf .lf) .lf) (.nd (some ⟨.func #[98] #[4] false, 1, 8, (.lit .nilFunc), true, false⟩) .lf .lf)) (.nd (some ⟨.func #[26] #[26] true, 1, 8, (.lit .nilFunc), true, false⟩) (.nd (some ⟨.struct #[⟨ "Kind", 3, 0, false, "", "", 0⟩, ⟨ "Text", 9, 1, false, "", "", 8⟩, ⟨ "Val", 56, 2, false, "", "", 24⟩, ⟨ "At", 3, 6, false, "", "", 64⟩], 7, 72, (.agg [(.lit (.int .i64 (0))), (.str []), (.lit (.int .i64 (0))), (.lit (.bool false)), (.lit (.int .i64 (0))), (.str []), (.lit (.int .i64 (0)))]), true, true⟩) .lf .lf) (.nd (some ⟨.func #[2] #[4] false, 1, 8, (.lit .nilFunc), true, false⟩) .lf .lf))))) (.nd (some ⟨.int .u8, 1, 1, (.lit (.int .u8 (0))), true, true⟩) (.nd (some ⟨.string, 1, 16, (.str []), true, true⟩) (.nd (some ⟨.struct #[⟨ "typ", 17, 0, false, "", "internal/runtime/maps", 0⟩], 1, 8, (.agg [(.lit (.pointer none))]), false, true⟩) (.nd (some ⟨.slice 57, 1, 24, (.lit (.slice none 0 0)), true, false⟩) (.nd (some ⟨.func #[25, 30] #[64, 4] false, 1, 8, (.lit .nilFunc), true, false⟩) (.nd (some ⟨.int .u64, 1, 8, (.lit (.int .u64 (0))), true, true⟩) .lf .lf) .lf) (.nd (some ⟨.pointer 25, 1, 8, (.lit (.pointer none)), true, true⟩) .lf .lf)) (.nd (some ⟨.struct #[⟨ "Name", 9, 0, false, "", "", 0⟩, ⟨ "Rows", 48, 1, false, "", "", 16⟩], 2, 40, (.agg [(.str []), (.lit (.slice none 0 0))]), true, false⟩) (.nd (some ⟨.struct #[⟨ "Var", 9, 0, false, "", "", 0⟩, ⟨ "Any", 4, 1, false, "", "", 16⟩, ⟨ "Val", 56, 2, false, "", "", 24⟩], 6, 64, (.agg [(.str []), (.lit (.bool false)), (.lit (.int .i64 (0))), (.lit (.bool false)), (.lit (.int .i64 (0))), (.str [])]), true, true⟩) (.nd (some ⟨.pointer 5, 1, 8, (.lit (.pointer none)), true, true⟩) .lf .lf) .lf) (.nd (some ⟨.func #[4] #[3] false, 1, 8, (.lit .nilFunc), true, false⟩) .lf .lf))) (.nd (some ⟨.slice 56, 1, 24, (.lit (.slice none 0 0)), true, false⟩) (.nd (some ⟨.func #[25, 30, 27] #[4] false, 1, 8, (.lit .nilFunc), true, false⟩) (.nd (some ⟨.func #[45, 26] #[4] false, 1, 8, (.lit .nilFunc), true, false⟩) (.nd (some ⟨.array 0 16, 0, 0, (.agg []), true, true⟩) .lf .lf) .lf) (.nd none .lf .lf)) (.nd (some ⟨.func #[25] #[23] false, 1, 8, (.lit .nilFunc), true, false⟩) (.nd (some ⟨.func #[9] #[4] false, 1, 8, (.lit .nilFunc), true, false⟩) .lf .lf) (.nd (some ⟨.func #[] #[83] false, 1, 8, (.lit .nilFunc), true, false⟩) .lf .lf)))) (.nd (some ⟨.struct #[⟨ "msg", 9, 0, false, "", "runtime", 0⟩, ⟨ "addr", 12, 1, false, "", "runtime", 16⟩], 2, 24, (.agg [(.str []), (.lit (.int .u64 (0)))]), false, true⟩) (.nd (some ⟨.slice 9, 1, 24, (.lit (.slice none 0 0)), true, false⟩) (.nd (some ⟨.func #[25, 26, 27] #[4] false, 1, 8, (.lit .nilFunc), true, false⟩) (.nd none (.nd (some ⟨.func #[56] #[4] false, 1, 8, (.lit .nilFunc), true, false⟩) .lf .lf) .lf) (.nd (some ⟨.func #[83] #[56, 4] false, 1, 8, (.lit .nilFunc), true, false⟩) .lf .lf)) (.nd (some ⟨.func #[9] #[25, 3, 31] false, 1, 8, (.lit .nilFunc), true, false⟩) (.nd (some ⟨.func #[9] #[84, 3, 31] false, 1, 8, (.lit .nilFunc), true, false⟩) (.nd (some ⟨.struct #[⟨ "Size_", 12, 0, false, "", "", 0⟩, ⟨ "PtrBytes", 12, 1, false, "", "", 8⟩, ⟨ "Hash", 142, 2, false, "", "", 16⟩, ⟨ "TFlag", 143, 3, false, "", "", 20⟩, ⟨ "Align_", 5, 4, false, "", "", 21⟩, ⟨ "FieldAlign_", 5, 5, false, "", "", 22⟩, ⟨ "Kind_", 144, 6, false, "", "", 23⟩, ⟨ "Equal", 145, 7, false, "", "", 24⟩, ⟨ "GCData", 146, 8, false, "", "", 32⟩, ⟨ "Str", 147, 9, false, "", "", 40⟩, ⟨ "PtrToThis", 148, 10, false, "", "", 44⟩], 11, 48, (.agg [(.lit (.int .u64 (0))), (.lit (.int .u64 (0))), (.lit (.int .u32 (0))), (.lit (.int .u8 (0))), (.lit (.int .u8 (0))), (.lit (.int .u8 (0))), (.lit (.int .u8 (0))), (.lit .nilFunc), (.lit (.pointer none)), (.lit (.int .i32 (0))), (.lit (.int .i32 (0)))]), false, false⟩) .lf .lf) .lf) (.nd (some ⟨.func #[9] #[3] false, 1, 8, (.lit .nilFunc), true, false⟩) .lf .lf))) (.nd (some ⟨.slice 26, 1, 24, (.lit (.slice none 0 0)), true, false⟩) (.nd (some ⟨.struct #[⟨ "Not", 4, 0, false, "", "", 0⟩, ⟨ "Name", 9, 1, false, "", "", 8⟩, ⟨ "Args", 45, 2, false, "", "", 24⟩, ⟨ "Op", 3, 3, false, "", "", 48⟩], 4, 56, (.agg [(.lit (.bool false)), (.str []), (.lit (.slice none 0 0)), (.lit (.int .i64 (0)))]), true, false⟩) (.nd (some ⟨.func #[27, 9] #[48] false, 1, 8, (.lit .nilFunc), true, false⟩) (.nd (some ⟨.int .u32, 1, 4, (.lit (.int .u32 (0))), true, true⟩) .lf .lf) .lf) (.nd (some ⟨.func #[3] #[47] false, 1, 8, (.lit .nilFunc), true, false⟩) .lf .lf)) (.nd (some ⟨.func #[25, 26, 27, 30] #[30, 4] false, 1, 8, (.lit .nilFunc), true, false⟩) (.nd (some ⟨.func #[] #[93] false, 1, 8, (.lit .nilFunc), true, false⟩) .lf .lf) (.nd (some ⟨.func #[9] #[2, 4] false, 1, 8, (.lit .nilFunc), true, false⟩) .lf .lf))))))),
 (.nd none (.nd none (.nd (some fi3) (.nd (some fi7) (.nd (some fi15) (.nd (some fi31) (.nd (some fi63) .lf .lf) (.nd (some fi95) .lf .lf)) (.nd (some fi47) (.nd (some fi79) .lf .lf) (.nd none .lf .lf))) (.nd (some fi23) (.nd (some fi39) (.nd (some fi71) .lf .lf) (.nd none .lf .lf)) (.nd (some fi55) (.nd (some fi87) .lf .lf) .lf))) (.nd (some fi11) (.nd (some fi19) (.nd (some fi35) (.nd (some fi67) .lf .lf) (.nd none .lf .lf)) (.nd (some fi51) (.nd (some fi83) .lf .lf) .lf)) (.nd (some fi27) (.nd (some fi43) (.nd (some fi75) .lf .lf) (.nd none .lf .lf)) (.nd (some fi59) (.nd (some fi91) .lf .lf) .lf)))) (.nd (some fi5) (.nd (some fi9) (.nd (some fi17) (.nd (some fi33) (.nd (some fi65) .lf .lf) (.nd (some fi97) .lf .lf)) (.nd (some fi49) (.nd (some fi81) .lf .lf) (.nd none .lf .lf))) (.nd (some fi25) (.nd (some fi41) (.nd (some fi73) .lf .lf) (.nd none .lf .lf)) (.nd (some fi57) (.nd (some fi89) .lf .lf) .lf))) (.nd (some fi13) (.nd (some fi21) (.nd (some fi37) (.nd (some fi69) .lf .lf) (.nd none .lf .lf)) (.nd (some fi53) (.nd (some fi85) .lf .lf) .lf)) (.nd (some fi29) (.nd (some fi45) (.nd (some fi77) .lf .lf) (.nd none .lf .lf)) (.nd (some fi61) (.nd none .lf .lf) .lf))))) (.nd none (.nd (some fi4) (.nd (some fi8) (.nd (some fi16) (.nd (some fi32) (.nd (some fi64) .lf .lf) (.nd (some fi96) .lf .lf)) (.nd (some fi48) (.nd (some fi80) .lf .lf) (.nd none .lf .lf))) (.nd (some fi24) (.nd (some fi40) (.nd (some fi72) .lf .lf) (.nd none .lf .lf)) (.nd (some fi56) (.nd (some fi88) .lf .lf) .lf))) (.nd (some fi12) (.nd (some fi20) (.nd (some fi36) (.nd (some fi68) .lf .lf) (.nd none .lf .lf)) (.nd (some fi52) (.nd (some fi84) .lf .lf) .lf)) (.nd (some fi28) (.nd (some fi44) (.nd (some fi76) .lf .lf) (.nd none .lf .lf)) (.nd (some fi60) (.nd (some fi92) .lf .lf) .lf)))) (.nd (some fi6) (.nd (some fi10) (.nd (some fi18) (.nd (some fi34) (.nd (some fi66) .lf .lf) (.nd (some fi98) .lf .lf)) (.nd (some fi50) (.nd (some fi82) .lf .lf) (.nd none .lf .lf))) (.nd (some fi26) (.nd (some fi42) (.nd (some fi74) .lf .lf) (.nd none .lf .lf)) (.nd (some fi58) (.nd (some fi90) .lf .lf) .lf))) (.nd (some fi14) (.nd (some fi22) (.nd (some fi38) (.nd (some fi70) .lf .lf) (.nd none .lf .lf)) (.nd (some fi54) (.nd (some fi86) .lf .lf) .lf)) (.nd (some fi30) (.nd (some fi46) (.nd (some fi78) .lf .lf) (.nd none .lf .lf)) (.nd (some fi62) (.nd (some fi94) .lf .lf) .lf)))))),
 (.nd none (.nd none (.nd none (.nd none (.nd none (.nd none (.nd none .lf .lf) (.nd none .lf .lf)) (.nd none (.nd none .lf .lf) (.nd none .lf .lf))) (.nd none (.nd none (.nd none .lf .lf) (.nd none .lf .lf)) (.nd none (.nd none .lf .lf) .lf))) (.nd none (.nd none (.nd none (.nd none .lf .lf) (.nd none .lf .lf)) (.nd none (.nd none .lf .lf) .lf)) (.nd none (.nd none (.nd none .lf .lf) (.nd none .lf .lf)) (.nd none (.nd none .lf .lf) .lf)))) (.nd none (.nd none (.nd none (.nd none (.nd none .lf .lf) (.nd none .lf .lf)) (.nd none (.nd none .lf .lf) (.nd none .lf .lf))) (.nd none (.nd none (.nd none .lf .lf) (.nd none .lf .lf)) (.nd none (.nd none .lf .lf) .lf))) (.nd none (.nd none (.nd none (.nd none .lf .lf) (.nd none .lf .lf)) (.nd none (.nd none .lf .lf) .lf)) (.nd none (.nd none (.nd none .lf .lf) (.nd none .lf .lf)) (.nd none (.nd (some 1) .lf .lf) .lf))))) (.nd none (.nd none (.nd none (.nd none (.nd none (.nd none .lf .lf) (.nd none .lf .lf)) (.nd none (.nd none .lf .lf) (.nd none .lf .lf))) (.nd none (.nd none (.nd none .lf .lf) (.nd none .lf .lf)) (.nd none (.nd none .lf .lf) .lf))) (.nd none (.nd none (.nd none (.nd none .lf .lf) (.nd none .lf .lf)) (.nd none (.nd none .lf .lf) .lf)) (.nd none (.nd none (.nd none .lf .lf) (.nd none .lf .lf)) (.nd none (.nd none .lf .lf) .lf)))) (.nd none (.nd none (.nd none (.nd none (.nd none .lf .lf) (.nd none .lf .lf)) (.nd none (.nd none .lf .lf) (.nd none .lf .lf))) (.nd none (.nd none (.nd none .lf .lf) (.nd none .lf .lf)) (.nd none (.nd none .lf .lf) .lf))) (.nd none (.nd none (.nd none (.nd none .lf .lf) (.nd none .lf .lf)) (.nd none (.nd none .lf .lf) .lf)) (.nd none (.nd none (.nd none .lf .lf) (.nd none .lf .lf)) (.nd none (.nd none .lf .lf) .lf)))))), fun _ _ _ _ => none⟩
theorem tcon (f : Nat) (args : List AV) (H : Tr AO) (hs : Nat) : tab.con f args H hs = none := rfl
theorem tchk : ∀ t i, tab.t t = some i → chkS tab t i = true := fun t i h => allB_get (k := id) (p := chkS tab) (by kernel_rfl) t i h
theorem tyLook : allB (chkTy Try.prog) tab.ty id = true := by kernel_rfl
theorem fnLook : AllT (FnOk Try.prog) tab.fn id :=
  (AllT.no (AllT.no (AllT.nd fok3 (AllT.nd fok7 (AllT.nd fok15 (AllT.nd fok31 (AllT.nd fok63 AllT.lf AllT.lf) (AllT.nd fok95 AllT.lf AllT.lf)) (AllT.nd fok47 (AllT.nd fok79 AllT.lf AllT.lf) (AllT.no AllT.lf AllT.lf))) (AllT.nd fok23 (AllT.nd fok39 (AllT.nd fok71 AllT.lf AllT.lf) (AllT.no AllT.lf AllT.lf)) (AllT.nd fok55 (AllT.nd fok87 AllT.lf AllT.lf) AllT.lf))) (AllT.nd fok11 (AllT.nd fok19 (AllT.nd fok35 (AllT.nd fok67 AllT.lf AllT.lf) (AllT.no AllT.lf AllT.lf)) (AllT.nd fok51 (AllT.nd fok83 AllT.lf AllT.lf) AllT.lf)) (AllT.nd fok27 (AllT.nd fok43 (AllT.nd fok75 AllT.lf AllT.lf) (AllT.no AllT.lf AllT.lf)) (AllT.nd fok59 (AllT.nd fok91 AllT.lf AllT.lf) AllT.lf)))) (AllT.nd fok5 (AllT.nd fok9 (AllT.nd fok17 (AllT.nd fok33 (AllT.nd fok65 AllT.lf AllT.lf) (AllT.nd fok97 AllT.lf AllT.lf)) (AllT.nd fok49 (AllT.nd fok81 AllT.lf AllT.lf) (AllT.no AllT.lf AllT.lf))) (AllT.nd fok25 (AllT.nd fok41 (AllT.nd fok73 AllT.lf AllT.lf) (AllT.no AllT.lf AllT.lf)) (AllT.nd fok57 (AllT.nd fok89 AllT.lf AllT.lf) AllT.lf))) (AllT.nd fok13 (AllT.nd fok21 (AllT.nd fok37 (AllT.nd fok69 AllT.lf AllT.lf) (AllT.no AllT.lf AllT.lf)) (AllT.nd fok53 (AllT.nd fok85 AllT.lf AllT.lf) AllT.lf)) (AllT.nd fok29 (AllT.nd fok45 (AllT.nd fok77 AllT.lf AllT.lf) (AllT.no AllT.lf AllT.lf)) (AllT.nd fok61 (AllT.no AllT.lf AllT.lf) AllT.lf))))) (AllT.no (AllT.nd fok4 (AllT.nd fok8 (AllT.nd fok16 (AllT.nd fok32 (AllT.nd fok64 AllT.lf AllT.lf) (AllT.nd fok96 AllT.lf AllT.lf)) (AllT.nd fok48 (AllT.nd fok80 AllT.lf AllT.lf) (AllT.no AllT.lf AllT.lf))) (AllT.nd fok24 (AllT.nd fok40 (AllT.nd fok72 AllT.lf AllT.lf) (AllT.no AllT.lf AllT.lf)) (AllT.nd fok56 (AllT.nd fok88 AllT.lf AllT.lf) AllT.lf))) (AllT.nd fok12 (AllT.nd fok20 (AllT.nd fok36 (AllT.nd fok68 AllT.lf AllT.lf) (AllT.no AllT.lf AllT.lf)) (AllT.nd fok52 (AllT.nd fok84 AllT.lf AllT.lf) AllT.lf)) (AllT.nd fok28 (AllT.nd fok44 (AllT.nd fok76 AllT.lf AllT.lf) (AllT.no AllT.lf AllT.lf)) (AllT.nd fok60 (AllT.nd fok92 AllT.lf AllT.lf) AllT.lf)))) (AllT.nd fok6 (AllT.nd fok10 (AllT.nd fok18 (AllT.nd fok34 (AllT.nd fok66 AllT.lf AllT.lf) (AllT.nd fok98 AllT.lf AllT.lf)) (AllT.nd fok50 (AllT.nd fok82 AllT.lf AllT.lf) (AllT.no AllT.lf AllT.lf))) (AllT.nd fok26 (AllT.nd fok42 (AllT.nd fok74 AllT.lf AllT.lf) (AllT.no AllT.lf AllT.lf)) (AllT.nd fok58 (AllT.nd fok90 AllT.lf AllT.lf) AllT.lf))) (AllT.nd fok14 (AllT.nd fok22 (AllT.nd fok38 (AllT.nd fok70 AllT.lf AllT.lf) (AllT.no AllT.lf AllT.lf)) (AllT.nd fok54 (AllT.nd fok86 AllT.lf AllT.lf) AllT.lf)) (AllT.nd fok30 (AllT.nd fok46 (AllT.nd fok78 AllT.lf AllT.lf) (AllT.no AllT.lf AllT.lf)) (AllT.nd fok62 (AllT.nd fok94 AllT.lf AllT.lf) AllT.lf))))))
theorem natLook : AllT (NatOk Try.prog) tab.nat id :=
  (AllT.no (AllT.no (AllT.no (AllT.no (AllT.no (AllT.no (AllT.no AllT.lf AllT.lf) (AllT.no AllT.lf AllT.lf)) (AllT.no (AllT.no AllT.lf AllT.lf) (AllT.no AllT.lf AllT.lf))) (AllT.no (AllT.no (AllT.no AllT.lf AllT.lf) (AllT.no AllT.lf AllT.lf)) (AllT.no (AllT.no AllT.lf AllT.lf) AllT.lf))) (AllT.no (AllT.no (AllT.no (AllT.no AllT.lf AllT.lf) (AllT.no AllT.lf AllT.lf)) (AllT.no (AllT.no AllT.lf AllT.lf) AllT.lf)) (AllT.no (AllT.no (AllT.no AllT.lf AllT.lf) (AllT.no AllT.lf AllT.lf)) (AllT.no (AllT.no AllT.lf AllT.lf) AllT.lf)))) (AllT.no (AllT.no (AllT.no (AllT.no (AllT.no AllT.lf AllT.lf) (AllT.no AllT.lf AllT.lf)) (AllT.no (AllT.no AllT.lf AllT.lf) (AllT.no AllT.lf AllT.lf))) (AllT.no (AllT.no (AllT.no AllT.lf AllT.lf) (AllT.no AllT.lf AllT.lf)) (AllT.no (AllT.no AllT.lf AllT.lf) AllT.lf))) (AllT.no (AllT.no (AllT.no (AllT.no AllT.lf AllT.lf) (AllT.no AllT.lf AllT.lf)) (AllT.no (AllT.no AllT.lf AllT.lf) AllT.lf)) (AllT.no (AllT.no (AllT.no AllT.lf AllT.lf) (AllT.no AllT.lf AllT.lf)) (AllT.no (AllT.nd nok93 AllT.lf AllT.lf) AllT.lf))))) (AllT.no (AllT.no (AllT.no (AllT.no (AllT.no (AllT.no AllT.lf AllT.lf) (AllT.no AllT.lf AllT.lf)) (AllT.no (AllT.no AllT.lf AllT.lf) (AllT.no AllT.lf AllT.lf))) (AllT.no (AllT.no (AllT.no AllT.lf AllT.lf) (AllT.no AllT.lf AllT.lf)) (AllT.no (AllT.no AllT.lf AllT.lf) AllT.lf))) (AllT.no (AllT.no (AllT.no (AllT.no AllT.lf AllT.lf) (AllT.no AllT.lf AllT.lf)) (AllT.no (AllT.no AllT.lf AllT.lf) AllT.lf)) (AllT.no (AllT.no (AllT.no AllT.lf AllT.lf) (AllT.no AllT.lf AllT.lf)) (AllT.no (AllT.no AllT.lf AllT.lf) AllT.lf)))) (AllT.no (AllT.no (AllT.no (AllT.no (AllT.no AllT.lf AllT.lf) (AllT.no AllT.lf AllT.lf)) (AllT.no (AllT.no AllT.lf AllT.lf) (AllT.no AllT.lf AllT.lf))) (AllT.no (AllT.no (AllT.no AllT.lf AllT.lf) (AllT.no AllT.lf AllT.lf)) (AllT.no (AllT.no AllT.lf AllT.lf) AllT.lf))) (AllT.no (AllT.no (AllT.no (AllT.no AllT.lf AllT.lf) (AllT.no AllT.lf AllT.lf)) (AllT.no (AllT.no AllT.lf AllT.lf) AllT.lf)) (AllT.no (AllT.no (AllT.no AllT.lf AllT.lf) (AllT.no AllT.lf AllT.lf)) (AllT.no (AllT.no AllT.lf AllT.lf) AllT.lf))))))
theorem tok : TSnd Try.prog tab := TSnd.of_look (fun _ _ _ _ _ _ _ h => by cases h) (by kernel_rfl) tyLook fnLook natLook
theorem tt2 : tab.t 2 = some ⟨.int .i64, 1, 8, (.lit (.int .i64 (0))), true, true⟩ := rfl
theorem tt3 : tab.t 3 = some ⟨.int .i64, 1, 8, (.lit (.int .i64 (0))), true, true⟩ := rfl
theorem tt4 : tab.t 4 = some ⟨.bool, 1, 1, (.lit (.bool false)), true, true⟩ := rfl
theorem tt5 : tab.t 5 = some ⟨.int .u8, 1, 1, (.lit (.int .u8 (0))), true, true⟩ := rfl
theorem tt6 : tab.t 6 = some ⟨.int .u8, 1, 1, (.lit (.int .u8 (0))), true, true⟩ := rfl
theorem tt7 : tab.t 7 = some ⟨.struct #[⟨ "x", 2, 0, false, "", "runtime", 0⟩, ⟨ "y", 3, 1, false, "", "runtime", 8⟩, ⟨ "signed", 4, 2, false, "", "runtime", 16⟩, ⟨ "code", 6, 3, false, "", "runtime", 17⟩], 4, 24, (.agg [(.lit (.int .i64 (0))), (.lit (.int .i64 (0))), (.lit (.bool false)), (.lit (.int .u8 (0)))]), true, true⟩ := rfl
theorem tt8 : tab.t 8 = some ⟨.struct #[⟨ "x", 2, 0, false, "", "runtime", 0⟩, ⟨ "y", 3, 1, false, "", "runtime", 8⟩, ⟨ "signed", 4, 2, false, "", "runtime", 16⟩, ⟨ "code", 6, 3, false, "", "runtime", 17⟩], 4, 24, (.agg [(.lit (.int .i64 (0))), (.lit (.int .i64 (0))), (.lit (.bool false)), (.lit (.int .u8 (0)))]), true, true⟩ := rfl
theorem tt9 : tab.t 9 = some ⟨.string, 1, 16, (.str []), true, true⟩ := rfl
theorem tt10 : tab.t 10 = some ⟨.string, 1, 16, (.str []), true, true⟩ := rfl
theorem tt11 : tab.t 11 = some ⟨.string, 1, 16, (.str []), true, true⟩ := rfl
theorem tt12 : tab.t 12 = some ⟨.int .u64, 1, 8, (.lit (.int .u64 (0))), true, true⟩ := rfl
theorem tt13 : tab.t 13 = some ⟨.struct #[⟨ "msg", 9, 0, false, "", "runtime", 0⟩, ⟨ "addr", 12, 1, false, "", "runtime", 16⟩], 2, 24, (.agg [(.str []), (.lit (.int .u64 (0)))]), false, true⟩ := rfl
theorem tt14 : tab.t 14 = some ⟨.struct #[⟨ "msg", 9, 0, false, "", "runtime", 0⟩, ⟨ "addr", 12, 1, false, "", "runtime", 16⟩], 2, 24, (.agg [(.str []), (.lit (.int .u64 (0)))]), false, true⟩ := rfl
theorem tt18 : tab.t 18 = some ⟨.struct #[⟨ "typ", 17, 0, false, "", "internal/runtime/maps", 0⟩], 1, 8, (.agg [(.lit (.pointer none))]), false, true⟩ := rfl
theorem tt19 : tab.t 19 = some ⟨.struct #[⟨ "typ", 17, 0, false, "", "internal/runtime/maps", 0⟩], 1, 8, (.agg [(.lit (.pointer none))]), false, true⟩ := rfl
theorem tt21 : tab.t 21 = some ⟨.int .i32, 1, 4, (.lit (.int .i32 (0))), true, true⟩ := rfl
theorem tt24 : tab.t 24 = some ⟨.struct #[⟨ "Kind", 3, 0, false, "", "", 0⟩, ⟨ "Name", 9, 1, false, "", "", 8⟩, ⟨ "Head", 22, 2, false, "", "", 24⟩, ⟨ "Agg", 3, 3, false, "", "", 48⟩, ⟨ "Of", 9, 4, false, "", "", 56⟩, ⟨ "Limit", 2, 5, false, "", "", 72⟩, ⟨ "Body", 23, 6, false, "", "", 80⟩], 7, 104, (.agg [(.lit (.int .i64 (0))), (.str []), (.lit (.slice none 0 0)), (.lit (.int .i64 (0))), (.str []), (.lit (.int .i64 (0))), (.lit (.slice none 0 0))]), true, false⟩ := rfl
theorem tt25 : tab.t 25 = some ⟨.struct #[⟨ "Kind", 3, 0, false, "", "", 0⟩, ⟨ "Name", 9, 1, false, "", "", 8⟩, ⟨ "Head", 22, 2, false, "", "", 24⟩, ⟨ "Agg", 3, 3, false, "", "", 48⟩, ⟨ "Of", 9, 4, false, "", "", 56⟩, ⟨ "Limit", 2, 5, false, "", "", 72⟩, ⟨ "Body", 23, 6, false, "", "", 80⟩], 7, 104, (.agg [(.lit (.int .i64 (0))), (.str []), (.lit (.slice none 0 0)), (.lit (.int .i64 (0))), (.str []), (.lit (.int .i64 (0))), (.lit (.slice none 0 0))]), true, false⟩ := rfl
theorem tt31 : tab.t 31 = some ⟨.int .i64, 1, 8, (.lit (.int .i64 (0))), true, true⟩ := rfl
theorem tt46 : tab.t 46 = some ⟨.struct #[⟨ "Not", 4, 0, false, "", "", 0⟩, ⟨ "Name", 9, 1, false, "", "", 8⟩, ⟨ "Args", 45, 2, false, "", "", 24⟩, ⟨ "Op", 3, 3, false, "", "", 48⟩], 4, 56, (.agg [(.lit (.bool false)), (.str []), (.lit (.slice none 0 0)), (.lit (.int .i64 (0)))]), true, false⟩ := rfl
theorem tt47 : tab.t 47 = some ⟨.struct #[⟨ "Not", 4, 0, false, "", "", 0⟩, ⟨ "Name", 9, 1, false, "", "", 8⟩, ⟨ "Args", 45, 2, false, "", "", 24⟩, ⟨ "Op", 3, 3, false, "", "", 48⟩], 4, 56, (.agg [(.lit (.bool false)), (.str []), (.lit (.slice none 0 0)), (.lit (.int .i64 (0)))]), true, false⟩ := rfl
theorem tt49 : tab.t 49 = some ⟨.struct #[⟨ "Name", 9, 0, false, "", "", 0⟩, ⟨ "Rows", 48, 1, false, "", "", 16⟩], 2, 40, (.agg [(.str []), (.lit (.slice none 0 0))]), true, false⟩ := rfl
theorem tt50 : tab.t 50 = some ⟨.struct #[⟨ "Name", 9, 0, false, "", "", 0⟩, ⟨ "Rows", 48, 1, false, "", "", 16⟩], 2, 40, (.agg [(.str []), (.lit (.slice none 0 0))]), true, false⟩ := rfl
theorem tt51 : tab.t 51 = some ⟨.struct #[⟨ "Row", 26, 0, false, "", "", 0⟩, ⟨ "Many", 2, 1, false, "", "", 24⟩], 2, 32, (.agg [(.lit (.slice none 0 0)), (.lit (.int .i64 (0)))]), true, false⟩ := rfl
theorem tt52 : tab.t 52 = some ⟨.struct #[⟨ "Row", 26, 0, false, "", "", 0⟩, ⟨ "Many", 2, 1, false, "", "", 24⟩], 2, 32, (.agg [(.lit (.slice none 0 0)), (.lit (.int .i64 (0)))]), true, false⟩ := rfl
theorem tt55 : tab.t 55 = some ⟨.struct #[⟨ "Kind", 3, 0, false, "", "", 0⟩, ⟨ "Flag", 4, 1, false, "", "", 8⟩, ⟨ "Int", 2, 2, false, "", "", 16⟩, ⟨ "Text", 9, 3, false, "", "", 24⟩], 4, 40, (.agg [(.lit (.int .i64 (0))), (.lit (.bool false)), (.lit (.int .i64 (0))), (.str [])]), true, true⟩ := rfl
theorem tt56 : tab.t 56 = some ⟨.struct #[⟨ "Kind", 3, 0, false, "", "", 0⟩, ⟨ "Flag", 4, 1, false, "", "", 8⟩, ⟨ "Int", 2, 2, false, "", "", 16⟩, ⟨ "Text", 9, 3, false, "", "", 24⟩], 4, 40, (.agg [(.lit (.int .i64 (0))), (.lit (.bool false)), (.lit (.int .i64 (0))), (.str [])]), true, true⟩ := rfl
theorem tt57 : tab.t 57 = some ⟨.struct #[⟨ "Name", 9, 0, false, "", "", 0⟩, ⟨ "Rows", 48, 1, false, "", "", 16⟩], 2, 40, (.agg [(.str []), (.lit (.slice none 0 0))]), true, false⟩ := rfl
theorem tt68 : tab.t 68 = some ⟨.struct #[⟨ "Names", 22, 0, false, "", "", 0⟩, ⟨ "L", 26, 1, false, "", "", 24⟩], 2, 48, (.agg [(.lit (.slice none 0 0)), (.lit (.slice none 0 0))]), true, false⟩ := rfl
theorem tt69 : tab.t 69 = some ⟨.struct #[⟨ "Names", 22, 0, false, "", "", 0⟩, ⟨ "L", 26, 1, false, "", "", 24⟩], 2, 48, (.agg [(.lit (.slice none 0 0)), (.lit (.slice none 0 0))]), true, false⟩ := rfl
theorem tt82 : tab.t 82 = some ⟨.struct #[⟨ "Var", 9, 0, false, "", "", 0⟩, ⟨ "Any", 4, 1, false, "", "", 16⟩, ⟨ "Val", 56, 2, false, "", "", 24⟩], 6, 64, (.agg [(.str []), (.lit (.bool false)), (.lit (.int .i64 (0))), (.lit (.bool false)), (.lit (.int .i64 (0))), (.str [])]), true, true⟩ := rfl
theorem tt83 : tab.t 83 = some ⟨.struct #[⟨ "Var", 9, 0, false, "", "", 0⟩, ⟨ "Any", 4, 1, false, "", "", 16⟩, ⟨ "Val", 56, 2, false, "", "", 24⟩], 6, 64, (.agg [(.str []), (.lit (.bool false)), (.lit (.int .i64 (0))), (.lit (.bool false)), (.lit (.int .i64 (0))), (.str [])]), true, true⟩ := rfl
theorem tt88 : tab.t 88 = some ⟨.struct #[⟨ "l", 84, 0, false, "", "verderer/verdererref12", 0⟩, ⟨ "at", 3, 1, false, "", "verderer/verdererref12", 24⟩, ⟨ "why", 31, 2, false, "", "verderer/verdererref12", 32⟩, ⟨ "pos", 3, 3, false, "", "verderer/verdererref12", 40⟩], 4, 48, (.agg [(.lit (.slice none 0 0)), (.lit (.int .i64 (0))), (.lit (.int .i64 (0))), (.lit (.int .i64 (0)))]), true, false⟩ := rfl
theorem tt89 : tab.t 89 = some ⟨.struct #[⟨ "l", 84, 0, false, "", "verderer/verdererref12", 0⟩, ⟨ "at", 3, 1, false, "", "verderer/verdererref12", 24⟩, ⟨ "why", 31, 2, false, "", "verderer/verdererref12", 32⟩, ⟨ "pos", 3, 3, false, "", "verderer/verdererref12", 40⟩], 4, 48, (.agg [(.lit (.slice none 0 0)), (.lit (.int .i64 (0))), (.lit (.int .i64 (0))), (.lit (.int .i64 (0)))]), true, false⟩ := rfl
theorem tt92 : tab.t 92 = some ⟨.struct #[⟨ "Kind", 3, 0, false, "", "", 0⟩, ⟨ "Text", 9, 1, false, "", "", 8⟩, ⟨ "Val", 56, 2, false, "", "", 24⟩, ⟨ "At", 3, 6, false, "", "", 64⟩], 7, 72, (.agg [(.lit (.int .i64 (0))), (.str []), (.lit (.int .i64 (0))), (.lit (.bool false)), (.lit (.int .i64 (0))), (.str []), (.lit (.int .i64 (0)))]), true, true⟩ := rfl
theorem tt93 : tab.t 93 = some ⟨.struct #[⟨ "Kind", 3, 0, false, "", "", 0⟩, ⟨ "Text", 9, 1, false, "", "", 8⟩, ⟨ "Val", 56, 2, false, "", "", 24⟩, ⟨ "At", 3, 6, false, "", "", 64⟩], 7, 72, (.agg [(.lit (.int .i64 (0))), (.str []), (.lit (.int .i64 (0))), (.lit (.bool false)), (.lit (.int .i64 (0))), (.str []), (.lit (.int .i64 (0)))]), true, true⟩ := rfl
theorem tt130 : tab.t 130 = some ⟨.int .u64, 1, 8, (.lit (.int .u64 (0))), true, true⟩ := rfl
theorem tt136 : tab.t 136 = some ⟨.struct #[⟨ "_interface", 17, 0, false, "", "runtime", 0⟩, ⟨ "concrete", 17, 1, false, "", "runtime", 8⟩, ⟨ "asserted", 17, 2, false, "", "runtime", 16⟩, ⟨ "missingMethod", 9, 3, false, "", "runtime", 24⟩], 4, 40, (.agg [(.lit (.pointer none)), (.lit (.pointer none)), (.lit (.pointer none)), (.str [])]), false, true⟩ := rfl
theorem tt137 : tab.t 137 = some ⟨.struct #[⟨ "_interface", 17, 0, false, "", "runtime", 0⟩, ⟨ "concrete", 17, 1, false, "", "runtime", 8⟩, ⟨ "asserted", 17, 2, false, "", "runtime", 16⟩, ⟨ "missingMethod", 9, 3, false, "", "runtime", 24⟩], 4, 40, (.agg [(.lit (.pointer none)), (.lit (.pointer none)), (.lit (.pointer none)), (.str [])]), false, true⟩ := rfl
theorem tt139 : tab.t 139 = some ⟨.struct #[⟨ "_", 138, 0, false, "", "runtime", 0⟩], 0, 0, (.agg []), false, true⟩ := rfl
theorem tt140 : tab.t 140 = some ⟨.struct #[⟨ "_", 138, 0, false, "", "runtime", 0⟩], 0, 0, (.agg []), false, true⟩ := rfl
theorem tt142 : tab.t 142 = some ⟨.int .u32, 1, 4, (.lit (.int .u32 (0))), true, true⟩ := rfl
theorem tt143 : tab.t 143 = some ⟨.int .u8, 1, 1, (.lit (.int .u8 (0))), true, true⟩ := rfl
theorem tt144 : tab.t 144 = some ⟨.int .u8, 1, 1, (.lit (.int .u8 (0))), true, true⟩ := rfl
theorem tt147 : tab.t 147 = some ⟨.int .i32, 1, 4, (.lit (.int .i32 (0))), true, true⟩ := rfl
theorem tt148 : tab.t 148 = some ⟨.int .i32, 1, 4, (.lit (.int .i32 (0))), true, true⟩ := rfl
theorem tt149 : tab.t 149 = some ⟨.struct #[⟨ "Size_", 12, 0, false, "", "", 0⟩, ⟨ "PtrBytes", 12, 1, false, "", "", 8⟩, ⟨ "Hash", 142, 2, false, "", "", 16⟩, ⟨ "TFlag", 143, 3, false, "", "", 20⟩, ⟨ "Align_", 5, 4, false, "", "", 21⟩, ⟨ "FieldAlign_", 5, 5, false, "", "", 22⟩, ⟨ "Kind_", 144, 6, false, "", "", 23⟩, ⟨ "Equal", 145, 7, false, "", "", 24⟩, ⟨ "GCData", 146, 8, false, "", "", 32⟩, ⟨ "Str", 147, 9, false, "", "", 40⟩, ⟨ "PtrToThis", 148, 10, false, "", "", 44⟩], 11, 48, (.agg [(.lit (.int .u64 (0))), (.lit (.int .u64 (0))), (.lit (.int .u32 (0))), (.lit (.int .u8 (0))), (.lit (.int .u8 (0))), (.lit (.int .u8 (0))), (.lit (.int .u8 (0))), (.lit .nilFunc), (.lit (.pointer none)), (.lit (.int .i32 (0))), (.lit (.int .i32 (0)))]), false, false⟩ := rfl
theorem tt150 : tab.t 150 = some ⟨.struct #[⟨ "Size_", 12, 0, false, "", "", 0⟩, ⟨ "PtrBytes", 12, 1, false, "", "", 8⟩, ⟨ "Hash", 142, 2, false, "", "", 16⟩, ⟨ "TFlag", 143, 3, false, "", "", 20⟩, ⟨ "Align_", 5, 4, false, "", "", 21⟩, ⟨ "FieldAlign_", 5, 5, false, "", "", 22⟩, ⟨ "Kind_", 144, 6, false, "", "", 23⟩, ⟨ "Equal", 145, 7, false, "", "", 24⟩, ⟨ "GCData", 146, 8, false, "", "", 32⟩, ⟨ "Str", 147, 9, false, "", "", 40⟩, ⟨ "PtrToThis", 148, 10, false, "", "", 44⟩], 11, 48, (.agg [(.lit (.int .u64 (0))), (.lit (.int .u64 (0))), (.lit (.int .u32 (0))), (.lit (.int .u8 (0))), (.lit (.int .u8 (0))), (.lit (.int .u8 (0))), (.lit (.int .u8 (0))), (.lit .nilFunc), (.lit (.pointer none)), (.lit (.int .i32 (0))), (.lit (.int .i32 (0)))]), false, false⟩ := rfl
-- NAMES TT tt2 tt3 tt4 tt5 tt6 tt7 tt8 tt9 tt10 tt11 tt12 tt13 tt14 tt18 tt19 tt21 tt24 tt25 tt31 tt46 tt47 tt49 tt50 tt51 tt52 tt55 tt56 tt57 tt68 tt69 tt82 tt83 tt88 tt89 tt92 tt93 tt130 tt136 tt137 tt139 tt140 tt142 tt143 tt144 tt147 tt148 tt149 tt150
end Go.Proofs.Ytpehpccahbofiaa.Tab

set_option maxRecDepth 100000
namespace Go.Proofs.Ytpehpccahbofiaa.Ev
open Go Go.Proofs.Ytpehpccahbofiaa.Ev Go.Proofs Go.Proofs.Ytpehpccahbofiaa Go.Proofs.Ytpehpccahbofiaa.Tab
theorem xI : (tInf tab 25 = some (7, true)) ∧ (lInf tab 26 = some 1) ∧ (lInf tab 30 = some 1) ∧ (eInf tab 30 = some (1, 24, false, (.lit (.slice none 0 0)))) ∧ (tInf tab 26 = some (1, false)) ∧ (lInf tab 27 = some 1) ∧ (fInf tab 25 6 = some (6, 1, false)) ∧ (tInf tab 23 = some (1, false)) ∧ (lInf tab 23 = some 1) ∧ (eInf tab 23 = some (4, 56, true, (.agg [(.lit (.bool false)), (.str []), (.lit (.slice none 0 0)), (.lit (.int .i64 (0)))]))) ∧ (fInf tab 47 3 = some (3, 1, false)) ∧ (tInf tab 3 = some (1, false)) ∧ (fInf tab 47 0 = some (0, 1, false)) ∧ (tInf tab 4 = some (1, false)) ∧ (eInf tab 27 = some (2, 40, true, (.agg [(.str []), (.lit (.slice none 0 0))]))) ∧ (fInf tab 50 0 = some (0, 1, false)) ∧ (tInf tab 9 = some (1, false)) ∧ (fInf tab 47 1 = some (1, 1, false)) ∧ (fInf tab 50 1 = some (1, 1, false)) ∧ (tInf tab 48 = some (1, false)) ∧ (lInf tab 48 = some 1) ∧ (eInf tab 48 = some (2, 32, true, (.agg [(.lit (.slice none 0 0)), (.lit (.int .i64 (0)))]))) ∧ (fInf tab 52 0 = some (0, 1, false)) ∧ (fInf tab 25 3 = some (3, 1, false)) ∧ (cInf tab 23 = some [(.lit (.slice none 0 0))]) ∧ (cInf tab 30 = some [(.lit (.slice none 0 0))]) ∧ (tInf tab 30 = some (1, false)) ∧ (cInf tab 29 = some [(.lit .nilFunc)]) ∧ (tInf tab 29 = some (1, false)) ∧ (zInf tab 57 = some ([(0, 1), (1, 1)], [(.str []), (.lit (.slice none 0 0))])) ∧ (eInf tab 34 = some (2, 40, true, (.agg [(.str []), (.lit (.slice none 0 0))]))) ∧ (lInf tab 34 = some 1) ∧ (fInf tab 25 2 = some (2, 1, false)) ∧ (tInf tab 22 = some (1, false)) ∧ (lInf tab 22 = some 1) ∧ (eInf tab 22 = some (1, 16, false, (.str []))) ∧ (mInf tab 64 = some (.string, (.agg [(.lit (.int .i64 (0))), (.lit (.bool false)), (.lit (.int .i64 (0))), (.str [])]))) ∧ (cInf tab 56 = some [(.lit (.int .i64 (0))), (.lit (.bool false)), (.lit (.int .i64 (0))), (.str [])]) ∧ (tInf tab 56 = some (4, true)) ∧ (eInf tab 26 = some (4, 40, true, (.agg [(.lit (.int .i64 (0))), (.lit (.bool false)), (.lit (.int .i64 (0))), (.str [])]))) ∧ (cInf tab 69 = some [(.lit (.slice none 0 0)), (.lit (.slice none 0 0))]) ∧ (tInf tab 69 = some (2, true)) ∧ (tInf tab 47 = some (4, true)) ∧ (cInf tab 47 = some [(.lit (.bool false)), (.str []), (.lit (.slice none 0 0)), (.lit (.int .i64 (0)))]) ∧ (cInf tab 26 = some [(.lit (.slice none 0 0))]) ∧ (fInf tab 47 2 = some (2, 1, false)) ∧ (tInf tab 45 = some (1, false)) ∧ (fInf tab 25 1 = some (1, 1, false)) ∧ (lInf tab 9 = some 0) ∧ (fInf tab 25 4 = some (4, 1, false)) ∧ (lInf tab 45 = some 1) ∧ (eInf tab 45 = some (6, 64, true, (.agg [(.str []), (.lit (.bool false)), (.lit (.int .i64 (0))), (.lit (.bool false)), (.lit (.int .i64 (0))), (.str [])]))) ∧ (fInf tab 83 0 = some (0, 1, false)) ∧ (tInf tab 34 = some (1, false)) ∧ (tInf tab 52 = some (2, true)) ∧ (cInf tab 52 = some [(.lit (.slice none 0 0)), (.lit (.int .i64 (0)))]) ∧ (fInf tab 57 1 = some (1, 1, false)) ∧ (tInf tab 83 = some (6, true)) ∧ (cInf tab 83 = some [(.str []), (.lit (.bool false)), (.lit (.int .i64 (0))), (.lit (.bool false)), (.lit (.int .i64 (0))), (.str [])]) ∧ (fInf tab 83 1 = some (1, 1, false)) ∧ (zInf tab 69 = some ([(0, 1), (1, 1)], [(.lit (.slice none 0 0)), (.lit (.slice none 0 0))])) ∧ (fInf tab 69 0 = some (0, 1, false)) ∧ (fInf tab 69 1 = some (1, 1, false)) ∧ (zInf tab 56 = some ([(0, 1), (1, 1), (2, 1), (3, 1)], [(.lit (.int .i64 (0))), (.lit (.bool false)), (.lit (.int .i64 (0))), (.str [])])) ∧ (tInf tab 64 = some (1, false)) ∧ (tInf tab 57 = some (2, true)) ∧ (fInf tab 57 0 = some (0, 1, false)) ∧ (fInf tab 83 2 = some (2, 4, true)) ∧ (fInf tab 56 0 = some (0, 1, false)) ∧ (fInf tab 56 1 = some (1, 1, false)) ∧ (fInf tab 56 2 = some (2, 1, false)) ∧ (tInf tab 2 = some (1, false)) ∧ (fInf tab 56 3 = some (3, 1, false)) :=
  ⟨rfl, rfl, rfl, rfl, rfl, rfl, rfl, rfl, rfl, rfl, rfl, rfl, rfl, rfl, rfl, rfl, rfl, rfl, rfl, rfl, rfl, rfl, rfl, rfl, rfl, rfl, rfl, rfl, rfl, rfl, rfl, rfl, rfl, rfl, rfl, rfl, rfl, rfl, rfl, rfl, rfl, rfl, rfl, rfl, rfl, rfl, rfl, rfl, rfl, rfl, rfl, rfl, rfl, rfl, rfl, rfl, rfl, rfl, rfl, rfl, rfl, rfl, rfl, rfl, rfl, rfl, rfl, rfl, rfl, rfl, rfl, rfl, rfl⟩
theorem xF : (tab.n 3 = none) ∧ (tab.f 3 = some fi3) ∧ (∀ l H hs, quietG tab 3 l H hs = false) ∧ (tab.n 4 = none) ∧ (tab.f 4 = some fi4) ∧ (∀ l H hs, quietG tab 4 l H hs = false) ∧ (tab.n 5 = none) ∧ (tab.f 5 = some fi5) ∧ (∀ l H hs, quietG tab 5 l H hs = false) ∧ (tab.n 6 = none) ∧ (tab.f 6 = some fi6) ∧ (∀ l H hs, quietG tab 6 l H hs = bares l) ∧ (tab.n 8 = none) ∧ (tab.f 8 = some fi8) ∧ (∀ l H hs, quietG tab 8 l H hs = bares l) ∧ (tab.n 9 = none) ∧ (tab.f 9 = some fi9) ∧ (∀ l H hs, quietG tab 9 l H hs = bares l) ∧ (tab.n 10 = none) ∧ (tab.f 10 = some fi10) ∧ (∀ l H hs, quietG tab 10 l H hs = bares l) ∧ (tab.n 11 = none) ∧ (tab.f 11 = some fi11) ∧ (∀ l H hs, quietG tab 11 l H hs = bares l) ∧ (tab.n 12 = none) ∧ (tab.f 12 = some fi12) ∧ (∀ l H hs, quietG tab 12 l H hs = true) ∧ (tab.n 13 = none) ∧ (tab.f 13 = some fi13) ∧ (∀ l H hs, quietG tab 13 l H hs = bares l) ∧ (tab.n 14 = none) ∧ (tab.f 14 = some fi14) ∧ (∀ l H hs, quietG tab 14 l H hs = true) ∧ (tab.n 15 = none) ∧ (tab.f 15 = some fi15) ∧ (∀ l H hs, quietG tab 15 l H hs = bares l) ∧ (tab.n 16 = none) ∧ (tab.f 16 = some fi16) ∧ (∀ l H hs, quietG tab 16 l H hs = bares l) ∧ (tab.n 17 = none) ∧ (tab.f 17 = some fi17) ∧ (∀ l H hs, quietG tab 17 l H hs = bares l) ∧ (tab.n 18 = none) ∧ (tab.f 18 = some fi18) ∧ (∀ l H hs, quietG tab 18 l H hs = bares l) ∧ (tab.n 20 = none) ∧ (tab.f 20 = some fi20) ∧ (∀ l H hs, quietG tab 20 l H hs = bares l) ∧ (tab.n 21 = none) ∧ (tab.f 21 = some fi21) ∧ (∀ l H hs, quietG tab 21 l H hs = false) ∧ (tab.n 22 = none) ∧ (tab.f 22 = some fi22) ∧ (∀ l H hs, quietG tab 22 l H hs = bares l) ∧ (tab.n 23 = none) ∧ (tab.f 23 = some fi23) ∧ (∀ l H hs, quietG tab 23 l H hs = bares l) ∧ (tab.n 24 = none) ∧ (tab.f 24 = some fi24) ∧ (∀ l H hs, quietG tab 24 l H hs = bares l) ∧ (tab.n 25 = none) ∧ (tab.f 25 = some fi25) ∧ (∀ l H hs, quietG tab 25 l H hs = bares l) ∧ (tab.n 26 = none) ∧ (tab.f 26 = some fi26) ∧ (∀ l H hs, quietG tab 26 l H hs = bares l) ∧ (tab.n 27 = none) ∧ (tab.f 27 = some fi27) ∧ (∀ l H hs, quietG tab 27 l H hs = bares l) ∧ (tab.n 28 = none) ∧ (tab.f 28 = some fi28) ∧ (∀ l H hs, quietG tab 28 l H hs = bares l) ∧ (tab.n 29 = none) ∧ (tab.f 29 = some fi29) ∧ (∀ l H hs, quietG tab 29 l H hs = bares l) ∧ (tab.n 30 = none) ∧ (tab.f 30 = some fi30) ∧ (∀ l H hs, quietG tab 30 l H hs = bares l) ∧ (tab.n 31 = none) ∧ (tab.f 31 = some fi31) ∧ (∀ l H hs, quietG tab 31 l H hs = true) ∧ (tab.n 32 = none) ∧ (tab.f 32 = some fi32) ∧ (∀ l H hs, quietG tab 32 l H hs = false) ∧ (tab.n 33 = none) ∧ (tab.f 33 = some fi33) ∧ (∀ l H hs, quietG tab 33 l H hs = bares l) ∧ (tab.n 34 = none) ∧ (tab.f 34 = some fi34) ∧ (∀ l H hs, quietG tab 34 l H hs = bares l) ∧ (tab.n 35 = none) ∧ (tab.f 35 = some fi35) ∧ (∀ l H hs, quietG tab 35 l H hs = bares l) ∧ (tab.n 36 = none) ∧ (tab.f 36 = some fi36) ∧ (∀ l H hs, quietG tab 36 l H hs = bares l) ∧ (tab.n 37 = none) ∧ (tab.f 37 = some fi37) ∧ (∀ l H hs, quietG tab 37 l H hs = bares l) ∧ (tab.n 38 = none) ∧ (tab.f 38 = some fi38) ∧ (∀ l H hs, quietG tab 38 l H hs = bares l) ∧ (tab.n 39 = none) ∧ (tab.f 39 = some fi39) ∧ (∀ l H hs, quietG tab 39 l H hs = bares l) ∧ (tab.n 49 = none) ∧ (tab.f 49 = some fi49) ∧ (∀ l H hs, quietG tab 49 l H hs = bares l) ∧ (tab.n 50 = none) ∧ (tab.f 50 = some fi50) ∧ (∀ l H hs, quietG tab 50 l H hs = true) ∧ (tab.n 51 = none) ∧ (tab.f 51 = some fi51) ∧ (∀ l H hs, quietG tab 51 l H hs = false) ∧ (tab.n 52 = none) ∧ (tab.f 52 = some fi52) ∧ (∀ l H hs, quietG tab 52 l H hs = bares l) ∧ (tab.n 53 = none) ∧ (tab.f 53 = some fi53) ∧ (∀ l H hs, quietG tab 53 l H hs = bares l) ∧ (tab.n 54 = none) ∧ (tab.f 54 = some fi54) ∧ (∀ l H hs, quietG tab 54 l H hs = bares l) ∧ (tab.n 55 = none) ∧ (tab.f 55 = some fi55) ∧ (∀ l H hs, quietG tab 55 l H hs = false) ∧ (tab.n 56 = none) ∧ (tab.f 56 = some fi56) ∧ (∀ l H hs, quietG tab 56 l H hs = bares l) ∧ (tab.n 57 = none) ∧ (tab.f 57 = some fi57) ∧ (∀ l H hs, quietG tab 57 l H hs = true) ∧ (tab.n 58 = none) ∧ (tab.f 58 = some fi58) ∧ (∀ l H hs, quietG tab 58 l H hs = bares l) ∧ (tab.n 59 = none) ∧ (tab.f 59 = some fi59) ∧ (∀ l H hs, quietG tab 59 l H hs = bares l) ∧ (tab.n 60 = none) ∧ (tab.f 60 = some fi60) ∧ (∀ l H hs, quietG tab 60 l H hs = bares l) ∧ (tab.n 67 = none) ∧ (tab.f 67 = some fi67) ∧ (∀ l H hs, quietG tab 67 l H hs = true) ∧ (tab.n 68 = none) ∧ (tab.f 68 = some fi68) ∧ (∀ l H hs, quietG tab 68 l H hs = bares l) ∧ (tab.n 69 = none) ∧ (tab.f 69 = some fi69) ∧ (∀ l H hs, quietG tab 69 l H hs = bares l) ∧ (tab.n 70 = none) ∧ (tab.f 70 = some fi70) ∧ (∀ l H hs, quietG tab 70 l H hs = bares l) ∧ (tab.n 71 = none) ∧ (tab.f 71 = some fi71) ∧ (∀ l H hs, quietG tab 71 l H hs = bares l) ∧ (tab.n 72 = none) ∧ (tab.f 72 = some fi72) ∧ (∀ l H hs, quietG tab 72 l H hs = bares l) ∧ (tab.n 73 = none) ∧ (tab.f 73 = some fi73) ∧ (∀ l H hs, quietG tab 73 l H hs = bares l) ∧ (tab.n 86 = none) ∧ (tab.f 86 = some fi86) ∧ (∀ l H hs, quietG tab 86 l H hs = bares l) ∧ (tab.n 87 = none) ∧ (tab.f 87 = some fi87) ∧ (∀ l H hs, quietG tab 87 l H hs = bares l) ∧ (tab.n 88 = none) ∧ (tab.f 88 = some fi88) ∧ (∀ l H hs, quietG tab 88 l H hs = bares l) ∧ (tab.n 7 = none) ∧ (tab.f 7 = some fi7) ∧ (∀ l H hs, quietG tab 7 l H hs = bares l) ∧ (tab.n 93 = some 1) ∧ (∀ l H hs, quietG tab 93 l H hs = true) ∧ (∀ s a b l, callO tab (evw tab) s (some (.fn (.func 93) a b)) (some l) = natO s.heap s.hs 1 (some (a ++ l ++ b))) ∧ (∀ m l H hs, callN tab (evw tab) m 93 l H hs = natO H hs 1 (some l)) :=
  ⟨rfl, rfl, fun _ _ _ => rfl, rfl, rfl, fun _ _ _ => rfl, rfl, rfl, fun _ _ _ => rfl, rfl, rfl, fun _ _ _ => rfl, rfl, rfl, fun _ _ _ => rfl, rfl, rfl, fun _ _ _ => rfl, rfl, rfl, fun _ _ _ => rfl, rfl, rfl, fun _ _ _ => rfl, rfl, rfl, fun _ _ _ => rfl, rfl, rfl, fun _ _ _ => rfl, rfl, rfl, fun _ _ _ => rfl, rfl, rfl, fun _ _ _ => rfl, rfl, rfl, fun _ _ _ => rfl, rfl, rfl, fun _ _ _ => rfl, rfl, rfl, fun _ _ _ => rfl, rfl, rfl, fun _ _ _ => rfl, rfl, rfl, fun _ _ _ => rfl, rfl, rfl, fun _ _ _ => rfl, rfl, rfl, fun _ _ _ => rfl, rfl, rfl, fun _ _ _ => rfl, rfl, rfl, fun _ _ _ => rfl, rfl, rfl, fun _ _ _ => rfl, rfl, rfl, fun _ _ _ => rfl, rfl, rfl, fun _ _ _ => rfl, rfl, rfl, fun _ _ _ => rfl, rfl, rfl, fun _ _ _ => rfl, rfl, rfl, fun _ _ _ => rfl, rfl, rfl, fun _ _ _ => rfl, rfl, rfl, fun _ _ _ => rfl, rfl, rfl, fun _ _ _ => rfl, rfl, rfl, fun _ _ _ => rfl, rfl, rfl, fun _ _ _ => rfl, rfl, rfl, fun _ _ _ => rfl, rfl, rfl, fun _ _ _ => rfl, rfl, rfl, fun _ _ _ => rfl, rfl, rfl, fun _ _ _ => rfl, rfl, rfl, fun _ _ _ => rfl, rfl, rfl, fun _ _ _ => rfl, rfl, rfl, fun _ _ _ => rfl, rfl, rfl, fun _ _ _ => rfl, rfl, rfl, fun _ _ _ => rfl, rfl, rfl, fun _ _ _ => rfl, rfl, rfl, fun _ _ _ => rfl, rfl, rfl, fun _ _ _ => rfl, rfl, rfl, fun _ _ _ => rfl, rfl, rfl, fun _ _ _ => rfl, rfl, rfl, fun _ _ _ => rfl, rfl, rfl, fun _ _ _ => rfl, rfl, rfl, fun _ _ _ => rfl, rfl, rfl, fun _ _ _ => rfl, rfl, rfl, fun _ _ _ => rfl, rfl, rfl, fun _ _ _ => rfl, rfl, rfl, fun _ _ _ => rfl, rfl, rfl, fun _ _ _ => rfl, rfl, rfl, fun _ _ _ => rfl, rfl, rfl, fun _ _ _ => rfl, rfl, rfl, fun _ _ _ => rfl, rfl, rfl, fun _ _ _ => rfl, rfl, fun _ _ _ => rfl, fun _ _ _ _ => callO_n rfl, fun _ _ _ _ => callN_n rfl _ _ _ _⟩
/-! 3: verderer/verdererlaw37.ExplainTells -/
theorem x3 : (fi3.ntmps = 47) ∧ (fi3.results = [.tmp 6]) ∧ (fi3.lm = 3) ∧ (fi3.rts = [4]) :=
  ⟨rfl, rfl, rfl, rfl⟩
theorem b3 : fi3.body = bodyOf Try.f3 := rfl
theorem d3 : drawsL 47 fi3.body = [some [false, false, false, true, false, false, false, false, false, false]] := by kernel_rfl
/-! 4: verderer/verdererlaw37.ExplainHolds -/
theorem x4 : (fi4.ntmps = 70) ∧ (fi4.results = [.tmp 6]) ∧ (fi4.lm = 3) ∧ (fi4.rts = [4]) :=
  ⟨rfl, rfl, rfl, rfl⟩
theorem b4 : fi4.body = bodyOf Try.f4 := rfl
theorem d4 : drawsL 70 fi4.body = [some [false, false, false, true, true, false, false, false, false, false, false, false, false, false, false, false, false, false, false, false, false, false, false, false]] := by kernel_rfl
/-! 5: verderer/verdererlaw37.ExplainRight -/
theorem x5 : (fi5.ntmps = 60) ∧ (fi5.results = [.tmp 6]) ∧ (fi5.lm = 3) ∧ (fi5.rts = [4]) :=
  ⟨rfl, rfl, rfl, rfl⟩
theorem b5 : fi5.body = bodyOf Try.f5 := rfl
theorem d5 : drawsL 60 fi5.body = [some [false, false, false, true, false, false, false, false, false, false], some [false, false, false, true, false, false, false, false, false, false, false, false, false, false, false, false, false, false]] := by kernel_rfl
/-! 6: verderer/verdererlaw37.light -/
theorem x6 : (fi6.ntmps = 107) ∧ (fi6.results = [.tmp 4]) ∧ (fi6.lm = 3) ∧ (fi6.rts = [4]) :=
  ⟨rfl, rfl, rfl, rfl⟩
theorem b6 : fi6.body = bodyOf Try.f6 := rfl
theorem d6 : drawsL 107 fi6.body = [some [false, false, false, false, false, false, false, false, false, false, false, false]] := by kernel_rfl
/-! 8: verderer/explain.Why -/
theorem x8 : (fi8.ntmps = 24) ∧ (fi8.results = [.tmp 6, .tmp 7]) ∧ (fi8.lm = 4) ∧ (fi8.rts = [30, 31]) :=
  ⟨rfl, rfl, rfl, rfl⟩
theorem b8 : fi8.body = bodyOf Try.f8 := rfl
/-! 9: verderer/verdererlaw19.Base -/
theorem x9 : (fi9.ntmps = 26) ∧ (fi9.results = [.tmp 2]) ∧ (fi9.lm = 3) ∧ (fi9.rts = [34]) :=
  ⟨rfl, rfl, rfl, rfl⟩
theorem b9 : fi9.body = bodyOf Try.f9 := rfl
theorem d9 : drawsL 26 fi9.body = [some [false, false, false, false, false, false, false, false, false, false, false, false, false, false, false]] := by kernel_rfl
/-! 10: verderer/verdererref37.Why -/
theorem x10 : (fi10.ntmps = 23) ∧ (fi10.results = [.tmp 6, .tmp 7]) ∧ (fi10.lm = 3) ∧ (fi10.rts = [30, 31]) :=
  ⟨rfl, rfl, rfl, rfl⟩
theorem b10 : fi10.body = bodyOf Try.f10 := rfl
/-! 11: verderer/verdererref02.Alike -/
theorem x11 : (fi11.ntmps = 27) ∧ (fi11.results = [.tmp 4]) ∧ (fi11.lm = 3) ∧ (fi11.rts = [4]) :=
  ⟨rfl, rfl, rfl, rfl⟩
theorem b11 : fi11.body = bodyOf Try.f11 := rfl
theorem d11 : drawsL 27 fi11.body = [some [false, false, false, false, false, false, false, false, false, false]] := by kernel_rfl
/-! 12: verderer/explain.Told -/
theorem x12 : (fi12.ntmps = 42) ∧ (fi12.results = [.tmp 4, .tmp 5]) ∧ (fi12.lm = 4) ∧ (fi12.rts = [26, 31]) :=
  ⟨rfl, rfl, rfl, rfl⟩
theorem b12 : fi12.body = bodyOf Try.f12 := rfl
/-! 13: verderer/verdererref37.Told -/
theorem x13 : (fi13.ntmps = 44) ∧ (fi13.results = [.tmp 4, .tmp 5]) ∧ (fi13.lm = 3) ∧ (fi13.rts = [26, 31]) :=
  ⟨rfl, rfl, rfl, rfl⟩
theorem b13 : fi13.body = bodyOf Try.f13 := rfl
theorem d13 : drawsL 44 fi13.body = [some [false, false, false, false, false, false, true, false, false, false, false, false, false]] := by kernel_rfl
/-! 14: verderer/explain.Holds -/
theorem x14 : (fi14.ntmps = 72) ∧ (fi14.results = [.tmp 6]) ∧ (fi14.lm = 3) ∧ (fi14.rts = [4]) :=
  ⟨rfl, rfl, rfl, rfl⟩
theorem b14 : fi14.body = bodyOf Try.f14 := rfl
/-! 15: verderer/verdererref37.Holds -/
theorem x15 : (fi15.ntmps = 96) ∧ (fi15.results = [.tmp 6]) ∧ (fi15.lm = 3) ∧ (fi15.rts = [4]) :=
  ⟨rfl, rfl, rfl, rfl⟩
theorem b15 : fi15.body = bodyOf Try.f15 := rfl
theorem d15 : drawsL 96 fi15.body = [some [false, false, false, false, false, false, true, false, false, false, false, false, false, false, false, false, false, false, false, false, false, false, false, false, false, false, false], some [false, false, false, false, false, false, false, false, false, false, false, false, false, false, false, false, false, false]] := by kernel_rfl
/-! 16: verderer/verdererref02.Equal -/
theorem x16 : (fi16.ntmps = 26) ∧ (fi16.results = [.tmp 4]) ∧ (fi16.lm = 3) ∧ (fi16.rts = [4]) :=
  ⟨rfl, rfl, rfl, rfl⟩
theorem b16 : fi16.body = bodyOf Try.f16 := rfl
theorem d16 : drawsL 26 fi16.body = [some [false, false, false, false, false, false, false, false, false]] := by kernel_rfl
/-! 17: verderer/verdererref02.Same -/
theorem x17 : (fi17.ntmps = 9) ∧ (fi17.results = [.tmp 4]) ∧ (fi17.lm = 3) ∧ (fi17.rts = [4]) :=
  ⟨rfl, rfl, rfl, rfl⟩
theorem b17 : fi17.body = bodyOf Try.f17 := rfl
/-! 18: verderer/verdererref13.Few -/
theorem x18 : (fi18.ntmps = 88) ∧ (fi18.results = [.tmp 2]) ∧ (fi18.lm = 3) ∧ (fi18.rts = [4]) :=
  ⟨rfl, rfl, rfl, rfl⟩
theorem b18 : fi18.body = bodyOf Try.f18 := rfl
/-! 20: verderer/explain.atoms -/
theorem x20 : (fi20.ntmps = 27) ∧ (fi20.results = [.tmp 2]) ∧ (fi20.lm = 3) ∧ (fi20.rts = [23]) :=
  ⟨rfl, rfl, rfl, rfl⟩
theorem b20 : fi20.body = bodyOf Try.f20 := rfl
/-! 21: verderer/explain.Why$1 -/
theorem x21 : (fi21.ntmps = 58) ∧ (fi21.results = [.tmp 6]) ∧ (fi21.lm = 3) ∧ (fi21.rts = [4]) :=
  ⟨rfl, rfl, rfl, rfl⟩
theorem b21 : fi21.body = bodyOf Try.f21 := rfl
theorem d21 : drawsL 58 fi21.body = [some [false, false, false, false, false, false, false, false, false, false], some [false, false, false, true, false, false, false]] := by kernel_rfl
/-! 22: verderer/row.Same -/
theorem x22 : (fi22.ntmps = 9) ∧ (fi22.results = [.tmp 4]) ∧ (fi22.lm = 3) ∧ (fi22.rts = [4]) :=
  ⟨rfl, rfl, rfl, rfl⟩
theorem b22 : fi22.body = bodyOf Try.f22 := rfl
/-! 23: verderer/explain.of -/
theorem x23 : (fi23.ntmps = 16) ∧ (fi23.results = [.tmp 4]) ∧ (fi23.lm = 3) ∧ (fi23.rts = [48]) :=
  ⟨rfl, rfl, rfl, rfl⟩
theorem b23 : fi23.body = bodyOf Try.f23 := rfl
/-! 24: verderer/row.Of -/
theorem x24 : (fi24.ntmps = 5) ∧ (fi24.results = [.tmp 2]) ∧ (fi24.lm = 3) ∧ (fi24.rts = [26]) :=
  ⟨rfl, rfl, rfl, rfl⟩
theorem b24 : fi24.body = bodyOf Try.f24 := rfl
/-! 25: verderer/verdererref37.try -/
theorem x25 : (fi25.ntmps = 82) ∧ (fi25.results = [.tmp 8, .tmp 9]) ∧ (fi25.lm = 3) ∧ (fi25.rts = [30, 4]) :=
  ⟨rfl, rfl, rfl, rfl⟩
theorem b25 : fi25.body = bodyOf Try.f25 := rfl
theorem d25 : drawsL 82 fi25.body = [some [false, false, false, false, false, false, false, false, false, false, true, false, false, false, false, false, false]] := by kernel_rfl
/-! 26: verderer/explain.bind -/
theorem x26 : (fi26.ntmps = 78) ∧ (fi26.results = [.tmp 4, .tmp 5]) ∧ (fi26.lm = 3) ∧ (fi26.rts = [64, 4]) :=
  ⟨rfl, rfl, rfl, rfl⟩
theorem b26 : fi26.body = bodyOf Try.f26 := rfl
theorem d26 : drawsL 78 fi26.body = [some [false, false, false, false, false, false, false, false, false], some [false, false, false, false, false, false, false, false, false, false, false]] := by kernel_rfl
/-! 27: verderer/verdererref37.bind -/
theorem x27 : (fi27.ntmps = 97) ∧ (fi27.results = [.cell 4 69, .tmp 5]) ∧ (fi27.lm = 3) ∧ (fi27.rts = [69, 4]) :=
  ⟨rfl, rfl, rfl, rfl⟩
theorem b27 : fi27.body = bodyOf Try.f27 := rfl
theorem d27 : drawsL 97 fi27.body = [some [false, false, false, false, false, false, false, false, false, false, false, false], some [false, false, false, false, false, false, false, false, false, false, false, false, false]] := by kernel_rfl
/-! 28: (verderer/verdererref37.Bound).find -/
theorem x28 : (fi28.ntmps = 34) ∧ (fi28.results = [.cell 4 56, .tmp 5]) ∧ (fi28.lm = 3) ∧ (fi28.rts = [56, 4]) :=
  ⟨rfl, rfl, rfl, rfl⟩
theorem b28 : fi28.body = bodyOf Try.f28 := rfl
/-! 29: (verderer/explain.bound).other -/
theorem x29 : (fi29.ntmps = 56) ∧ (fi29.results = [.tmp 6]) ∧ (fi29.lm = 3) ∧ (fi29.rts = [4]) :=
  ⟨rfl, rfl, rfl, rfl⟩
theorem b29 : fi29.body = bodyOf Try.f29 := rfl
theorem d29 : drawsL 56 fi29.body = [some [false, false, false, false, false, false, false, false, false, false, false, false, false, false, false]] := by kernel_rfl
/-! 30: (verderer/explain.bound).goes -/
theorem x30 : (fi30.ntmps = 42) ∧ (fi30.results = [.tmp 6]) ∧ (fi30.lm = 3) ∧ (fi30.rts = [4]) :=
  ⟨rfl, rfl, rfl, rfl⟩
theorem b30 : fi30.body = bodyOf Try.f30 := rfl
theorem d30 : drawsL 42 fi30.body = [some [false, false, false, false, false, false, false, false, false, false, false, false]] := by kernel_rfl
/-! 31: slices.ContainsFunc[[]verderer/api.Entry,verderer/api.Entry] -/
theorem x31 : (fi31.ntmps = 9) ∧ (fi31.results = [.tmp 4]) ∧ (fi31.lm = 3) ∧ (fi31.rts = [4]) :=
  ⟨rfl, rfl, rfl, rfl⟩
theorem b31 : fi31.body = bodyOf Try.f31 := rfl
/-! 32: verderer/explain.Holds$1 -/
theorem x32 : (fi32.ntmps = 8) ∧ (fi32.results = [.tmp 3]) ∧ (fi32.lm = 3) ∧ (fi32.rts = [4]) :=
  ⟨rfl, rfl, rfl, rfl⟩
theorem b32 : fi32.body = bodyOf Try.f32 := rfl
/-! 33: verderer/verdererref37.atoms -/
theorem x33 : (fi33.ntmps = 27) ∧ (fi33.results = [.tmp 2]) ∧ (fi33.lm = 3) ∧ (fi33.rts = [23]) :=
  ⟨rfl, rfl, rfl, rfl⟩
theorem b33 : fi33.body = bodyOf Try.f33 := rfl
/-! 34: verderer/verdererref37.has -/
theorem x34 : (fi34.ntmps = 19) ∧ (fi34.results = [.tmp 4]) ∧ (fi34.lm = 3) ∧ (fi34.rts = [4]) :=
  ⟨rfl, rfl, rfl, rfl⟩
theorem b34 : fi34.body = bodyOf Try.f34 := rfl
/-! 35: verderer/verdererref37.of -/
theorem x35 : (fi35.ntmps = 24) ∧ (fi35.results = [.tmp 4]) ∧ (fi35.lm = 3) ∧ (fi35.rts = [48]) :=
  ⟨rfl, rfl, rfl, rfl⟩
theorem b35 : fi35.body = bodyOf Try.f35 := rfl
/-! 36: (verderer/verdererref37.Bound).goes -/
theorem x36 : (fi36.ntmps = 51) ∧ (fi36.results = [.tmp 6]) ∧ (fi36.lm = 3) ∧ (fi36.rts = [4]) :=
  ⟨rfl, rfl, rfl, rfl⟩
theorem b36 : fi36.body = bodyOf Try.f36 := rfl
theorem d36 : drawsL 51 fi36.body = [some [false, false, false, false, false, true, false, false, false, false, false, false], some [false, false, false, false, false, false, false, false, false, false, false, false, false, false, false]] := by kernel_rfl
/-! 37: verderer/verdererref37.atom -/
theorem x37 : (fi37.ntmps = 11) ∧ (fi37.results = [.tmp 2]) ∧ (fi37.lm = 3) ∧ (fi37.rts = [4]) :=
  ⟨rfl, rfl, rfl, rfl⟩
theorem b37 : fi37.body = bodyOf Try.f37 := rfl
/-! 38: (verderer/verdererref37.Bound).literal -/
theorem x38 : (fi38.ntmps = 84) ∧ (fi38.results = [.tmp 6]) ∧ (fi38.lm = 3) ∧ (fi38.rts = [4]) :=
  ⟨rfl, rfl, rfl, rfl⟩
theorem b38 : fi38.body = bodyOf Try.f38 := rfl
theorem d38 : drawsL 84 fi38.body = [some [false, false, false, false, false, false, true, false, false, false, false, false, false], some [false, false, false, false, false, true, false, false, false, false, false, false], some [false, false, false, false, false, true, false, false, false, false, false, false], some [false, false, false, false, false, false, false, false, false]] := by kernel_rfl
/-! 39: verderer/verdererref02.Compare -/
theorem x39 : (fi39.ntmps = 41) ∧ (fi39.results = [.tmp 4]) ∧ (fi39.lm = 3) ∧ (fi39.rts = [3]) :=
  ⟨rfl, rfl, rfl, rfl⟩
theorem b39 : fi39.body = bodyOf Try.f39 := rfl
theorem d39 : drawsL 41 fi39.body = [some [false, false, false, false, false, false, false, false, false, false]] := by kernel_rfl
/-! 49: verderer/row.Compare -/
theorem x49 : (fi49.ntmps = 8) ∧ (fi49.results = [.tmp 4]) ∧ (fi49.lm = 3) ∧ (fi49.rts = [3]) :=
  ⟨rfl, rfl, rfl, rfl⟩
theorem b49 : fi49.body = bodyOf Try.f49 := rfl
/-! 50: slices.IndexFunc[[]verderer/eval.Rel,verderer/eval.Rel] -/
theorem x50 : (fi50.ntmps = 19) ∧ (fi50.results = [.tmp 4]) ∧ (fi50.lm = 3) ∧ (fi50.rts = [3]) :=
  ⟨rfl, rfl, rfl, rfl⟩
theorem b50 : fi50.body = bodyOf Try.f50 := rfl
/-! 51: verderer/explain.of$1 -/
theorem x51 : (fi51.ntmps = 8) ∧ (fi51.results = [.tmp 3]) ∧ (fi51.lm = 3) ∧ (fi51.rts = [4]) :=
  ⟨rfl, rfl, rfl, rfl⟩
theorem b51 : fi51.body = bodyOf Try.f51 := rfl
/-! 52: slices.Clone[[]verderer/api.Value,verderer/api.Value] -/
theorem x52 : (fi52.ntmps = 8) ∧ (fi52.results = [.tmp 2]) ∧ (fi52.lm = 3) ∧ (fi52.rts = [26]) :=
  ⟨rfl, rfl, rfl, rfl⟩
theorem b52 : fi52.body = bodyOf Try.f52 := rfl
/-! 53: (verderer/explain.bound).term -/
theorem x53 : (fi53.ntmps = 27) ∧ (fi53.results = [.cell 4 56, .tmp 5]) ∧ (fi53.lm = 3) ∧ (fi53.rts = [56, 4]) :=
  ⟨rfl, rfl, rfl, rfl⟩
theorem b53 : fi53.body = bodyOf Try.f53 := rfl
/-! 54: verderer/value.Test -/
theorem x54 : (fi54.ntmps = 47) ∧ (fi54.results = [.tmp 6]) ∧ (fi54.lm = 3) ∧ (fi54.rts = [4]) :=
  ⟨rfl, rfl, rfl, rfl⟩
theorem b54 : fi54.body = bodyOf Try.f54 := rfl
/-! 55: (verderer/explain.bound).other$1 -/
theorem x55 : (fi55.ntmps = 11) ∧ (fi55.results = [.tmp 4]) ∧ (fi55.lm = 3) ∧ (fi55.rts = [4]) :=
  ⟨rfl, rfl, rfl, rfl⟩
theorem b55 : fi55.body = bodyOf Try.f55 := rfl
/-! 56: verderer/value.Compare -/
theorem x56 : (fi56.ntmps = 40) ∧ (fi56.results = [.tmp 4]) ∧ (fi56.lm = 3) ∧ (fi56.rts = [3]) :=
  ⟨rfl, rfl, rfl, rfl⟩
theorem b56 : fi56.body = bodyOf Try.f56 := rfl
theorem d56 : drawsL 40 fi56.body = [some [false, false, true, false, false, false, false, false]] := by kernel_rfl
/-! 57: slices.IndexFunc[[]verderer/api.Entry,verderer/api.Entry] -/
theorem x57 : (fi57.ntmps = 19) ∧ (fi57.results = [.tmp 4]) ∧ (fi57.lm = 3) ∧ (fi57.rts = [3]) :=
  ⟨rfl, rfl, rfl, rfl⟩
theorem b57 : fi57.body = bodyOf Try.f57 := rfl
/-! 58: (verderer/verdererref37.Bound).term -/
theorem x58 : (fi58.ntmps = 20) ∧ (fi58.results = [.cell 4 56, .tmp 5]) ∧ (fi58.lm = 3) ∧ (fi58.rts = [56, 4]) :=
  ⟨rfl, rfl, rfl, rfl⟩
theorem b58 : fi58.body = bodyOf Try.f58 := rfl
/-! 59: verderer/verdererref01.Compare -/
theorem x59 : (fi59.ntmps = 46) ∧ (fi59.results = [.tmp 4]) ∧ (fi59.lm = 3) ∧ (fi59.rts = [3]) :=
  ⟨rfl, rfl, rfl, rfl⟩
theorem b59 : fi59.body = bodyOf Try.f59 := rfl
/-! 60: verderer/verdererref01.Test -/
theorem x60 : (fi60.ntmps = 36) ∧ (fi60.results = [.tmp 6]) ∧ (fi60.lm = 3) ∧ (fi60.rts = [4]) :=
  ⟨rfl, rfl, rfl, rfl⟩
theorem b60 : fi60.body = bodyOf Try.f60 := rfl
/-! 67: slices.CompareFunc[[]verderer/api.Value,[]verderer/api.Value,verderer/api.Value,verderer/api.Value] -/
theorem x67 : (fi67.ntmps = 39) ∧ (fi67.results = [.tmp 6]) ∧ (fi67.lm = 3) ∧ (fi67.rts = [3]) :=
  ⟨rfl, rfl, rfl, rfl⟩
theorem b67 : fi67.body = bodyOf Try.f67 := rfl
/-! 68: verderer/value.Null -/
theorem x68 : (fi68.ntmps = 2) ∧ (fi68.results = [.cell 0 56]) ∧ (fi68.lm = 3) ∧ (fi68.rts = [56]) :=
  ⟨rfl, rfl, rfl, rfl⟩
theorem b68 : fi68.body = bodyOf Try.f68 := rfl
/-! 69: cmp.Compare[int] -/
theorem x69 : (fi69.ntmps = 20) ∧ (fi69.results = [.tmp 4]) ∧ (fi69.lm = 3) ∧ (fi69.rts = [3]) :=
  ⟨rfl, rfl, rfl, rfl⟩
theorem b69 : fi69.body = bodyOf Try.f69 := rfl
/-! 70: verderer/value.truth -/
theorem x70 : (fi70.ntmps = 4) ∧ (fi70.results = [.tmp 2]) ∧ (fi70.lm = 3) ∧ (fi70.rts = [3]) :=
  ⟨rfl, rfl, rfl, rfl⟩
theorem b70 : fi70.body = bodyOf Try.f70 := rfl
/-! 71: cmp.Compare[int64] -/
theorem x71 : (fi71.ntmps = 20) ∧ (fi71.results = [.tmp 4]) ∧ (fi71.lm = 3) ∧ (fi71.rts = [3]) :=
  ⟨rfl, rfl, rfl, rfl⟩
theorem b71 : fi71.body = bodyOf Try.f71 := rfl
/-! 72: strings.Compare -/
theorem x72 : (fi72.ntmps = 8) ∧ (fi72.results = [.tmp 4]) ∧ (fi72.lm = 3) ∧ (fi72.rts = [3]) :=
  ⟨rfl, rfl, rfl, rfl⟩
theorem b72 : fi72.body = bodyOf Try.f72 := rfl
/-! 73: verderer/verdererref01.Text -/
theorem x73 : (fi73.ntmps = 42) ∧ (fi73.results = [.tmp 4]) ∧ (fi73.lm = 3) ∧ (fi73.rts = [3]) :=
  ⟨rfl, rfl, rfl, rfl⟩
theorem b73 : fi73.body = bodyOf Try.f73 := rfl
theorem d73 : drawsL 42 fi73.body = [some [false, false, false, false, false, false, false], some [false, false, false, false, false, false, false]] := by kernel_rfl
/-! 86: cmp.isNaN[int] -/
theorem x86 : (fi86.ntmps = 6) ∧ (fi86.results = [.tmp 2]) ∧ (fi86.lm = 3) ∧ (fi86.rts = [4]) :=
  ⟨rfl, rfl, rfl, rfl⟩
theorem b86 : fi86.body = bodyOf Try.f86 := rfl
/-! 87: cmp.isNaN[int64] -/
theorem x87 : (fi87.ntmps = 6) ∧ (fi87.results = [.tmp 2]) ∧ (fi87.lm = 3) ∧ (fi87.rts = [4]) :=
  ⟨rfl, rfl, rfl, rfl⟩
theorem b87 : fi87.body = bodyOf Try.f87 := rfl
/-! 88: internal/bytealg.CompareString -/
theorem x88 : (fi88.ntmps = 8) ∧ (fi88.results = [.tmp 4]) ∧ (fi88.lm = 3) ∧ (fi88.rts = [3]) :=
  ⟨rfl, rfl, rfl, rfl⟩
theorem b88 : fi88.body = bodyOf Try.f88 := rfl
end Go.Proofs.Ytpehpccahbofiaa.Ev
