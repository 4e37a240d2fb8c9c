import Derived.Test.YtancionamhenmaaGreatEvA
import Derived.Test.YtancionamhenmaaGreatProg
import Derived.KernelRfl
set_option linter.all false
set_option maxRecDepth 100000
namespace Go.Proofs.YtancionamhenmaaGreat.Tab
open Go Go.Proofs.YtancionamhenmaaGreat.Ev Go.Proofs Go.Proofs.YtancionamhenmaaGreat
noncomputable def fi3 : FI := ⟨bodyOf Tryz.f3, 109, [.tmp 8], 3, false, false, none, [3, 3, 22, 23], [4]⟩
noncomputable def fi4 : FI := ⟨bodyOf Tryz.f4, 73, [.tmp 2], 3, true, false, none, [23], [4]⟩
noncomputable def fi5 : FI := ⟨bodyOf Tryz.f5, 70, [.tmp 0], 1, true, false, none, [], [4]⟩
noncomputable def fi6 : FI := ⟨bodyOf Tryz.f6, 55, [.tmp 6, .tmp 7], 3, false, false, none, [3, 3, 22], [26, 27]⟩
noncomputable def fi13 : FI := ⟨bodyOf Tryz.f13, 31, [.tmp 4, .tmp 5], 1, false, false, none, [3, 48], [51, 27]⟩
noncomputable def fi28 : FI := ⟨bodyOf Tryz.f28, 11, [.tmp 3], 3, false, false, none, [3, 1000003], [4]⟩
noncomputable def fi27 : FI := ⟨bodyOf Tryz.f27, 9, [.tmp 4], 3, false, false, none, [48, 76], [4]⟩
noncomputable def fi53 : FI := ⟨bodyOf Tryz.f53, 19, [.tmp 4], 3, false, false, none, [48, 76], [3]⟩
noncomputable def fi29 : FI := ⟨bodyOf Tryz.f29, 11, [.tmp 2, .tmp 3], 3, false, false, none, [48], [77, 27]⟩
noncomputable def fi54 : FI := ⟨bodyOf Tryz.f54, 9, [.tmp 2], 3, false, false, none, [3], [4]⟩
noncomputable def fi55 : FI := ⟨bodyOf Tryz.f55, 8, [.tmp 2], 3, true, false, some 0, [48], [48]⟩
noncomputable def fi14 : FI := ⟨bodyOf Tryz.f14, 3, [.tmp 0], 3, false, false, none, [], [54]⟩
noncomputable def fi8 : FI := ⟨bodyOf Tryz.f8, 106, [.tmp 6, .tmp 7], 1, false, false, none, [26, 33, 33], [33, 27]⟩
noncomputable def fi15 : FI := ⟨bodyOf Tryz.f15, 14, [.tmp 2, .tmp 3], 3, true, false, none, [33], [33, 27]⟩
noncomputable def fi30 : FI := ⟨bodyOf Tryz.f30, 26, [.tmp 2, .tmp 3], 3, false, false, none, [33], [54, 27]⟩
noncomputable def fi36 : FI := ⟨bodyOf Tryz.f36, 88, [.tmp 6], 3, false, false, none, [54, 43, 2], [27]⟩
noncomputable def fi58 : FI := ⟨bodyOf Tryz.f58, 11, [.tmp 2], 3, true, false, none, [43], [4]⟩
noncomputable def fi78 : FI := ⟨bodyOf Tryz.f78, 9, [.tmp 4], 3, false, true, none, [43, 136], [4]⟩
noncomputable def fi91 : FI := ⟨bodyOf Tryz.f91, 19, [.tmp 4], 3, false, true, none, [43, 136], [3]⟩
noncomputable def fi79 : FI := ⟨bodyOf Tryz.f79, 6, [.tmp 2], 3, false, false, none, [47], [4]⟩
noncomputable def fi80 : FI := ⟨bodyOf Tryz.f80, 37, [.tmp 2], 3, true, false, none, [47], [4]⟩
noncomputable def fi92 : FI := ⟨bodyOf Tryz.f92, 2, [.cell 0 47], 3, true, false, none, [], [47]⟩
noncomputable def fi93 : FI := ⟨bodyOf Tryz.f93, 5, [.cell 2 47], 3, true, false, none, [4], [47]⟩
noncomputable def fi94 : FI := ⟨bodyOf Tryz.f94, 5, [.cell 2 47], 3, true, false, none, [2], [47]⟩
noncomputable def fi95 : FI := ⟨bodyOf Tryz.f95, 5, [.cell 2 47], 3, true, false, none, [9], [47]⟩
noncomputable def fi45 : FI := ⟨bodyOf Tryz.f45, 25, [.tmp 6, .tmp 7], 3, false, false, none, [54, 43, 2], [2, 4]⟩
noncomputable def fi34 : FI := ⟨bodyOf Tryz.f34, 21, [.tmp 4], 3, false, false, none, [54, 43], [2]⟩
noncomputable def fi57 : FI := ⟨bodyOf Tryz.f57, 30, [.tmp 4], 3, false, false, none, [82, 43], [82]⟩
noncomputable def fi66 : FI := ⟨bodyOf Tryz.f66, 8, [.tmp 4], 3, false, true, none, [43, 43], [3]⟩
noncomputable def fi86 : FI := ⟨bodyOf Tryz.f86, 39, [.tmp 6], 3, false, true, none, [43, 43, 108], [3]⟩
noncomputable def fi87 : FI := ⟨bodyOf Tryz.f87, 40, [.tmp 4], 3, true, false, none, [47, 47], [3]⟩
noncomputable def fi102 : FI := ⟨bodyOf Tryz.f102, 20, [.tmp 4], 3, true, false, none, [3, 3], [3]⟩
noncomputable def fi108 : FI := ⟨bodyOf Tryz.f108, 6, [.tmp 2], 3, true, false, none, [3], [4]⟩
noncomputable def fi103 : FI := ⟨bodyOf Tryz.f103, 4, [.tmp 2], 3, true, false, none, [4], [3]⟩
noncomputable def fi104 : FI := ⟨bodyOf Tryz.f104, 20, [.tmp 4], 3, true, false, none, [2, 2], [3]⟩
noncomputable def fi109 : FI := ⟨bodyOf Tryz.f109, 6, [.tmp 2], 3, true, false, none, [2], [4]⟩
noncomputable def fi105 : FI := ⟨bodyOf Tryz.f105, 8, [.tmp 4], 3, true, false, none, [9, 9], [3]⟩
noncomputable def fi110 : FI := ⟨bodyOf Tryz.f110, 8, [.tmp 4], 3, true, false, none, [9, 9], [3]⟩
theorem nok112 : NatOk Tryz.prog 112 1 := ⟨Tryz.f112, Tryz.func112, by kernel_rfl, by kernel_rfl, by kernel_rfl, by kernel_rfl⟩
noncomputable def fi44 : FI := ⟨bodyOf Tryz.f44, 9, [.tmp 2], 3, false, true, none, [2], [4]⟩
noncomputable def fi47 : FI := ⟨bodyOf Tryz.f47, 8, [.tmp 2], 3, true, false, some 0, [43], [43]⟩
noncomputable def fi59 : FI := ⟨bodyOf Tryz.f59, 41, [.tmp 4], 3, false, false, none, [82, 45], [82]⟩
noncomputable def fi81 : FI := ⟨bodyOf Tryz.f81, 47, [.tmp 2], 3, false, false, none, [82], [82]⟩
noncomputable def fi96 : FI := ⟨bodyOf Tryz.f96, 17, [], 3, false, false, none, [82], []⟩
noncomputable def fi106 : FI := ⟨bodyOf Tryz.f106, 9, [.tmp 2], 3, false, false, none, [82], [3]⟩
noncomputable def fi97 : FI := ⟨bodyOf Tryz.f97, 14, [.tmp 2], 3, false, false, none, [82], [3]⟩
noncomputable def fi98 : FI := ⟨bodyOf Tryz.f98, 24, [.tmp 2], 3, false, false, none, [82], [82]⟩
noncomputable def fi99 : FI := ⟨bodyOf Tryz.f99, 24, [.tmp 2], 3, false, false, none, [82], [82]⟩
noncomputable def fi60 : FI := ⟨bodyOf Tryz.f60, 83, [.tmp 4], 3, false, false, none, [82, 43], [82]⟩
noncomputable def fi82 : FI := ⟨bodyOf Tryz.f82, 13, [.tmp 2], 3, false, false, none, [82], [82]⟩
noncomputable def fi22 : FI := ⟨bodyOf Tryz.f22, 29, [.tmp 2], 3, false, false, none, [54], [33]⟩
noncomputable def fi46 : FI := ⟨bodyOf Tryz.f46, 4, [.tmp 2], 3, false, false, none, [82], [99]⟩
noncomputable def fi69 : FI := ⟨bodyOf Tryz.f69, 6, [], 3, false, false, none, [128, 1000082], []⟩
noncomputable def fi70 : FI := ⟨bodyOf Tryz.f70, 28, [.tmp 4], 3, false, false, none, [82, 128], [4]⟩
noncomputable def fi16 : FI := ⟨bodyOf Tryz.f16, 8, [.tmp 4], 3, false, false, none, [51, 33], [4]⟩
noncomputable def fi32 : FI := ⟨bodyOf Tryz.f32, 12, [.tmp 3], 3, false, false, none, [45, 1000051], [4]⟩
noncomputable def fi31 : FI := ⟨bodyOf Tryz.f31, 9, [.tmp 4], 3, false, false, none, [33, 87], [4]⟩
noncomputable def fi56 : FI := ⟨bodyOf Tryz.f56, 19, [.tmp 4], 3, false, false, none, [33, 87], [3]⟩
noncomputable def fi17 : FI := ⟨bodyOf Tryz.f17, 8, [.tmp 4], 3, false, false, none, [51, 33], [4]⟩
noncomputable def fi33 : FI := ⟨bodyOf Tryz.f33, 21, [.tmp 3], 3, false, false, none, [45, 1000051], [4]⟩
noncomputable def fi18 : FI := ⟨bodyOf Tryz.f18, 10, [.tmp 4], 3, false, false, none, [51, 33], [1]⟩
noncomputable def fi35 : FI := ⟨bodyOf Tryz.f35, 35, [], 3, false, false, none, [2, 1000033, 1000051], []⟩
noncomputable def fi37 : FI := ⟨bodyOf Tryz.f37, 81, [.tmp 6], 3, false, false, none, [77, 43, 2], [27]⟩
noncomputable def fi61 : FI := ⟨bodyOf Tryz.f61, 35, [.tmp 4, .tmp 5], 3, true, true, none, [43, 48], [43, 27]⟩
noncomputable def fi62 : FI := ⟨bodyOf Tryz.f62, 24, [.tmp 2], 3, true, false, none, [43], [120]⟩
noncomputable def fi83 : FI := ⟨bodyOf Tryz.f83, 66, [.tmp 2], 3, true, false, none, [47], [120]⟩
noncomputable def fi39 : FI := ⟨bodyOf Tryz.f39, 9, [.tmp 2], 3, false, false, none, [54], [3]⟩
noncomputable def fi38 : FI := ⟨bodyOf Tryz.f38, 3, [], 3, false, false, none, [1000090], []⟩
noncomputable def fi20 : FI := ⟨bodyOf Tryz.f20, 61, [.tmp 6], 3, false, false, none, [26, 33, 33], [68]⟩
noncomputable def fi42 : FI := ⟨bodyOf Tryz.f42, 17, [.tmp 4], 3, false, false, none, [51, 43], [43]⟩
noncomputable def fi41 : FI := ⟨bodyOf Tryz.f41, 9, [.tmp 4], 3, false, false, none, [77, 43], [33]⟩
noncomputable def fi63 : FI := ⟨bodyOf Tryz.f63, 45, [.tmp 4], 3, false, false, none, [77, 43], [54]⟩
noncomputable def fi84 : FI := ⟨bodyOf Tryz.f84, 24, [.cell 2 47], 3, true, false, none, [47], [47]⟩
noncomputable def fi43 : FI := ⟨bodyOf Tryz.f43, 10, [.tmp 2], 4, true, false, some 0, [68], [68]⟩
noncomputable def fi64 : FI := ⟨bodyOf Tryz.f64, 8, [.tmp 2], 4, false, false, none, [68], [68]⟩
noncomputable def fi65 : FI := ⟨bodyOf Tryz.f65, 9, [], 4, false, false, none, [68, 126], []⟩
noncomputable def fi85 : FI := ⟨bodyOf Tryz.f85, 63, [], 4, false, false, none, [68, 3, 126], []⟩
noncomputable def fi100 : FI := ⟨bodyOf Tryz.f100, 53, [], 4, false, false, none, [68, 3, 3, 126], []⟩
noncomputable def fi101 : FI := ⟨bodyOf Tryz.f101, 220, [], 4, false, false, none, [68, 3, 3, 3, 126], []⟩
noncomputable def fi107 : FI := ⟨bodyOf Tryz.f107, 58, [], 4, false, false, none, [68, 3, 3, 3, 126], []⟩
noncomputable def fi111 : FI := ⟨bodyOf Tryz.f111, 38, [], 4, false, false, none, [68, 3, 3, 3, 126], []⟩
noncomputable def fi67 : FI := ⟨bodyOf Tryz.f67, 66, [.tmp 4], 4, false, false, none, [68, 73], [68]⟩
noncomputable def fi68 : FI := ⟨bodyOf Tryz.f68, 9, [.tmp 4], 3, true, false, none, [43, 43], [4]⟩
noncomputable def fi19 : FI := ⟨bodyOf Tryz.f19, 59, [.tmp 4, .tmp 5], 3, false, false, none, [26, 68], [54, 27]⟩
noncomputable def fi40 : FI := ⟨bodyOf Tryz.f40, 30, [.tmp 4], 3, false, false, none, [26, 43], [2]⟩
noncomputable def fi21 : FI := ⟨bodyOf Tryz.f21, 62, [.tmp 6], 3, false, false, none, [54, 54, 2], [27]⟩
noncomputable def fi11 : FI := ⟨bodyOf Tryz.f11, 10, [.tmp 2], 3, false, false, none, [26], [33]⟩
noncomputable def fi7 : FI := ⟨bodyOf Tryz.f7, 66, [.tmp 6, .tmp 7], 3, false, false, none, [3, 3, 22], [30, 27]⟩
noncomputable def fi9 : FI := ⟨bodyOf Tryz.f9, 37, [.tmp 6, .tmp 7], 3, false, false, none, [30, 33, 33], [33, 27]⟩
noncomputable def fi23 : FI := ⟨bodyOf Tryz.f23, 89, [.tmp 6, .tmp 7], 3, false, false, none, [30, 33, 33], [30, 27]⟩
noncomputable def fi48 : FI := ⟨bodyOf Tryz.f48, 18, [.tmp 2, .tmp 3], 3, true, false, none, [33], [33, 27]⟩
noncomputable def fi71 : FI := ⟨bodyOf Tryz.f71, 31, [.tmp 2, .tmp 3], 3, false, false, none, [33], [105, 27]⟩
noncomputable def fi51 : FI := ⟨bodyOf Tryz.f51, 85, [.tmp 6], 3, false, false, none, [105, 43, 2], [27]⟩
noncomputable def fi74 : FI := ⟨bodyOf Tryz.f74, 19, [.tmp 2], 3, true, false, none, [43], [4]⟩
noncomputable def fi88 : FI := ⟨bodyOf Tryz.f88, 44, [.tmp 2], 3, true, false, none, [47], [4]⟩
noncomputable def fi73 : FI := ⟨bodyOf Tryz.f73, 23, [.tmp 4], 3, false, false, none, [105, 43], [2]⟩
noncomputable def fi76 : FI := ⟨bodyOf Tryz.f76, 49, [.tmp 4, .tmp 5], 3, false, false, none, [105, 43], [3, 4]⟩
noncomputable def fi89 : FI := ⟨bodyOf Tryz.f89, 41, [.tmp 4], 3, true, true, none, [43, 43], [3]⟩
noncomputable def fi52 : FI := ⟨bodyOf Tryz.f52, 46, [.tmp 4], 3, true, false, none, [47, 47], [3]⟩
noncomputable def fi77 : FI := ⟨bodyOf Tryz.f77, 42, [.tmp 4], 3, true, false, none, [9, 9], [3]⟩
noncomputable def fi90 : FI := ⟨bodyOf Tryz.f90, 9, [.tmp 4], 3, true, true, none, [43, 43], [4]⟩
noncomputable def fi75 : FI := ⟨bodyOf Tryz.f75, 9, [.tmp 2], 3, false, false, none, [2], [4]⟩
noncomputable def fi49 : FI := ⟨bodyOf Tryz.f49, 20, [.tmp 4], 3, true, false, none, [33, 3], [4]⟩
noncomputable def fi50 : FI := ⟨bodyOf Tryz.f50, 47, [.tmp 4, .tmp 5], 3, false, false, none, [59, 33], [105, 27]⟩
noncomputable def fi72 : FI := ⟨bodyOf Tryz.f72, 19, [.tmp 2], 3, false, false, none, [105], [105]⟩
noncomputable def fi12 : FI := ⟨bodyOf Tryz.f12, 67, [.tmp 2], 3, false, false, none, [30], [33]⟩
noncomputable def fi26 : FI := ⟨bodyOf Tryz.f26, 55, [.tmp 6], 3, true, false, none, [43, 43, 22], [4]⟩
noncomputable def fi24 : FI := ⟨bodyOf Tryz.f24, 51, [.tmp 4], 3, true, false, none, [33, 33], [33]⟩
noncomputable def fi10 : FI := ⟨bodyOf Tryz.f10, 42, [.tmp 4], 3, true, false, none, [33, 33], [4]⟩
noncomputable def fi25 : FI := ⟨bodyOf Tryz.f25, 26, [.tmp 4], 3, true, false, none, [43, 43], [4]⟩
theorem fk {P : Program} {n : Nat} {i : FI} {f : Func} (h : P.funcs[n]? = some f) (h1 : f.body = some i.body := by rfl) (h2 : f.ntmps = i.ntmps := by rfl) (h3 : f.results.toList = i.results := by rfl) (h4 : f.name ≠ "runtime.NumGoroutine" := by decide) : FnOk P n i := ⟨f, h, h1, h2, h3, h4⟩
noncomputable def tab : Tab := ⟨(.nd none (.nd (some ⟨.func #[] #[] false, 1, 8, (.lit .nilFunc), true, false⟩) (.nd (some ⟨.int .i64, 1, 8, (.lit (.int .i64 (0))), true, true⟩) (.nd none (.nd none .lf (.nd (some ⟨.struct #[⟨ "Kind", 3, 0, false, "", "", 0⟩, ⟨ "Flag", 4, 1, false, "", "", 8⟩, ⟨ "Int", 2, 2, false, "", "", 16⟩, ⟨ "Text", 9, 3, false, "", "", 24⟩], 4, 40, (.agg [(.lit (.int .i64 (0))), (.lit (.bool false)), (.lit (.int .i64 (0))), (.str [])]), true, true⟩) .lf (.nd (some ⟨.map 9 54, 1, 8, (.lit (.map none)), true, false⟩) .lf .lf))) (.nd (some ⟨.slice 37, 1, 24, (.lit (.slice none 0 0)), true, false⟩) .lf .lf)) (.nd none (.nd none .lf (.nd (some ⟨.pointer 81, 1, 8, (.lit (.pointer none)), true, true⟩) (.nd (some ⟨.struct #[⟨ "root", 82, 0, false, "", "verderer/bag", 0⟩, ⟨ "many", 3, 1, false, "", "verderer/bag", 8⟩], 2, 16, (.agg [(.lit (.pointer none)), (.lit (.int .i64 (0)))]), true, true⟩) (.nd (some ⟨.int .u64, 1, 8, (.lit (.int .u64 (0))), true, true⟩) .lf .lf) .lf) .lf)) (.nd (some ⟨.int .i64, 1, 8, (.lit (.int .i64 (0))), true, true⟩) (.nd (some ⟨.slice 47, 1, 24, (.lit (.slice none 0 0)), true, false⟩) .lf .lf) (.nd (some ⟨.struct #[⟨ "L", 33, 0, false, "", "", 0⟩], 1, 24, (.agg [(.lit (.slice none 0 0))]), true, false⟩) .lf .lf)))) (.nd (some ⟨.int .u8, 1, 1, (.lit (.int .u8 (0))), true, true⟩) (.nd (some ⟨.string, 1, 16, (.str []), true, true⟩) (.nd none (.nd (some ⟨.slice 45, 1, 24, (.lit (.slice none 0 0)), true, false⟩) (.nd (some ⟨.slice 1, 1, 24, (.lit (.slice none 0 0)), true, false⟩) .lf .lf) .lf) (.nd (some ⟨.struct #[⟨ "Left", 3, 0, false, "", "", 0⟩, ⟨ "Right", 3, 1, false, "", "", 8⟩], 2, 16, (.agg [(.lit (.int .i64 (0))), (.lit (.int .i64 (0)))]), true, true⟩) (.nd (some ⟨.struct #[⟨ "wide", 3, 0, false, "", "verderer/miss", 0⟩, ⟨ "cols", 48, 1, false, "", "verderer/miss", 8⟩, ⟨ "rows", 54, 2, false, "", "verderer/miss", 32⟩, ⟨ "by", 77, 3, false, "", "verderer/miss", 40⟩], 4, 48, (.agg [(.lit (.int .i64 (0))), (.lit (.slice none 0 0)), (.lit (.pointer none)), (.lit (.pointer none))]), true, false⟩) .lf .lf) (.nd (some ⟨.struct #[⟨ "cols", 48, 0, false, "", "verderer/index", 0⟩, ⟨ "bags", 111, 1, false, "", "verderer/index", 24⟩, ⟨ "many", 3, 2, false, "", "verderer/index", 32⟩], 3, 40, (.agg [(.lit (.slice none 0 0)), (.lit (.map none)), (.lit (.int .i64 (0)))]), true, false⟩) .lf .lf))) (.nd none (.nd none .lf (.nd (some ⟨.pointer 59, 1, 8, (.lit (.pointer none)), true, true⟩) .lf .lf)) (.nd (some ⟨.struct #[⟨ "left", 51, 0, false, "", "verderer/miss", 0⟩, ⟨ "right", 51, 1, false, "", "verderer/miss", 8⟩, ⟨ "told", 54, 2, false, "", "verderer/miss", 16⟩], 3, 24, (.agg [(.lit (.pointer none)), (.lit (.pointer none)), (.lit (.pointer none))]), true, true⟩) (.nd none (.nd (some ⟨.int .u64, 1, 8, (.lit (.int .u64 (0))), true, true⟩) .lf .lf) .lf) .lf))) (.nd none (.nd none (.nd (some ⟨.struct #[⟨ "Left", 33, 0, false, "", "", 0⟩, ⟨ "Right", 33, 1, false, "", "", 24⟩], 2, 48, (.agg [(.lit (.slice none 0 0)), (.lit (.slice none 0 0))]), true, false⟩) .lf (.nd (some ⟨.struct #[⟨ "Entry", 45, 0, true, "", "", 0⟩, ⟨ "left", 82, 2, false, "", "verderer/bag", 32⟩, ⟨ "right", 82, 3, false, "", "verderer/bag", 40⟩, ⟨ "high", 3, 4, false, "", "verderer/bag", 48⟩], 5, 56, (.agg [(.lit (.slice none 0 0)), (.lit (.int .i64 (0))), (.lit (.pointer none)), (.lit (.pointer none)), (.lit (.int .i64 (0)))]), true, false⟩) .lf .lf)) .lf) (.nd none (.nd (some ⟨.struct #[⟨ "Row", 43, 0, false, "", "", 0⟩, ⟨ "Many", 2, 1, false, "", "", 24⟩], 2, 32, (.agg [(.lit (.slice none 0 0)), (.lit (.int .i64 (0)))]), true, false⟩) (.nd (some ⟨.pointer 113, 1, 8, (.lit (.pointer none)), true, true⟩) .lf .lf) .lf) (.nd (some ⟨.struct #[⟨ "A", 3, 0, false, "", "", 0⟩, ⟨ "B", 3, 1, false, "", "", 8⟩, ⟨ "L", 22, 2, false, "", "", 16⟩, ⟨ "Left", 59, 3, false, "", "", 40⟩, ⟨ "Right", 59, 4, false, "", "", 64⟩], 5, 88, (.agg [(.lit (.int .i64 (0))), (.lit (.int .i64 (0))), (.lit (.slice none 0 0)), (.lit (.slice none 0 0)), (.lit (.slice none 0 0))]), true, false⟩) .lf .lf))))) (.nd (some ⟨.int .i64, 1, 8, (.lit (.int .i64 (0))), true, true⟩) (.nd (some ⟨.bool, 1, 1, (.lit (.bool false)), true, true⟩) (.nd (some ⟨.struct #[⟨ "x", 2, 0, false, "", "runtime", 0⟩, ⟨ "y", 3, 1, false, "", "runtime", 8⟩, ⟨ "signed", 4, 2, false, "", "runtime", 16⟩, ⟨ "code", 6, 3, false, "", "runtime", 17⟩], 4, 24, (.agg [(.lit (.int .i64 (0))), (.lit (.int .i64 (0))), (.lit (.bool false)), (.lit (.int .u8 (0)))]), true, true⟩) (.nd none (.nd (some ⟨.func #[3, 3, 22] #[30, 27] false, 1, 8, (.lit .nilFunc), true, false⟩) (.nd (some ⟨.func #[33] #[1] false, 1, 8, (.lit .nilFunc), true, false⟩) .lf .lf) .lf) (.nd (some ⟨.slice 3, 1, 24, (.lit (.slice none 0 0)), true, false⟩) (.nd (some ⟨.struct #[⟨ "wide", 3, 0, false, "", "verderer/miss", 0⟩, ⟨ "cols", 48, 1, false, "", "verderer/miss", 8⟩, ⟨ "rows", 54, 2, false, "", "verderer/miss", 32⟩, ⟨ "by", 77, 3, false, "", "verderer/miss", 40⟩], 4, 48, (.agg [(.lit (.int .i64 (0))), (.lit (.slice none 0 0)), (.lit (.pointer none)), (.lit (.pointer none))]), true, false⟩) .lf .lf) (.nd (some ⟨.struct #[⟨ "cols", 48, 0, false, "", "verderer/index", 0⟩, ⟨ "bags", 111, 1, false, "", "verderer/index", 24⟩, ⟨ "many", 3, 2, false, "", "verderer/index", 32⟩], 3, 40, (.agg [(.lit (.slice none 0 0)), (.lit (.map none)), (.lit (.int .i64 (0)))]), true, false⟩) .lf .lf))) (.nd none .lf (.nd (some ⟨.struct #[⟨ "left", 51, 0, false, "", "verderer/miss", 0⟩, ⟨ "right", 51, 1, false, "", "verderer/miss", 8⟩, ⟨ "told", 54, 2, false, "", "verderer/miss", 16⟩], 3, 24, (.agg [(.lit (.pointer none)), (.lit (.pointer none)), (.lit (.pointer none))]), true, true⟩) .lf (.nd (some ⟨.slice 5, 1, 24, (.lit (.slice none 0 0)), true, false⟩) .lf .lf)))) (.nd none (.nd none (.nd (some ⟨.struct #[⟨ "Left", 33, 0, false, "", "", 0⟩, ⟨ "Right", 33, 1, false, "", "", 24⟩], 2, 48, (.agg [(.lit (.slice none 0 0)), (.lit (.slice none 0 0))]), true, false⟩) (.nd (some ⟨.slice 43, 1, 24, (.lit (.slice none 0 0)), true, false⟩) .lf .lf) .lf) (.nd none (.nd (some ⟨.struct #[⟨ "root", 82, 0, false, "", "verderer/bag", 0⟩, ⟨ "many", 3, 1, false, "", "verderer/bag", 8⟩], 2, 16, (.agg [(.lit (.pointer none)), (.lit (.int .i64 (0)))]), true, true⟩) .lf .lf) .lf)) (.nd none (.nd (some ⟨.struct #[⟨ "Row", 43, 0, false, "", "", 0⟩, ⟨ "Many", 2, 1, false, "", "", 24⟩], 2, 32, (.agg [(.lit (.slice none 0 0)), (.lit (.int .i64 (0)))]), true, false⟩) .lf .lf) (.nd (some ⟨.struct #[⟨ "A", 3, 0, false, "", "", 0⟩, ⟨ "B", 3, 1, false, "", "", 8⟩, ⟨ "L", 22, 2, false, "", "", 16⟩, ⟨ "Left", 59, 3, false, "", "", 40⟩, ⟨ "Right", 59, 4, false, "", "", 64⟩], 5, 88, (.agg [(.lit (.int .i64 (0))), (.lit (.int .i64 (0))), (.lit (.slice none 0 0)), (.lit (.slice none 0 0)), (.lit (.slice none 0 0))]), true, false⟩) .lf .lf)))) (.nd (some ⟨.int .u8, 1, 1, (.lit (.int .u8 (0))), true, true⟩) (.nd none (.nd none .lf (.nd (some ⟨.struct #[⟨ "Left", 3, 0, false, "", "", 0⟩, ⟨ "Right", 3, 1, false, "", "", 8⟩], 2, 16, (.agg [(.lit (.int .i64 (0))), (.lit (.int .i64 (0)))]), true, true⟩) (.nd (some ⟨.pointer 102, 1, 8, (.lit (.pointer none)), true, true⟩) .lf .lf) .lf)) (.nd (some ⟨.pointer 57, 1, 8, (.lit (.pointer none)), true, true⟩) .lf (.nd (some ⟨.struct #[⟨ "L", 33, 0, false, "", "", 0⟩], 1, 24, (.agg [(.lit (.slice none 0 0))]), true, false⟩) (.nd (some ⟨.func #[2] #[] false, 1, 8, (.lit .nilFunc), true, false⟩) .lf .lf) .lf))) (.nd none (.nd (some ⟨.slice 50, 1, 24, (.lit (.slice none 0 0)), true, false⟩) (.nd none .lf (.nd (some ⟨.struct #[⟨ "Entry", 45, 0, true, "", "", 0⟩, ⟨ "left", 82, 2, false, "", "verderer/bag", 32⟩, ⟨ "right", 82, 3, false, "", "verderer/bag", 40⟩, ⟨ "high", 3, 4, false, "", "verderer/bag", 48⟩], 5, 56, (.agg [(.lit (.slice none 0 0)), (.lit (.int .i64 (0))), (.lit (.pointer none)), (.lit (.pointer none)), (.lit (.int .i64 (0)))]), true, false⟩) .lf .lf)) (.nd (some ⟨.pointer 84, 1, 8, (.lit (.pointer none)), true, true⟩) .lf .lf)) (.nd (some ⟨.pointer 61, 1, 8, (.lit (.pointer none)), true, true⟩) (.nd (some ⟨.struct #[⟨ "Kind", 3, 0, false, "", "", 0⟩, ⟨ "Flag", 4, 1, false, "", "", 8⟩, ⟨ "Int", 2, 2, false, "", "", 16⟩, ⟨ "Text", 9, 3, false, "", "", 24⟩], 4, 40, (.agg [(.lit (.int .i64 (0))), (.lit (.bool false)), (.lit (.int .i64 (0))), (.str [])]), true, true⟩) .lf .lf) .lf))))),
 (.nd none (.nd none (.nd (some fi3) (.nd (some fi7) (.nd (some fi15) (.nd (some fi31) (.nd (some fi63) .lf .lf) (.nd (some fi95) .lf .lf)) (.nd (some fi47) (.nd (some fi79) .lf .lf) (.nd (some fi111) .lf .lf))) (.nd (some fi23) (.nd (some fi39) (.nd (some fi71) .lf .lf) (.nd (some fi103) .lf .lf)) (.nd (some fi55) (.nd (some fi87) .lf .lf) .lf))) (.nd (some fi11) (.nd (some fi19) (.nd (some fi35) (.nd (some fi67) .lf .lf) (.nd (some fi99) .lf .lf)) (.nd (some fi51) (.nd (some fi83) .lf .lf) .lf)) (.nd (some fi27) (.nd (some fi43) (.nd (some fi75) .lf .lf) (.nd (some fi107) .lf .lf)) (.nd (some fi59) (.nd (some fi91) .lf .lf) .lf)))) (.nd (some fi5) (.nd (some fi9) (.nd (some fi17) (.nd (some fi33) (.nd (some fi65) .lf .lf) (.nd (some fi97) .lf .lf)) (.nd (some fi49) (.nd (some fi81) .lf .lf) .lf)) (.nd (some fi25) (.nd (some fi41) (.nd (some fi73) .lf .lf) (.nd (some fi105) .lf .lf)) (.nd (some fi57) (.nd (some fi89) .lf .lf) .lf))) (.nd (some fi13) (.nd (some fi21) (.nd (some fi37) (.nd (some fi69) .lf .lf) (.nd (some fi101) .lf .lf)) (.nd (some fi53) (.nd (some fi85) .lf .lf) .lf)) (.nd (some fi29) (.nd (some fi45) (.nd (some fi77) .lf .lf) (.nd (some fi109) .lf .lf)) (.nd (some fi61) (.nd (some fi93) .lf .lf) .lf))))) (.nd none (.nd (some fi4) (.nd (some fi8) (.nd (some fi16) (.nd (some fi32) (.nd (some fi64) .lf .lf) (.nd (some fi96) .lf .lf)) (.nd (some fi48) (.nd (some fi80) .lf .lf) .lf)) (.nd (some fi24) (.nd (some fi40) (.nd (some fi72) .lf .lf) (.nd (some fi104) .lf .lf)) (.nd (some fi56) (.nd (some fi88) .lf .lf) .lf))) (.nd (some fi12) (.nd (some fi20) (.nd (some fi36) (.nd (some fi68) .lf .lf) (.nd (some fi100) .lf .lf)) (.nd (some fi52) (.nd (some fi84) .lf .lf) .lf)) (.nd (some fi28) (.nd (some fi44) (.nd (some fi76) .lf .lf) (.nd (some fi108) .lf .lf)) (.nd (some fi60) (.nd (some fi92) .lf .lf) .lf)))) (.nd (some fi6) (.nd (some fi10) (.nd (some fi18) (.nd (some fi34) (.nd (some fi66) .lf .lf) (.nd (some fi98) .lf .lf)) (.nd (some fi50) (.nd (some fi82) .lf .lf) .lf)) (.nd (some fi26) (.nd (some fi42) (.nd (some fi74) .lf .lf) (.nd (some fi106) .lf .lf)) (.nd (some fi58) (.nd (some fi90) .lf .lf) .lf))) (.nd (some fi14) (.nd (some fi22) (.nd (some fi38) (.nd (some fi70) .lf .lf) (.nd (some fi102) .lf .lf)) (.nd (some fi54) (.nd (some fi86) .lf .lf) .lf)) (.nd (some fi30) (.nd (some fi46) (.nd (some fi78) .lf .lf) (.nd (some fi110) .lf .lf)) (.nd (some fi62) (.nd (some fi94) .lf .lf) .lf)))))),
 (.nd none .lf (.nd none (.nd none (.nd none (.nd none .lf (.nd none .lf (.nd (some 1) .lf .lf))) .lf) .lf) .lf)), fun _ _ _ _ => none⟩
theorem tcon (f : Nat) (args : List AV) (H : Tr AO) (hs : Nat) : tab.con f args H hs = none := rfl
theorem tchk : ∀ t i, tab.t t = some i -> chkS tab t i = true := fun t i h => allB_get (k := id) (p := chkS tab) (by kernel_rfl) t i h
theorem tyLook : allB (chkTy Tryz.prog) tab.ty id = true := by kernel_rfl
theorem fnLook : AllT (FnOk Tryz.prog) tab.fn id :=
 (.no (.no (.nd (fk Tryz.func3) (.nd (fk Tryz.func7) (.nd (fk Tryz.func15) (.nd (fk Tryz.func31) (.nd (fk Tryz.func63) .lf .lf) (.nd (fk Tryz.func95) .lf .lf)) (.nd (fk Tryz.func47) (.nd (fk Tryz.func79) .lf .lf) (.nd (fk Tryz.func111) .lf .lf))) (.nd (fk Tryz.func23) (.nd (fk Tryz.func39) (.nd (fk Tryz.func71) .lf .lf) (.nd (fk Tryz.func103) .lf .lf)) (.nd (fk Tryz.func55) (.nd (fk Tryz.func87) .lf .lf) .lf))) (.nd (fk Tryz.func11) (.nd (fk Tryz.func19) (.nd (fk Tryz.func35) (.nd (fk Tryz.func67) .lf .lf) (.nd (fk Tryz.func99) .lf .lf)) (.nd (fk Tryz.func51) (.nd (fk Tryz.func83) .lf .lf) .lf)) (.nd (fk Tryz.func27) (.nd (fk Tryz.func43) (.nd (fk Tryz.func75) .lf .lf) (.nd (fk Tryz.func107) .lf .lf)) (.nd (fk Tryz.func59) (.nd (fk Tryz.func91) .lf .lf) .lf)))) (.nd (fk Tryz.func5) (.nd (fk Tryz.func9) (.nd (fk Tryz.func17) (.nd (fk Tryz.func33) (.nd (fk Tryz.func65) .lf .lf) (.nd (fk Tryz.func97) .lf .lf)) (.nd (fk Tryz.func49) (.nd (fk Tryz.func81) .lf .lf) .lf)) (.nd (fk Tryz.func25) (.nd (fk Tryz.func41) (.nd (fk Tryz.func73) .lf .lf) (.nd (fk Tryz.func105) .lf .lf)) (.nd (fk Tryz.func57) (.nd (fk Tryz.func89) .lf .lf) .lf))) (.nd (fk Tryz.func13) (.nd (fk Tryz.func21) (.nd (fk Tryz.func37) (.nd (fk Tryz.func69) .lf .lf) (.nd (fk Tryz.func101) .lf .lf)) (.nd (fk Tryz.func53) (.nd (fk Tryz.func85) .lf .lf) .lf)) (.nd (fk Tryz.func29) (.nd (fk Tryz.func45) (.nd (fk Tryz.func77) .lf .lf) (.nd (fk Tryz.func109) .lf .lf)) (.nd (fk Tryz.func61) (.nd (fk Tryz.func93) .lf .lf) .lf))))) (.no (.nd (fk Tryz.func4) (.nd (fk Tryz.func8) (.nd (fk Tryz.func16) (.nd (fk Tryz.func32) (.nd (fk Tryz.func64) .lf .lf) (.nd (fk Tryz.func96) .lf .lf)) (.nd (fk Tryz.func48) (.nd (fk Tryz.func80) .lf .lf) .lf)) (.nd (fk Tryz.func24) (.nd (fk Tryz.func40) (.nd (fk Tryz.func72) .lf .lf) (.nd (fk Tryz.func104) .lf .lf)) (.nd (fk Tryz.func56) (.nd (fk Tryz.func88) .lf .lf) .lf))) (.nd (fk Tryz.func12) (.nd (fk Tryz.func20) (.nd (fk Tryz.func36) (.nd (fk Tryz.func68) .lf .lf) (.nd (fk Tryz.func100) .lf .lf)) (.nd (fk Tryz.func52) (.nd (fk Tryz.func84) .lf .lf) .lf)) (.nd (fk Tryz.func28) (.nd (fk Tryz.func44) (.nd (fk Tryz.func76) .lf .lf) (.nd (fk Tryz.func108) .lf .lf)) (.nd (fk Tryz.func60) (.nd (fk Tryz.func92) .lf .lf) .lf)))) (.nd (fk Tryz.func6) (.nd (fk Tryz.func10) (.nd (fk Tryz.func18) (.nd (fk Tryz.func34) (.nd (fk Tryz.func66) .lf .lf) (.nd (fk Tryz.func98) .lf .lf)) (.nd (fk Tryz.func50) (.nd (fk Tryz.func82) .lf .lf) .lf)) (.nd (fk Tryz.func26) (.nd (fk Tryz.func42) (.nd (fk Tryz.func74) .lf .lf) (.nd (fk Tryz.func106) .lf .lf)) (.nd (fk Tryz.func58) (.nd (fk Tryz.func90) .lf .lf) .lf))) (.nd (fk Tryz.func14) (.nd (fk Tryz.func22) (.nd (fk Tryz.func38) (.nd (fk Tryz.func70) .lf .lf) (.nd (fk Tryz.func102) .lf .lf)) (.nd (fk Tryz.func54) (.nd (fk Tryz.func86) .lf .lf) .lf)) (.nd (fk Tryz.func30) (.nd (fk Tryz.func46) (.nd (fk Tryz.func78) .lf .lf) (.nd (fk Tryz.func110) .lf .lf)) (.nd (fk Tryz.func62) (.nd (fk Tryz.func94) .lf .lf) .lf))))))
theorem natLook : AllT (NatOk Tryz.prog) tab.nat id :=
 (.no .lf (.no (.no (.no (.no .lf (.no .lf (.nd nok112 .lf .lf))) .lf) .lf) .lf))
theorem tok : TSnd Tryz.prog tab := TSnd.of_look (fun _ _ _ _ _ _ _ h => by cases h) (by kernel_rfl) tyLook fnLook natLook
theorem tt2 : tab.t 2 = some ⟨.int .i64, 1, 8, (.lit (.int .i64 (0))), true, true⟩ := rfl
theorem tt3 : tab.t 3 = some ⟨.int .i64, 1, 8, (.lit (.int .i64 (0))), true, true⟩ := rfl
theorem tt4 : tab.t 4 = some ⟨.bool, 1, 1, (.lit (.bool false)), true, true⟩ := rfl
theorem tt9 : tab.t 9 = some ⟨.string, 1, 16, (.str []), true, true⟩ := rfl
theorem tt47 : tab.t 47 = some ⟨.struct #[⟨ "Kind", 3, 0, false, "", "", 0⟩, ⟨ "Flag", 4, 1, false, "", "", 8⟩, ⟨ "Int", 2, 2, false, "", "", 16⟩, ⟨ "Text", 9, 3, false, "", "", 24⟩], 4, 40, (.agg [(.lit (.int .i64 (0))), (.lit (.bool false)), (.lit (.int .i64 (0))), (.str [])]), true, true⟩ := rfl
end Go.Proofs.YtancionamhenmaaGreat.Tab
