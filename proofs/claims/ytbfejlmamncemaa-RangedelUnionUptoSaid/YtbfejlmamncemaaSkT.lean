/- The types of the program. No condition. -/
import Derived.Test.YtbfejlmamncemaaSkC
import Derived.Test.YtbfejlmamncemaaProg
namespace Go.Proofs.Ytbfejlmamncemaa.Sk
open Go Go.RowKit
set_option maxRecDepth 100000
noncomputable def ti1 : TI := ⟨false, 1, 8, Go.Proofs.Try.t1.desc, [], [Go.Value.nilFunc]⟩
theorem ok1 : TiOk Try.prog 1 ti1 := tiOk_of (by kernel_rfl) (by kernel_rfl) (by kernel_rfl) (by kernel_rfl) (by kernel_rfl) (Go.Value.nilFunc) (by kernel_rfl)
noncomputable def ti2 : TI := ⟨false, 1, 8, Go.Proofs.Try.t2.desc, [], [Go.Value.int Go.IntKind.i64 0]⟩
theorem ok2 : TiOk Try.prog 2 ti2 := tiOk_of (by kernel_rfl) (by kernel_rfl) (by kernel_rfl) (by kernel_rfl) (by kernel_rfl) (Go.Value.int Go.IntKind.i64 0) (by kernel_rfl)
noncomputable def ti3 : TI := ⟨false, 1, 8, Go.Proofs.Try.t3.desc, [], [Go.Value.int Go.IntKind.i64 0]⟩
theorem ok3 : TiOk Try.prog 3 ti3 := tiOk_of (by kernel_rfl) (by kernel_rfl) (by kernel_rfl) (by kernel_rfl) (by kernel_rfl) (Go.Value.int Go.IntKind.i64 0) (by kernel_rfl)
noncomputable def ti4 : TI := ⟨false, 1, 1, Go.Proofs.Try.t4.desc, [], [Go.Value.bool false]⟩
theorem ok4 : TiOk Try.prog 4 ti4 := tiOk_of (by kernel_rfl) (by kernel_rfl) (by kernel_rfl) (by kernel_rfl) (by kernel_rfl) (Go.Value.bool false) (by kernel_rfl)
noncomputable def ti5 : TI := ⟨false, 1, 1, Go.Proofs.Try.t5.desc, [], [Go.Value.int Go.IntKind.u8 0]⟩
theorem ok5 : TiOk Try.prog 5 ti5 := tiOk_of (by kernel_rfl) (by kernel_rfl) (by kernel_rfl) (by kernel_rfl) (by kernel_rfl) (Go.Value.int Go.IntKind.u8 0) (by kernel_rfl)
noncomputable def ti6 : TI := ⟨false, 1, 1, Go.Proofs.Try.t5.desc, [], [Go.Value.int Go.IntKind.u8 0]⟩
theorem ok6 : TiOk Try.prog 6 ti6 := tiOk_of (by kernel_rfl) (by kernel_rfl) (by kernel_rfl) (by kernel_rfl) (by kernel_rfl) (Go.Value.int Go.IntKind.u8 0) (by kernel_rfl)
noncomputable def ti7 : TI := ⟨true, 4, 24, Go.Proofs.Try.t7.desc, [(0, 1), (1, 1), (2, 1), (3, 1)], [Go.Value.int Go.IntKind.i64 0, Go.Value.int Go.IntKind.i64 0, Go.Value.bool false, Go.Value.int Go.IntKind.u8 0]⟩
theorem ok7 : TiOk Try.prog 7 ti7 := tiOk_of (by kernel_rfl) (by kernel_rfl) (by kernel_rfl) (by kernel_rfl) (by kernel_rfl) (Go.Value.agg #[Go.Value.int Go.IntKind.i64 0, Go.Value.int Go.IntKind.i64 0, Go.Value.bool false, Go.Value.int Go.IntKind.u8 0]) (by kernel_rfl)
noncomputable def ti8 : TI := ⟨true, 4, 24, Go.Proofs.Try.t7.desc, [(0, 1), (1, 1), (2, 1), (3, 1)], [Go.Value.int Go.IntKind.i64 0, Go.Value.int Go.IntKind.i64 0, Go.Value.bool false, Go.Value.int Go.IntKind.u8 0]⟩
theorem ok8 : TiOk Try.prog 8 ti8 := tiOk_of (by kernel_rfl) (by kernel_rfl) (by kernel_rfl) (by kernel_rfl) (by kernel_rfl) (Go.Value.agg #[Go.Value.int Go.IntKind.i64 0, Go.Value.int Go.IntKind.i64 0, Go.Value.bool false, Go.Value.int Go.IntKind.u8 0]) (by kernel_rfl)
noncomputable def ti9 : TI := ⟨false, 1, 16, Go.Proofs.Try.t9.desc, [], [Go.Value.string { data := #[] }]⟩
theorem ok9 : TiOk Try.prog 9 ti9 := tiOk_of (by kernel_rfl) (by kernel_rfl) (by kernel_rfl) (by kernel_rfl) (by kernel_rfl) (Go.Value.string { data := #[] }) (by kernel_rfl)
noncomputable def ti10 : TI := ⟨false, 1, 16, Go.Proofs.Try.t9.desc, [], [Go.Value.string { data := #[] }]⟩
theorem ok10 : TiOk Try.prog 10 ti10 := tiOk_of (by kernel_rfl) (by kernel_rfl) (by kernel_rfl) (by kernel_rfl) (by kernel_rfl) (Go.Value.string { data := #[] }) (by kernel_rfl)
noncomputable def ti11 : TI := ⟨false, 1, 16, Go.Proofs.Try.t9.desc, [], [Go.Value.string { data := #[] }]⟩
theorem ok11 : TiOk Try.prog 11 ti11 := tiOk_of (by kernel_rfl) (by kernel_rfl) (by kernel_rfl) (by kernel_rfl) (by kernel_rfl) (Go.Value.string { data := #[] }) (by kernel_rfl)
noncomputable def ti12 : TI := ⟨false, 1, 8, Go.Proofs.Try.t12.desc, [], [Go.Value.int Go.IntKind.u64 0]⟩
theorem ok12 : TiOk Try.prog 12 ti12 := tiOk_of (by kernel_rfl) (by kernel_rfl) (by kernel_rfl) (by kernel_rfl) (by kernel_rfl) (Go.Value.int Go.IntKind.u64 0) (by kernel_rfl)
noncomputable def ti13 : TI := ⟨true, 2, 24, Go.Proofs.Try.t13.desc, [(0, 1), (1, 1)], [Go.Value.string { data := #[] }, Go.Value.int Go.IntKind.u64 0]⟩
theorem ok13 : TiOk Try.prog 13 ti13 := tiOk_of (by kernel_rfl) (by kernel_rfl) (by kernel_rfl) (by kernel_rfl) (by kernel_rfl) (Go.Value.agg #[Go.Value.string { data := #[] }, Go.Value.int Go.IntKind.u64 0]) (by kernel_rfl)
noncomputable def ti14 : TI := ⟨true, 2, 24, Go.Proofs.Try.t13.desc, [(0, 1), (1, 1)], [Go.Value.string { data := #[] }, Go.Value.int Go.IntKind.u64 0]⟩
theorem ok14 : TiOk Try.prog 14 ti14 := tiOk_of (by kernel_rfl) (by kernel_rfl) (by kernel_rfl) (by kernel_rfl) (by kernel_rfl) (Go.Value.agg #[Go.Value.string { data := #[] }, Go.Value.int Go.IntKind.u64 0]) (by kernel_rfl)
noncomputable def ti15 : TI := ⟨false, 1, 8, Go.Proofs.Try.t15.desc, [], [Go.Value.pointer none]⟩
theorem ok15 : TiOk Try.prog 15 ti15 := tiOk_of (by kernel_rfl) (by kernel_rfl) (by kernel_rfl) (by kernel_rfl) (by kernel_rfl) (Go.Value.pointer none) (by kernel_rfl)
noncomputable def ti16 : TI := ⟨false, 1, 8, Go.Proofs.Try.t16.desc, [], [Go.Value.pointer none]⟩
theorem ok16 : TiOk Try.prog 16 ti16 := tiOk_of (by kernel_rfl) (by kernel_rfl) (by kernel_rfl) (by kernel_rfl) (by kernel_rfl) (Go.Value.pointer none) (by kernel_rfl)
noncomputable def ti17 : TI := ⟨false, 1, 8, Go.Proofs.Try.t17.desc, [], [Go.Value.pointer none]⟩
theorem ok17 : TiOk Try.prog 17 ti17 := tiOk_of (by kernel_rfl) (by kernel_rfl) (by kernel_rfl) (by kernel_rfl) (by kernel_rfl) (Go.Value.pointer none) (by kernel_rfl)
noncomputable def ti18 : TI := ⟨true, 1, 8, Go.Proofs.Try.t18.desc, [(0, 1)], [Go.Value.pointer none]⟩
theorem ok18 : TiOk Try.prog 18 ti18 := tiOk_of (by kernel_rfl) (by kernel_rfl) (by kernel_rfl) (by kernel_rfl) (by kernel_rfl) (Go.Value.agg #[Go.Value.pointer none]) (by kernel_rfl)
noncomputable def ti19 : TI := ⟨true, 1, 8, Go.Proofs.Try.t18.desc, [(0, 1)], [Go.Value.pointer none]⟩
theorem ok19 : TiOk Try.prog 19 ti19 := tiOk_of (by kernel_rfl) (by kernel_rfl) (by kernel_rfl) (by kernel_rfl) (by kernel_rfl) (Go.Value.agg #[Go.Value.pointer none]) (by kernel_rfl)
noncomputable def ti20 : TI := ⟨false, 1, 16, Go.Proofs.Try.t20.desc, [], [Go.Value.nilIface]⟩
theorem ok20 : TiOk Try.prog 20 ti20 := tiOk_of (by kernel_rfl) (by kernel_rfl) (by kernel_rfl) (by kernel_rfl) (by kernel_rfl) (Go.Value.nilIface) (by kernel_rfl)
noncomputable def ti21 : TI := ⟨false, 1, 4, Go.Proofs.Try.t21.desc, [], [Go.Value.int Go.IntKind.i32 0]⟩
theorem ok21 : TiOk Try.prog 21 ti21 := tiOk_of (by kernel_rfl) (by kernel_rfl) (by kernel_rfl) (by kernel_rfl) (by kernel_rfl) (Go.Value.int Go.IntKind.i32 0) (by kernel_rfl)
noncomputable def ti22 : TI := ⟨false, 1, 24, Go.Proofs.Try.t22.desc, [], [Go.Value.slice none 0 0]⟩
theorem ok22 : TiOk Try.prog 22 ti22 := tiOk_of (by kernel_rfl) (by kernel_rfl) (by kernel_rfl) (by kernel_rfl) (by kernel_rfl) (Go.Value.slice none 0 0) (by kernel_rfl)
noncomputable def ti23 : TI := ⟨false, 1, 24, Go.Proofs.Try.t23.desc, [], [Go.Value.slice none 0 0]⟩
theorem ok23 : TiOk Try.prog 23 ti23 := tiOk_of (by kernel_rfl) (by kernel_rfl) (by kernel_rfl) (by kernel_rfl) (by kernel_rfl) (Go.Value.slice none 0 0) (by kernel_rfl)
noncomputable def ti24 : TI := ⟨false, 1, 24, Go.Proofs.Try.t24.desc, [], [Go.Value.slice none 0 0]⟩
theorem ok24 : TiOk Try.prog 24 ti24 := tiOk_of (by kernel_rfl) (by kernel_rfl) (by kernel_rfl) (by kernel_rfl) (by kernel_rfl) (Go.Value.slice none 0 0) (by kernel_rfl)
noncomputable def ti25 : TI := ⟨false, 1, 8, Go.Proofs.Try.t3.desc, [], [Go.Value.int Go.IntKind.i64 0]⟩
theorem ok25 : TiOk Try.prog 25 ti25 := tiOk_of (by kernel_rfl) (by kernel_rfl) (by kernel_rfl) (by kernel_rfl) (by kernel_rfl) (Go.Value.int Go.IntKind.i64 0) (by kernel_rfl)
noncomputable def ti27 : TI := ⟨false, 1, 8, Go.Proofs.Try.t27.desc, [], [Go.Value.nilFunc]⟩
theorem ok27 : TiOk Try.prog 27 ti27 := tiOk_of (by kernel_rfl) (by kernel_rfl) (by kernel_rfl) (by kernel_rfl) (by kernel_rfl) (Go.Value.nilFunc) (by kernel_rfl)
noncomputable def ti28 : TI := ⟨false, 1, 8, Go.Proofs.Try.t28.desc, [], [Go.Value.nilFunc]⟩
theorem ok28 : TiOk Try.prog 28 ti28 := tiOk_of (by kernel_rfl) (by kernel_rfl) (by kernel_rfl) (by kernel_rfl) (by kernel_rfl) (Go.Value.nilFunc) (by kernel_rfl)
noncomputable def ti29 : TI := ⟨false, 1, 8, Go.Proofs.Try.t29.desc, [], [Go.Value.nilFunc]⟩
theorem ok29 : TiOk Try.prog 29 ti29 := tiOk_of (by kernel_rfl) (by kernel_rfl) (by kernel_rfl) (by kernel_rfl) (by kernel_rfl) (Go.Value.nilFunc) (by kernel_rfl)
noncomputable def ti30 : TI := ⟨false, 1, 8, Go.Proofs.Try.t30.desc, [], [Go.Value.nilFunc]⟩
theorem ok30 : TiOk Try.prog 30 ti30 := tiOk_of (by kernel_rfl) (by kernel_rfl) (by kernel_rfl) (by kernel_rfl) (by kernel_rfl) (Go.Value.nilFunc) (by kernel_rfl)
noncomputable def ti31 : TI := ⟨false, 1, 8, Go.Proofs.Try.t31.desc, [], [Go.Value.nilFunc]⟩
theorem ok31 : TiOk Try.prog 31 ti31 := tiOk_of (by kernel_rfl) (by kernel_rfl) (by kernel_rfl) (by kernel_rfl) (by kernel_rfl) (Go.Value.nilFunc) (by kernel_rfl)
noncomputable def ti32 : TI := ⟨false, 1, 24, Go.Proofs.Try.t32.desc, [], [Go.Value.slice none 0 0]⟩
theorem ok32 : TiOk Try.prog 32 ti32 := tiOk_of (by kernel_rfl) (by kernel_rfl) (by kernel_rfl) (by kernel_rfl) (by kernel_rfl) (Go.Value.slice none 0 0) (by kernel_rfl)
noncomputable def ti33 : TI := ⟨true, 3, 56, Go.Proofs.Try.t33.desc, [(0, 1), (1, 1), (2, 1)], [Go.Value.string { data := #[] }, Go.Value.string { data := #[] }, Go.Value.slice none 0 0]⟩
theorem ok33 : TiOk Try.prog 33 ti33 := tiOk_of (by kernel_rfl) (by kernel_rfl) (by kernel_rfl) (by kernel_rfl) (by kernel_rfl) (Go.Value.agg #[Go.Value.string { data := #[] }, Go.Value.string { data := #[] }, Go.Value.slice none 0 0]) (by kernel_rfl)
noncomputable def ti34 : TI := ⟨true, 3, 56, Go.Proofs.Try.t33.desc, [(0, 1), (1, 1), (2, 1)], [Go.Value.string { data := #[] }, Go.Value.string { data := #[] }, Go.Value.slice none 0 0]⟩
theorem ok34 : TiOk Try.prog 34 ti34 := tiOk_of (by kernel_rfl) (by kernel_rfl) (by kernel_rfl) (by kernel_rfl) (by kernel_rfl) (Go.Value.agg #[Go.Value.string { data := #[] }, Go.Value.string { data := #[] }, Go.Value.slice none 0 0]) (by kernel_rfl)
noncomputable def ti35 : TI := ⟨false, 1, 8, Go.Proofs.Try.t35.desc, [], [Go.Value.nilFunc]⟩
theorem ok35 : TiOk Try.prog 35 ti35 := tiOk_of (by kernel_rfl) (by kernel_rfl) (by kernel_rfl) (by kernel_rfl) (by kernel_rfl) (Go.Value.nilFunc) (by kernel_rfl)
noncomputable def ti36 : TI := ⟨false, 1, 8, Go.Proofs.Try.t36.desc, [], [Go.Value.int Go.IntKind.u64 0]⟩
theorem ok36 : TiOk Try.prog 36 ti36 := tiOk_of (by kernel_rfl) (by kernel_rfl) (by kernel_rfl) (by kernel_rfl) (by kernel_rfl) (Go.Value.int Go.IntKind.u64 0) (by kernel_rfl)
noncomputable def ti37 : TI := ⟨true, 3, 40, Go.Proofs.Try.t37.desc, [(0, 1), (1, 1), (2, 1)], [Go.Value.string { data := #[] }, Go.Value.string { data := #[] }, Go.Value.int Go.IntKind.u64 0]⟩
theorem ok37 : TiOk Try.prog 37 ti37 := tiOk_of (by kernel_rfl) (by kernel_rfl) (by kernel_rfl) (by kernel_rfl) (by kernel_rfl) (Go.Value.agg #[Go.Value.string { data := #[] }, Go.Value.string { data := #[] }, Go.Value.int Go.IntKind.u64 0]) (by kernel_rfl)
noncomputable def ti38 : TI := ⟨true, 3, 40, Go.Proofs.Try.t37.desc, [(0, 1), (1, 1), (2, 1)], [Go.Value.string { data := #[] }, Go.Value.string { data := #[] }, Go.Value.int Go.IntKind.u64 0]⟩
theorem ok38 : TiOk Try.prog 38 ti38 := tiOk_of (by kernel_rfl) (by kernel_rfl) (by kernel_rfl) (by kernel_rfl) (by kernel_rfl) (Go.Value.agg #[Go.Value.string { data := #[] }, Go.Value.string { data := #[] }, Go.Value.int Go.IntKind.u64 0]) (by kernel_rfl)
noncomputable def ti39 : TI := ⟨false, 1, 8, Go.Proofs.Try.t39.desc, [], [Go.Value.nilFunc]⟩
theorem ok39 : TiOk Try.prog 39 ti39 := tiOk_of (by kernel_rfl) (by kernel_rfl) (by kernel_rfl) (by kernel_rfl) (by kernel_rfl) (Go.Value.nilFunc) (by kernel_rfl)
noncomputable def ti40 : TI := ⟨true, 2, 40, Go.Proofs.Try.t40.desc, [(0, 1), (1, 1)], [Go.Value.slice none 0 0, Go.Value.string { data := #[] }]⟩
theorem ok40 : TiOk Try.prog 40 ti40 := tiOk_of (by kernel_rfl) (by kernel_rfl) (by kernel_rfl) (by kernel_rfl) (by kernel_rfl) (Go.Value.agg #[Go.Value.slice none 0 0, Go.Value.string { data := #[] }]) (by kernel_rfl)
noncomputable def ti41 : TI := ⟨true, 2, 40, Go.Proofs.Try.t40.desc, [(0, 1), (1, 1)], [Go.Value.slice none 0 0, Go.Value.string { data := #[] }]⟩
theorem ok41 : TiOk Try.prog 41 ti41 := tiOk_of (by kernel_rfl) (by kernel_rfl) (by kernel_rfl) (by kernel_rfl) (by kernel_rfl) (Go.Value.agg #[Go.Value.slice none 0 0, Go.Value.string { data := #[] }]) (by kernel_rfl)
noncomputable def ti42 : TI := ⟨false, 1, 8, Go.Proofs.Try.t42.desc, [], [Go.Value.pointer none]⟩
theorem ok42 : TiOk Try.prog 42 ti42 := tiOk_of (by kernel_rfl) (by kernel_rfl) (by kernel_rfl) (by kernel_rfl) (by kernel_rfl) (Go.Value.pointer none) (by kernel_rfl)
noncomputable def ti44 : TI := ⟨false, 1, 8, Go.Proofs.Try.t44.desc, [], [Go.Value.nilFunc]⟩
theorem ok44 : TiOk Try.prog 44 ti44 := tiOk_of (by kernel_rfl) (by kernel_rfl) (by kernel_rfl) (by kernel_rfl) (by kernel_rfl) (Go.Value.nilFunc) (by kernel_rfl)
noncomputable def ti45 : TI := ⟨false, 1, 8, Go.Proofs.Try.t45.desc, [], [Go.Value.nilFunc]⟩
theorem ok45 : TiOk Try.prog 45 ti45 := tiOk_of (by kernel_rfl) (by kernel_rfl) (by kernel_rfl) (by kernel_rfl) (by kernel_rfl) (Go.Value.nilFunc) (by kernel_rfl)
noncomputable def ti46 : TI := ⟨false, 1, 8, Go.Proofs.Try.t46.desc, [], [Go.Value.nilFunc]⟩
theorem ok46 : TiOk Try.prog 46 ti46 := tiOk_of (by kernel_rfl) (by kernel_rfl) (by kernel_rfl) (by kernel_rfl) (by kernel_rfl) (Go.Value.nilFunc) (by kernel_rfl)
noncomputable def ti48 : TI := ⟨false, 1, 8, Go.Proofs.Try.t48.desc, [], [Go.Value.nilFunc]⟩
theorem ok48 : TiOk Try.prog 48 ti48 := tiOk_of (by kernel_rfl) (by kernel_rfl) (by kernel_rfl) (by kernel_rfl) (by kernel_rfl) (Go.Value.nilFunc) (by kernel_rfl)
noncomputable def ti49 : TI := ⟨false, 1, 8, Go.Proofs.Try.t49.desc, [], [Go.Value.nilFunc]⟩
theorem ok49 : TiOk Try.prog 49 ti49 := tiOk_of (by kernel_rfl) (by kernel_rfl) (by kernel_rfl) (by kernel_rfl) (by kernel_rfl) (Go.Value.nilFunc) (by kernel_rfl)
noncomputable def ti50 : TI := ⟨false, 1, 8, Go.Proofs.Try.t50.desc, [], [Go.Value.nilFunc]⟩
theorem ok50 : TiOk Try.prog 50 ti50 := tiOk_of (by kernel_rfl) (by kernel_rfl) (by kernel_rfl) (by kernel_rfl) (by kernel_rfl) (Go.Value.nilFunc) (by kernel_rfl)
noncomputable def ti51 : TI := ⟨false, 1, 8, Go.Proofs.Try.t51.desc, [], [Go.Value.nilFunc]⟩
theorem ok51 : TiOk Try.prog 51 ti51 := tiOk_of (by kernel_rfl) (by kernel_rfl) (by kernel_rfl) (by kernel_rfl) (by kernel_rfl) (Go.Value.nilFunc) (by kernel_rfl)
noncomputable def ti52 : TI := ⟨false, 1, 24, Go.Proofs.Try.t52.desc, [], [Go.Value.slice none 0 0]⟩
theorem ok52 : TiOk Try.prog 52 ti52 := tiOk_of (by kernel_rfl) (by kernel_rfl) (by kernel_rfl) (by kernel_rfl) (by kernel_rfl) (Go.Value.slice none 0 0) (by kernel_rfl)
noncomputable def ti53 : TI := ⟨true, 3, 32, Go.Proofs.Try.t53.desc, [(0, 1), (1, 1), (2, 1)], [Go.Value.string { data := #[] }, Go.Value.int Go.IntKind.u64 0, Go.Value.int Go.IntKind.i64 0]⟩
theorem ok53 : TiOk Try.prog 53 ti53 := tiOk_of (by kernel_rfl) (by kernel_rfl) (by kernel_rfl) (by kernel_rfl) (by kernel_rfl) (Go.Value.agg #[Go.Value.string { data := #[] }, Go.Value.int Go.IntKind.u64 0, Go.Value.int Go.IntKind.i64 0]) (by kernel_rfl)
noncomputable def ti54 : TI := ⟨true, 3, 32, Go.Proofs.Try.t53.desc, [(0, 1), (1, 1), (2, 1)], [Go.Value.string { data := #[] }, Go.Value.int Go.IntKind.u64 0, Go.Value.int Go.IntKind.i64 0]⟩
theorem ok54 : TiOk Try.prog 54 ti54 := tiOk_of (by kernel_rfl) (by kernel_rfl) (by kernel_rfl) (by kernel_rfl) (by kernel_rfl) (Go.Value.agg #[Go.Value.string { data := #[] }, Go.Value.int Go.IntKind.u64 0, Go.Value.int Go.IntKind.i64 0]) (by kernel_rfl)
noncomputable def ti55 : TI := ⟨true, 7, 80, Go.Proofs.Try.t55.desc, [(0, 1), (1, 1), (2, 3), (5, 1), (6, 1)], [Go.Value.string { data := #[] }, Go.Value.string { data := #[] }, Go.Value.string { data := #[] }, Go.Value.int Go.IntKind.u64 0, Go.Value.int Go.IntKind.i64 0, Go.Value.int Go.IntKind.u64 0, Go.Value.int Go.IntKind.u64 0]⟩
theorem ok55 : TiOk Try.prog 55 ti55 := tiOk_of (by kernel_rfl) (by kernel_rfl) (by kernel_rfl) (by kernel_rfl) (by kernel_rfl) (Go.Value.agg #[Go.Value.string { data := #[] }, Go.Value.string { data := #[] }, Go.Value.string { data := #[] }, Go.Value.int Go.IntKind.u64 0, Go.Value.int Go.IntKind.i64 0, Go.Value.int Go.IntKind.u64 0, Go.Value.int Go.IntKind.u64 0]) (by kernel_rfl)
noncomputable def ti56 : TI := ⟨true, 7, 80, Go.Proofs.Try.t55.desc, [(0, 1), (1, 1), (2, 3), (5, 1), (6, 1)], [Go.Value.string { data := #[] }, Go.Value.string { data := #[] }, Go.Value.string { data := #[] }, Go.Value.int Go.IntKind.u64 0, Go.Value.int Go.IntKind.i64 0, Go.Value.int Go.IntKind.u64 0, Go.Value.int Go.IntKind.u64 0]⟩
theorem ok56 : TiOk Try.prog 56 ti56 := tiOk_of (by kernel_rfl) (by kernel_rfl) (by kernel_rfl) (by kernel_rfl) (by kernel_rfl) (Go.Value.agg #[Go.Value.string { data := #[] }, Go.Value.string { data := #[] }, Go.Value.string { data := #[] }, Go.Value.int Go.IntKind.u64 0, Go.Value.int Go.IntKind.i64 0, Go.Value.int Go.IntKind.u64 0, Go.Value.int Go.IntKind.u64 0]) (by kernel_rfl)
noncomputable def ti58 : TI := ⟨false, 1, 8, Go.Proofs.Try.t58.desc, [], [Go.Value.nilFunc]⟩
theorem ok58 : TiOk Try.prog 58 ti58 := tiOk_of (by kernel_rfl) (by kernel_rfl) (by kernel_rfl) (by kernel_rfl) (by kernel_rfl) (Go.Value.nilFunc) (by kernel_rfl)
noncomputable def ti59 : TI := ⟨false, 1, 8, Go.Proofs.Try.t59.desc, [], [Go.Value.nilFunc]⟩
theorem ok59 : TiOk Try.prog 59 ti59 := tiOk_of (by kernel_rfl) (by kernel_rfl) (by kernel_rfl) (by kernel_rfl) (by kernel_rfl) (Go.Value.nilFunc) (by kernel_rfl)
noncomputable def ti60 : TI := ⟨false, 1, 8, Go.Proofs.Try.t60.desc, [], [Go.Value.nilFunc]⟩
theorem ok60 : TiOk Try.prog 60 ti60 := tiOk_of (by kernel_rfl) (by kernel_rfl) (by kernel_rfl) (by kernel_rfl) (by kernel_rfl) (Go.Value.nilFunc) (by kernel_rfl)
noncomputable def ti61 : TI := ⟨false, 1, 8, Go.Proofs.Try.t61.desc, [], [Go.Value.nilFunc]⟩
theorem ok61 : TiOk Try.prog 61 ti61 := tiOk_of (by kernel_rfl) (by kernel_rfl) (by kernel_rfl) (by kernel_rfl) (by kernel_rfl) (Go.Value.nilFunc) (by kernel_rfl)
noncomputable def ti62 : TI := ⟨false, 1, 8, Go.Proofs.Try.t62.desc, [], [Go.Value.nilFunc]⟩
theorem ok62 : TiOk Try.prog 62 ti62 := tiOk_of (by kernel_rfl) (by kernel_rfl) (by kernel_rfl) (by kernel_rfl) (by kernel_rfl) (Go.Value.nilFunc) (by kernel_rfl)
noncomputable def ti63 : TI := ⟨false, 1, 8, Go.Proofs.Try.t63.desc, [], [Go.Value.nilFunc]⟩
theorem ok63 : TiOk Try.prog 63 ti63 := tiOk_of (by kernel_rfl) (by kernel_rfl) (by kernel_rfl) (by kernel_rfl) (by kernel_rfl) (Go.Value.nilFunc) (by kernel_rfl)
noncomputable def ti64 : TI := ⟨false, 1, 8, Go.Proofs.Try.t64.desc, [], [Go.Value.nilFunc]⟩
theorem ok64 : TiOk Try.prog 64 ti64 := tiOk_of (by kernel_rfl) (by kernel_rfl) (by kernel_rfl) (by kernel_rfl) (by kernel_rfl) (Go.Value.nilFunc) (by kernel_rfl)
noncomputable def ti65 : TI := ⟨false, 1, 8, Go.Proofs.Try.t65.desc, [], [Go.Value.nilFunc]⟩
theorem ok65 : TiOk Try.prog 65 ti65 := tiOk_of (by kernel_rfl) (by kernel_rfl) (by kernel_rfl) (by kernel_rfl) (by kernel_rfl) (Go.Value.nilFunc) (by kernel_rfl)
noncomputable def ti66 : TI := ⟨false, 1, 8, Go.Proofs.Try.t66.desc, [], [Go.Value.nilFunc]⟩
theorem ok66 : TiOk Try.prog 66 ti66 := tiOk_of (by kernel_rfl) (by kernel_rfl) (by kernel_rfl) (by kernel_rfl) (by kernel_rfl) (Go.Value.nilFunc) (by kernel_rfl)
noncomputable def ti67 : TI := ⟨false, 1, 8, Go.Proofs.Try.t67.desc, [], [Go.Value.nilFunc]⟩
theorem ok67 : TiOk Try.prog 67 ti67 := tiOk_of (by kernel_rfl) (by kernel_rfl) (by kernel_rfl) (by kernel_rfl) (by kernel_rfl) (Go.Value.nilFunc) (by kernel_rfl)
noncomputable def ti68 : TI := ⟨false, 1, 8, Go.Proofs.Try.t68.desc, [], [Go.Value.nilFunc]⟩
theorem ok68 : TiOk Try.prog 68 ti68 := tiOk_of (by kernel_rfl) (by kernel_rfl) (by kernel_rfl) (by kernel_rfl) (by kernel_rfl) (Go.Value.nilFunc) (by kernel_rfl)
noncomputable def ti69 : TI := ⟨false, 1, 24, Go.Proofs.Try.t69.desc, [], [Go.Value.slice none 0 0]⟩
theorem ok69 : TiOk Try.prog 69 ti69 := tiOk_of (by kernel_rfl) (by kernel_rfl) (by kernel_rfl) (by kernel_rfl) (by kernel_rfl) (Go.Value.slice none 0 0) (by kernel_rfl)
noncomputable def ti71 : TI := ⟨false, 1, 8, Go.Proofs.Try.t71.desc, [], [Go.Value.nilFunc]⟩
theorem ok71 : TiOk Try.prog 71 ti71 := tiOk_of (by kernel_rfl) (by kernel_rfl) (by kernel_rfl) (by kernel_rfl) (by kernel_rfl) (Go.Value.nilFunc) (by kernel_rfl)
noncomputable def ti72 : TI := ⟨false, 1, 8, Go.Proofs.Try.t72.desc, [], [Go.Value.nilFunc]⟩
theorem ok72 : TiOk Try.prog 72 ti72 := tiOk_of (by kernel_rfl) (by kernel_rfl) (by kernel_rfl) (by kernel_rfl) (by kernel_rfl) (Go.Value.nilFunc) (by kernel_rfl)
noncomputable def ti73 : TI := ⟨false, 1, 8, Go.Proofs.Try.t73.desc, [], [Go.Value.nilFunc]⟩
theorem ok73 : TiOk Try.prog 73 ti73 := tiOk_of (by kernel_rfl) (by kernel_rfl) (by kernel_rfl) (by kernel_rfl) (by kernel_rfl) (Go.Value.nilFunc) (by kernel_rfl)
noncomputable def ti74 : TI := ⟨false, 1, 8, Go.Proofs.Try.t74.desc, [], [Go.Value.nilFunc]⟩
theorem ok74 : TiOk Try.prog 74 ti74 := tiOk_of (by kernel_rfl) (by kernel_rfl) (by kernel_rfl) (by kernel_rfl) (by kernel_rfl) (Go.Value.nilFunc) (by kernel_rfl)
noncomputable def ti75 : TI := ⟨true, 4, 48, Go.Proofs.Try.t75.desc, [(0, 3), (3, 1)], [Go.Value.string { data := #[] }, Go.Value.int Go.IntKind.u64 0, Go.Value.int Go.IntKind.i64 0, Go.Value.string { data := #[] }]⟩
theorem ok75 : TiOk Try.prog 75 ti75 := tiOk_of (by kernel_rfl) (by kernel_rfl) (by kernel_rfl) (by kernel_rfl) (by kernel_rfl) (Go.Value.agg #[Go.Value.string { data := #[] }, Go.Value.int Go.IntKind.u64 0, Go.Value.int Go.IntKind.i64 0, Go.Value.string { data := #[] }]) (by kernel_rfl)
noncomputable def ti76 : TI := ⟨true, 4, 48, Go.Proofs.Try.t75.desc, [(0, 3), (3, 1)], [Go.Value.string { data := #[] }, Go.Value.int Go.IntKind.u64 0, Go.Value.int Go.IntKind.i64 0, Go.Value.string { data := #[] }]⟩
theorem ok76 : TiOk Try.prog 76 ti76 := tiOk_of (by kernel_rfl) (by kernel_rfl) (by kernel_rfl) (by kernel_rfl) (by kernel_rfl) (Go.Value.agg #[Go.Value.string { data := #[] }, Go.Value.int Go.IntKind.u64 0, Go.Value.int Go.IntKind.i64 0, Go.Value.string { data := #[] }]) (by kernel_rfl)
noncomputable def ti77 : TI := ⟨false, 1, 8, Go.Proofs.Try.t77.desc, [], [Go.Value.nilFunc]⟩
theorem ok77 : TiOk Try.prog 77 ti77 := tiOk_of (by kernel_rfl) (by kernel_rfl) (by kernel_rfl) (by kernel_rfl) (by kernel_rfl) (Go.Value.nilFunc) (by kernel_rfl)
noncomputable def ti78 : TI := ⟨false, 1, 8, Go.Proofs.Try.t78.desc, [], [Go.Value.nilFunc]⟩
theorem ok78 : TiOk Try.prog 78 ti78 := tiOk_of (by kernel_rfl) (by kernel_rfl) (by kernel_rfl) (by kernel_rfl) (by kernel_rfl) (Go.Value.nilFunc) (by kernel_rfl)
noncomputable def ti79 : TI := ⟨false, 1, 8, Go.Proofs.Try.t79.desc, [], [Go.Value.nilFunc]⟩
theorem ok79 : TiOk Try.prog 79 ti79 := tiOk_of (by kernel_rfl) (by kernel_rfl) (by kernel_rfl) (by kernel_rfl) (by kernel_rfl) (Go.Value.nilFunc) (by kernel_rfl)
noncomputable def ti80 : TI := ⟨false, 1, 8, Go.Proofs.Try.t80.desc, [], [Go.Value.nilFunc]⟩
theorem ok80 : TiOk Try.prog 80 ti80 := tiOk_of (by kernel_rfl) (by kernel_rfl) (by kernel_rfl) (by kernel_rfl) (by kernel_rfl) (Go.Value.nilFunc) (by kernel_rfl)
noncomputable def ti81 : TI := ⟨false, 1, 8, Go.Proofs.Try.t81.desc, [], [Go.Value.nilFunc]⟩
theorem ok81 : TiOk Try.prog 81 ti81 := tiOk_of (by kernel_rfl) (by kernel_rfl) (by kernel_rfl) (by kernel_rfl) (by kernel_rfl) (Go.Value.nilFunc) (by kernel_rfl)
noncomputable def ti82 : TI := ⟨false, 1, 8, Go.Proofs.Try.t82.desc, [], [Go.Value.nilFunc]⟩
theorem ok82 : TiOk Try.prog 82 ti82 := tiOk_of (by kernel_rfl) (by kernel_rfl) (by kernel_rfl) (by kernel_rfl) (by kernel_rfl) (Go.Value.nilFunc) (by kernel_rfl)
noncomputable def ti83 : TI := ⟨true, 2, 32, Go.Proofs.Try.t83.desc, [(0, 1), (1, 1)], [Go.Value.int Go.IntKind.i64 0, Go.Value.slice none 0 0]⟩
theorem ok83 : TiOk Try.prog 83 ti83 := tiOk_of (by kernel_rfl) (by kernel_rfl) (by kernel_rfl) (by kernel_rfl) (by kernel_rfl) (Go.Value.agg #[Go.Value.int Go.IntKind.i64 0, Go.Value.slice none 0 0]) (by kernel_rfl)
noncomputable def ti84 : TI := ⟨true, 2, 32, Go.Proofs.Try.t83.desc, [(0, 1), (1, 1)], [Go.Value.int Go.IntKind.i64 0, Go.Value.slice none 0 0]⟩
theorem ok84 : TiOk Try.prog 84 ti84 := tiOk_of (by kernel_rfl) (by kernel_rfl) (by kernel_rfl) (by kernel_rfl) (by kernel_rfl) (Go.Value.agg #[Go.Value.int Go.IntKind.i64 0, Go.Value.slice none 0 0]) (by kernel_rfl)
noncomputable def ti85 : TI := ⟨false, 1, 8, Go.Proofs.Try.t85.desc, [], [Go.Value.nilFunc]⟩
theorem ok85 : TiOk Try.prog 85 ti85 := tiOk_of (by kernel_rfl) (by kernel_rfl) (by kernel_rfl) (by kernel_rfl) (by kernel_rfl) (Go.Value.nilFunc) (by kernel_rfl)
noncomputable def ti86 : TI := ⟨false, 1, 8, Go.Proofs.Try.t86.desc, [], [Go.Value.nilFunc]⟩
theorem ok86 : TiOk Try.prog 86 ti86 := tiOk_of (by kernel_rfl) (by kernel_rfl) (by kernel_rfl) (by kernel_rfl) (by kernel_rfl) (Go.Value.nilFunc) (by kernel_rfl)
noncomputable def ti87 : TI := ⟨false, 1, 8, Go.Proofs.Try.t87.desc, [], [Go.Value.nilFunc]⟩
theorem ok87 : TiOk Try.prog 87 ti87 := tiOk_of (by kernel_rfl) (by kernel_rfl) (by kernel_rfl) (by kernel_rfl) (by kernel_rfl) (Go.Value.nilFunc) (by kernel_rfl)
noncomputable def ti88 : TI := ⟨false, 1, 8, Go.Proofs.Try.t88.desc, [], [Go.Value.nilFunc]⟩
theorem ok88 : TiOk Try.prog 88 ti88 := tiOk_of (by kernel_rfl) (by kernel_rfl) (by kernel_rfl) (by kernel_rfl) (by kernel_rfl) (Go.Value.nilFunc) (by kernel_rfl)
noncomputable def ti89 : TI := ⟨false, 1, 8, Go.Proofs.Try.t89.desc, [], [Go.Value.nilFunc]⟩
theorem ok89 : TiOk Try.prog 89 ti89 := tiOk_of (by kernel_rfl) (by kernel_rfl) (by kernel_rfl) (by kernel_rfl) (by kernel_rfl) (Go.Value.nilFunc) (by kernel_rfl)
noncomputable def ti90 : TI := ⟨false, 1, 8, Go.Proofs.Try.t90.desc, [], [Go.Value.nilFunc]⟩
theorem ok90 : TiOk Try.prog 90 ti90 := tiOk_of (by kernel_rfl) (by kernel_rfl) (by kernel_rfl) (by kernel_rfl) (by kernel_rfl) (Go.Value.nilFunc) (by kernel_rfl)
noncomputable def ti91 : TI := ⟨false, 1, 8, Go.Proofs.Try.t91.desc, [], [Go.Value.nilFunc]⟩
theorem ok91 : TiOk Try.prog 91 ti91 := tiOk_of (by kernel_rfl) (by kernel_rfl) (by kernel_rfl) (by kernel_rfl) (by kernel_rfl) (Go.Value.nilFunc) (by kernel_rfl)
noncomputable def ti92 : TI := ⟨false, 1, 8, Go.Proofs.Try.t92.desc, [], [Go.Value.nilFunc]⟩
theorem ok92 : TiOk Try.prog 92 ti92 := tiOk_of (by kernel_rfl) (by kernel_rfl) (by kernel_rfl) (by kernel_rfl) (by kernel_rfl) (Go.Value.nilFunc) (by kernel_rfl)
noncomputable def ti93 : TI := ⟨false, 1, 8, Go.Proofs.Try.t93.desc, [], [Go.Value.nilFunc]⟩
theorem ok93 : TiOk Try.prog 93 ti93 := tiOk_of (by kernel_rfl) (by kernel_rfl) (by kernel_rfl) (by kernel_rfl) (by kernel_rfl) (Go.Value.nilFunc) (by kernel_rfl)
noncomputable def ti94 : TI := ⟨false, 1, 8, Go.Proofs.Try.t94.desc, [], [Go.Value.nilFunc]⟩
theorem ok94 : TiOk Try.prog 94 ti94 := tiOk_of (by kernel_rfl) (by kernel_rfl) (by kernel_rfl) (by kernel_rfl) (by kernel_rfl) (Go.Value.nilFunc) (by kernel_rfl)
noncomputable def ti95 : TI := ⟨false, 1, 8, Go.Proofs.Try.t95.desc, [], [Go.Value.nilFunc]⟩
theorem ok95 : TiOk Try.prog 95 ti95 := tiOk_of (by kernel_rfl) (by kernel_rfl) (by kernel_rfl) (by kernel_rfl) (by kernel_rfl) (Go.Value.nilFunc) (by kernel_rfl)
noncomputable def ti96 : TI := ⟨false, 1, 8, Go.Proofs.Try.t96.desc, [], [Go.Value.nilFunc]⟩
theorem ok96 : TiOk Try.prog 96 ti96 := tiOk_of (by kernel_rfl) (by kernel_rfl) (by kernel_rfl) (by kernel_rfl) (by kernel_rfl) (Go.Value.nilFunc) (by kernel_rfl)
noncomputable def ti97 : TI := ⟨false, 1, 8, Go.Proofs.Try.t97.desc, [], [Go.Value.int Go.IntKind.u64 0]⟩
theorem ok97 : TiOk Try.prog 97 ti97 := tiOk_of (by kernel_rfl) (by kernel_rfl) (by kernel_rfl) (by kernel_rfl) (by kernel_rfl) (Go.Value.int Go.IntKind.u64 0) (by kernel_rfl)
noncomputable def ti98 : TI := ⟨false, 1, 8, Go.Proofs.Try.t98.desc, [], [Go.Value.nilFunc]⟩
theorem ok98 : TiOk Try.prog 98 ti98 := tiOk_of (by kernel_rfl) (by kernel_rfl) (by kernel_rfl) (by kernel_rfl) (by kernel_rfl) (Go.Value.nilFunc) (by kernel_rfl)
noncomputable def ti100 : TI := ⟨false, 1, 8, Go.Proofs.Try.t100.desc, [], [Go.Value.nilFunc]⟩
theorem ok100 : TiOk Try.prog 100 ti100 := tiOk_of (by kernel_rfl) (by kernel_rfl) (by kernel_rfl) (by kernel_rfl) (by kernel_rfl) (Go.Value.nilFunc) (by kernel_rfl)
noncomputable def ti101 : TI := ⟨false, 1, 8, Go.Proofs.Try.t101.desc, [], [Go.Value.nilFunc]⟩
theorem ok101 : TiOk Try.prog 101 ti101 := tiOk_of (by kernel_rfl) (by kernel_rfl) (by kernel_rfl) (by kernel_rfl) (by kernel_rfl) (Go.Value.nilFunc) (by kernel_rfl)
noncomputable def ti102 : TI := ⟨false, 1, 8, Go.Proofs.Try.t102.desc, [], [Go.Value.nilFunc]⟩
theorem ok102 : TiOk Try.prog 102 ti102 := tiOk_of (by kernel_rfl) (by kernel_rfl) (by kernel_rfl) (by kernel_rfl) (by kernel_rfl) (Go.Value.nilFunc) (by kernel_rfl)
noncomputable def ti103 : TI := ⟨false, 1, 8, Go.Proofs.Try.t103.desc, [], [Go.Value.nilFunc]⟩
theorem ok103 : TiOk Try.prog 103 ti103 := tiOk_of (by kernel_rfl) (by kernel_rfl) (by kernel_rfl) (by kernel_rfl) (by kernel_rfl) (Go.Value.nilFunc) (by kernel_rfl)
noncomputable def ti104 : TI := ⟨false, 1, 24, Go.Proofs.Try.t32.desc, [], [Go.Value.slice none 0 0]⟩
theorem ok104 : TiOk Try.prog 104 ti104 := tiOk_of (by kernel_rfl) (by kernel_rfl) (by kernel_rfl) (by kernel_rfl) (by kernel_rfl) (Go.Value.slice none 0 0) (by kernel_rfl)
noncomputable def ti105 : TI := ⟨false, 1, 8, Go.Proofs.Try.t105.desc, [], [Go.Value.nilFunc]⟩
theorem ok105 : TiOk Try.prog 105 ti105 := tiOk_of (by kernel_rfl) (by kernel_rfl) (by kernel_rfl) (by kernel_rfl) (by kernel_rfl) (Go.Value.nilFunc) (by kernel_rfl)
noncomputable def ti106 : TI := ⟨false, 1, 8, Go.Proofs.Try.t106.desc, [], [Go.Value.nilFunc]⟩
theorem ok106 : TiOk Try.prog 106 ti106 := tiOk_of (by kernel_rfl) (by kernel_rfl) (by kernel_rfl) (by kernel_rfl) (by kernel_rfl) (Go.Value.nilFunc) (by kernel_rfl)
noncomputable def ti107 : TI := ⟨false, 1, 8, Go.Proofs.Try.t106.desc, [], [Go.Value.nilFunc]⟩
theorem ok107 : TiOk Try.prog 107 ti107 := tiOk_of (by kernel_rfl) (by kernel_rfl) (by kernel_rfl) (by kernel_rfl) (by kernel_rfl) (Go.Value.nilFunc) (by kernel_rfl)
noncomputable def ti108 : TI := ⟨false, 1, 8, Go.Proofs.Try.t108.desc, [], [Go.Value.nilFunc]⟩
theorem ok108 : TiOk Try.prog 108 ti108 := tiOk_of (by kernel_rfl) (by kernel_rfl) (by kernel_rfl) (by kernel_rfl) (by kernel_rfl) (Go.Value.nilFunc) (by kernel_rfl)
noncomputable def ti109 : TI := ⟨false, 1, 8, Go.Proofs.Try.t109.desc, [], [Go.Value.nilFunc]⟩
theorem ok109 : TiOk Try.prog 109 ti109 := tiOk_of (by kernel_rfl) (by kernel_rfl) (by kernel_rfl) (by kernel_rfl) (by kernel_rfl) (Go.Value.nilFunc) (by kernel_rfl)
noncomputable def ti110 : TI := ⟨false, 1, 8, Go.Proofs.Try.t110.desc, [], [Go.Value.nilFunc]⟩
theorem ok110 : TiOk Try.prog 110 ti110 := tiOk_of (by kernel_rfl) (by kernel_rfl) (by kernel_rfl) (by kernel_rfl) (by kernel_rfl) (Go.Value.nilFunc) (by kernel_rfl)
noncomputable def ti111 : TI := ⟨false, 1, 8, Go.Proofs.Try.t111.desc, [], [Go.Value.nilFunc]⟩
theorem ok111 : TiOk Try.prog 111 ti111 := tiOk_of (by kernel_rfl) (by kernel_rfl) (by kernel_rfl) (by kernel_rfl) (by kernel_rfl) (Go.Value.nilFunc) (by kernel_rfl)
noncomputable def ti112 : TI := ⟨false, 1, 8, Go.Proofs.Try.t3.desc, [], [Go.Value.int Go.IntKind.i64 0]⟩
theorem ok112 : TiOk Try.prog 112 ti112 := tiOk_of (by kernel_rfl) (by kernel_rfl) (by kernel_rfl) (by kernel_rfl) (by kernel_rfl) (Go.Value.int Go.IntKind.i64 0) (by kernel_rfl)
noncomputable def ti114 : TI := ⟨false, 1, 8, Go.Proofs.Try.t114.desc, [], [Go.Value.nilFunc]⟩
theorem ok114 : TiOk Try.prog 114 ti114 := tiOk_of (by kernel_rfl) (by kernel_rfl) (by kernel_rfl) (by kernel_rfl) (by kernel_rfl) (Go.Value.nilFunc) (by kernel_rfl)
noncomputable def ti115 : TI := ⟨false, 1, 8, Go.Proofs.Try.t115.desc, [], [Go.Value.nilFunc]⟩
theorem ok115 : TiOk Try.prog 115 ti115 := tiOk_of (by kernel_rfl) (by kernel_rfl) (by kernel_rfl) (by kernel_rfl) (by kernel_rfl) (Go.Value.nilFunc) (by kernel_rfl)
noncomputable def ti116 : TI := ⟨false, 1, 8, Go.Proofs.Try.t116.desc, [], [Go.Value.nilFunc]⟩
theorem ok116 : TiOk Try.prog 116 ti116 := tiOk_of (by kernel_rfl) (by kernel_rfl) (by kernel_rfl) (by kernel_rfl) (by kernel_rfl) (Go.Value.nilFunc) (by kernel_rfl)
noncomputable def ti117 : TI := ⟨false, 1, 8, Go.Proofs.Try.t117.desc, [], [Go.Value.nilFunc]⟩
theorem ok117 : TiOk Try.prog 117 ti117 := tiOk_of (by kernel_rfl) (by kernel_rfl) (by kernel_rfl) (by kernel_rfl) (by kernel_rfl) (Go.Value.nilFunc) (by kernel_rfl)
noncomputable def ti118 : TI := ⟨false, 1, 8, Go.Proofs.Try.t118.desc, [], [Go.Value.nilFunc]⟩
theorem ok118 : TiOk Try.prog 118 ti118 := tiOk_of (by kernel_rfl) (by kernel_rfl) (by kernel_rfl) (by kernel_rfl) (by kernel_rfl) (Go.Value.nilFunc) (by kernel_rfl)
noncomputable def ti119 : TI := ⟨false, 1, 4, Go.Proofs.Try.t119.desc, [], [Go.Value.int Go.IntKind.u32 0]⟩
theorem ok119 : TiOk Try.prog 119 ti119 := tiOk_of (by kernel_rfl) (by kernel_rfl) (by kernel_rfl) (by kernel_rfl) (by kernel_rfl) (Go.Value.int Go.IntKind.u32 0) (by kernel_rfl)
noncomputable def ti120 : TI := ⟨false, 1, 8, Go.Proofs.Try.t120.desc, [], [Go.Value.nilFunc]⟩
theorem ok120 : TiOk Try.prog 120 ti120 := tiOk_of (by kernel_rfl) (by kernel_rfl) (by kernel_rfl) (by kernel_rfl) (by kernel_rfl) (Go.Value.nilFunc) (by kernel_rfl)
noncomputable def ti121 : TI := ⟨false, 1, 8, Go.Proofs.Try.t121.desc, [], [Go.Value.nilFunc]⟩
theorem ok121 : TiOk Try.prog 121 ti121 := tiOk_of (by kernel_rfl) (by kernel_rfl) (by kernel_rfl) (by kernel_rfl) (by kernel_rfl) (Go.Value.nilFunc) (by kernel_rfl)
noncomputable def ti122 : TI := ⟨false, 1, 8, Go.Proofs.Try.t122.desc, [], [Go.Value.nilFunc]⟩
theorem ok122 : TiOk Try.prog 122 ti122 := tiOk_of (by kernel_rfl) (by kernel_rfl) (by kernel_rfl) (by kernel_rfl) (by kernel_rfl) (Go.Value.nilFunc) (by kernel_rfl)
noncomputable def ti123 : TI := ⟨false, 1, 8, Go.Proofs.Try.t123.desc, [], [Go.Value.nilFunc]⟩
theorem ok123 : TiOk Try.prog 123 ti123 := tiOk_of (by kernel_rfl) (by kernel_rfl) (by kernel_rfl) (by kernel_rfl) (by kernel_rfl) (Go.Value.nilFunc) (by kernel_rfl)
noncomputable def ti124 : TI := ⟨false, 1, 8, Go.Proofs.Try.t124.desc, [], [Go.Value.nilFunc]⟩
theorem ok124 : TiOk Try.prog 124 ti124 := tiOk_of (by kernel_rfl) (by kernel_rfl) (by kernel_rfl) (by kernel_rfl) (by kernel_rfl) (Go.Value.nilFunc) (by kernel_rfl)
noncomputable def ti125 : TI := ⟨false, 1, 8, Go.Proofs.Try.t125.desc, [], [Go.Value.nilFunc]⟩
theorem ok125 : TiOk Try.prog 125 ti125 := tiOk_of (by kernel_rfl) (by kernel_rfl) (by kernel_rfl) (by kernel_rfl) (by kernel_rfl) (Go.Value.nilFunc) (by kernel_rfl)
noncomputable def ti126 : TI := ⟨false, 1, 8, Go.Proofs.Try.t126.desc, [], [Go.Value.nilFunc]⟩
theorem ok126 : TiOk Try.prog 126 ti126 := tiOk_of (by kernel_rfl) (by kernel_rfl) (by kernel_rfl) (by kernel_rfl) (by kernel_rfl) (Go.Value.nilFunc) (by kernel_rfl)
noncomputable def ti127 : TI := ⟨false, 1, 8, Go.Proofs.Try.t127.desc, [], [Go.Value.nilFunc]⟩
theorem ok127 : TiOk Try.prog 127 ti127 := tiOk_of (by kernel_rfl) (by kernel_rfl) (by kernel_rfl) (by kernel_rfl) (by kernel_rfl) (Go.Value.nilFunc) (by kernel_rfl)
noncomputable def ti128 : TI := ⟨false, 1, 8, Go.Proofs.Try.t128.desc, [], [Go.Value.nilFunc]⟩
theorem ok128 : TiOk Try.prog 128 ti128 := tiOk_of (by kernel_rfl) (by kernel_rfl) (by kernel_rfl) (by kernel_rfl) (by kernel_rfl) (Go.Value.nilFunc) (by kernel_rfl)
noncomputable def ti129 : TI := ⟨false, 1, 8, Go.Proofs.Try.t129.desc, [], [Go.Value.nilFunc]⟩
theorem ok129 : TiOk Try.prog 129 ti129 := tiOk_of (by kernel_rfl) (by kernel_rfl) (by kernel_rfl) (by kernel_rfl) (by kernel_rfl) (Go.Value.nilFunc) (by kernel_rfl)
noncomputable def tabL : List (Nat × TI) := [(1, ti1), (2, ti2), (3, ti3), (4, ti4), (5, ti5), (6, ti6), (7, ti7), (8, ti8), (9, ti9), (10, ti10), (11, ti11), (12, ti12), (13, ti13), (14, ti14), (15, ti15), (16, ti16), (17, ti17), (18, ti18), (19, ti19), (20, ti20), (21, ti21), (22, ti22), (23, ti23), (24, ti24), (25, ti25), (27, ti27), (28, ti28), (29, ti29), (30, ti30), (31, ti31), (32, ti32), (33, ti33), (34, ti34), (35, ti35), (36, ti36), (37, ti37), (38, ti38), (39, ti39), (40, ti40), (41, ti41), (42, ti42), (44, ti44), (45, ti45), (46, ti46), (48, ti48), (49, ti49), (50, ti50), (51, ti51), (52, ti52), (53, ti53), (54, ti54), (55, ti55), (56, ti56), (58, ti58), (59, ti59), (60, ti60), (61, ti61), (62, ti62), (63, ti63), (64, ti64), (65, ti65), (66, ti66), (67, ti67), (68, ti68), (69, ti69), (71, ti71), (72, ti72), (73, ti73), (74, ti74), (75, ti75), (76, ti76), (77, ti77), (78, ti78), (79, ti79), (80, ti80), (81, ti81), (82, ti82), (83, ti83), (84, ti84), (85, ti85), (86, ti86), (87, ti87), (88, ti88), (89, ti89), (90, ti90), (91, ti91), (92, ti92), (93, ti93), (94, ti94), (95, ti95), (96, ti96), (97, ti97), (98, ti98), (100, ti100), (101, ti101), (102, ti102), (103, ti103), (104, ti104), (105, ti105), (106, ti106), (107, ti107), (108, ti108), (109, ti109), (110, ti110), (111, ti111), (112, ti112), (114, ti114), (115, ti115), (116, ti116), (117, ti117), (118, ti118), (119, ti119), (120, ti120), (121, ti121), (122, ti122), (123, ti123), (124, ti124), (125, ti125), (126, ti126), (127, ti127), (128, ti128), (129, ti129)]
noncomputable def tab : Tab := tabGet tabL
theorem tabOk : TabOk Try.prog tab := tabOk_of ⟨ok1, ok2, ok3, ok4, ok5, ok6, ok7, ok8, ok9, ok10, ok11, ok12, ok13, ok14, ok15, ok16, ok17, ok18, ok19, ok20, ok21, ok22, ok23, ok24, ok25, ok27, ok28, ok29, ok30, ok31, ok32, ok33, ok34, ok35, ok36, ok37, ok38, ok39, ok40, ok41, ok42, ok44, ok45, ok46, ok48, ok49, ok50, ok51, ok52, ok53, ok54, ok55, ok56, ok58, ok59, ok60, ok61, ok62, ok63, ok64, ok65, ok66, ok67, ok68, ok69, ok71, ok72, ok73, ok74, ok75, ok76, ok77, ok78, ok79, ok80, ok81, ok82, ok83, ok84, ok85, ok86, ok87, ok88, ok89, ok90, ok91, ok92, ok93, ok94, ok95, ok96, ok97, ok98, ok100, ok101, ok102, ok103, ok104, ok105, ok106, ok107, ok108, ok109, ok110, ok111, ok112, ok114, ok115, ok116, ok117, ok118, ok119, ok120, ok121, ok122, ok123, ok124, ok125, ok126, ok127, ok128, ok129, trivial⟩
end Go.Proofs.Ytbfejlmamncemaa.Sk
