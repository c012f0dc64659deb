/-
  Printed by wip/tools/gen.py.
-/
import Derived.Test.YthcbdpghfefnlaaDoorOAbsF
import Derived.Test.YthcbdpghfefnlaaDoorProg
import Derived.KernelRfl
set_option linter.unusedVariables false
set_option maxRecDepth 100000
namespace Go.Proofs.YthcbdpghfefnlaaDoor
open Go Go.Proofs.YthcbdpghfefnlaaDoor.Abs
abbrev ty3 : TI := ⟨.int IntKind.i64, 1, 8, .int .i64 0, false⟩
abbrev ty4 : TI := ⟨.bool, 1, 1, .bool false, false⟩
abbrev ty9 : TI := ⟨.string, 1, 16, .string { data := #[] }, false⟩
abbrev ty22 : TI := ⟨.slice 23, 1, 24, .slice none 0 0, false⟩
abbrev ty23 : TI := ⟨.array 6 3, 6, 48, .agg #[.int .i64 0, .int .i64 0, .int .i64 0, .int .i64 0, .int .i64 0, .int .i64 0], false⟩
abbrev ty25 : TI := ⟨.struct #[{ name := "Ext", type := 4, offset := 0, embedded := false, tag := "", pkgPath := "", byteOffset := 0 }, { name := "N", type := 3, offset := 1, embedded := false, tag := "", pkgPath := "", byteOffset := 8 }], 2, 16, .agg #[.bool false, .int .i64 0], true⟩
abbrev ty27 : TI := ⟨.struct #[{ name := "Id", type := 25, offset := 0, embedded := false, tag := "", pkgPath := "", byteOffset := 0 }, { name := "Sender", type := 3, offset := 2, embedded := false, tag := "", pkgPath := "", byteOffset := 16 }, { name := "Inc", type := 3, offset := 3, embedded := false, tag := "", pkgPath := "", byteOffset := 24 }, { name := "Seq", type := 3, offset := 4, embedded := false, tag := "", pkgPath := "", byteOffset := 32 }, { name := "Number", type := 3, offset := 5, embedded := false, tag := "", pkgPath := "", byteOffset := 40 }, { name := "Data", type := 9, offset := 6, embedded := false, tag := "", pkgPath := "", byteOffset := 48 }], 7, 64, .agg #[.bool false, .int .i64 0, .int .i64 0, .int .i64 0, .int .i64 0, .int .i64 0, .string { data := #[] }], true⟩
abbrev ty28 : TI := ⟨.slice 27, 1, 24, .slice none 0 0, false⟩
abbrev ty31 : TI := ⟨.struct #[{ name := "Limit", type := 3, offset := 0, embedded := false, tag := "", pkgPath := "", byteOffset := 0 }, { name := "Msgs", type := 28, offset := 1, embedded := false, tag := "", pkgPath := "", byteOffset := 8 }], 2, 32, .agg #[.int .i64 0, .slice none 0 0], false⟩
abbrev ty32 : TI := ⟨.int IntKind.i64, 1, 8, .int .i64 0, false⟩
abbrev ty39 : TI := ⟨.slice 31, 1, 24, .slice none 0 0, false⟩
abbrev ty49 : TI := ⟨.slice 3, 1, 24, .slice none 0 0, false⟩
abbrev ty50 : TI := ⟨.array 13 4, 13, 13, .agg #[.bool false, .bool false, .bool false, .bool false, .bool false, .bool false, .bool false, .bool false, .bool false, .bool false, .bool false, .bool false, .bool false], false⟩
abbrev ty60 : TI := ⟨.map 3 61, 1, 8, .map none, false⟩
abbrev ty61 : TI := ⟨.struct #[], 0, 0, .agg #[], true⟩
abbrev ty80 : TI := ⟨.array 2 3, 2, 16, .agg #[.int .i64 0, .int .i64 0], false⟩
abbrev tys : List (Nat × TI) := [(3, ty3), (4, ty4), (9, ty9), (22, ty22), (23, ty23), (25, ty25), (27, ty27), (28, ty28), (31, ty31), (32, ty32), (39, ty39), (49, ty49), (50, ty50), (60, ty60), (61, ty61), (80, ty80)]
theorem tysOk : TysOk Tryd.prog tys :=
  tysOk_cons (by kernel_rfl) (by kernel_rfl) rfl rfl (tysOk_cons (by kernel_rfl) (by kernel_rfl) rfl rfl (tysOk_cons (by kernel_rfl) (by kernel_rfl) rfl rfl (tysOk_cons (by kernel_rfl) (by kernel_rfl) rfl rfl (tysOk_cons (by kernel_rfl) (by kernel_rfl) rfl rfl (tysOk_consE (by kernel_rfl) (by kernel_rfl) rfl rfl (fun _ => ⟨by kernel_rfl, by kernel_rfl⟩) (tysOk_consE (by kernel_rfl) (by kernel_rfl) rfl rfl (fun _ => ⟨by kernel_rfl, by kernel_rfl⟩) (tysOk_cons (by kernel_rfl) (by kernel_rfl) rfl rfl (tysOk_cons (by kernel_rfl) (by kernel_rfl) rfl rfl (tysOk_cons (by kernel_rfl) (by kernel_rfl) rfl rfl (tysOk_cons (by kernel_rfl) (by kernel_rfl) rfl rfl (tysOk_cons (by kernel_rfl) (by kernel_rfl) rfl rfl (tysOk_cons (by kernel_rfl) (by kernel_rfl) rfl rfl (tysOk_cons (by kernel_rfl) (by kernel_rfl) rfl rfl (tysOk_consE (by kernel_rfl) (by kernel_rfl) rfl rfl (fun _ => ⟨by kernel_rfl, by kernel_rfl⟩) (tysOk_cons (by kernel_rfl) (by kernel_rfl) rfl rfl (tysOk_nil))))))))))))))))
theorem mix : Tryd.prog.follows .mixedOrders = true := by kernel_rfl
abbrev gl : List (Nat × Array Value) := [(0, #[.int .i64 2047, .int .i64 536870911])]
abbrev gtab : List (Nat × List L) := [(0, [L.int 2047, L.int 536870911])]
theorem gts : ∀ v c, Abs.look gtab v = some c → ∃ cs : Array Value, Abs.look gl v = some cs ∧ c = cs.toList.map .lit ∧ ∀ u ∈ cs, u.oneCell' = true := by
  intro v c h
  simp only [gtab, Abs.look] at h
  split at h
  · rename_i e; have := Nat.eq_of_beq_eq_true e; subst this; cases h; exact ⟨_, rfl, rfl, by intro u hu; simp at hu; rcases hu with rfl | rfl <;> rfl⟩
  cases h
abbrev MM : FuncId → List (Nat × Box) → List V → List (Nat × Box) → V → Prop := MeetsB Tryd.prog gl
abbrev M (k : FuncId) (ds : List V) (r : V) : Prop := MM k [] ds [] r
/-- functions to which boxes, and their arguments tokens, are handed over; slots whose new slices are boxes -/
abbrev cfg (mu : List (Nat × Nat)) : MeetsT := ⟨MM, [37,52,39,40,44,36], [], mu, [54], gtab⟩
theorem ov54 : IsOv Tryd.prog 54 := isOv_of (t := 28) (r := 4) (e := 27) Tryd.func54 (by kernel_rfl) (by kernel_rfl) (by kernel_rfl) (by kernel_rfl) (by kernel_rfl) (by kernel_rfl)
theorem ovs : ∀ f, isIn [54] f = true → IsOv Tryd.prog f := by
  intro f h
  simp only [isIn] at h
  split at h
  · rename_i e; have := Nat.eq_of_beq_eq_true e; subst this; exact ov54
  cases h
theorem mok (mu : List (Nat × Nat)) : MOk Tryd.prog gl (cfg mu) := ⟨fun _ _ _ _ _ h => h, ovs, gts⟩
abbrev N : ItT := Iter Tryd.prog gl
/-- omnibus/omnibuslaw13.TxqTells -/
abbrev keep3 : List Nat := [0, 1, 2, 3, 4, 5, 6, 9, 10, 14, 15, 16, 17, 18, 19, 20, 21, 23, 24, 25, 26, 27, 28, 29, 30, 31, 32, 33, 35, 36, 37, 38, 39, 40, 41, 42, 43, 44, 45, 55, 75, 82, 89, 93, 102, 103, 104, 105, 160, 169, 170, 171, 172, 195, 225]
theorem go3 {ds : List V} {r : V} (hlen : Nat.ble ds.length Tryd.f3.ntmps = true) (hnd : nodupB (V.toks r) = true)
    (hW : Bd ⟨argTm 0 ds, ⟨[], [], 1000000, 0⟩⟩ → Code.W tys (cfg []) N 0 [] Tryd.f3.ntmps keep3 (Tryd.f3.body.getD .skip) true [] (retQ tys Tryd.f3.results.toList [] r) ⟨argTm 0 ds, ⟨[], [], 1000000, 0⟩⟩) (ht : V.tokss ds = [] := by rfl) : M 3 ds r :=
  meetsB_of mix tysOk (mok _) (fun _ _ _ h => h) Tryd.func3 (by decide) rfl keep3 1000000 [] rfl hlen hnd hW ht
theorem gb3 (mu : List (Nat × Nat)) (tk0 : List Nat) {bi : List (Nat × Box)} {ds : List V} {bo : List (Nat × Box)} {r : V} (hlen : Nat.ble ds.length Tryd.f3.ntmps = true) (hnd : nodupB (toksBx bo ++ V.toks r) = true)
    (hW : Bd ⟨argTm 0 ds, ⟨bi, tk0, 1000000, 0⟩⟩ → Code.W tys (cfg mu) N 0 [] Tryd.f3.ntmps keep3 (Tryd.f3.body.getD .skip) true [] (retQ tys Tryd.f3.results.toList bo r) ⟨argTm 0 ds, ⟨bi, tk0, 1000000, 0⟩⟩) (ht : toksBx bi ++ V.tokss ds = tk0 := by rfl) : MM 3 bi ds bo r :=
  meetsB_of mix tysOk (mok _) (fun _ _ _ h => h) Tryd.func3 (by decide) rfl keep3 1000000 tk0 rfl hlen hnd hW ht
/-- omnibus/omnibuslaw13.TxqOrder -/
abbrev keep4 : List Nat := [0, 1, 4, 5, 6, 7, 8, 9, 10, 11, 12, 13, 14, 15, 16, 17, 18, 19, 20, 21, 22, 23, 24, 25, 28, 35, 43, 59, 73, 112, 116, 123, 177, 181, 220]
theorem go4 {ds : List V} {r : V} (hlen : Nat.ble ds.length Tryd.f4.ntmps = true) (hnd : nodupB (V.toks r) = true)
    (hW : Bd ⟨argTm 0 ds, ⟨[], [], 1000000, 0⟩⟩ → Code.W tys (cfg []) N 0 [] Tryd.f4.ntmps keep4 (Tryd.f4.body.getD .skip) true [] (retQ tys Tryd.f4.results.toList [] r) ⟨argTm 0 ds, ⟨[], [], 1000000, 0⟩⟩) (ht : V.tokss ds = [] := by rfl) : M 4 ds r :=
  meetsB_of mix tysOk (mok _) (fun _ _ _ h => h) Tryd.func4 (by decide) rfl keep4 1000000 [] rfl hlen hnd hW ht
theorem gb4 (mu : List (Nat × Nat)) (tk0 : List Nat) {bi : List (Nat × Box)} {ds : List V} {bo : List (Nat × Box)} {r : V} (hlen : Nat.ble ds.length Tryd.f4.ntmps = true) (hnd : nodupB (toksBx bo ++ V.toks r) = true)
    (hW : Bd ⟨argTm 0 ds, ⟨bi, tk0, 1000000, 0⟩⟩ → Code.W tys (cfg mu) N 0 [] Tryd.f4.ntmps keep4 (Tryd.f4.body.getD .skip) true [] (retQ tys Tryd.f4.results.toList bo r) ⟨argTm 0 ds, ⟨bi, tk0, 1000000, 0⟩⟩) (ht : toksBx bi ++ V.tokss ds = tk0 := by rfl) : MM 4 bi ds bo r :=
  meetsB_of mix tysOk (mok _) (fun _ _ _ h => h) Tryd.func4 (by decide) rfl keep4 1000000 tk0 rfl hlen hnd hW ht
/-- omnibus/omnibuslaw13.TxqFull -/
abbrev keep5 : List Nat := [0, 1, 3, 4, 5, 6, 7, 8, 9, 10, 11, 12, 13, 14, 15, 16, 17, 18, 19, 20, 32, 53]
theorem go5 {ds : List V} {r : V} (hlen : Nat.ble ds.length Tryd.f5.ntmps = true) (hnd : nodupB (V.toks r) = true)
    (hW : Bd ⟨argTm 0 ds, ⟨[], [], 1000000, 0⟩⟩ → Code.W tys (cfg []) N 0 [] Tryd.f5.ntmps keep5 (Tryd.f5.body.getD .skip) true [] (retQ tys Tryd.f5.results.toList [] r) ⟨argTm 0 ds, ⟨[], [], 1000000, 0⟩⟩) (ht : V.tokss ds = [] := by rfl) : M 5 ds r :=
  meetsB_of mix tysOk (mok _) (fun _ _ _ h => h) Tryd.func5 (by decide) rfl keep5 1000000 [] rfl hlen hnd hW ht
theorem gb5 (mu : List (Nat × Nat)) (tk0 : List Nat) {bi : List (Nat × Box)} {ds : List V} {bo : List (Nat × Box)} {r : V} (hlen : Nat.ble ds.length Tryd.f5.ntmps = true) (hnd : nodupB (toksBx bo ++ V.toks r) = true)
    (hW : Bd ⟨argTm 0 ds, ⟨bi, tk0, 1000000, 0⟩⟩ → Code.W tys (cfg mu) N 0 [] Tryd.f5.ntmps keep5 (Tryd.f5.body.getD .skip) true [] (retQ tys Tryd.f5.results.toList bo r) ⟨argTm 0 ds, ⟨bi, tk0, 1000000, 0⟩⟩) (ht : toksBx bi ++ V.tokss ds = tk0 := by rfl) : MM 5 bi ds bo r :=
  meetsB_of mix tysOk (mok _) (fun _ _ _ h => h) Tryd.func5 (by decide) rfl keep5 1000000 tk0 rfl hlen hnd hW ht
/-- omnibus/omnibuslaw13.TxqSame -/
abbrev keep6 : List Nat := [0, 1, 4, 5, 6, 7, 8, 9, 10, 11, 12, 13, 14, 15, 16, 17, 18, 19, 20, 21, 22, 23, 24, 26, 27, 46, 83]
theorem go6 {ds : List V} {r : V} (hlen : Nat.ble ds.length Tryd.f6.ntmps = true) (hnd : nodupB (V.toks r) = true)
    (hW : Bd ⟨argTm 0 ds, ⟨[], [], 1000000, 0⟩⟩ → Code.W tys (cfg []) N 0 [] Tryd.f6.ntmps keep6 (Tryd.f6.body.getD .skip) true [] (retQ tys Tryd.f6.results.toList [] r) ⟨argTm 0 ds, ⟨[], [], 1000000, 0⟩⟩) (ht : V.tokss ds = [] := by rfl) : M 6 ds r :=
  meetsB_of mix tysOk (mok _) (fun _ _ _ h => h) Tryd.func6 (by decide) rfl keep6 1000000 [] rfl hlen hnd hW ht
/-- omnibus/omnibuslaw13.TxqAborts -/
abbrev keep7 : List Nat := [0, 1, 2, 6, 7, 8, 9, 10, 11, 12, 13, 14, 15, 33, 43, 52]
theorem go7 {ds : List V} {r : V} (hlen : Nat.ble ds.length Tryd.f7.ntmps = true) (hnd : nodupB (V.toks r) = true)
    (hW : Bd ⟨argTm 0 ds, ⟨[], [], 1000000, 0⟩⟩ → Code.W tys (cfg []) N 0 [] Tryd.f7.ntmps keep7 (Tryd.f7.body.getD .skip) true [] (retQ tys Tryd.f7.results.toList [] r) ⟨argTm 0 ds, ⟨[], [], 1000000, 0⟩⟩) (ht : V.tokss ds = [] := by rfl) : M 7 ds r :=
  meetsB_of mix tysOk (mok _) (fun _ _ _ h => h) Tryd.func7 (by decide) rfl keep7 1000000 [] rfl hlen hnd hW ht
/-- omnibus/omnibuslaw13.awake -/
abbrev keep8 : List Nat := [0, 1, 2, 3, 4, 5, 6, 8, 9, 10, 11, 12, 13, 14, 15, 18, 20, 21, 23]
theorem go8 {ds : List V} {r : V} (hlen : Nat.ble ds.length Tryd.f8.ntmps = true) (hnd : nodupB (V.toks r) = true)
    (hW : Bd ⟨argTm 0 ds, ⟨[], [], 1000000, 0⟩⟩ → Code.W tys (cfg []) N 0 [] Tryd.f8.ntmps keep8 (Tryd.f8.body.getD .skip) true [] (retQ tys Tryd.f8.results.toList [] r) ⟨argTm 0 ds, ⟨[], [], 1000000, 0⟩⟩) (ht : V.tokss ds = [] := by rfl) : M 8 ds r :=
  meetsB_of mix tysOk (mok _) (fun _ _ _ h => h) Tryd.func8 (by decide) rfl keep8 1000000 [] rfl hlen hnd hW ht
/-- omnibus/txq.New -/
abbrev keep9 : List Nat := [0, 2, 3, 6]
theorem go9 {ds : List V} {r : V} (hlen : Nat.ble ds.length Tryd.f9.ntmps = true) (hnd : nodupB (V.toks r) = true)
    (hW : Bd ⟨argTm 0 ds, ⟨[], [], 1000000, 0⟩⟩ → Code.W tys (cfg []) N 0 [] Tryd.f9.ntmps keep9 (Tryd.f9.body.getD .skip) true [] (retQ tys Tryd.f9.results.toList [] r) ⟨argTm 0 ds, ⟨[], [], 1000000, 0⟩⟩) (ht : V.tokss ds = [] := by rfl) : M 9 ds r :=
  meetsB_of mix tysOk (mok _) (fun _ _ _ h => h) Tryd.func9 (by decide) rfl keep9 1000000 [] rfl hlen hnd hW ht
/-- omnibus/omnibusref13.New -/
abbrev keep10 : List Nat := [0, 2, 3, 9]
theorem go10 {ds : List V} {r : V} (hlen : Nat.ble ds.length Tryd.f10.ntmps = true) (hnd : nodupB (V.toks r) = true)
    (hW : Bd ⟨argTm 0 ds, ⟨[], [], 1000000, 0⟩⟩ → Code.W tys (cfg []) N 0 [] Tryd.f10.ntmps keep10 (Tryd.f10.body.getD .skip) true [] (retQ tys Tryd.f10.results.toList [] r) ⟨argTm 0 ds, ⟨[], [], 1000000, 0⟩⟩) (ht : V.tokss ds = [] := by rfl) : M 10 ds r :=
  meetsB_of mix tysOk (mok _) (fun _ _ _ h => h) Tryd.func10 (by decide) rfl keep10 1000000 [] rfl hlen hnd hW ht
/-- omnibus/omnibusref13.Same -/
abbrev keep11 : List Nat := [0, 1, 2, 3, 4]
theorem go11 {ds : List V} {r : V} (hlen : Nat.ble ds.length Tryd.f11.ntmps = true) (hnd : nodupB (V.toks r) = true)
    (hW : Bd ⟨argTm 0 ds, ⟨[], [], 1000000, 0⟩⟩ → Code.W tys (cfg []) N 0 [] Tryd.f11.ntmps keep11 (Tryd.f11.body.getD .skip) true [] (retQ tys Tryd.f11.results.toList [] r) ⟨argTm 0 ds, ⟨[], [], 1000000, 0⟩⟩) (ht : V.tokss ds = [] := by rfl) : M 11 ds r :=
  meetsB_of mix tysOk (mok _) (fun _ _ _ h => h) Tryd.func11 (by decide) rfl keep11 1000000 [] rfl hlen hnd hW ht
/-- omnibus/omnibuslaw13.Queue -/
abbrev keep12 : List Nat := [0, 1, 4, 5, 7, 22]
theorem go12 {ds : List V} {r : V} (hlen : Nat.ble ds.length Tryd.f12.ntmps = true) (hnd : nodupB (V.toks r) = true)
    (hW : Bd ⟨argTm 0 ds, ⟨[], [], 1000000, 0⟩⟩ → Code.W tys (cfg []) N 0 [] Tryd.f12.ntmps keep12 (Tryd.f12.body.getD .skip) true [] (retQ tys Tryd.f12.results.toList [] r) ⟨argTm 0 ds, ⟨[], [], 1000000, 0⟩⟩) (ht : V.tokss ds = [] := by rfl) : M 12 ds r :=
  meetsB_of mix tysOk (mok _) (fun _ _ _ h => h) Tryd.func12 (by decide) rfl keep12 1000000 [] rfl hlen hnd hW ht
/-- omnibus/omnibusref13.Own -/
abbrev keep13 : List Nat := [0, 1, 2]
theorem go13 {ds : List V} {r : V} (hlen : Nat.ble ds.length Tryd.f13.ntmps = true) (hnd : nodupB (V.toks r) = true)
    (hW : Bd ⟨argTm 0 ds, ⟨[], [], 1000000, 0⟩⟩ → Code.W tys (cfg []) N 0 [] Tryd.f13.ntmps keep13 (Tryd.f13.body.getD .skip) true [] (retQ tys Tryd.f13.results.toList [] r) ⟨argTm 0 ds, ⟨[], [], 1000000, 0⟩⟩) (ht : V.tokss ds = [] := by rfl) : M 13 ds r :=
  meetsB_of mix tysOk (mok _) (fun _ _ _ h => h) Tryd.func13 (by decide) rfl keep13 1000000 [] rfl hlen hnd hW ht
theorem gb13 (mu : List (Nat × Nat)) (tk0 : List Nat) {bi : List (Nat × Box)} {ds : List V} {bo : List (Nat × Box)} {r : V} (hlen : Nat.ble ds.length Tryd.f13.ntmps = true) (hnd : nodupB (toksBx bo ++ V.toks r) = true)
    (hW : Bd ⟨argTm 0 ds, ⟨bi, tk0, 1000000, 0⟩⟩ → Code.W tys (cfg mu) N 0 [] Tryd.f13.ntmps keep13 (Tryd.f13.body.getD .skip) true [] (retQ tys Tryd.f13.results.toList bo r) ⟨argTm 0 ds, ⟨bi, tk0, 1000000, 0⟩⟩) (ht : toksBx bi ++ V.tokss ds = tk0 := by rfl) : MM 13 bi ds bo r :=
  meetsB_of mix tysOk (mok _) (fun _ _ _ h => h) Tryd.func13 (by decide) rfl keep13 1000000 tk0 rfl hlen hnd hW ht
/-- omnibus/omnibuslaw13.pick -/
abbrev keep14 : List Nat := [0, 1, 4, 6]
theorem go14 {ds : List V} {r : V} (hlen : Nat.ble ds.length Tryd.f14.ntmps = true) (hnd : nodupB (V.toks r) = true)
    (hW : Bd ⟨argTm 0 ds, ⟨[], [], 1000000, 0⟩⟩ → Code.W tys (cfg []) N 0 [] Tryd.f14.ntmps keep14 (Tryd.f14.body.getD .skip) true [] (retQ tys Tryd.f14.results.toList [] r) ⟨argTm 0 ds, ⟨[], [], 1000000, 0⟩⟩) (ht : V.tokss ds = [] := by rfl) : M 14 ds r :=
  meetsB_of mix tysOk (mok _) (fun _ _ _ h => h) Tryd.func14 (by decide) rfl keep14 1000000 [] rfl hlen hnd hW ht
/-- omnibus/txq.First -/
abbrev keep15 : List Nat := [0, 1, 2, 3, 12]
theorem go15 {ds : List V} {r : V} (hlen : Nat.ble ds.length Tryd.f15.ntmps = true) (hnd : nodupB (V.toks r) = true)
    (hW : Bd ⟨argTm 0 ds, ⟨[], [], 1000000, 0⟩⟩ → Code.W tys (cfg []) N 0 [] Tryd.f15.ntmps keep15 (Tryd.f15.body.getD .skip) true [] (retQ tys Tryd.f15.results.toList [] r) ⟨argTm 0 ds, ⟨[], [], 1000000, 0⟩⟩) (ht : V.tokss ds = [] := by rfl) : M 15 ds r :=
  meetsB_of mix tysOk (mok _) (fun _ _ _ h => h) Tryd.func15 (by decide) rfl keep15 1000000 [] rfl hlen hnd hW ht
/-- omnibus/omnibusref13.First -/
abbrev keep16 : List Nat := [0, 1, 2, 3, 12]
theorem go16 {ds : List V} {r : V} (hlen : Nat.ble ds.length Tryd.f16.ntmps = true) (hnd : nodupB (V.toks r) = true)
    (hW : Bd ⟨argTm 0 ds, ⟨[], [], 1000000, 0⟩⟩ → Code.W tys (cfg []) N 0 [] Tryd.f16.ntmps keep16 (Tryd.f16.body.getD .skip) true [] (retQ tys Tryd.f16.results.toList [] r) ⟨argTm 0 ds, ⟨[], [], 1000000, 0⟩⟩) (ht : V.tokss ds = [] := by rfl) : M 16 ds r :=
  meetsB_of mix tysOk (mok _) (fun _ _ _ h => h) Tryd.func16 (by decide) rfl keep16 1000000 [] rfl hlen hnd hW ht
/-- omnibus/txq.Take -/
abbrev keep17 : List Nat := [0, 1, 2, 3, 4]
theorem go17 {ds : List V} {r : V} (hlen : Nat.ble ds.length Tryd.f17.ntmps = true) (hnd : nodupB (V.toks r) = true)
    (hW : Bd ⟨argTm 0 ds, ⟨[], [], 1000000, 0⟩⟩ → Code.W tys (cfg []) N 0 [] Tryd.f17.ntmps keep17 (Tryd.f17.body.getD .skip) true [] (retQ tys Tryd.f17.results.toList [] r) ⟨argTm 0 ds, ⟨[], [], 1000000, 0⟩⟩) (ht : V.tokss ds = [] := by rfl) : M 17 ds r :=
  meetsB_of mix tysOk (mok _) (fun _ _ _ h => h) Tryd.func17 (by decide) rfl keep17 1000000 [] rfl hlen hnd hW ht
/-- omnibus/omnibusref13.Take -/
abbrev keep18 : List Nat := [0, 1, 2, 3, 4, 7, 14]
theorem go18 {ds : List V} {r : V} (hlen : Nat.ble ds.length Tryd.f18.ntmps = true) (hnd : nodupB (V.toks r) = true)
    (hW : Bd ⟨argTm 0 ds, ⟨[], [], 1000000, 0⟩⟩ → Code.W tys (cfg []) N 0 [] Tryd.f18.ntmps keep18 (Tryd.f18.body.getD .skip) true [] (retQ tys Tryd.f18.results.toList [] r) ⟨argTm 0 ds, ⟨[], [], 1000000, 0⟩⟩) (ht : V.tokss ds = [] := by rfl) : M 18 ds r :=
  meetsB_of mix tysOk (mok _) (fun _ _ _ h => h) Tryd.func18 (by decide) rfl keep18 1000000 [] rfl hlen hnd hW ht
/-- omnibus/txq.Right -/
abbrev keep19 : List Nat := [0, 1, 2, 3, 4, 5, 17, 20, 21, 22, 23, 44]
theorem go19 {ds : List V} {r : V} (hlen : Nat.ble ds.length Tryd.f19.ntmps = true) (hnd : nodupB (V.toks r) = true)
    (hW : Bd ⟨argTm 0 ds, ⟨[], [], 1000000, 0⟩⟩ → Code.W tys (cfg []) N 0 [] Tryd.f19.ntmps keep19 (Tryd.f19.body.getD .skip) true [] (retQ tys Tryd.f19.results.toList [] r) ⟨argTm 0 ds, ⟨[], [], 1000000, 0⟩⟩) (ht : V.tokss ds = [] := by rfl) : M 19 ds r :=
  meetsB_of mix tysOk (mok _) (fun _ _ _ h => h) Tryd.func19 (by decide) rfl keep19 1000000 [] rfl hlen hnd hW ht
/-- omnibus/omnibusref13.Right -/
abbrev keep20 : List Nat := [0, 1, 2, 3, 4, 20, 25, 53, 56, 71]
theorem go20 {ds : List V} {r : V} (hlen : Nat.ble ds.length Tryd.f20.ntmps = true) (hnd : nodupB (V.toks r) = true)
    (hW : Bd ⟨argTm 0 ds, ⟨[], [], 1000000, 0⟩⟩ → Code.W tys (cfg []) N 0 [] Tryd.f20.ntmps keep20 (Tryd.f20.body.getD .skip) true [] (retQ tys Tryd.f20.results.toList [] r) ⟨argTm 0 ds, ⟨[], [], 1000000, 0⟩⟩) (ht : V.tokss ds = [] := by rfl) : M 20 ds r :=
  meetsB_of mix tysOk (mok _) (fun _ _ _ h => h) Tryd.func20 (by decide) rfl keep20 1000000 [] rfl hlen hnd hW ht
/-- omnibus/omnibuslaw13.Numbered -/
abbrev keep21 : List Nat := [0, 1, 2, 4, 5]
theorem go21 {ds : List V} {r : V} (hlen : Nat.ble ds.length Tryd.f21.ntmps = true) (hnd : nodupB (V.toks r) = true)
    (hW : Bd ⟨argTm 0 ds, ⟨[], [], 1000000, 0⟩⟩ → Code.W tys (cfg []) N 0 [] Tryd.f21.ntmps keep21 (Tryd.f21.body.getD .skip) true [] (retQ tys Tryd.f21.results.toList [] r) ⟨argTm 0 ds, ⟨[], [], 1000000, 0⟩⟩) (ht : V.tokss ds = [] := by rfl) : M 21 ds r :=
  meetsB_of mix tysOk (mok _) (fun _ _ _ h => h) Tryd.func21 (by decide) rfl keep21 1000000 [] rfl hlen hnd hW ht
/-- omnibus/txq.Put -/
abbrev keep22 : List Nat := [0, 1, 2, 3, 4, 5, 6, 7, 16, 26, 42]
theorem go22 {ds : List V} {r : V} (hlen : Nat.ble ds.length Tryd.f22.ntmps = true) (hnd : nodupB (V.toks r) = true)
    (hW : Bd ⟨argTm 0 ds, ⟨[], [], 1000000, 0⟩⟩ → Code.W tys (cfg []) N 0 [] Tryd.f22.ntmps keep22 (Tryd.f22.body.getD .skip) true [] (retQ tys Tryd.f22.results.toList [] r) ⟨argTm 0 ds, ⟨[], [], 1000000, 0⟩⟩) (ht : V.tokss ds = [] := by rfl) : M 22 ds r :=
  meetsB_of mix tysOk (mok _) (fun _ _ _ h => h) Tryd.func22 (by decide) rfl keep22 1000000 [] rfl hlen hnd hW ht
/-- omnibus/omnibusref13.Put -/
abbrev keep23 : List Nat := [0, 1, 2, 3, 4, 5, 6, 17, 25]
theorem go23 {ds : List V} {r : V} (hlen : Nat.ble ds.length Tryd.f23.ntmps = true) (hnd : nodupB (V.toks r) = true)
    (hW : Bd ⟨argTm 0 ds, ⟨[], [], 1000000, 0⟩⟩ → Code.W tys (cfg []) N 0 [] Tryd.f23.ntmps keep23 (Tryd.f23.body.getD .skip) true [] (retQ tys Tryd.f23.results.toList [] r) ⟨argTm 0 ds, ⟨[], [], 1000000, 0⟩⟩) (ht : V.tokss ds = [] := by rfl) : M 23 ds r :=
  meetsB_of mix tysOk (mok _) (fun _ _ _ h => h) Tryd.func23 (by decide) rfl keep23 1000000 [] rfl hlen hnd hW ht
/-- omnibus/txq.Abort -/
abbrev keep24 : List Nat := [0, 1, 2, 4, 5, 6]
theorem go24 {ds : List V} {r : V} (hlen : Nat.ble ds.length Tryd.f24.ntmps = true) (hnd : nodupB (V.toks r) = true)
    (hW : Bd ⟨argTm 0 ds, ⟨[], [], 1000000, 0⟩⟩ → Code.W tys (cfg []) N 0 [] Tryd.f24.ntmps keep24 (Tryd.f24.body.getD .skip) true [] (retQ tys Tryd.f24.results.toList [] r) ⟨argTm 0 ds, ⟨[], [], 1000000, 0⟩⟩) (ht : V.tokss ds = [] := by rfl) : M 24 ds r :=
  meetsB_of mix tysOk (mok _) (fun _ _ _ h => h) Tryd.func24 (by decide) rfl keep24 1000000 [] rfl hlen hnd hW ht
/-- omnibus/omnibusref13.Abort -/
abbrev keep25 : List Nat := [0, 1, 2, 4, 5, 6, 7, 10, 18]
theorem go25 {ds : List V} {r : V} (hlen : Nat.ble ds.length Tryd.f25.ntmps = true) (hnd : nodupB (V.toks r) = true)
    (hW : Bd ⟨argTm 0 ds, ⟨[], [], 1000000, 0⟩⟩ → Code.W tys (cfg []) N 0 [] Tryd.f25.ntmps keep25 (Tryd.f25.body.getD .skip) true [] (retQ tys Tryd.f25.results.toList [] r) ⟨argTm 0 ds, ⟨[], [], 1000000, 0⟩⟩) (ht : V.tokss ds = [] := by rfl) : M 25 ds r :=
  meetsB_of mix tysOk (mok _) (fun _ _ _ h => h) Tryd.func25 (by decide) rfl keep25 1000000 [] rfl hlen hnd hW ht
/-- omnibus/omnibusref04.Less -/
abbrev keep26 : List Nat := [0, 1, 2, 3, 4, 9, 19]
theorem go26 {ds : List V} {r : V} (hlen : Nat.ble ds.length Tryd.f26.ntmps = true) (hnd : nodupB (V.toks r) = true)
    (hW : Bd ⟨argTm 0 ds, ⟨[], [], 1000000, 0⟩⟩ → Code.W tys (cfg []) N 0 [] Tryd.f26.ntmps keep26 (Tryd.f26.body.getD .skip) true [] (retQ tys Tryd.f26.results.toList [] r) ⟨argTm 0 ds, ⟨[], [], 1000000, 0⟩⟩) (ht : V.tokss ds = [] := by rfl) : M 26 ds r :=
  meetsB_of mix tysOk (mok _) (fun _ _ _ h => h) Tryd.func26 (by decide) rfl keep26 1000000 [] rfl hlen hnd hW ht
/-- omnibus/omnibusref04.Same -/
abbrev keep27 : List Nat := [0, 1, 4, 5, 10, 14, 25]
theorem go27 {ds : List V} {r : V} (hlen : Nat.ble ds.length Tryd.f27.ntmps = true) (hnd : nodupB (V.toks r) = true)
    (hW : Bd ⟨argTm 0 ds, ⟨[], [], 1000000, 0⟩⟩ → Code.W tys (cfg []) N 0 [] Tryd.f27.ntmps keep27 (Tryd.f27.body.getD .skip) true [] (retQ tys Tryd.f27.results.toList [] r) ⟨argTm 0 ds, ⟨[], [], 1000000, 0⟩⟩) (ht : V.tokss ds = [] := by rfl) : M 27 ds r :=
  meetsB_of mix tysOk (mok _) (fun _ _ _ h => h) Tryd.func27 (by decide) rfl keep27 1000000 [] rfl hlen hnd hW ht
/-- omnibus/txq.may -/
abbrev keep28 : List Nat := [0, 2]
theorem go28 {ds : List V} {r : V} (hlen : Nat.ble ds.length Tryd.f28.ntmps = true) (hnd : nodupB (V.toks r) = true)
    (hW : Bd ⟨argTm 0 ds, ⟨[], [], 1000000, 0⟩⟩ → Code.W tys (cfg []) N 0 [] Tryd.f28.ntmps keep28 (Tryd.f28.body.getD .skip) true [] (retQ tys Tryd.f28.results.toList [] r) ⟨argTm 0 ds, ⟨[], [], 1000000, 0⟩⟩) (ht : V.tokss ds = [] := by rfl) : M 28 ds r :=
  meetsB_of mix tysOk (mok _) (fun _ _ _ h => h) Tryd.func28 (by decide) rfl keep28 1000000 [] rfl hlen hnd hW ht
/-- omnibus/txq.taken -/
abbrev keep29 : List Nat := [0, 1, 2, 4, 5, 6, 7, 8, 9, 15, 23]
theorem go29 {ds : List V} {r : V} (hlen : Nat.ble ds.length Tryd.f29.ntmps = true) (hnd : nodupB (V.toks r) = true)
    (hW : Bd ⟨argTm 0 ds, ⟨[], [], 1000000, 0⟩⟩ → Code.W tys (cfg []) N 0 [] Tryd.f29.ntmps keep29 (Tryd.f29.body.getD .skip) true [] (retQ tys Tryd.f29.results.toList [] r) ⟨argTm 0 ds, ⟨[], [], 1000000, 0⟩⟩) (ht : V.tokss ds = [] := by rfl) : M 29 ds r :=
  meetsB_of mix tysOk (mok _) (fun _ _ _ h => h) Tryd.func29 (by decide) rfl keep29 1000000 [] rfl hlen hnd hW ht
/-- omnibus/txq.Take$1 -/
abbrev keep30 : List Nat := [0, 2]
theorem go30 {ds : List V} {r : V} (hlen : Nat.ble ds.length Tryd.f30.ntmps = true) (hnd : nodupB (V.toks r) = true)
    (hW : Bd ⟨argTm 0 ds, ⟨[], [], 1000000, 0⟩⟩ → Code.W tys (cfg []) N 0 [] Tryd.f30.ntmps keep30 (Tryd.f30.body.getD .skip) true [] (retQ tys Tryd.f30.results.toList [] r) ⟨argTm 0 ds, ⟨[], [], 1000000, 0⟩⟩) (ht : V.tokss ds = [] := by rfl) : M 30 ds r :=
  meetsB_of mix tysOk (mok _) (fun _ _ _ h => h) Tryd.func30 (by decide) rfl keep30 1000000 [] rfl hlen hnd hW ht
/-- omnibus/omnibusref13.without -/
abbrev keep31 : List Nat := [0, 1, 2, 4, 5, 6, 7]
theorem go31 {ds : List V} {r : V} (hlen : Nat.ble ds.length Tryd.f31.ntmps = true) (hnd : nodupB (V.toks r) = true)
    (hW : Bd ⟨argTm 0 ds, ⟨[], [], 1000000, 0⟩⟩ → Code.W tys (cfg []) N 0 [] Tryd.f31.ntmps keep31 (Tryd.f31.body.getD .skip) true [] (retQ tys Tryd.f31.results.toList [] r) ⟨argTm 0 ds, ⟨[], [], 1000000, 0⟩⟩) (ht : V.tokss ds = [] := by rfl) : M 31 ds r :=
  meetsB_of mix tysOk (mok _) (fun _ _ _ h => h) Tryd.func31 (by decide) rfl keep31 1000000 [] rfl hlen hnd hW ht
/-- omnibus/msg.Right -/
abbrev keep32 : List Nat := [0, 1, 2]
theorem go32 {ds : List V} {r : V} (hlen : Nat.ble ds.length Tryd.f32.ntmps = true) (hnd : nodupB (V.toks r) = true)
    (hW : Bd ⟨argTm 0 ds, ⟨[], [], 1000000, 0⟩⟩ → Code.W tys (cfg []) N 0 [] Tryd.f32.ntmps keep32 (Tryd.f32.body.getD .skip) true [] (retQ tys Tryd.f32.results.toList [] r) ⟨argTm 0 ds, ⟨[], [], 1000000, 0⟩⟩) (ht : V.tokss ds = [] := by rfl) : M 32 ds r :=
  meetsB_of mix tysOk (mok _) (fun _ _ _ h => h) Tryd.func32 (by decide) rfl keep32 1000000 [] rfl hlen hnd hW ht
/-- omnibus/msg.Less -/
abbrev keep33 : List Nat := [0, 1, 2, 3, 4]
theorem go33 {ds : List V} {r : V} (hlen : Nat.ble ds.length Tryd.f33.ntmps = true) (hnd : nodupB (V.toks r) = true)
    (hW : Bd ⟨argTm 0 ds, ⟨[], [], 1000000, 0⟩⟩ → Code.W tys (cfg []) N 0 [] Tryd.f33.ntmps keep33 (Tryd.f33.body.getD .skip) true [] (retQ tys Tryd.f33.results.toList [] r) ⟨argTm 0 ds, ⟨[], [], 1000000, 0⟩⟩) (ht : V.tokss ds = [] := by rfl) : M 33 ds r :=
  meetsB_of mix tysOk (mok _) (fun _ _ _ h => h) Tryd.func33 (by decide) rfl keep33 1000000 [] rfl hlen hnd hW ht
/-- omnibus/omnibusref04.Right -/
abbrev keep34 : List Nat := [0, 1, 2, 3]
theorem go34 {ds : List V} {r : V} (hlen : Nat.ble ds.length Tryd.f34.ntmps = true) (hnd : nodupB (V.toks r) = true)
    (hW : Bd ⟨argTm 0 ds, ⟨[], [], 1000000, 0⟩⟩ → Code.W tys (cfg []) N 0 [] Tryd.f34.ntmps keep34 (Tryd.f34.body.getD .skip) true [] (retQ tys Tryd.f34.results.toList [] r) ⟨argTm 0 ds, ⟨[], [], 1000000, 0⟩⟩) (ht : V.tokss ds = [] := by rfl) : M 34 ds r :=
  meetsB_of mix tysOk (mok _) (fun _ _ _ h => h) Tryd.func34 (by decide) rfl keep34 1000000 [] rfl hlen hnd hW ht
/-- omnibus/omnibuslaw04.Message -/
abbrev keep35 : List Nat := [0, 1, 2, 4, 5, 17]
theorem go35 {ds : List V} {r : V} (hlen : Nat.ble ds.length Tryd.f35.ntmps = true) (hnd : nodupB (V.toks r) = true)
    (hW : Bd ⟨argTm 0 ds, ⟨[], [], 1000000, 0⟩⟩ → Code.W tys (cfg []) N 0 [] Tryd.f35.ntmps keep35 (Tryd.f35.body.getD .skip) true [] (retQ tys Tryd.f35.results.toList [] r) ⟨argTm 0 ds, ⟨[], [], 1000000, 0⟩⟩) (ht : V.tokss ds = [] := by rfl) : M 35 ds r :=
  meetsB_of mix tysOk (mok _) (fun _ _ _ h => h) Tryd.func35 (by decide) rfl keep35 1000000 [] rfl hlen hnd hW ht
/-- omnibus/txq.own -/
abbrev keep36 : List Nat := [0, 1, 2, 3, 7]
theorem go36 {ds : List V} {r : V} (hlen : Nat.ble ds.length Tryd.f36.ntmps = true) (hnd : nodupB (V.toks r) = true)
    (hW : Bd ⟨argTm 0 ds, ⟨[], [], 1000000, 0⟩⟩ → Code.W tys (cfg []) N 0 [] Tryd.f36.ntmps keep36 (Tryd.f36.body.getD .skip) true [] (retQ tys Tryd.f36.results.toList [] r) ⟨argTm 0 ds, ⟨[], [], 1000000, 0⟩⟩) (ht : V.tokss ds = [] := by rfl) : M 36 ds r :=
  meetsB_of mix tysOk (mok _) (fun _ _ _ h => h) Tryd.func36 (by decide) rfl keep36 1000000 [] rfl hlen hnd hW ht
theorem gb36 (mu : List (Nat × Nat)) (tk0 : List Nat) {bi : List (Nat × Box)} {ds : List V} {bo : List (Nat × Box)} {r : V} (hlen : Nat.ble ds.length Tryd.f36.ntmps = true) (hnd : nodupB (toksBx bo ++ V.toks r) = true)
    (hW : Bd ⟨argTm 0 ds, ⟨bi, tk0, 1000000, 0⟩⟩ → Code.W tys (cfg mu) N 0 [] Tryd.f36.ntmps keep36 (Tryd.f36.body.getD .skip) true [] (retQ tys Tryd.f36.results.toList bo r) ⟨argTm 0 ds, ⟨bi, tk0, 1000000, 0⟩⟩) (ht : toksBx bi ++ V.tokss ds = tk0 := by rfl) : MM 36 bi ds bo r :=
  meetsB_of mix tysOk (mok _) (fun _ _ _ h => h) Tryd.func36 (by decide) rfl keep36 1000000 tk0 rfl hlen hnd hW ht
/-- omnibus/txq.find[omnibus/api.Message] -/
abbrev keep37 : List Nat := [0, 1, 4]
theorem go37 {ds : List V} {r : V} (hlen : Nat.ble ds.length Tryd.f37.ntmps = true) (hnd : nodupB (V.toks r) = true)
    (hW : Bd ⟨argTm 0 ds, ⟨[], [], 1000000, 0⟩⟩ → Code.W tys (cfg []) N 0 [] Tryd.f37.ntmps keep37 (Tryd.f37.body.getD .skip) true [] (retQ tys Tryd.f37.results.toList [] r) ⟨argTm 0 ds, ⟨[], [], 1000000, 0⟩⟩) (ht : V.tokss ds = [] := by rfl) : M 37 ds r :=
  meetsB_of mix tysOk (mok _) (fun _ _ _ h => h) Tryd.func37 (by decide) rfl keep37 1000000 [] rfl hlen hnd hW ht
theorem gb37 (mu : List (Nat × Nat)) (tk0 : List Nat) {bi : List (Nat × Box)} {ds : List V} {bo : List (Nat × Box)} {r : V} (hlen : Nat.ble ds.length Tryd.f37.ntmps = true) (hnd : nodupB (toksBx bo ++ V.toks r) = true)
    (hW : Bd ⟨argTm 0 ds, ⟨bi, tk0, 1000000, 0⟩⟩ → Code.W tys (cfg mu) N 0 [] Tryd.f37.ntmps keep37 (Tryd.f37.body.getD .skip) true [] (retQ tys Tryd.f37.results.toList bo r) ⟨argTm 0 ds, ⟨bi, tk0, 1000000, 0⟩⟩) (ht : toksBx bi ++ V.tokss ds = tk0 := by rfl) : MM 37 bi ds bo r :=
  meetsB_of mix tysOk (mok _) (fun _ _ _ h => h) Tryd.func37 (by decide) rfl keep37 1000000 tk0 rfl hlen hnd hW ht
/-- omnibus/txq.of -/
abbrev keep38 : List Nat := [0, 1, 2]
theorem go38 {ds : List V} {r : V} (hlen : Nat.ble ds.length Tryd.f38.ntmps = true) (hnd : nodupB (V.toks r) = true)
    (hW : Bd ⟨argTm 0 ds, ⟨[], [], 1000000, 0⟩⟩ → Code.W tys (cfg []) N 0 [] Tryd.f38.ntmps keep38 (Tryd.f38.body.getD .skip) true [] (retQ tys Tryd.f38.results.toList [] r) ⟨argTm 0 ds, ⟨[], [], 1000000, 0⟩⟩) (ht : V.tokss ds = [] := by rfl) : M 38 ds r :=
  meetsB_of mix tysOk (mok _) (fun _ _ _ h => h) Tryd.func38 (by decide) rfl keep38 1000000 [] rfl hlen hnd hW ht
/-- omnibus/txq.Put$1 -/
abbrev keep39 : List Nat := [0, 1, 2, 3]
theorem go39 {ds : List V} {r : V} (hlen : Nat.ble ds.length Tryd.f39.ntmps = true) (hnd : nodupB (V.toks r) = true)
    (hW : Bd ⟨argTm 0 ds, ⟨[], [], 1000000, 0⟩⟩ → Code.W tys (cfg []) N 0 [] Tryd.f39.ntmps keep39 (Tryd.f39.body.getD .skip) true [] (retQ tys Tryd.f39.results.toList [] r) ⟨argTm 0 ds, ⟨[], [], 1000000, 0⟩⟩) (ht : V.tokss ds = [] := by rfl) : M 39 ds r :=
  meetsB_of mix tysOk (mok _) (fun _ _ _ h => h) Tryd.func39 (by decide) rfl keep39 1000000 [] rfl hlen hnd hW ht
theorem gb39 (mu : List (Nat × Nat)) (tk0 : List Nat) {bi : List (Nat × Box)} {ds : List V} {bo : List (Nat × Box)} {r : V} (hlen : Nat.ble ds.length Tryd.f39.ntmps = true) (hnd : nodupB (toksBx bo ++ V.toks r) = true)
    (hW : Bd ⟨argTm 0 ds, ⟨bi, tk0, 1000000, 0⟩⟩ → Code.W tys (cfg mu) N 0 [] Tryd.f39.ntmps keep39 (Tryd.f39.body.getD .skip) true [] (retQ tys Tryd.f39.results.toList bo r) ⟨argTm 0 ds, ⟨bi, tk0, 1000000, 0⟩⟩) (ht : toksBx bi ++ V.tokss ds = tk0 := by rfl) : MM 39 bi ds bo r :=
  meetsB_of mix tysOk (mok _) (fun _ _ _ h => h) Tryd.func39 (by decide) rfl keep39 1000000 tk0 rfl hlen hnd hW ht
/-- slices.Insert[[]omnibus/api.Message,omnibus/api.Message] -/
abbrev keep40 : List Nat := [0, 1, 2, 6, 7, 8, 9, 16, 22, 31, 68]
theorem go40 {ds : List V} {r : V} (hlen : Nat.ble ds.length Tryd.f40.ntmps = true) (hnd : nodupB (V.toks r) = true)
    (hW : Bd ⟨argTm 0 ds, ⟨[], [], 1000000, 0⟩⟩ → Code.W tys (cfg []) N 0 [] Tryd.f40.ntmps keep40 (Tryd.f40.body.getD .skip) true [] (retQ tys Tryd.f40.results.toList [] r) ⟨argTm 0 ds, ⟨[], [], 1000000, 0⟩⟩) (ht : V.tokss ds = [] := by rfl) : M 40 ds r :=
  meetsB_of mix tysOk (mok _) (fun _ _ _ h => h) Tryd.func40 (by decide) rfl keep40 1000000 [] rfl hlen hnd hW ht
theorem gb40 (mu : List (Nat × Nat)) (tk0 : List Nat) {bi : List (Nat × Box)} {ds : List V} {bo : List (Nat × Box)} {r : V} (hlen : Nat.ble ds.length Tryd.f40.ntmps = true) (hnd : nodupB (toksBx bo ++ V.toks r) = true)
    (hW : Bd ⟨argTm 0 ds, ⟨bi, tk0, 1000000, 0⟩⟩ → Code.W tys (cfg mu) N 0 [] Tryd.f40.ntmps keep40 (Tryd.f40.body.getD .skip) true [] (retQ tys Tryd.f40.results.toList bo r) ⟨argTm 0 ds, ⟨bi, tk0, 1000000, 0⟩⟩) (ht : toksBx bi ++ V.tokss ds = tk0 := by rfl) : MM 40 bi ds bo r :=
  meetsB_of mix tysOk (mok _) (fun _ _ _ h => h) Tryd.func40 (by decide) rfl keep40 1000000 tk0 rfl hlen hnd hW ht
/-- omnibus/omnibusref13.at -/
abbrev keep41 : List Nat := [0, 1, 2, 4, 5, 10, 20]
theorem go41 {ds : List V} {r : V} (hlen : Nat.ble ds.length Tryd.f41.ntmps = true) (hnd : nodupB (V.toks r) = true)
    (hW : Bd ⟨argTm 0 ds, ⟨[], [], 1000000, 0⟩⟩ → Code.W tys (cfg []) N 0 [] Tryd.f41.ntmps keep41 (Tryd.f41.body.getD .skip) true [] (retQ tys Tryd.f41.results.toList [] r) ⟨argTm 0 ds, ⟨[], [], 1000000, 0⟩⟩) (ht : V.tokss ds = [] := by rfl) : M 41 ds r :=
  meetsB_of mix tysOk (mok _) (fun _ _ _ h => h) Tryd.func41 (by decide) rfl keep41 1000000 [] rfl hlen hnd hW ht
/-- omnibus/omnibusref04.Sort -/
abbrev keep42 : List Nat := [0, 2, 3, 4, 5, 9, 18, 34]
theorem go42 {ds : List V} {r : V} (hlen : Nat.ble ds.length Tryd.f42.ntmps = true) (hnd : nodupB (V.toks r) = true)
    (hW : Bd ⟨argTm 0 ds, ⟨[], [], 1000000, 0⟩⟩ → Code.W tys (cfg []) N 0 [] Tryd.f42.ntmps keep42 (Tryd.f42.body.getD .skip) true [] (retQ tys Tryd.f42.results.toList [] r) ⟨argTm 0 ds, ⟨[], [], 1000000, 0⟩⟩) (ht : V.tokss ds = [] := by rfl) : M 42 ds r :=
  meetsB_of mix tysOk (mok _) (fun _ _ _ h => h) Tryd.func42 (by decide) rfl keep42 1000000 [] rfl hlen hnd hW ht
/-- omnibus/omnibusref02.Less -/
abbrev keep43 : List Nat := [0, 1, 2, 3, 4, 5, 6, 7, 8]
theorem go43 {ds : List V} {r : V} (hlen : Nat.ble ds.length Tryd.f43.ntmps = true) (hnd : nodupB (V.toks r) = true)
    (hW : Bd ⟨argTm 0 ds, ⟨[], [], 1000000, 0⟩⟩ → Code.W tys (cfg []) N 0 [] Tryd.f43.ntmps keep43 (Tryd.f43.body.getD .skip) true [] (retQ tys Tryd.f43.results.toList [] r) ⟨argTm 0 ds, ⟨[], [], 1000000, 0⟩⟩) (ht : V.tokss ds = [] := by rfl) : M 43 ds r :=
  meetsB_of mix tysOk (mok _) (fun _ _ _ h => h) Tryd.func43 (by decide) rfl keep43 1000000 [] rfl hlen hnd hW ht
/-- slices.Delete[[]omnibus/api.Message,omnibus/api.Message] -/
abbrev keep44 : List Nat := [0, 1, 2, 6, 7, 16]
theorem go44 {ds : List V} {r : V} (hlen : Nat.ble ds.length Tryd.f44.ntmps = true) (hnd : nodupB (V.toks r) = true)
    (hW : Bd ⟨argTm 0 ds, ⟨[], [], 1000000, 0⟩⟩ → Code.W tys (cfg []) N 0 [] Tryd.f44.ntmps keep44 (Tryd.f44.body.getD .skip) true [] (retQ tys Tryd.f44.results.toList [] r) ⟨argTm 0 ds, ⟨[], [], 1000000, 0⟩⟩) (ht : V.tokss ds = [] := by rfl) : M 44 ds r :=
  meetsB_of mix tysOk (mok _) (fun _ _ _ h => h) Tryd.func44 (by decide) rfl keep44 1000000 [] rfl hlen hnd hW ht
theorem gb44 (mu : List (Nat × Nat)) (tk0 : List Nat) {bi : List (Nat × Box)} {ds : List V} {bo : List (Nat × Box)} {r : V} (hlen : Nat.ble ds.length Tryd.f44.ntmps = true) (hnd : nodupB (toksBx bo ++ V.toks r) = true)
    (hW : Bd ⟨argTm 0 ds, ⟨bi, tk0, 1000000, 0⟩⟩ → Code.W tys (cfg mu) N 0 [] Tryd.f44.ntmps keep44 (Tryd.f44.body.getD .skip) true [] (retQ tys Tryd.f44.results.toList bo r) ⟨argTm 0 ds, ⟨bi, tk0, 1000000, 0⟩⟩) (ht : toksBx bi ++ V.tokss ds = tk0 := by rfl) : MM 44 bi ds bo r :=
  meetsB_of mix tysOk (mok _) (fun _ _ _ h => h) Tryd.func44 (by decide) rfl keep44 1000000 tk0 rfl hlen hnd hW ht
/-- omnibus/ident.Right -/
abbrev keep45 : List Nat := [0, 1, 2]
theorem go45 {ds : List V} {r : V} (hlen : Nat.ble ds.length Tryd.f45.ntmps = true) (hnd : nodupB (V.toks r) = true)
    (hW : Bd ⟨argTm 0 ds, ⟨[], [], 1000000, 0⟩⟩ → Code.W tys (cfg []) N 0 [] Tryd.f45.ntmps keep45 (Tryd.f45.body.getD .skip) true [] (retQ tys Tryd.f45.results.toList [] r) ⟨argTm 0 ds, ⟨[], [], 1000000, 0⟩⟩) (ht : V.tokss ds = [] := by rfl) : M 45 ds r :=
  meetsB_of mix tysOk (mok _) (fun _ _ _ h => h) Tryd.func45 (by decide) rfl keep45 1000000 [] rfl hlen hnd hW ht
/-- omnibus/msg.small -/
abbrev keep46 : List Nat := [0, 2]
theorem go46 {ds : List V} {r : V} (hlen : Nat.ble ds.length Tryd.f46.ntmps = true) (hnd : nodupB (V.toks r) = true)
    (hW : Bd ⟨argTm 0 ds, ⟨[], [], 1000000, 0⟩⟩ → Code.W tys (cfg []) N 0 [] Tryd.f46.ntmps keep46 (Tryd.f46.body.getD .skip) true [] (retQ tys Tryd.f46.results.toList [] r) ⟨argTm 0 ds, ⟨[], [], 1000000, 0⟩⟩) (ht : V.tokss ds = [] := by rfl) : M 46 ds r :=
  meetsB_of mix tysOk (mok _) (fun _ _ _ h => h) Tryd.func46 (by decide) rfl keep46 1000000 [] rfl hlen hnd hW ht
/-- omnibus/msg.compare -/
abbrev keep47 : List Nat := [0, 1, 2, 3, 4, 5, 11, 17]
theorem go47 {ds : List V} {r : V} (hlen : Nat.ble ds.length Tryd.f47.ntmps = true) (hnd : nodupB (V.toks r) = true)
    (hW : Bd ⟨argTm 0 ds, ⟨[], [], 1000000, 0⟩⟩ → Code.W tys (cfg []) N 0 [] Tryd.f47.ntmps keep47 (Tryd.f47.body.getD .skip) true [] (retQ tys Tryd.f47.results.toList [] r) ⟨argTm 0 ds, ⟨[], [], 1000000, 0⟩⟩) (ht : V.tokss ds = [] := by rfl) : M 47 ds r :=
  meetsB_of mix tysOk (mok _) (fun _ _ _ h => h) Tryd.func47 (by decide) rfl keep47 1000000 [] rfl hlen hnd hW ht
/-- omnibus/omnibusref02.Right -/
abbrev keep48 : List Nat := [0, 1, 2]
theorem go48 {ds : List V} {r : V} (hlen : Nat.ble ds.length Tryd.f48.ntmps = true) (hnd : nodupB (V.toks r) = true)
    (hW : Bd ⟨argTm 0 ds, ⟨[], [], 1000000, 0⟩⟩ → Code.W tys (cfg []) N 0 [] Tryd.f48.ntmps keep48 (Tryd.f48.body.getD .skip) true [] (retQ tys Tryd.f48.results.toList [] r) ⟨argTm 0 ds, ⟨[], [], 1000000, 0⟩⟩) (ht : V.tokss ds = [] := by rfl) : M 48 ds r :=
  meetsB_of mix tysOk (mok _) (fun _ _ _ h => h) Tryd.func48 (by decide) rfl keep48 1000000 [] rfl hlen hnd hW ht
/-- omnibus/omnibusref04.small -/
abbrev keep49 : List Nat := [0, 2]
theorem go49 {ds : List V} {r : V} (hlen : Nat.ble ds.length Tryd.f49.ntmps = true) (hnd : nodupB (V.toks r) = true)
    (hW : Bd ⟨argTm 0 ds, ⟨[], [], 1000000, 0⟩⟩ → Code.W tys (cfg []) N 0 [] Tryd.f49.ntmps keep49 (Tryd.f49.body.getD .skip) true [] (retQ tys Tryd.f49.results.toList [] r) ⟨argTm 0 ds, ⟨[], [], 1000000, 0⟩⟩) (ht : V.tokss ds = [] := by rfl) : M 49 ds r :=
  meetsB_of mix tysOk (mok _) (fun _ _ _ h => h) Tryd.func49 (by decide) rfl keep49 1000000 [] rfl hlen hnd hW ht
/-- omnibus/omnibuslaw02.Ident -/
abbrev keep50 : List Nat := [0, 1, 4, 5]
theorem go50 {ds : List V} {r : V} (hlen : Nat.ble ds.length Tryd.f50.ntmps = true) (hnd : nodupB (V.toks r) = true)
    (hW : Bd ⟨argTm 0 ds, ⟨[], [], 1000000, 0⟩⟩ → Code.W tys (cfg []) N 0 [] Tryd.f50.ntmps keep50 (Tryd.f50.body.getD .skip) true [] (retQ tys Tryd.f50.results.toList [] r) ⟨argTm 0 ds, ⟨[], [], 1000000, 0⟩⟩) (ht : V.tokss ds = [] := by rfl) : M 50 ds r :=
  meetsB_of mix tysOk (mok _) (fun _ _ _ h => h) Tryd.func50 (by decide) rfl keep50 1000000 [] rfl hlen hnd hW ht
/-- omnibus/omnibuslaw04.pick -/
abbrev keep51 : List Nat := [0, 1, 4, 6]
theorem go51 {ds : List V} {r : V} (hlen : Nat.ble ds.length Tryd.f51.ntmps = true) (hnd : nodupB (V.toks r) = true)
    (hW : Bd ⟨argTm 0 ds, ⟨[], [], 1000000, 0⟩⟩ → Code.W tys (cfg []) N 0 [] Tryd.f51.ntmps keep51 (Tryd.f51.body.getD .skip) true [] (retQ tys Tryd.f51.results.toList [] r) ⟨argTm 0 ds, ⟨[], [], 1000000, 0⟩⟩) (ht : V.tokss ds = [] := by rfl) : M 51 ds r :=
  meetsB_of mix tysOk (mok _) (fun _ _ _ h => h) Tryd.func51 (by decide) rfl keep51 1000000 [] rfl hlen hnd hW ht
/-- slices.IndexFunc[[]omnibus/api.Message,omnibus/api.Message] -/
abbrev keep52 : List Nat := [0, 1, 4, 5, 7, 8, 9, 16]
theorem go52 {ds : List V} {r : V} (hlen : Nat.ble ds.length Tryd.f52.ntmps = true) (hnd : nodupB (V.toks r) = true)
    (hW : Bd ⟨argTm 0 ds, ⟨[], [], 1000000, 0⟩⟩ → Code.W tys (cfg []) N 0 [] Tryd.f52.ntmps keep52 (Tryd.f52.body.getD .skip) true [] (retQ tys Tryd.f52.results.toList [] r) ⟨argTm 0 ds, ⟨[], [], 1000000, 0⟩⟩) (ht : V.tokss ds = [] := by rfl) : M 52 ds r :=
  meetsB_of mix tysOk (mok _) (fun _ _ _ h => h) Tryd.func52 (by decide) rfl keep52 1000000 [] rfl hlen hnd hW ht
theorem gb52 (mu : List (Nat × Nat)) (tk0 : List Nat) {bi : List (Nat × Box)} {ds : List V} {bo : List (Nat × Box)} {r : V} (hlen : Nat.ble ds.length Tryd.f52.ntmps = true) (hnd : nodupB (toksBx bo ++ V.toks r) = true)
    (hW : Bd ⟨argTm 0 ds, ⟨bi, tk0, 1000000, 0⟩⟩ → Code.W tys (cfg mu) N 0 [] Tryd.f52.ntmps keep52 (Tryd.f52.body.getD .skip) true [] (retQ tys Tryd.f52.results.toList bo r) ⟨argTm 0 ds, ⟨bi, tk0, 1000000, 0⟩⟩) (ht : toksBx bi ++ V.tokss ds = tk0 := by rfl) : MM 52 bi ds bo r :=
  meetsB_of mix tysOk (mok _) (fun _ _ _ h => h) Tryd.func52 (by decide) rfl keep52 1000000 tk0 rfl hlen hnd hW ht
/-- omnibus/txq.of$1 -/
abbrev keep53 : List Nat := [0, 1, 2, 3]
theorem go53 {ds : List V} {r : V} (hlen : Nat.ble ds.length Tryd.f53.ntmps = true) (hnd : nodupB (V.toks r) = true)
    (hW : Bd ⟨argTm 0 ds, ⟨[], [], 1000000, 0⟩⟩ → Code.W tys (cfg []) N 0 [] Tryd.f53.ntmps keep53 (Tryd.f53.body.getD .skip) true [] (retQ tys Tryd.f53.results.toList [] r) ⟨argTm 0 ds, ⟨[], [], 1000000, 0⟩⟩) (ht : V.tokss ds = [] := by rfl) : M 53 ds r :=
  meetsB_of mix tysOk (mok _) (fun _ _ _ h => h) Tryd.func53 (by decide) rfl keep53 1000000 [] rfl hlen hnd hW ht
/-- slices.rotateRight[omnibus/api.Message] -/
abbrev keep55 : List Nat := [0, 1]
theorem go55 {ds : List V} {r : V} (hlen : Nat.ble ds.length Tryd.f55.ntmps = true) (hnd : nodupB (V.toks r) = true)
    (hW : Bd ⟨argTm 0 ds, ⟨[], [], 1000000, 0⟩⟩ → Code.W tys (cfg []) N 0 [] Tryd.f55.ntmps keep55 (Tryd.f55.body.getD .skip) true [] (retQ tys Tryd.f55.results.toList [] r) ⟨argTm 0 ds, ⟨[], [], 1000000, 0⟩⟩) (ht : V.tokss ds = [] := by rfl) : M 55 ds r :=
  meetsB_of mix tysOk (mok _) (fun _ _ _ h => h) Tryd.func55 (by decide) rfl keep55 1000000 [] rfl hlen hnd hW ht
/-- omnibus/omnibusref02.Key -/
abbrev keep56 : List Nat := [0, 1, 2, 3, 6, 9]
theorem go56 {ds : List V} {r : V} (hlen : Nat.ble ds.length Tryd.f56.ntmps = true) (hnd : nodupB (V.toks r) = true)
    (hW : Bd ⟨argTm 0 ds, ⟨[], [], 1000000, 0⟩⟩ → Code.W tys (cfg []) N 0 [] Tryd.f56.ntmps keep56 (Tryd.f56.body.getD .skip) true [] (retQ tys Tryd.f56.results.toList [] r) ⟨argTm 0 ds, ⟨[], [], 1000000, 0⟩⟩) (ht : V.tokss ds = [] := by rfl) : M 56 ds r :=
  meetsB_of mix tysOk (mok _) (fun _ _ _ h => h) Tryd.func56 (by decide) rfl keep56 1000000 [] rfl hlen hnd hW ht
/-- omnibus/ident.within -/
abbrev keep57 : List Nat := [0, 1, 4]
theorem go57 {ds : List V} {r : V} (hlen : Nat.ble ds.length Tryd.f57.ntmps = true) (hnd : nodupB (V.toks r) = true)
    (hW : Bd ⟨argTm 0 ds, ⟨[], [], 1000000, 0⟩⟩ → Code.W tys (cfg []) N 0 [] Tryd.f57.ntmps keep57 (Tryd.f57.body.getD .skip) true [] (retQ tys Tryd.f57.results.toList [] r) ⟨argTm 0 ds, ⟨[], [], 1000000, 0⟩⟩) (ht : V.tokss ds = [] := by rfl) : M 57 ds r :=
  meetsB_of mix tysOk (mok _) (fun _ _ _ h => h) Tryd.func57 (by decide) rfl keep57 1000000 [] rfl hlen hnd hW ht
/-- omnibus/ident.Less -/
abbrev keep58 : List Nat := [0, 1, 2, 3, 4, 5, 6, 7, 8]
theorem go58 {ds : List V} {r : V} (hlen : Nat.ble ds.length Tryd.f58.ntmps = true) (hnd : nodupB (V.toks r) = true)
    (hW : Bd ⟨argTm 0 ds, ⟨[], [], 1000000, 0⟩⟩ → Code.W tys (cfg []) N 0 [] Tryd.f58.ntmps keep58 (Tryd.f58.body.getD .skip) true [] (retQ tys Tryd.f58.results.toList [] r) ⟨argTm 0 ds, ⟨[], [], 1000000, 0⟩⟩) (ht : V.tokss ds = [] := by rfl) : M 58 ds r :=
  meetsB_of mix tysOk (mok _) (fun _ _ _ h => h) Tryd.func58 (by decide) rfl keep58 1000000 [] rfl hlen hnd hW ht
/-- cmp.Or[int] -/
abbrev keep59 : List Nat := [0, 2, 3, 5, 6, 7, 8, 9, 14]
theorem go59 {ds : List V} {r : V} (hlen : Nat.ble ds.length Tryd.f59.ntmps = true) (hnd : nodupB (V.toks r) = true)
    (hW : Bd ⟨argTm 0 ds, ⟨[], [], 1000000, 0⟩⟩ → Code.W tys (cfg []) N 0 [] Tryd.f59.ntmps keep59 (Tryd.f59.body.getD .skip) true [] (retQ tys Tryd.f59.results.toList [] r) ⟨argTm 0 ds, ⟨[], [], 1000000, 0⟩⟩) (ht : V.tokss ds = [] := by rfl) : M 59 ds r :=
  meetsB_of mix tysOk (mok _) (fun _ _ _ h => h) Tryd.func59 (by decide) rfl keep59 1000000 [] rfl hlen hnd hW ht
/-- cmp.Compare[int] -/
abbrev keep60 : List Nat := [0, 1, 4, 5, 6, 11, 12, 13, 16, 19]
theorem go60 {ds : List V} {r : V} (hlen : Nat.ble ds.length Tryd.f60.ntmps = true) (hnd : nodupB (V.toks r) = true)
    (hW : Bd ⟨argTm 0 ds, ⟨[], [], 1000000, 0⟩⟩ → Code.W tys (cfg []) N 0 [] Tryd.f60.ntmps keep60 (Tryd.f60.body.getD .skip) true [] (retQ tys Tryd.f60.results.toList [] r) ⟨argTm 0 ds, ⟨[], [], 1000000, 0⟩⟩) (ht : V.tokss ds = [] := by rfl) : M 60 ds r :=
  meetsB_of mix tysOk (mok _) (fun _ _ _ h => h) Tryd.func60 (by decide) rfl keep60 1000000 [] rfl hlen hnd hW ht
/-- omnibus/omnibusref02.limit -/
abbrev keep61 : List Nat := [0, 2, 3]
theorem go61 {ds : List V} {r : V} (hlen : Nat.ble ds.length Tryd.f61.ntmps = true) (hnd : nodupB (V.toks r) = true)
    (hW : Bd ⟨argTm 0 ds, ⟨[], [], 1000000, 0⟩⟩ → Code.W tys (cfg []) N 0 [] Tryd.f61.ntmps keep61 (Tryd.f61.body.getD .skip) true [] (retQ tys Tryd.f61.results.toList [] r) ⟨argTm 0 ds, ⟨[], [], 1000000, 0⟩⟩) (ht : V.tokss ds = [] := by rfl) : M 61 ds r :=
  meetsB_of mix tysOk (mok _) (fun _ _ _ h => h) Tryd.func61 (by decide) rfl keep61 1000000 [] rfl hlen hnd hW ht
/-- omnibus/omnibuslaw02.pick -/
abbrev keep62 : List Nat := [0, 1, 4, 6]
theorem go62 {ds : List V} {r : V} (hlen : Nat.ble ds.length Tryd.f62.ntmps = true) (hnd : nodupB (V.toks r) = true)
    (hW : Bd ⟨argTm 0 ds, ⟨[], [], 1000000, 0⟩⟩ → Code.W tys (cfg []) N 0 [] Tryd.f62.ntmps keep62 (Tryd.f62.body.getD .skip) true [] (retQ tys Tryd.f62.results.toList [] r) ⟨argTm 0 ds, ⟨[], [], 1000000, 0⟩⟩) (ht : V.tokss ds = [] := by rfl) : M 62 ds r :=
  meetsB_of mix tysOk (mok _) (fun _ _ _ h => h) Tryd.func62 (by decide) rfl keep62 1000000 [] rfl hlen hnd hW ht
/-- slices.rotateLeft[omnibus/api.Message] -/
abbrev keep63 : List Nat := [0, 1]
theorem go63 {ds : List V} {r : V} (hlen : Nat.ble ds.length Tryd.f63.ntmps = true) (hnd : nodupB (V.toks r) = true)
    (hW : Bd ⟨argTm 0 ds, ⟨[], [], 1000000, 0⟩⟩ → Code.W tys (cfg []) N 0 [] Tryd.f63.ntmps keep63 (Tryd.f63.body.getD .skip) true [] (retQ tys Tryd.f63.results.toList [] r) ⟨argTm 0 ds, ⟨[], [], 1000000, 0⟩⟩) (ht : V.tokss ds = [] := by rfl) : M 63 ds r :=
  meetsB_of mix tysOk (mok _) (fun _ _ _ h => h) Tryd.func63 (by decide) rfl keep63 1000000 [] rfl hlen hnd hW ht
/-- omnibus/ident.limit -/
abbrev keep64 : List Nat := [0, 2, 3]
theorem go64 {ds : List V} {r : V} (hlen : Nat.ble ds.length Tryd.f64.ntmps = true) (hnd : nodupB (V.toks r) = true)
    (hW : Bd ⟨argTm 0 ds, ⟨[], [], 1000000, 0⟩⟩ → Code.W tys (cfg []) N 0 [] Tryd.f64.ntmps keep64 (Tryd.f64.body.getD .skip) true [] (retQ tys Tryd.f64.results.toList [] r) ⟨argTm 0 ds, ⟨[], [], 1000000, 0⟩⟩) (ht : V.tokss ds = [] := by rfl) : M 64 ds r :=
  meetsB_of mix tysOk (mok _) (fun _ _ _ h => h) Tryd.func64 (by decide) rfl keep64 1000000 [] rfl hlen hnd hW ht
/-- omnibus/ident.Key -/
abbrev keep65 : List Nat := [0, 1, 2, 3, 4, 8]
theorem go65 {ds : List V} {r : V} (hlen : Nat.ble ds.length Tryd.f65.ntmps = true) (hnd : nodupB (V.toks r) = true)
    (hW : Bd ⟨argTm 0 ds, ⟨[], [], 1000000, 0⟩⟩ → Code.W tys (cfg []) N 0 [] Tryd.f65.ntmps keep65 (Tryd.f65.body.getD .skip) true [] (retQ tys Tryd.f65.results.toList [] r) ⟨argTm 0 ds, ⟨[], [], 1000000, 0⟩⟩) (ht : V.tokss ds = [] := by rfl) : M 65 ds r :=
  meetsB_of mix tysOk (mok _) (fun _ _ _ h => h) Tryd.func65 (by decide) rfl keep65 1000000 [] rfl hlen hnd hW ht
/-- cmp.isNaN[int] -/
abbrev keep66 : List Nat := [0, 2]
theorem go66 {ds : List V} {r : V} (hlen : Nat.ble ds.length Tryd.f66.ntmps = true) (hnd : nodupB (V.toks r) = true)
    (hW : Bd ⟨argTm 0 ds, ⟨[], [], 1000000, 0⟩⟩ → Code.W tys (cfg []) N 0 [] Tryd.f66.ntmps keep66 (Tryd.f66.body.getD .skip) true [] (retQ tys Tryd.f66.results.toList [] r) ⟨argTm 0 ds, ⟨[], [], 1000000, 0⟩⟩) (ht : V.tokss ds = [] := by rfl) : M 66 ds r :=
  meetsB_of mix tysOk (mok _) (fun _ _ _ h => h) Tryd.func66 (by decide) rfl keep66 1000000 [] rfl hlen hnd hW ht
/-- slices.Reverse[[]omnibus/api.Message,omnibus/api.Message] -/
abbrev keep67 : List Nat := [0, 2, 3, 9]
theorem go67 {ds : List V} {r : V} (hlen : Nat.ble ds.length Tryd.f67.ntmps = true) (hnd : nodupB (V.toks r) = true)
    (hW : Bd ⟨argTm 0 ds, ⟨[], [], 1000000, 0⟩⟩ → Code.W tys (cfg []) N 0 [] Tryd.f67.ntmps keep67 (Tryd.f67.body.getD .skip) true [] (retQ tys Tryd.f67.results.toList [] r) ⟨argTm 0 ds, ⟨[], [], 1000000, 0⟩⟩) (ht : V.tokss ds = [] := by rfl) : M 67 ds r :=
  meetsB_of mix tysOk (mok _) (fun _ _ _ h => h) Tryd.func67 (by decide) rfl keep67 1000000 [] rfl hlen hnd hW ht
end Go.Proofs.YthcbdpghfefnlaaDoor
