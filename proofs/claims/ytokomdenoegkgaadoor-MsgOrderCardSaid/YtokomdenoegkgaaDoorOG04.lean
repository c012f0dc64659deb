/-
  Printed by wip/tools/gen.py.
-/
import Derived.Test.YtokomdenoegkgaaDoorOAbsF
import Derived.Test.YtokomdenoegkgaaDoorProg
import Derived.KernelRfl
set_option linter.unusedVariables false
set_option maxRecDepth 100000
namespace Go.Proofs.YtokomdenoegkgaaDoor
open Go Go.Proofs.YtokomdenoegkgaaDoor.Abs
abbrev ty3 : TI := ⟨.int IntKind.i64, 1, 8, .int .i64 0, false⟩
abbrev ty4 : TI := ⟨.bool, 1, 1, .bool false, false⟩
abbrev ty5 : TI := ⟨.int IntKind.u8, 1, 1, .int .u8 0, false⟩
abbrev ty9 : TI := ⟨.string, 1, 16, .string { data := #[] }, false⟩
abbrev ty23 : TI := ⟨.struct #[{ name := "Ext", type := 4, offset := 0, embedded := false, tag := "", pkgPath := "", byteOffset := 0 }, { name := "N", type := 3, offset := 1, embedded := false, tag := "", pkgPath := "", byteOffset := 8 }], 2, 16, .agg #[.bool false, .int .i64 0], true⟩
abbrev ty25 : TI := ⟨.struct #[{ name := "Id", type := 23, offset := 0, embedded := false, tag := "", pkgPath := "", byteOffset := 0 }, { name := "Sender", type := 3, offset := 2, embedded := false, tag := "", pkgPath := "", byteOffset := 16 }, { name := "Inc", type := 3, offset := 3, embedded := false, tag := "", pkgPath := "", byteOffset := 24 }, { name := "Seq", type := 3, offset := 4, embedded := false, tag := "", pkgPath := "", byteOffset := 32 }, { name := "Number", type := 3, offset := 5, embedded := false, tag := "", pkgPath := "", byteOffset := 40 }, { name := "Data", type := 9, offset := 6, embedded := false, tag := "", pkgPath := "", byteOffset := 48 }], 7, 64, .agg #[.bool false, .int .i64 0, .int .i64 0, .int .i64 0, .int .i64 0, .int .i64 0, .string { data := #[] }], true⟩
abbrev ty26 : TI := ⟨.array 6 3, 6, 48, .agg #[.int .i64 0, .int .i64 0, .int .i64 0, .int .i64 0, .int .i64 0, .int .i64 0], false⟩
abbrev ty28 : TI := ⟨.int IntKind.i64, 1, 8, .int .i64 0, false⟩
abbrev ty35 : TI := ⟨.slice 5, 1, 24, .slice none 0 0, false⟩
abbrev ty36 : TI := ⟨.slice 9, 1, 24, .slice none 0 0, false⟩
abbrev ty40 : TI := ⟨.slice 25, 1, 24, .slice none 0 0, false⟩
abbrev ty41 : TI := ⟨.slice 26, 1, 24, .slice none 0 0, false⟩
abbrev ty53 : TI := ⟨.pointer 25, 1, 8, .pointer none, false⟩
abbrev ty54 : TI := ⟨.pointer 3, 1, 8, .pointer none, false⟩
abbrev ty67 : TI := ⟨.int IntKind.u32, 1, 4, .int .u32 0, false⟩
abbrev ty68 : TI := ⟨.array 4 5, 4, 4, .agg #[.int .u8 0, .int .u8 0, .int .u8 0, .int .u8 0], false⟩
abbrev ty70 : TI := ⟨.slice 54, 1, 24, .slice none 0 0, false⟩
abbrev ty78 : TI := ⟨.slice 3, 1, 24, .slice none 0 0, false⟩
abbrev ty79 : TI := ⟨.array 2 3, 2, 16, .agg #[.int .i64 0, .int .i64 0], false⟩
abbrev tys : List (Nat × TI) := [(3, ty3), (4, ty4), (5, ty5), (9, ty9), (23, ty23), (25, ty25), (26, ty26), (28, ty28), (35, ty35), (36, ty36), (40, ty40), (41, ty41), (53, ty53), (54, ty54), (67, ty67), (68, ty68), (70, ty70), (78, ty78), (79, ty79)]
theorem tysOk : TysOk Tryd.prog tys :=
  tysOk_cons (by kernel_rfl) (by kernel_rfl) rfl rfl (tysOk_cons (by kernel_rfl) (by kernel_rfl) rfl rfl (tysOk_cons (by kernel_rfl) (by kernel_rfl) rfl rfl (tysOk_cons (by kernel_rfl) (by kernel_rfl) rfl rfl (tysOk_consE (by kernel_rfl) (by kernel_rfl) rfl rfl (fun _ => ⟨by kernel_rfl, by kernel_rfl⟩) (tysOk_consE (by kernel_rfl) (by kernel_rfl) rfl rfl (fun _ => ⟨by kernel_rfl, by kernel_rfl⟩) (tysOk_cons (by kernel_rfl) (by kernel_rfl) rfl rfl (tysOk_cons (by kernel_rfl) (by kernel_rfl) rfl rfl (tysOk_cons (by kernel_rfl) (by kernel_rfl) rfl rfl (tysOk_cons (by kernel_rfl) (by kernel_rfl) rfl rfl (tysOk_cons (by kernel_rfl) (by kernel_rfl) rfl rfl (tysOk_cons (by kernel_rfl) (by kernel_rfl) rfl rfl (tysOk_cons (by kernel_rfl) (by kernel_rfl) rfl rfl (tysOk_cons (by kernel_rfl) (by kernel_rfl) rfl rfl (tysOk_cons (by kernel_rfl) (by kernel_rfl) rfl rfl (tysOk_cons (by kernel_rfl) (by kernel_rfl) rfl rfl (tysOk_cons (by kernel_rfl) (by kernel_rfl) rfl rfl (tysOk_cons (by kernel_rfl) (by kernel_rfl) rfl rfl (tysOk_cons (by kernel_rfl) (by kernel_rfl) rfl rfl (tysOk_nil)))))))))))))))))))
theorem mix : Tryd.prog.follows .mixedOrders = true := by kernel_rfl
abbrev gl : List (Nat × Array Value) := [(0, #[.int .i64 2047, .int .i64 536870911])]
abbrev gtab : List (Nat × List L) := [(0, [L.int 2047, L.int 536870911])]
theorem gts : ∀ v c, Abs.look gtab v = some c → ∃ cs : Array Value, Abs.look gl v = some cs ∧ c = cs.toList.map .lit ∧ ∀ u ∈ cs, u.oneCell' = true := by
  intro v c h
  simp only [gtab, Abs.look] at h
  split at h
  · rename_i e; have := Nat.eq_of_beq_eq_true e; subst this; cases h; exact ⟨_, rfl, rfl, by intro u hu; simp at hu; rcases hu with rfl | rfl <;> rfl⟩
  cases h
abbrev MM : FuncId → List (Nat × Box) → List V → List (Nat × Box) → V → Prop := MeetsB Tryd.prog gl
abbrev M (k : FuncId) (ds : List V) (r : V) : Prop := MM k [] ds [] r
/-- functions to which boxes, and their arguments tokens, are handed over; slots whose new slices are boxes -/
abbrev cfg (mu : List (Nat × Nat)) : MeetsT := ⟨MM, [39,25,21], [25], mu, [48], gtab, [24]⟩
theorem ov48 : IsOv Tryd.prog 48 := isOv_of (t := 40) (r := 4) (e := 25) Tryd.func48 (by kernel_rfl) (by kernel_rfl) (by kernel_rfl) (by kernel_rfl) (by kernel_rfl) (by kernel_rfl)
theorem ovs : ∀ f, isIn [48] f = true → IsOv Tryd.prog f := by
  intro f h
  simp only [isIn] at h
  split at h
  · rename_i e; have := Nat.eq_of_beq_eq_true e; subst this; exact ov48
  cases h
theorem mok (mu : List (Nat × Nat)) : MOk Tryd.prog gl (cfg mu) := ⟨fun _ _ _ _ _ h => h, ovs, gts⟩
abbrev N : ItT := Iter Tryd.prog gl
/-- omnibus/omnibuslaw04.MsgTells -/
abbrev keep3 : List Nat := [0, 1, 2, 3, 4, 5, 6, 7, 8, 12, 13, 14, 15, 16, 17, 18, 20, 22, 23, 24, 25, 26, 27, 28, 39, 83, 127, 128, 129, 130, 157]
theorem go3 {ds : List V} {r : V} (hlen : Nat.ble ds.length Tryd.f3.ntmps = true) (hnd : nodupB (V.toks r) = true)
    (hW : Bd ⟨argTm 0 ds, ⟨[], [], 1000000, 0⟩⟩ → Code.W tys (cfg []) N 0 [] Tryd.f3.ntmps keep3 (Tryd.f3.body.getD .skip) true [] (retQ tys Tryd.f3.results.toList [] r) ⟨argTm 0 ds, ⟨[], [], 1000000, 0⟩⟩) (ht : V.tokss ds = [] := by rfl) : M 3 ds r :=
  meetsB_of mix tysOk (mok _) (fun _ _ _ h => h) Tryd.func3 (by decide) rfl keep3 1000000 [] rfl hlen hnd hW ht
theorem gb3 (mu : List (Nat × Nat)) (tk0 : List Nat) {bi : List (Nat × Box)} {ds : List V} {bo : List (Nat × Box)} {r : V} (hlen : Nat.ble ds.length Tryd.f3.ntmps = true) (hnd : nodupB (toksBx bo ++ V.toks r) = true)
    (hW : Bd ⟨argTm 0 ds, ⟨bi, tk0, 1000000, 0⟩⟩ → Code.W tys (cfg mu) N 0 [] Tryd.f3.ntmps keep3 (Tryd.f3.body.getD .skip) true [] (retQ tys Tryd.f3.results.toList bo r) ⟨argTm 0 ds, ⟨bi, tk0, 1000000, 0⟩⟩) (ht : toksBx bi ++ V.tokss ds = tk0 := by rfl) : MM 3 bi ds bo r :=
  meetsB_of mix tysOk (mok _) (fun _ _ _ h => h) Tryd.func3 (by decide) rfl keep3 1000000 tk0 rfl hlen hnd hW ht
/-- omnibus/omnibuslaw04.MsgSorts -/
abbrev keep4 : List Nat := [0, 1, 4, 5, 6, 7, 8, 22]
theorem go4 {ds : List V} {r : V} (hlen : Nat.ble ds.length Tryd.f4.ntmps = true) (hnd : nodupB (V.toks r) = true)
    (hW : Bd ⟨argTm 0 ds, ⟨[], [], 1000000, 0⟩⟩ → Code.W tys (cfg []) N 0 [] Tryd.f4.ntmps keep4 (Tryd.f4.body.getD .skip) true [] (retQ tys Tryd.f4.results.toList [] r) ⟨argTm 0 ds, ⟨[], [], 1000000, 0⟩⟩) (ht : V.tokss ds = [] := by rfl) : M 4 ds r :=
  meetsB_of mix tysOk (mok _) (fun _ _ _ h => h) Tryd.func4 (by decide) rfl keep4 1000000 [] rfl hlen hnd hW ht
theorem gb4 (mu : List (Nat × Nat)) (tk0 : List Nat) {bi : List (Nat × Box)} {ds : List V} {bo : List (Nat × Box)} {r : V} (hlen : Nat.ble ds.length Tryd.f4.ntmps = true) (hnd : nodupB (toksBx bo ++ V.toks r) = true)
    (hW : Bd ⟨argTm 0 ds, ⟨bi, tk0, 1000000, 0⟩⟩ → Code.W tys (cfg mu) N 0 [] Tryd.f4.ntmps keep4 (Tryd.f4.body.getD .skip) true [] (retQ tys Tryd.f4.results.toList bo r) ⟨argTm 0 ds, ⟨bi, tk0, 1000000, 0⟩⟩) (ht : toksBx bi ++ V.tokss ds = tk0 := by rfl) : MM 4 bi ds bo r :=
  meetsB_of mix tysOk (mok _) (fun _ _ _ h => h) Tryd.func4 (by decide) rfl keep4 1000000 tk0 rfl hlen hnd hW ht
/-- omnibus/omnibuslaw04.MsgBack -/
abbrev keep5 : List Nat := [0, 1, 2, 3, 6, 7, 8, 9, 10, 11, 12, 13, 14, 15, 16, 17, 18, 19, 66, 74]
theorem go5 {ds : List V} {r : V} (hlen : Nat.ble ds.length Tryd.f5.ntmps = true) (hnd : nodupB (V.toks r) = true)
    (hW : Bd ⟨argTm 0 ds, ⟨[], [], 1000000, 0⟩⟩ → Code.W tys (cfg []) N 0 [] Tryd.f5.ntmps keep5 (Tryd.f5.body.getD .skip) true [] (retQ tys Tryd.f5.results.toList [] r) ⟨argTm 0 ds, ⟨[], [], 1000000, 0⟩⟩) (ht : V.tokss ds = [] := by rfl) : M 5 ds r :=
  meetsB_of mix tysOk (mok _) (fun _ _ _ h => h) Tryd.func5 (by decide) rfl keep5 1000000 [] rfl hlen hnd hW ht
theorem gb5 (mu : List (Nat × Nat)) (tk0 : List Nat) {bi : List (Nat × Box)} {ds : List V} {bo : List (Nat × Box)} {r : V} (hlen : Nat.ble ds.length Tryd.f5.ntmps = true) (hnd : nodupB (toksBx bo ++ V.toks r) = true)
    (hW : Bd ⟨argTm 0 ds, ⟨bi, tk0, 1000000, 0⟩⟩ → Code.W tys (cfg mu) N 0 [] Tryd.f5.ntmps keep5 (Tryd.f5.body.getD .skip) true [] (retQ tys Tryd.f5.results.toList bo r) ⟨argTm 0 ds, ⟨bi, tk0, 1000000, 0⟩⟩) (ht : toksBx bi ++ V.tokss ds = tk0 := by rfl) : MM 5 bi ds bo r :=
  meetsB_of mix tysOk (mok _) (fun _ _ _ h => h) Tryd.func5 (by decide) rfl keep5 1000000 tk0 rfl hlen hnd hW ht
/-- omnibus/omnibuslaw04.MsgOrder -/
abbrev keep6 : List Nat := [0, 1, 4, 5, 6, 7, 8, 9, 10, 11, 12, 13, 22, 63, 67, 72, 106]
theorem go6 {ds : List V} {r : V} (hlen : Nat.ble ds.length Tryd.f6.ntmps = true) (hnd : nodupB (V.toks r) = true)
    (hW : Bd ⟨argTm 0 ds, ⟨[], [], 1000000, 0⟩⟩ → Code.W tys (cfg []) N 0 [] Tryd.f6.ntmps keep6 (Tryd.f6.body.getD .skip) true [] (retQ tys Tryd.f6.results.toList [] r) ⟨argTm 0 ds, ⟨[], [], 1000000, 0⟩⟩) (ht : V.tokss ds = [] := by rfl) : M 6 ds r :=
  meetsB_of mix tysOk (mok _) (fun _ _ _ h => h) Tryd.func6 (by decide) rfl keep6 1000000 [] rfl hlen hnd hW ht
theorem gb6 (mu : List (Nat × Nat)) (tk0 : List Nat) {bi : List (Nat × Box)} {ds : List V} {bo : List (Nat × Box)} {r : V} (hlen : Nat.ble ds.length Tryd.f6.ntmps = true) (hnd : nodupB (toksBx bo ++ V.toks r) = true)
    (hW : Bd ⟨argTm 0 ds, ⟨bi, tk0, 1000000, 0⟩⟩ → Code.W tys (cfg mu) N 0 [] Tryd.f6.ntmps keep6 (Tryd.f6.body.getD .skip) true [] (retQ tys Tryd.f6.results.toList bo r) ⟨argTm 0 ds, ⟨bi, tk0, 1000000, 0⟩⟩) (ht : toksBx bi ++ V.tokss ds = tk0 := by rfl) : MM 6 bi ds bo r :=
  meetsB_of mix tysOk (mok _) (fun _ _ _ h => h) Tryd.func6 (by decide) rfl keep6 1000000 tk0 rfl hlen hnd hW ht
/-- omnibus/omnibuslaw04.MsgTwice -/
abbrev keep7 : List Nat := [0, 1, 4, 5, 6, 7, 8, 9, 10, 11, 12, 13, 22, 59, 70]
theorem go7 {ds : List V} {r : V} (hlen : Nat.ble ds.length Tryd.f7.ntmps = true) (hnd : nodupB (V.toks r) = true)
    (hW : Bd ⟨argTm 0 ds, ⟨[], [], 1000000, 0⟩⟩ → Code.W tys (cfg []) N 0 [] Tryd.f7.ntmps keep7 (Tryd.f7.body.getD .skip) true [] (retQ tys Tryd.f7.results.toList [] r) ⟨argTm 0 ds, ⟨[], [], 1000000, 0⟩⟩) (ht : V.tokss ds = [] := by rfl) : M 7 ds r :=
  meetsB_of mix tysOk (mok _) (fun _ _ _ h => h) Tryd.func7 (by decide) rfl keep7 1000000 [] rfl hlen hnd hW ht
theorem gb7 (mu : List (Nat × Nat)) (tk0 : List Nat) {bi : List (Nat × Box)} {ds : List V} {bo : List (Nat × Box)} {r : V} (hlen : Nat.ble ds.length Tryd.f7.ntmps = true) (hnd : nodupB (toksBx bo ++ V.toks r) = true)
    (hW : Bd ⟨argTm 0 ds, ⟨bi, tk0, 1000000, 0⟩⟩ → Code.W tys (cfg mu) N 0 [] Tryd.f7.ntmps keep7 (Tryd.f7.body.getD .skip) true [] (retQ tys Tryd.f7.results.toList bo r) ⟨argTm 0 ds, ⟨bi, tk0, 1000000, 0⟩⟩) (ht : toksBx bi ++ V.tokss ds = tk0 := by rfl) : MM 7 bi ds bo r :=
  meetsB_of mix tysOk (mok _) (fun _ _ _ h => h) Tryd.func7 (by decide) rfl keep7 1000000 tk0 rfl hlen hnd hW ht
/-- omnibus/omnibuslaw04.MsgRows -/
abbrev keep8 : List Nat := [0, 1, 2, 6, 7, 8, 9, 10, 11, 12, 13, 14, 15, 16, 19, 28, 42, 54, 74, 83, 97]
theorem go8 {ds : List V} {r : V} (hlen : Nat.ble ds.length Tryd.f8.ntmps = true) (hnd : nodupB (V.toks r) = true)
    (hW : Bd ⟨argTm 0 ds, ⟨[], [], 1000000, 0⟩⟩ → Code.W tys (cfg []) N 0 [] Tryd.f8.ntmps keep8 (Tryd.f8.body.getD .skip) true [] (retQ tys Tryd.f8.results.toList [] r) ⟨argTm 0 ds, ⟨[], [], 1000000, 0⟩⟩) (ht : V.tokss ds = [] := by rfl) : M 8 ds r :=
  meetsB_of mix tysOk (mok _) (fun _ _ _ h => h) Tryd.func8 (by decide) rfl keep8 1000000 [] rfl hlen hnd hW ht
theorem gb8 (mu : List (Nat × Nat)) (tk0 : List Nat) {bi : List (Nat × Box)} {ds : List V} {bo : List (Nat × Box)} {r : V} (hlen : Nat.ble ds.length Tryd.f8.ntmps = true) (hnd : nodupB (toksBx bo ++ V.toks r) = true)
    (hW : Bd ⟨argTm 0 ds, ⟨bi, tk0, 1000000, 0⟩⟩ → Code.W tys (cfg mu) N 0 [] Tryd.f8.ntmps keep8 (Tryd.f8.body.getD .skip) true [] (retQ tys Tryd.f8.results.toList bo r) ⟨argTm 0 ds, ⟨bi, tk0, 1000000, 0⟩⟩) (ht : toksBx bi ++ V.tokss ds = tk0 := by rfl) : MM 8 bi ds bo r :=
  meetsB_of mix tysOk (mok _) (fun _ _ _ h => h) Tryd.func8 (by decide) rfl keep8 1000000 tk0 rfl hlen hnd hW ht
/-- omnibus/omnibuslaw04.awake -/
abbrev keep9 : List Nat := [0, 1, 2, 3, 4, 5, 6, 7, 10, 11, 13]
theorem go9 {ds : List V} {r : V} (hlen : Nat.ble ds.length Tryd.f9.ntmps = true) (hnd : nodupB (V.toks r) = true)
    (hW : Bd ⟨argTm 0 ds, ⟨[], [], 1000000, 0⟩⟩ → Code.W tys (cfg []) N 0 [] Tryd.f9.ntmps keep9 (Tryd.f9.body.getD .skip) true [] (retQ tys Tryd.f9.results.toList [] r) ⟨argTm 0 ds, ⟨[], [], 1000000, 0⟩⟩) (ht : V.tokss ds = [] := by rfl) : M 9 ds r :=
  meetsB_of mix tysOk (mok _) (fun _ _ _ h => h) Tryd.func9 (by decide) rfl keep9 1000000 [] rfl hlen hnd hW ht
/-- omnibus/msg.Encode -/
abbrev keep10 : List Nat := [0, 1, 2, 3, 4, 6, 8, 11, 25, 26, 27]
theorem go10 {ds : List V} {r : V} (hlen : Nat.ble ds.length Tryd.f10.ntmps = true) (hnd : nodupB (V.toks r) = true)
    (hW : Bd ⟨argTm 0 ds, ⟨[], [], 1000000, 0⟩⟩ → Code.W tys (cfg []) N 0 [] Tryd.f10.ntmps keep10 (Tryd.f10.body.getD .skip) true [] (retQ tys Tryd.f10.results.toList [] r) ⟨argTm 0 ds, ⟨[], [], 1000000, 0⟩⟩) (ht : V.tokss ds = [] := by rfl) : M 10 ds r :=
  meetsB_of mix tysOk (mok _) (fun _ _ _ h => h) Tryd.func10 (by decide) rfl keep10 1000000 [] rfl hlen hnd hW ht
/-- omnibus/omnibusref04.Encode -/
abbrev keep11 : List Nat := [0, 1, 2, 3, 4, 8]
theorem go11 {ds : List V} {r : V} (hlen : Nat.ble ds.length Tryd.f11.ntmps = true) (hnd : nodupB (V.toks r) = true)
    (hW : Bd ⟨argTm 0 ds, ⟨[], [], 1000000, 0⟩⟩ → Code.W tys (cfg []) N 0 [] Tryd.f11.ntmps keep11 (Tryd.f11.body.getD .skip) true [] (retQ tys Tryd.f11.results.toList [] r) ⟨argTm 0 ds, ⟨[], [], 1000000, 0⟩⟩) (ht : V.tokss ds = [] := by rfl) : M 11 ds r :=
  meetsB_of mix tysOk (mok _) (fun _ _ _ h => h) Tryd.func11 (by decide) rfl keep11 1000000 [] rfl hlen hnd hW ht
/-- omnibus/msg.Right -/
abbrev keep12 : List Nat := [0, 1, 2]
theorem go12 {ds : List V} {r : V} (hlen : Nat.ble ds.length Tryd.f12.ntmps = true) (hnd : nodupB (V.toks r) = true)
    (hW : Bd ⟨argTm 0 ds, ⟨[], [], 1000000, 0⟩⟩ → Code.W tys (cfg []) N 0 [] Tryd.f12.ntmps keep12 (Tryd.f12.body.getD .skip) true [] (retQ tys Tryd.f12.results.toList [] r) ⟨argTm 0 ds, ⟨[], [], 1000000, 0⟩⟩) (ht : V.tokss ds = [] := by rfl) : M 12 ds r :=
  meetsB_of mix tysOk (mok _) (fun _ _ _ h => h) Tryd.func12 (by decide) rfl keep12 1000000 [] rfl hlen hnd hW ht
/-- omnibus/omnibusref04.Right -/
abbrev keep13 : List Nat := [0, 1, 2, 3]
theorem go13 {ds : List V} {r : V} (hlen : Nat.ble ds.length Tryd.f13.ntmps = true) (hnd : nodupB (V.toks r) = true)
    (hW : Bd ⟨argTm 0 ds, ⟨[], [], 1000000, 0⟩⟩ → Code.W tys (cfg []) N 0 [] Tryd.f13.ntmps keep13 (Tryd.f13.body.getD .skip) true [] (retQ tys Tryd.f13.results.toList [] r) ⟨argTm 0 ds, ⟨[], [], 1000000, 0⟩⟩) (ht : V.tokss ds = [] := by rfl) : M 13 ds r :=
  meetsB_of mix tysOk (mok _) (fun _ _ _ h => h) Tryd.func13 (by decide) rfl keep13 1000000 [] rfl hlen hnd hW ht
/-- omnibus/msg.Less -/
abbrev keep14 : List Nat := [0, 1, 2, 3, 4]
theorem go14 {ds : List V} {r : V} (hlen : Nat.ble ds.length Tryd.f14.ntmps = true) (hnd : nodupB (V.toks r) = true)
    (hW : Bd ⟨argTm 0 ds, ⟨[], [], 1000000, 0⟩⟩ → Code.W tys (cfg []) N 0 [] Tryd.f14.ntmps keep14 (Tryd.f14.body.getD .skip) true [] (retQ tys Tryd.f14.results.toList [] r) ⟨argTm 0 ds, ⟨[], [], 1000000, 0⟩⟩) (ht : V.tokss ds = [] := by rfl) : M 14 ds r :=
  meetsB_of mix tysOk (mok _) (fun _ _ _ h => h) Tryd.func14 (by decide) rfl keep14 1000000 [] rfl hlen hnd hW ht
/-- omnibus/omnibusref04.Less -/
abbrev keep15 : List Nat := [0, 1, 2, 3, 4, 9, 19]
theorem go15 {ds : List V} {r : V} (hlen : Nat.ble ds.length Tryd.f15.ntmps = true) (hnd : nodupB (V.toks r) = true)
    (hW : Bd ⟨argTm 0 ds, ⟨[], [], 1000000, 0⟩⟩ → Code.W tys (cfg []) N 0 [] Tryd.f15.ntmps keep15 (Tryd.f15.body.getD .skip) true [] (retQ tys Tryd.f15.results.toList [] r) ⟨argTm 0 ds, ⟨[], [], 1000000, 0⟩⟩) (ht : V.tokss ds = [] := by rfl) : M 15 ds r :=
  meetsB_of mix tysOk (mok _) (fun _ _ _ h => h) Tryd.func15 (by decide) rfl keep15 1000000 [] rfl hlen hnd hW ht
/-- omnibus/omnibuslaw04.Message -/
abbrev keep16 : List Nat := [0, 1, 2, 4, 5, 17]
theorem go16 {ds : List V} {r : V} (hlen : Nat.ble ds.length Tryd.f16.ntmps = true) (hnd : nodupB (V.toks r) = true)
    (hW : Bd ⟨argTm 0 ds, ⟨[], [], 1000000, 0⟩⟩ → Code.W tys (cfg []) N 0 [] Tryd.f16.ntmps keep16 (Tryd.f16.body.getD .skip) true [] (retQ tys Tryd.f16.results.toList [] r) ⟨argTm 0 ds, ⟨[], [], 1000000, 0⟩⟩) (ht : V.tokss ds = [] := by rfl) : M 16 ds r :=
  meetsB_of mix tysOk (mok _) (fun _ _ _ h => h) Tryd.func16 (by decide) rfl keep16 1000000 [] rfl hlen hnd hW ht
/-- omnibus/omnibuslaw04.pick -/
abbrev keep17 : List Nat := [0, 1, 4, 6]
theorem go17 {ds : List V} {r : V} (hlen : Nat.ble ds.length Tryd.f17.ntmps = true) (hnd : nodupB (V.toks r) = true)
    (hW : Bd ⟨argTm 0 ds, ⟨[], [], 1000000, 0⟩⟩ → Code.W tys (cfg []) N 0 [] Tryd.f17.ntmps keep17 (Tryd.f17.body.getD .skip) true [] (retQ tys Tryd.f17.results.toList [] r) ⟨argTm 0 ds, ⟨[], [], 1000000, 0⟩⟩) (ht : V.tokss ds = [] := by rfl) : M 17 ds r :=
  meetsB_of mix tysOk (mok _) (fun _ _ _ h => h) Tryd.func17 (by decide) rfl keep17 1000000 [] rfl hlen hnd hW ht
/-- omnibus/msg.Decode -/
abbrev keep18 : List Nat := [0, 1, 2, 3, 4, 5, 6, 7, 8, 9, 10, 13, 20, 24, 46, 47, 48, 61]
theorem go18 {ds : List V} {r : V} (hlen : Nat.ble ds.length Tryd.f18.ntmps = true) (hnd : nodupB (V.toks r) = true)
    (hW : Bd ⟨argTm 0 ds, ⟨[], [], 1000000, 0⟩⟩ → Code.W tys (cfg []) N 0 [] Tryd.f18.ntmps keep18 (Tryd.f18.body.getD .skip) true [] (retQ tys Tryd.f18.results.toList [] r) ⟨argTm 0 ds, ⟨[], [], 1000000, 0⟩⟩) (ht : V.tokss ds = [] := by rfl) : M 18 ds r :=
  meetsB_of mix tysOk (mok _) (fun _ _ _ h => h) Tryd.func18 (by decide) rfl keep18 1000000 [] rfl hlen hnd hW ht
/-- omnibus/omnibusref04.Decode -/
abbrev keep19 : List Nat := [0, 2, 3, 4, 5, 6, 7, 8, 11, 17, 23, 52]
theorem go19 {ds : List V} {r : V} (hlen : Nat.ble ds.length Tryd.f19.ntmps = true) (hnd : nodupB (V.toks r) = true)
    (hW : Bd ⟨argTm 0 ds, ⟨[], [], 1000000, 0⟩⟩ → Code.W tys (cfg []) N 0 [] Tryd.f19.ntmps keep19 (Tryd.f19.body.getD .skip) true [] (retQ tys Tryd.f19.results.toList [] r) ⟨argTm 0 ds, ⟨[], [], 1000000, 0⟩⟩) (ht : V.tokss ds = [] := by rfl) : M 19 ds r :=
  meetsB_of mix tysOk (mok _) (fun _ _ _ h => h) Tryd.func19 (by decide) rfl keep19 1000000 [] rfl hlen hnd hW ht
/-- omnibus/omnibusref04.Same -/
abbrev keep20 : List Nat := [0, 1, 4, 5, 10, 14, 25]
theorem go20 {ds : List V} {r : V} (hlen : Nat.ble ds.length Tryd.f20.ntmps = true) (hnd : nodupB (V.toks r) = true)
    (hW : Bd ⟨argTm 0 ds, ⟨[], [], 1000000, 0⟩⟩ → Code.W tys (cfg []) N 0 [] Tryd.f20.ntmps keep20 (Tryd.f20.body.getD .skip) true [] (retQ tys Tryd.f20.results.toList [] r) ⟨argTm 0 ds, ⟨[], [], 1000000, 0⟩⟩) (ht : V.tokss ds = [] := by rfl) : M 20 ds r :=
  meetsB_of mix tysOk (mok _) (fun _ _ _ h => h) Tryd.func20 (by decide) rfl keep20 1000000 [] rfl hlen hnd hW ht
/-- omnibus/msg.Sort -/
abbrev keep21 : List Nat := [0, 2, 4, 5, 6, 7, 8, 9, 15, 28]
theorem go21 {ds : List V} {r : V} (hlen : Nat.ble ds.length Tryd.f21.ntmps = true) (hnd : nodupB (V.toks r) = true)
    (hW : Bd ⟨argTm 0 ds, ⟨[], [], 1000000, 0⟩⟩ → Code.W tys (cfg []) N 0 [] Tryd.f21.ntmps keep21 (Tryd.f21.body.getD .skip) true [] (retQ tys Tryd.f21.results.toList [] r) ⟨argTm 0 ds, ⟨[], [], 1000000, 0⟩⟩) (ht : V.tokss ds = [] := by rfl) : M 21 ds r :=
  meetsB_of mix tysOk (mok _) (fun _ _ _ h => h) Tryd.func21 (by decide) rfl keep21 1000000 [] rfl hlen hnd hW ht
theorem gb21 (mu : List (Nat × Nat)) (tk0 : List Nat) {bi : List (Nat × Box)} {ds : List V} {bo : List (Nat × Box)} {r : V} (hlen : Nat.ble ds.length Tryd.f21.ntmps = true) (hnd : nodupB (toksBx bo ++ V.toks r) = true)
    (hW : Bd ⟨argTm 0 ds, ⟨bi, tk0, 1000000, 0⟩⟩ → Code.W tys (cfg mu) N 0 [] Tryd.f21.ntmps keep21 (Tryd.f21.body.getD .skip) true [] (retQ tys Tryd.f21.results.toList bo r) ⟨argTm 0 ds, ⟨bi, tk0, 1000000, 0⟩⟩) (ht : toksBx bi ++ V.tokss ds = tk0 := by rfl) : MM 21 bi ds bo r :=
  meetsB_of mix tysOk (mok _) (fun _ _ _ h => h) Tryd.func21 (by decide) rfl keep21 1000000 tk0 rfl hlen hnd hW ht
/-- omnibus/omnibusref04.Sort -/
abbrev keep22 : List Nat := [0, 2, 3, 4, 5, 9, 18, 34]
theorem go22 {ds : List V} {r : V} (hlen : Nat.ble ds.length Tryd.f22.ntmps = true) (hnd : nodupB (V.toks r) = true)
    (hW : Bd ⟨argTm 0 ds, ⟨[], [], 1000000, 0⟩⟩ → Code.W tys (cfg []) N 0 [] Tryd.f22.ntmps keep22 (Tryd.f22.body.getD .skip) true [] (retQ tys Tryd.f22.results.toList [] r) ⟨argTm 0 ds, ⟨[], [], 1000000, 0⟩⟩) (ht : V.tokss ds = [] := by rfl) : M 22 ds r :=
  meetsB_of mix tysOk (mok _) (fun _ _ _ h => h) Tryd.func22 (by decide) rfl keep22 1000000 [] rfl hlen hnd hW ht
/-- omnibus/ident.Print -/
abbrev keep23 : List Nat := [0, 1, 2, 3, 4, 5, 6, 9, 14, 17, 18]
theorem go23 {ds : List V} {r : V} (hlen : Nat.ble ds.length Tryd.f23.ntmps = true) (hnd : nodupB (V.toks r) = true)
    (hW : Bd ⟨argTm 0 ds, ⟨[], [], 1000000, 0⟩⟩ → Code.W tys (cfg []) N 0 [] Tryd.f23.ntmps keep23 (Tryd.f23.body.getD .skip) true [] (retQ tys Tryd.f23.results.toList [] r) ⟨argTm 0 ds, ⟨[], [], 1000000, 0⟩⟩) (ht : V.tokss ds = [] := by rfl) : M 23 ds r :=
  meetsB_of mix tysOk (mok _) (fun _ _ _ h => h) Tryd.func23 (by decide) rfl keep23 1000000 [] rfl hlen hnd hW ht
theorem gb23 (mu : List (Nat × Nat)) (tk0 : List Nat) {bi : List (Nat × Box)} {ds : List V} {bo : List (Nat × Box)} {r : V} (hlen : Nat.ble ds.length Tryd.f23.ntmps = true) (hnd : nodupB (toksBx bo ++ V.toks r) = true)
    (hW : Bd ⟨argTm 0 ds, ⟨bi, tk0, 1000000, 0⟩⟩ → Code.W tys (cfg mu) N 0 [] Tryd.f23.ntmps keep23 (Tryd.f23.body.getD .skip) true [] (retQ tys Tryd.f23.results.toList bo r) ⟨argTm 0 ds, ⟨bi, tk0, 1000000, 0⟩⟩) (ht : toksBx bi ++ V.tokss ds = tk0 := by rfl) : MM 23 bi ds bo r :=
  meetsB_of mix tysOk (mok _) (fun _ _ _ h => h) Tryd.func23 (by decide) rfl keep23 1000000 tk0 rfl hlen hnd hW ht
/-- omnibus/msg.numbers -/
abbrev keep24 : List Nat := [0, 1, 2]
theorem go24 {ds : List V} {r : V} (hlen : Nat.ble ds.length Tryd.f24.ntmps = true) (hnd : nodupB (V.toks r) = true)
    (hW : Bd ⟨argTm 0 ds, ⟨[], [], 1000000, 0⟩⟩ → Code.W tys (cfg []) N 0 [] Tryd.f24.ntmps keep24 (Tryd.f24.body.getD .skip) true [] (retQ tys Tryd.f24.results.toList [] r) ⟨argTm 0 ds, ⟨[], [], 1000000, 0⟩⟩) (ht : V.tokss ds = [] := by rfl) : M 24 ds r :=
  meetsB_of mix tysOk (mok _) (fun _ _ _ h => h) Tryd.func24 (by decide) rfl keep24 1000000 [] rfl hlen hnd hW ht
/-- omnibus/msg.put[int] -/
abbrev keep25 : List Nat := [0, 1, 4]
theorem go25 {ds : List V} {r : V} (hlen : Nat.ble ds.length Tryd.f25.ntmps = true) (hnd : nodupB (V.toks r) = true)
    (hW : Bd ⟨argTm 0 ds, ⟨[], [], 1000000, 0⟩⟩ → Code.W tys (cfg []) N 0 [] Tryd.f25.ntmps keep25 (Tryd.f25.body.getD .skip) true [] (retQ tys Tryd.f25.results.toList [] r) ⟨argTm 0 ds, ⟨[], [], 1000000, 0⟩⟩) (ht : V.tokss ds = [] := by rfl) : M 25 ds r :=
  meetsB_of mix tysOk (mok _) (fun _ _ _ h => h) Tryd.func25 (by decide) rfl keep25 1000000 [] rfl hlen hnd hW ht
theorem gb25 (mu : List (Nat × Nat)) (tk0 : List Nat) {bi : List (Nat × Box)} {ds : List V} {bo : List (Nat × Box)} {r : V} (hlen : Nat.ble ds.length Tryd.f25.ntmps = true) (hnd : nodupB (toksBx bo ++ V.toks r) = true)
    (hW : Bd ⟨argTm 0 ds, ⟨bi, tk0, 1000000, 0⟩⟩ → Code.W tys (cfg mu) N 0 [] Tryd.f25.ntmps keep25 (Tryd.f25.body.getD .skip) true [] (retQ tys Tryd.f25.results.toList bo r) ⟨argTm 0 ds, ⟨bi, tk0, 1000000, 0⟩⟩) (ht : toksBx bi ++ V.tokss ds = tk0 := by rfl) : MM 25 bi ds bo r :=
  meetsB_of mix tysOk (mok _) (fun _ _ _ h => h) Tryd.func25 (by decide) rfl keep25 1000000 tk0 rfl hlen hnd hW ht
/-- omnibus/omnibusref02.Print -/
abbrev keep26 : List Nat := [0, 1, 2, 3, 4, 7, 11]
theorem go26 {ds : List V} {r : V} (hlen : Nat.ble ds.length Tryd.f26.ntmps = true) (hnd : nodupB (V.toks r) = true)
    (hW : Bd ⟨argTm 0 ds, ⟨[], [], 1000000, 0⟩⟩ → Code.W tys (cfg []) N 0 [] Tryd.f26.ntmps keep26 (Tryd.f26.body.getD .skip) true [] (retQ tys Tryd.f26.results.toList [] r) ⟨argTm 0 ds, ⟨[], [], 1000000, 0⟩⟩) (ht : V.tokss ds = [] := by rfl) : M 26 ds r :=
  meetsB_of mix tysOk (mok _) (fun _ _ _ h => h) Tryd.func26 (by decide) rfl keep26 1000000 [] rfl hlen hnd hW ht
/-- omnibus/omnibusref04.two -/
abbrev keep27 : List Nat := [0, 2]
theorem go27 {ds : List V} {r : V} (hlen : Nat.ble ds.length Tryd.f27.ntmps = true) (hnd : nodupB (V.toks r) = true)
    (hW : Bd ⟨argTm 0 ds, ⟨[], [], 1000000, 0⟩⟩ → Code.W tys (cfg []) N 0 [] Tryd.f27.ntmps keep27 (Tryd.f27.body.getD .skip) true [] (retQ tys Tryd.f27.results.toList [] r) ⟨argTm 0 ds, ⟨[], [], 1000000, 0⟩⟩) (ht : V.tokss ds = [] := by rfl) : M 27 ds r :=
  meetsB_of mix tysOk (mok _) (fun _ _ _ h => h) Tryd.func27 (by decide) rfl keep27 1000000 [] rfl hlen hnd hW ht
/-- omnibus/ident.Right -/
abbrev keep28 : List Nat := [0, 1, 2]
theorem go28 {ds : List V} {r : V} (hlen : Nat.ble ds.length Tryd.f28.ntmps = true) (hnd : nodupB (V.toks r) = true)
    (hW : Bd ⟨argTm 0 ds, ⟨[], [], 1000000, 0⟩⟩ → Code.W tys (cfg []) N 0 [] Tryd.f28.ntmps keep28 (Tryd.f28.body.getD .skip) true [] (retQ tys Tryd.f28.results.toList [] r) ⟨argTm 0 ds, ⟨[], [], 1000000, 0⟩⟩) (ht : V.tokss ds = [] := by rfl) : M 28 ds r :=
  meetsB_of mix tysOk (mok _) (fun _ _ _ h => h) Tryd.func28 (by decide) rfl keep28 1000000 [] rfl hlen hnd hW ht
/-- omnibus/msg.small -/
abbrev keep29 : List Nat := [0, 2]
theorem go29 {ds : List V} {r : V} (hlen : Nat.ble ds.length Tryd.f29.ntmps = true) (hnd : nodupB (V.toks r) = true)
    (hW : Bd ⟨argTm 0 ds, ⟨[], [], 1000000, 0⟩⟩ → Code.W tys (cfg []) N 0 [] Tryd.f29.ntmps keep29 (Tryd.f29.body.getD .skip) true [] (retQ tys Tryd.f29.results.toList [] r) ⟨argTm 0 ds, ⟨[], [], 1000000, 0⟩⟩) (ht : V.tokss ds = [] := by rfl) : M 29 ds r :=
  meetsB_of mix tysOk (mok _) (fun _ _ _ h => h) Tryd.func29 (by decide) rfl keep29 1000000 [] rfl hlen hnd hW ht
/-- omnibus/omnibusref02.Right -/
abbrev keep30 : List Nat := [0, 1, 2]
theorem go30 {ds : List V} {r : V} (hlen : Nat.ble ds.length Tryd.f30.ntmps = true) (hnd : nodupB (V.toks r) = true)
    (hW : Bd ⟨argTm 0 ds, ⟨[], [], 1000000, 0⟩⟩ → Code.W tys (cfg []) N 0 [] Tryd.f30.ntmps keep30 (Tryd.f30.body.getD .skip) true [] (retQ tys Tryd.f30.results.toList [] r) ⟨argTm 0 ds, ⟨[], [], 1000000, 0⟩⟩) (ht : V.tokss ds = [] := by rfl) : M 30 ds r :=
  meetsB_of mix tysOk (mok _) (fun _ _ _ h => h) Tryd.func30 (by decide) rfl keep30 1000000 [] rfl hlen hnd hW ht
/-- omnibus/omnibusref04.small -/
abbrev keep31 : List Nat := [0, 2]
theorem go31 {ds : List V} {r : V} (hlen : Nat.ble ds.length Tryd.f31.ntmps = true) (hnd : nodupB (V.toks r) = true)
    (hW : Bd ⟨argTm 0 ds, ⟨[], [], 1000000, 0⟩⟩ → Code.W tys (cfg []) N 0 [] Tryd.f31.ntmps keep31 (Tryd.f31.body.getD .skip) true [] (retQ tys Tryd.f31.results.toList [] r) ⟨argTm 0 ds, ⟨[], [], 1000000, 0⟩⟩) (ht : V.tokss ds = [] := by rfl) : M 31 ds r :=
  meetsB_of mix tysOk (mok _) (fun _ _ _ h => h) Tryd.func31 (by decide) rfl keep31 1000000 [] rfl hlen hnd hW ht
/-- omnibus/msg.compare -/
abbrev keep32 : List Nat := [0, 1, 2, 3, 4, 5, 11, 17]
theorem go32 {ds : List V} {r : V} (hlen : Nat.ble ds.length Tryd.f32.ntmps = true) (hnd : nodupB (V.toks r) = true)
    (hW : Bd ⟨argTm 0 ds, ⟨[], [], 1000000, 0⟩⟩ → Code.W tys (cfg []) N 0 [] Tryd.f32.ntmps keep32 (Tryd.f32.body.getD .skip) true [] (retQ tys Tryd.f32.results.toList [] r) ⟨argTm 0 ds, ⟨[], [], 1000000, 0⟩⟩) (ht : V.tokss ds = [] := by rfl) : M 32 ds r :=
  meetsB_of mix tysOk (mok _) (fun _ _ _ h => h) Tryd.func32 (by decide) rfl keep32 1000000 [] rfl hlen hnd hW ht
/-- omnibus/omnibusref02.Less -/
abbrev keep33 : List Nat := [0, 1, 2, 3, 4, 5, 6, 7, 8]
theorem go33 {ds : List V} {r : V} (hlen : Nat.ble ds.length Tryd.f33.ntmps = true) (hnd : nodupB (V.toks r) = true)
    (hW : Bd ⟨argTm 0 ds, ⟨[], [], 1000000, 0⟩⟩ → Code.W tys (cfg []) N 0 [] Tryd.f33.ntmps keep33 (Tryd.f33.body.getD .skip) true [] (retQ tys Tryd.f33.results.toList [] r) ⟨argTm 0 ds, ⟨[], [], 1000000, 0⟩⟩) (ht : V.tokss ds = [] := by rfl) : M 33 ds r :=
  meetsB_of mix tysOk (mok _) (fun _ _ _ h => h) Tryd.func33 (by decide) rfl keep33 1000000 [] rfl hlen hnd hW ht
/-- omnibus/omnibuslaw02.Ident -/
abbrev keep34 : List Nat := [0, 1, 4, 5]
theorem go34 {ds : List V} {r : V} (hlen : Nat.ble ds.length Tryd.f34.ntmps = true) (hnd : nodupB (V.toks r) = true)
    (hW : Bd ⟨argTm 0 ds, ⟨[], [], 1000000, 0⟩⟩ → Code.W tys (cfg []) N 0 [] Tryd.f34.ntmps keep34 (Tryd.f34.body.getD .skip) true [] (retQ tys Tryd.f34.results.toList [] r) ⟨argTm 0 ds, ⟨[], [], 1000000, 0⟩⟩) (ht : V.tokss ds = [] := by rfl) : M 34 ds r :=
  meetsB_of mix tysOk (mok _) (fun _ _ _ h => h) Tryd.func34 (by decide) rfl keep34 1000000 [] rfl hlen hnd hW ht
/-- omnibus/ident.Parse -/
abbrev keep35 : List Nat := [0, 2, 3, 4, 6, 7, 8, 13, 19, 20, 21, 22, 39]
theorem go35 {ds : List V} {r : V} (hlen : Nat.ble ds.length Tryd.f35.ntmps = true) (hnd : nodupB (V.toks r) = true)
    (hW : Bd ⟨argTm 0 ds, ⟨[], [], 1000000, 0⟩⟩ → Code.W tys (cfg []) N 0 [] Tryd.f35.ntmps keep35 (Tryd.f35.body.getD .skip) true [] (retQ tys Tryd.f35.results.toList [] r) ⟨argTm 0 ds, ⟨[], [], 1000000, 0⟩⟩) (ht : V.tokss ds = [] := by rfl) : M 35 ds r :=
  meetsB_of mix tysOk (mok _) (fun _ _ _ h => h) Tryd.func35 (by decide) rfl keep35 1000000 [] rfl hlen hnd hW ht
/-- omnibus/msg.get[int] -/
abbrev keep36 : List Nat := [0, 2]
theorem go36 {ds : List V} {r : V} (hlen : Nat.ble ds.length Tryd.f36.ntmps = true) (hnd : nodupB (V.toks r) = true)
    (hW : Bd ⟨argTm 0 ds, ⟨[], [], 1000000, 0⟩⟩ → Code.W tys (cfg []) N 0 [] Tryd.f36.ntmps keep36 (Tryd.f36.body.getD .skip) true [] (retQ tys Tryd.f36.results.toList [] r) ⟨argTm 0 ds, ⟨[], [], 1000000, 0⟩⟩) (ht : V.tokss ds = [] := by rfl) : M 36 ds r :=
  meetsB_of mix tysOk (mok _) (fun _ _ _ h => h) Tryd.func36 (by decide) rfl keep36 1000000 [] rfl hlen hnd hW ht
/-- omnibus/omnibusref02.Parse -/
abbrev keep37 : List Nat := [0, 2, 3, 4, 5, 8, 12, 39]
theorem go37 {ds : List V} {r : V} (hlen : Nat.ble ds.length Tryd.f37.ntmps = true) (hnd : nodupB (V.toks r) = true)
    (hW : Bd ⟨argTm 0 ds, ⟨[], [], 1000000, 0⟩⟩ → Code.W tys (cfg []) N 0 [] Tryd.f37.ntmps keep37 (Tryd.f37.body.getD .skip) true [] (retQ tys Tryd.f37.results.toList [] r) ⟨argTm 0 ds, ⟨[], [], 1000000, 0⟩⟩) (ht : V.tokss ds = [] := by rfl) : M 37 ds r :=
  meetsB_of mix tysOk (mok _) (fun _ _ _ h => h) Tryd.func37 (by decide) rfl keep37 1000000 [] rfl hlen hnd hW ht
/-- omnibus/omnibusref04.told -/
abbrev keep38 : List Nat := [0, 1, 4]
theorem go38 {ds : List V} {r : V} (hlen : Nat.ble ds.length Tryd.f38.ntmps = true) (hnd : nodupB (V.toks r) = true)
    (hW : Bd ⟨argTm 0 ds, ⟨[], [], 1000000, 0⟩⟩ → Code.W tys (cfg []) N 0 [] Tryd.f38.ntmps keep38 (Tryd.f38.body.getD .skip) true [] (retQ tys Tryd.f38.results.toList [] r) ⟨argTm 0 ds, ⟨[], [], 1000000, 0⟩⟩) (ht : V.tokss ds = [] := by rfl) : M 38 ds r :=
  meetsB_of mix tysOk (mok _) (fun _ _ _ h => h) Tryd.func38 (by decide) rfl keep38 1000000 [] rfl hlen hnd hW ht
/-- slices.Insert[[]omnibus/api.Message,omnibus/api.Message] -/
abbrev keep39 : List Nat := [0, 1, 2, 6, 7, 8, 9, 16, 22, 31, 68]
theorem go39 {ds : List V} {r : V} (hlen : Nat.ble ds.length Tryd.f39.ntmps = true) (hnd : nodupB (V.toks r) = true)
    (hW : Bd ⟨argTm 0 ds, ⟨[], [], 1000000, 0⟩⟩ → Code.W tys (cfg []) N 0 [] Tryd.f39.ntmps keep39 (Tryd.f39.body.getD .skip) true [] (retQ tys Tryd.f39.results.toList [] r) ⟨argTm 0 ds, ⟨[], [], 1000000, 0⟩⟩) (ht : V.tokss ds = [] := by rfl) : M 39 ds r :=
  meetsB_of mix tysOk (mok _) (fun _ _ _ h => h) Tryd.func39 (by decide) rfl keep39 1000000 [] rfl hlen hnd hW ht
theorem gb39 (mu : List (Nat × Nat)) (tk0 : List Nat) {bi : List (Nat × Box)} {ds : List V} {bo : List (Nat × Box)} {r : V} (hlen : Nat.ble ds.length Tryd.f39.ntmps = true) (hnd : nodupB (toksBx bo ++ V.toks r) = true)
    (hW : Bd ⟨argTm 0 ds, ⟨bi, tk0, 1000000, 0⟩⟩ → Code.W tys (cfg mu) N 0 [] Tryd.f39.ntmps keep39 (Tryd.f39.body.getD .skip) true [] (retQ tys Tryd.f39.results.toList bo r) ⟨argTm 0 ds, ⟨bi, tk0, 1000000, 0⟩⟩) (ht : toksBx bi ++ V.tokss ds = tk0 := by rfl) : MM 39 bi ds bo r :=
  meetsB_of mix tysOk (mok _) (fun _ _ _ h => h) Tryd.func39 (by decide) rfl keep39 1000000 tk0 rfl hlen hnd hW ht
/-- omnibus/msg.numbers$1 -/
abbrev keep40 : List Nat := [0, 1, 3, 4, 14, 15, 16, 17, 27]
theorem go40 {ds : List V} {r : V} (hlen : Nat.ble ds.length Tryd.f40.ntmps = true) (hnd : nodupB (V.toks r) = true)
    (hW : Bd ⟨argTm 0 ds, ⟨[], [], 1000000, 0⟩⟩ → Code.W tys (cfg []) N 0 [] Tryd.f40.ntmps keep40 (Tryd.f40.body.getD .skip) true [] (retQ tys Tryd.f40.results.toList [] r) ⟨argTm 0 ds, ⟨[], [], 1000000, 0⟩⟩) (ht : V.tokss ds = [] := by rfl) : M 40 ds r :=
  meetsB_of mix tysOk (mok _) (fun _ _ _ h => h) Tryd.func40 (by decide) rfl keep40 1000000 [] rfl hlen hnd hW ht
theorem it40 {caps : List V} {zs : List (List D)} (hlen : Nat.ble (caps.length + 1) Tryd.f40.ntmps = true)
    (hW : ∀ l, Bd ⟨argTm 0 (.fn (.yield l) [] [] :: caps), ⟨[], [], 1000000, 1⟩⟩ → Code.W tys (cfg []) N l zs Tryd.f40.ntmps keep40 (Tryd.f40.body.getD .skip) false [] (itQ zs.length) ⟨argTm 0 (.fn (.yield l) [] [] :: caps), ⟨[], [], 1000000, 1⟩⟩) : Iter Tryd.prog gl 40 caps zs :=
  iter_of mix tysOk (mok _) (fun _ _ _ h => h) Tryd.func40 (by decide) rfl rfl keep40 1000000 hlen hW
/-- omnibus/ident.within -/
abbrev keep41 : List Nat := [0, 1, 4]
theorem go41 {ds : List V} {r : V} (hlen : Nat.ble ds.length Tryd.f41.ntmps = true) (hnd : nodupB (V.toks r) = true)
    (hW : Bd ⟨argTm 0 ds, ⟨[], [], 1000000, 0⟩⟩ → Code.W tys (cfg []) N 0 [] Tryd.f41.ntmps keep41 (Tryd.f41.body.getD .skip) true [] (retQ tys Tryd.f41.results.toList [] r) ⟨argTm 0 ds, ⟨[], [], 1000000, 0⟩⟩) (ht : V.tokss ds = [] := by rfl) : M 41 ds r :=
  meetsB_of mix tysOk (mok _) (fun _ _ _ h => h) Tryd.func41 (by decide) rfl keep41 1000000 [] rfl hlen hnd hW ht
/-- omnibus/omnibusref02.limit -/
abbrev keep42 : List Nat := [0, 2, 3]
theorem go42 {ds : List V} {r : V} (hlen : Nat.ble ds.length Tryd.f42.ntmps = true) (hnd : nodupB (V.toks r) = true)
    (hW : Bd ⟨argTm 0 ds, ⟨[], [], 1000000, 0⟩⟩ → Code.W tys (cfg []) N 0 [] Tryd.f42.ntmps keep42 (Tryd.f42.body.getD .skip) true [] (retQ tys Tryd.f42.results.toList [] r) ⟨argTm 0 ds, ⟨[], [], 1000000, 0⟩⟩) (ht : V.tokss ds = [] := by rfl) : M 42 ds r :=
  meetsB_of mix tysOk (mok _) (fun _ _ _ h => h) Tryd.func42 (by decide) rfl keep42 1000000 [] rfl hlen hnd hW ht
/-- omnibus/ident.Less -/
abbrev keep43 : List Nat := [0, 1, 2, 3, 4, 5, 6, 7, 8]
theorem go43 {ds : List V} {r : V} (hlen : Nat.ble ds.length Tryd.f43.ntmps = true) (hnd : nodupB (V.toks r) = true)
    (hW : Bd ⟨argTm 0 ds, ⟨[], [], 1000000, 0⟩⟩ → Code.W tys (cfg []) N 0 [] Tryd.f43.ntmps keep43 (Tryd.f43.body.getD .skip) true [] (retQ tys Tryd.f43.results.toList [] r) ⟨argTm 0 ds, ⟨[], [], 1000000, 0⟩⟩) (ht : V.tokss ds = [] := by rfl) : M 43 ds r :=
  meetsB_of mix tysOk (mok _) (fun _ _ _ h => h) Tryd.func43 (by decide) rfl keep43 1000000 [] rfl hlen hnd hW ht
/-- cmp.Or[int] -/
abbrev keep44 : List Nat := [0, 2, 3, 5, 6, 7, 8, 9, 14]
theorem go44 {ds : List V} {r : V} (hlen : Nat.ble ds.length Tryd.f44.ntmps = true) (hnd : nodupB (V.toks r) = true)
    (hW : Bd ⟨argTm 0 ds, ⟨[], [], 1000000, 0⟩⟩ → Code.W tys (cfg []) N 0 [] Tryd.f44.ntmps keep44 (Tryd.f44.body.getD .skip) true [] (retQ tys Tryd.f44.results.toList [] r) ⟨argTm 0 ds, ⟨[], [], 1000000, 0⟩⟩) (ht : V.tokss ds = [] := by rfl) : M 44 ds r :=
  meetsB_of mix tysOk (mok _) (fun _ _ _ h => h) Tryd.func44 (by decide) rfl keep44 1000000 [] rfl hlen hnd hW ht
/-- cmp.Compare[int] -/
abbrev keep45 : List Nat := [0, 1, 4, 5, 6, 11, 12, 13, 16, 19]
theorem go45 {ds : List V} {r : V} (hlen : Nat.ble ds.length Tryd.f45.ntmps = true) (hnd : nodupB (V.toks r) = true)
    (hW : Bd ⟨argTm 0 ds, ⟨[], [], 1000000, 0⟩⟩ → Code.W tys (cfg []) N 0 [] Tryd.f45.ntmps keep45 (Tryd.f45.body.getD .skip) true [] (retQ tys Tryd.f45.results.toList [] r) ⟨argTm 0 ds, ⟨[], [], 1000000, 0⟩⟩) (ht : V.tokss ds = [] := by rfl) : M 45 ds r :=
  meetsB_of mix tysOk (mok _) (fun _ _ _ h => h) Tryd.func45 (by decide) rfl keep45 1000000 [] rfl hlen hnd hW ht
/-- omnibus/omnibusref02.Key -/
abbrev keep46 : List Nat := [0, 1, 2, 3, 6, 9]
theorem go46 {ds : List V} {r : V} (hlen : Nat.ble ds.length Tryd.f46.ntmps = true) (hnd : nodupB (V.toks r) = true)
    (hW : Bd ⟨argTm 0 ds, ⟨[], [], 1000000, 0⟩⟩ → Code.W tys (cfg []) N 0 [] Tryd.f46.ntmps keep46 (Tryd.f46.body.getD .skip) true [] (retQ tys Tryd.f46.results.toList [] r) ⟨argTm 0 ds, ⟨[], [], 1000000, 0⟩⟩) (ht : V.tokss ds = [] := by rfl) : M 46 ds r :=
  meetsB_of mix tysOk (mok _) (fun _ _ _ h => h) Tryd.func46 (by decide) rfl keep46 1000000 [] rfl hlen hnd hW ht
/-- omnibus/omnibuslaw02.pick -/
abbrev keep47 : List Nat := [0, 1, 4, 6]
theorem go47 {ds : List V} {r : V} (hlen : Nat.ble ds.length Tryd.f47.ntmps = true) (hnd : nodupB (V.toks r) = true)
    (hW : Bd ⟨argTm 0 ds, ⟨[], [], 1000000, 0⟩⟩ → Code.W tys (cfg []) N 0 [] Tryd.f47.ntmps keep47 (Tryd.f47.body.getD .skip) true [] (retQ tys Tryd.f47.results.toList [] r) ⟨argTm 0 ds, ⟨[], [], 1000000, 0⟩⟩) (ht : V.tokss ds = [] := by rfl) : M 47 ds r :=
  meetsB_of mix tysOk (mok _) (fun _ _ _ h => h) Tryd.func47 (by decide) rfl keep47 1000000 [] rfl hlen hnd hW ht
/-- slices.rotateRight[omnibus/api.Message] -/
abbrev keep49 : List Nat := [0, 1]
theorem go49 {ds : List V} {r : V} (hlen : Nat.ble ds.length Tryd.f49.ntmps = true) (hnd : nodupB (V.toks r) = true)
    (hW : Bd ⟨argTm 0 ds, ⟨[], [], 1000000, 0⟩⟩ → Code.W tys (cfg []) N 0 [] Tryd.f49.ntmps keep49 (Tryd.f49.body.getD .skip) true [] (retQ tys Tryd.f49.results.toList [] r) ⟨argTm 0 ds, ⟨[], [], 1000000, 0⟩⟩) (ht : V.tokss ds = [] := by rfl) : M 49 ds r :=
  meetsB_of mix tysOk (mok _) (fun _ _ _ h => h) Tryd.func49 (by decide) rfl keep49 1000000 [] rfl hlen hnd hW ht
/-- omnibus/ident.limit -/
abbrev keep50 : List Nat := [0, 2, 3]
theorem go50 {ds : List V} {r : V} (hlen : Nat.ble ds.length Tryd.f50.ntmps = true) (hnd : nodupB (V.toks r) = true)
    (hW : Bd ⟨argTm 0 ds, ⟨[], [], 1000000, 0⟩⟩ → Code.W tys (cfg []) N 0 [] Tryd.f50.ntmps keep50 (Tryd.f50.body.getD .skip) true [] (retQ tys Tryd.f50.results.toList [] r) ⟨argTm 0 ds, ⟨[], [], 1000000, 0⟩⟩) (ht : V.tokss ds = [] := by rfl) : M 50 ds r :=
  meetsB_of mix tysOk (mok _) (fun _ _ _ h => h) Tryd.func50 (by decide) rfl keep50 1000000 [] rfl hlen hnd hW ht
/-- omnibus/ident.Key -/
abbrev keep51 : List Nat := [0, 1, 2, 3, 4, 8]
theorem go51 {ds : List V} {r : V} (hlen : Nat.ble ds.length Tryd.f51.ntmps = true) (hnd : nodupB (V.toks r) = true)
    (hW : Bd ⟨argTm 0 ds, ⟨[], [], 1000000, 0⟩⟩ → Code.W tys (cfg []) N 0 [] Tryd.f51.ntmps keep51 (Tryd.f51.body.getD .skip) true [] (retQ tys Tryd.f51.results.toList [] r) ⟨argTm 0 ds, ⟨[], [], 1000000, 0⟩⟩) (ht : V.tokss ds = [] := by rfl) : M 51 ds r :=
  meetsB_of mix tysOk (mok _) (fun _ _ _ h => h) Tryd.func51 (by decide) rfl keep51 1000000 [] rfl hlen hnd hW ht
/-- cmp.isNaN[int] -/
abbrev keep52 : List Nat := [0, 2]
theorem go52 {ds : List V} {r : V} (hlen : Nat.ble ds.length Tryd.f52.ntmps = true) (hnd : nodupB (V.toks r) = true)
    (hW : Bd ⟨argTm 0 ds, ⟨[], [], 1000000, 0⟩⟩ → Code.W tys (cfg []) N 0 [] Tryd.f52.ntmps keep52 (Tryd.f52.body.getD .skip) true [] (retQ tys Tryd.f52.results.toList [] r) ⟨argTm 0 ds, ⟨[], [], 1000000, 0⟩⟩) (ht : V.tokss ds = [] := by rfl) : M 52 ds r :=
  meetsB_of mix tysOk (mok _) (fun _ _ _ h => h) Tryd.func52 (by decide) rfl keep52 1000000 [] rfl hlen hnd hW ht
/-- slices.rotateLeft[omnibus/api.Message] -/
abbrev keep53 : List Nat := [0, 1]
theorem go53 {ds : List V} {r : V} (hlen : Nat.ble ds.length Tryd.f53.ntmps = true) (hnd : nodupB (V.toks r) = true)
    (hW : Bd ⟨argTm 0 ds, ⟨[], [], 1000000, 0⟩⟩ → Code.W tys (cfg []) N 0 [] Tryd.f53.ntmps keep53 (Tryd.f53.body.getD .skip) true [] (retQ tys Tryd.f53.results.toList [] r) ⟨argTm 0 ds, ⟨[], [], 1000000, 0⟩⟩) (ht : V.tokss ds = [] := by rfl) : M 53 ds r :=
  meetsB_of mix tysOk (mok _) (fun _ _ _ h => h) Tryd.func53 (by decide) rfl keep53 1000000 [] rfl hlen hnd hW ht
/-- slices.Reverse[[]omnibus/api.Message,omnibus/api.Message] -/
abbrev keep54 : List Nat := [0, 2, 3, 9]
theorem go54 {ds : List V} {r : V} (hlen : Nat.ble ds.length Tryd.f54.ntmps = true) (hnd : nodupB (V.toks r) = true)
    (hW : Bd ⟨argTm 0 ds, ⟨[], [], 1000000, 0⟩⟩ → Code.W tys (cfg []) N 0 [] Tryd.f54.ntmps keep54 (Tryd.f54.body.getD .skip) true [] (retQ tys Tryd.f54.results.toList [] r) ⟨argTm 0 ds, ⟨[], [], 1000000, 0⟩⟩) (ht : V.tokss ds = [] := by rfl) : M 54 ds r :=
  meetsB_of mix tysOk (mok _) (fun _ _ _ h => h) Tryd.func54 (by decide) rfl keep54 1000000 [] rfl hlen hnd hW ht
end Go.Proofs.YtokomdenoegkgaaDoor
