/-
  Layer 16: the row and the card of LogPuts: whatever the input, the law returns true, and the input reads as it did; the package variable ident.greatest as the program's text lays it.
-/
import Derived.Test.YtelbkabgkcogpaaDoorOP5
set_option linter.unusedVariables false
set_option maxRecDepth 100000
namespace Go.Proofs.YtelbkabgkcogpaaDoor
open Go Go.Proofs.YtelbkabgkcogpaaDoor.Abs Go.ChangeShapes Go.WideShapes Go.ChangeAt Go.RowKit
theorem sh_r3 {n : Nat} {x : D} (h : ShD Tryd.prog n 24 x) : ∃ r : R3, x = .agg r.L ∧ r.ok := by
  obtain ⟨ls, rfl, hs⟩ := ShD_row (by rw [isRowT_of Tryd.underlying24]; rfl) h
  obtain ⟨r, rfl, hr⟩ := sh_r3' _ _ hs
  exact ⟨r, rfl, hr⟩
theorem logPuts_data (xs : List D) (h : ShDs Tryd.prog 5 Tryd.f3.params.toList xs) : M 3 (xs.map V.d) (.bool true) := by
  rw [Tryd.params3] at h
  obtain ⟨x0, q0, rfl, h0, x1, q1, rfl, h1, x2, q2, rfl, h2, x3, q3, rfl, h3, rfl⟩ := h
  obtain ⟨ra, rfl, b0, w0⟩ := sh_r3s h0
  obtain ⟨ms, rfl, b1, w1⟩ := sh_r6s h1
  obtain ⟨e, rfl, w2⟩ := sh_r3 h2
  obtain ⟨c, rfl, w3⟩ := sh_int h3
  exact puts_law ra ms e c w0 w1 b0 b1 w2 w3
set_option maxRecDepth 100000 in
theorem logPuts_lifted (os : Os) (started : os.Started) (H : Type) (enc : TypeId × Value → H) :
    ReturnsInHanded {} Tryd.checked os 3 .any (fun w args => (Rows.logPutsSpec.pre enc Tryd.prog Tryd.f3 [] false w args ∧ laidMetH Tryd.prog laidL w) ∧ sizedMet enc Tryd.prog Tryd.f3 (OpenSpec.ofChange Rows.logPutsSpec) false w args)
      (Rows.logPutsSpec.post enc Tryd.prog Tryd.f3 false true false false) := by
  refine returnsInHanded_of_change_and (C := Tryd.checked) (X := fun w _ => laidMetH Tryd.prog laidL w) (fun _ _ _ hh h => h.of_heap hh) own started (by kernel_rfl) Tryd.func3
    (ChangeSpec.witness_shaped (enc := enc) (C := Tryd.checked) (os := os) (X := fun w _ => laidMetH Tryd.prog laidL w) false (World.doorLaid Tryd.prog 400 os) #[.slice none 0 0, .slice none 0 0, .agg #[.int .i64 0, .int .i64 0, .int .i64 0], .int .i64 0] 8 rfl (World.shaped_of_RefB (by kernel_rfl) (by kernel_rfl)) (by kernel_rfl) (by kernel_rfl) (by kernel_rfl) (door_met os _)) ?_
  intro W base args ds gs before hval hW _ _ hL _
  refine row_true (P := Tryd.prog) (gl := gl) (n := 5) (tb := 4) laidOut ?_ rfl Tryd.underlying4 rfl ?_ (fun xs h => (logPuts_data xs h).nil) (of_laid hL) hval hW
  · have h : (Tryd.f3.params.toList.all fun t => dataT Tryd.prog 5 t && Tryd.prog.readableRec t && decide (t < Tryd.prog.types.size)) = true := by kernel_rfl
    intro t ht
    have := List.all_eq_true.1 h t ht
    simp only [Bool.and_eq_true, decide_eq_true_eq] at this
    exact ⟨this.1.1, this.1.2, this.2⟩
  · intro ds h
    rw [Tryd.params3] at h
    match ds, h with
    | [d0, d1, d2, d3], _ => rfl
theorem logPuts_row : Rows.LogPutsSaid :=
  OpenClaim.holds_of_wide 3 Tryd.f3 rfl rfl rfl rfl rfl rfl rfl ⟨rfl, rfl, rfl, rfl, rfl⟩ rfl rfl rfl rfl rfl (by kernel_rfl) Tryd.func3 (by kernel_rfl)
    (of_decide_eq_true (by kernel_rfl)) (by unfold Func.isWrapper; rw [if_neg (by decide +kernel)]; exact ⟨rfl, rfl⟩)
    (fun os started H enc _ => logPuts_lifted os started H enc)
theorem logPuts_holds : Rows.LogPutsCardSaid :=
  Claim7.holds_tied_plain_at .later [] [.data] true (true, "bd4070acd2acbc3fffb09430d1dfb407b853e4faad26897777dee0fb38bc6b34") false
    logPuts_row (fun _ h => by cases h) (by kernel_rfl) (fun _ h => by cases h) logPuts_row_tie rfl ⟨rfl, rfl⟩ (by kernel_rfl) rfl
    (fun f fn hf hfn => by
      obtain rfl : f = 3 := Option.some.inj ((show Tryd.prog.funcNamed "omnibus/omnibuslaw16.LogPuts" = some 3 by kernel_rfl).symm.trans hf) |>.symm
      obtain rfl : fn = Tryd.f3 := (Option.some.inj (Tryd.func3.symm.trans hfn)).symm
      exact ⟨by kernel_rfl, fun j t ht => by
        have h : (Tryd.f3.params.toList.all fun t => Tryd.prog.wantsStandIn t == false) = true := by kernel_rfl
        have := List.all_eq_true.1 h t (by simpa using Array.mem_of_getElem? ht)
        have h2 : Tryd.prog.wantsStandIn t = false := by simpa using this
        exact h2⟩)
    (by kernel_rfl)
end Go.Proofs.YtelbkabgkcogpaaDoor
