/-
  Layer 16: the row and the card of LogBuilds: whatever the input, the law returns true, and the input reads as it did; the package variable ident.greatest as the program's text lays it.
-/
import Derived.Test.YtelbkabgkcogpaaDoorOP5
set_option linter.unusedVariables false
set_option maxRecDepth 100000
namespace Go.Proofs.YtelbkabgkcogpaaDoor
open Go Go.Proofs.YtelbkabgkcogpaaDoor.Abs Go.ChangeShapes Go.WideShapes Go.ChangeAt Go.RowKit
theorem logBuilds_data (xs : List D) (h : ShDs Tryd.prog 5 Tryd.f6.params.toList xs) : M 6 (xs.map V.d) (.bool true) := by
  rw [Tryd.params6] at h
  obtain ⟨x0, q0, rfl, h0, x1, q1, rfl, h1, x2, q2, rfl, h2, rfl⟩ := h
  obtain ⟨ra, rfl, b0, w0⟩ := sh_r3s h0
  obtain ⟨rb, rfl, b1, w1⟩ := sh_r3s h1
  obtain ⟨ms, rfl, b2, w2⟩ := sh_r6s h2
  exact builds_law ra rb ms w0 w1 w2 b0 b1 b2
set_option maxRecDepth 100000 in
theorem logBuilds_lifted (os : Os) (started : os.Started) (H : Type) (enc : TypeId × Value → H) :
    ReturnsInHanded {} Tryd.checked os 6 .any (fun w args => (Rows.logBuildsSpec.pre enc Tryd.prog Tryd.f6 [] false w args ∧ laidMetH Tryd.prog laidL w) ∧ sizedMet enc Tryd.prog Tryd.f6 (OpenSpec.ofChange Rows.logBuildsSpec) false w args)
      (Rows.logBuildsSpec.post enc Tryd.prog Tryd.f6 false true false false) := by
  refine returnsInHanded_of_change_and (C := Tryd.checked) (X := fun w _ => laidMetH Tryd.prog laidL w) (fun _ _ _ hh h => h.of_heap hh) own started (by kernel_rfl) Tryd.func6
    (ChangeSpec.witness_shaped (enc := enc) (C := Tryd.checked) (os := os) (X := fun w _ => laidMetH Tryd.prog laidL w) false (World.doorLaid Tryd.prog 400 os) #[.slice none 0 0, .slice none 0 0, .slice none 0 0] 8 rfl (World.shaped_of_RefB (by kernel_rfl) (by kernel_rfl)) (by kernel_rfl) (by kernel_rfl) (by kernel_rfl) (door_met os _)) ?_
  intro W base args ds gs before hval hW _ _ hL _
  refine row_true (P := Tryd.prog) (gl := gl) (n := 5) (tb := 4) laidOut ?_ rfl Tryd.underlying4 rfl ?_ (fun xs h => (logBuilds_data xs h).nil) (of_laid hL) hval hW
  · have h : (Tryd.f6.params.toList.all fun t => dataT Tryd.prog 5 t && Tryd.prog.readableRec t && decide (t < Tryd.prog.types.size)) = true := by kernel_rfl
    intro t ht
    have := List.all_eq_true.1 h t ht
    simp only [Bool.and_eq_true, decide_eq_true_eq] at this
    exact ⟨this.1.1, this.1.2, this.2⟩
  · intro ds h
    rw [Tryd.params6] at h
    match ds, h with
    | [d0, d1, d2], _ => rfl
theorem logBuilds_row : Rows.LogBuildsSaid :=
  OpenClaim.holds_of_wide 6 Tryd.f6 rfl rfl rfl rfl rfl rfl rfl ⟨rfl, rfl, rfl, rfl, rfl⟩ rfl rfl rfl rfl rfl (by kernel_rfl) Tryd.func6 (by kernel_rfl)
    (of_decide_eq_true (by kernel_rfl)) (by unfold Func.isWrapper; rw [if_neg (by decide +kernel)]; exact ⟨rfl, rfl⟩)
    (fun os started H enc _ => logBuilds_lifted os started H enc)
theorem logBuilds_holds : Rows.LogBuildsCardSaid :=
  Claim7.holds_tied_plain_at .later [] [.data] true (true, "bd4070acd2acbc3fffb09430d1dfb407b853e4faad26897777dee0fb38bc6b34") false
    logBuilds_row (fun _ h => by cases h) (by kernel_rfl) (fun _ h => by cases h) logBuilds_row_tie rfl ⟨rfl, rfl⟩ (by kernel_rfl) rfl
    (fun f fn hf hfn => by
      obtain rfl : f = 6 := Option.some.inj ((show Tryd.prog.funcNamed "omnibus/omnibuslaw16.LogBuilds" = some 6 by kernel_rfl).symm.trans hf) |>.symm
      obtain rfl : fn = Tryd.f6 := (Option.some.inj (Tryd.func6.symm.trans hfn)).symm
      exact ⟨by kernel_rfl, fun j t ht => by
        have h : (Tryd.f6.params.toList.all fun t => Tryd.prog.wantsStandIn t == false) = true := by kernel_rfl
        have := List.all_eq_true.1 h t (by simpa using Array.mem_of_getElem? ht)
        have h2 : Tryd.prog.wantsStandIn t = false := by simpa using this
        exact h2⟩)
    (by kernel_rfl)
end Go.Proofs.YtelbkabgkcogpaaDoor
