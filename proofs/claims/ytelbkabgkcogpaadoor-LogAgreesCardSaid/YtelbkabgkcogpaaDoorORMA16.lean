/-
  Layer 16: the row and the card of LogAgrees: whatever the input, the law returns true, and the input reads as it did; the package variable ident.greatest as the program's text lays it.
-/
import Derived.Test.YtelbkabgkcogpaaDoorOP5
set_option linter.unusedVariables false
set_option maxRecDepth 100000
namespace Go.Proofs.YtelbkabgkcogpaaDoor
open Go Go.Proofs.YtelbkabgkcogpaaDoor.Abs Go.ChangeShapes Go.WideShapes Go.ChangeAt Go.RowKit
theorem sh_ints {n : Nat} {x : D} (h : ShD Tryd.prog n 29 x) : ∃ l : List Int, x = .l (.sl 1 (Il l)) ∧ l.length ≤ 9223372036854775807 ∧ ∀ c ∈ l, InR c := by
  obtain ⟨l, e, hb, hl⟩ := ShD_slice Tryd.underlying29 (c := 1) (by kernel_rfl) (fun n : Int => [L.int n]) InR (fun m ls h => by obtain ⟨a, rfl, ha⟩ := sh_int' m ls h; exact ⟨a, rfl, ha⟩) h
  exact ⟨l, e, hb, hl⟩
theorem logAgrees_data (xs : List D) (h : ShDs Tryd.prog 5 Tryd.f4.params.toList xs) : M 4 (xs.map V.d) (.bool true) := by
  rw [Tryd.params4] at h
  obtain ⟨x0, q0, rfl, h0, x1, q1, rfl, h1, x2, q2, rfl, h2, x3, q3, rfl, h3, x4, q4, rfl, h4, rfl⟩ := h
  obtain ⟨ra, rfl, b0, w0⟩ := sh_r3s h0
  obtain ⟨ak, rfl, b1, w1⟩ := sh_ints h1
  obtain ⟨c, rfl, w2⟩ := sh_int h2
  obtain ⟨d, rfl, w3⟩ := sh_int h3
  obtain ⟨e, rfl, w4⟩ := sh_int h4
  exact agrees_law ra ak c d e w0 b0 w1 b1 w2 w3 w4
set_option maxRecDepth 100000 in
theorem logAgrees_lifted (os : Os) (started : os.Started) (H : Type) (enc : TypeId × Value → H) :
    ReturnsInHanded {} Tryd.checked os 4 .any (fun w args => (Rows.logAgreesSpec.pre enc Tryd.prog Tryd.f4 [] false w args ∧ laidMetH Tryd.prog laidL w) ∧ sizedMet enc Tryd.prog Tryd.f4 (OpenSpec.ofChange Rows.logAgreesSpec) false w args)
      (Rows.logAgreesSpec.post enc Tryd.prog Tryd.f4 false true false false) := by
  refine returnsInHanded_of_change_and (C := Tryd.checked) (X := fun w _ => laidMetH Tryd.prog laidL w) (fun _ _ _ hh h => h.of_heap hh) own started (by kernel_rfl) Tryd.func4
    (ChangeSpec.witness_shaped (enc := enc) (C := Tryd.checked) (os := os) (X := fun w _ => laidMetH Tryd.prog laidL w) false (World.doorLaid Tryd.prog 400 os) #[.slice none 0 0, .slice none 0 0, .int .i64 0, .int .i64 0, .int .i64 0] 8 rfl (World.shaped_of_RefB (by kernel_rfl) (by kernel_rfl)) (by kernel_rfl) (by kernel_rfl) (by kernel_rfl) (door_met os _)) ?_
  intro W base args ds gs before hval hW _ _ hL _
  refine row_true (P := Tryd.prog) (gl := gl) (n := 5) (tb := 4) laidOut ?_ rfl Tryd.underlying4 rfl ?_ (fun xs h => (logAgrees_data xs h).nil) (of_laid hL) hval hW
  · have h : (Tryd.f4.params.toList.all fun t => dataT Tryd.prog 5 t && Tryd.prog.readableRec t && decide (t < Tryd.prog.types.size)) = true := by kernel_rfl
    intro t ht
    have := List.all_eq_true.1 h t ht
    simp only [Bool.and_eq_true, decide_eq_true_eq] at this
    exact ⟨this.1.1, this.1.2, this.2⟩
  · intro ds h
    rw [Tryd.params4] at h
    match ds, h with
    | [d0, d1, d2, d3, d4], _ => rfl
theorem logAgrees_row : Rows.LogAgreesSaid :=
  OpenClaim.holds_of_wide 4 Tryd.f4 rfl rfl rfl rfl rfl rfl rfl ⟨rfl, rfl, rfl, rfl, rfl⟩ rfl rfl rfl rfl rfl (by kernel_rfl) Tryd.func4 (by kernel_rfl)
    (of_decide_eq_true (by kernel_rfl)) (by unfold Func.isWrapper; rw [if_neg (by decide +kernel)]; exact ⟨rfl, rfl⟩)
    (fun os started H enc _ => logAgrees_lifted os started H enc)
theorem logAgrees_holds : Rows.LogAgreesCardSaid :=
  Claim7.holds_tied_plain_at .later [] [.data] true (true, "bd4070acd2acbc3fffb09430d1dfb407b853e4faad26897777dee0fb38bc6b34") false
    logAgrees_row (fun _ h => by cases h) (by kernel_rfl) (fun _ h => by cases h) logAgrees_row_tie rfl ⟨rfl, rfl⟩ (by kernel_rfl) rfl
    (fun f fn hf hfn => by
      obtain rfl : f = 4 := Option.some.inj ((show Tryd.prog.funcNamed "omnibus/omnibuslaw16.LogAgrees" = some 4 by kernel_rfl).symm.trans hf) |>.symm
      obtain rfl : fn = Tryd.f4 := (Option.some.inj (Tryd.func4.symm.trans hfn)).symm
      exact ⟨by kernel_rfl, fun j t ht => by
        have h : (Tryd.f4.params.toList.all fun t => Tryd.prog.wantsStandIn t == false) = true := by kernel_rfl
        have := List.all_eq_true.1 h t (by simpa using Array.mem_of_getElem? ht)
        have h2 : Tryd.prog.wantsStandIn t = false := by simpa using this
        exact h2⟩)
    (by kernel_rfl)
end Go.Proofs.YtelbkabgkcogpaaDoor
