/-
  Layer 17: the row and the card of ViewMarks: whatever the input, the law returns true, and the input reads as it did; the package variable ident.greatest as the program's text lays it.
-/
import Derived.Test.YtfnhcinnlfklbaaDoorOP5
set_option linter.unusedVariables false
set_option maxRecDepth 100000
namespace Go.Proofs.YtfnhcinnlfklbaaDoor
open Go Go.Proofs.YtfnhcinnlfklbaaDoor.Abs Go.ChangeShapes Go.WideShapes Go.ChangeAt Go.RowKit
theorem sh_r4' (m : Nat) (ls : List L) (h : Sh Tryd.prog m 56 ls) : ∃ r : R4, ls = r.L ∧ r.ok := by
  obtain ⟨p, q, rfl, h1, p2, q2, rfl, h2, p3, q3, rfl, h3, p4, q4, rfl, h4, h7⟩ := Sh_array Tryd.underlying56 h
  obtain ⟨a, rfl, ha⟩ := sh_int' _ _ h1
  obtain ⟨b, rfl, hb⟩ := sh_int' _ _ h2
  obtain ⟨c, rfl, hc⟩ := sh_int' _ _ h3
  obtain ⟨d, rfl, hd⟩ := sh_int' _ _ h4
  cases h7
  exact ⟨⟨a, b, c, d⟩, rfl, ha, hb, hc, hd⟩
theorem sh_r4s {n : Nat} {x : D} (h : ShD Tryd.prog n 22 x) : ∃ l : List R4, x = .l (.sl 4 (Rl4 l)) ∧ l.length ≤ 9223372036854775807 ∧ ∀ r ∈ l, r.ok := by
  obtain ⟨l, e, hb, hl⟩ := ShD_slice Tryd.underlying22 (c := 4) (by kernel_rfl) R4.L R4.ok sh_r4' h
  exact ⟨l, e, hb, hl⟩
theorem viewMarks_data (xs : List D) (h : ShDs Tryd.prog 5 Tryd.f4.params.toList xs) : M 4 (xs.map V.d) (.bool true) := by
  rw [Tryd.params4] at h
  obtain ⟨x0, q0, rfl, h0, x1, q1, rfl, h1, rfl⟩ := h
  obtain ⟨raw, rfl, b0, w0⟩ := sh_r4s h0
  obtain ⟨msgs, rfl, b1, w1⟩ := sh_r6s h1
  exact marks_law raw msgs w0 w1 b0 b1
set_option maxRecDepth 100000 in
theorem viewMarks_lifted (os : Os) (started : os.Started) (H : Type) (enc : TypeId × Value → H) :
    ReturnsInHanded {} Tryd.checked os 4 .any (fun w args => (Rows.viewMarksSpec.pre enc Tryd.prog Tryd.f4 [] false w args ∧ laidMetH Tryd.prog laidL w) ∧ sizedMet enc Tryd.prog Tryd.f4 (OpenSpec.ofChange Rows.viewMarksSpec) false w args)
      (Rows.viewMarksSpec.post enc Tryd.prog Tryd.f4 false true false false) := by
  refine returnsInHanded_of_change_and (C := Tryd.checked) (X := fun w _ => laidMetH Tryd.prog laidL w) (fun _ _ _ hh h => h.of_heap hh) own started (by kernel_rfl) Tryd.func4
    (ChangeSpec.witness_shaped (enc := enc) (C := Tryd.checked) (os := os) (X := fun w _ => laidMetH Tryd.prog laidL w) false (World.doorLaid Tryd.prog 400 os) #[.slice none 0 0, .slice none 0 0] 8 rfl (World.shaped_of_RefB (by kernel_rfl) (by kernel_rfl)) (by kernel_rfl) (by kernel_rfl) (by kernel_rfl) (door_met os _)) ?_
  intro W base args ds gs before hval hW _ _ hL _
  refine row_true (P := Tryd.prog) (gl := gl) (n := 5) (tb := 4) laidOut ?_ rfl Tryd.underlying4 rfl ?_ (fun xs h => (viewMarks_data xs h).nil) (of_laid hL) hval hW
  · have h : (Tryd.f4.params.toList.all fun t => dataT Tryd.prog 5 t && Tryd.prog.readableRec t && decide (t < Tryd.prog.types.size)) = true := by kernel_rfl
    intro t ht
    have := List.all_eq_true.1 h t ht
    simp only [Bool.and_eq_true, decide_eq_true_eq] at this
    exact ⟨this.1.1, this.1.2, this.2⟩
  · intro ds h
    rw [Tryd.params4] at h
    match ds, h with
    | [d0, d1], _ => rfl
theorem viewMarks_row : Rows.ViewMarksSaid :=
  OpenClaim.holds_of_wide 4 Tryd.f4 rfl rfl rfl rfl rfl rfl rfl ⟨rfl, rfl, rfl, rfl, rfl⟩ rfl rfl rfl rfl rfl (by kernel_rfl) Tryd.func4 (by kernel_rfl)
    (of_decide_eq_true (by kernel_rfl)) (by unfold Func.isWrapper; rw [if_neg (by decide +kernel)]; exact ⟨rfl, rfl⟩)
    (fun os started H enc _ => viewMarks_lifted os started H enc)
theorem viewMarks_holds : Rows.ViewMarksCardSaid :=
  Claim7.holds_tied_plain_at .later [] [.data] true (true, "809cccea2e8b70abdc0d8034d2615caf383048dda5b8d1bbc66da3ff1e58d67e") false
    viewMarks_row (fun _ h => by cases h) (by kernel_rfl) (fun _ h => by cases h) viewMarks_row_tie rfl ⟨rfl, rfl⟩ (by kernel_rfl) rfl
    (fun f fn hf hfn => by
      obtain rfl : f = 4 := Option.some.inj ((show Tryd.prog.funcNamed "omnibus/omnibuslaw17.ViewMarks" = some 4 by kernel_rfl).symm.trans hf) |>.symm
      obtain rfl : fn = Tryd.f4 := (Option.some.inj (Tryd.func4.symm.trans hfn)).symm
      exact ⟨by kernel_rfl, fun j t ht => by
        have h : (Tryd.f4.params.toList.all fun t => Tryd.prog.wantsStandIn t == false) = true := by kernel_rfl
        have := List.all_eq_true.1 h t (by simpa using Array.mem_of_getElem? ht)
        have h2 : Tryd.prog.wantsStandIn t = false := by simpa using this
        exact h2⟩)
    (by kernel_rfl)
end Go.Proofs.YtfnhcinnlfklbaaDoor
