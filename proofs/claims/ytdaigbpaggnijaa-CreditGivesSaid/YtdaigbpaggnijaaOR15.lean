/-
  Layer 15: the rows. CreditTells, CreditBounds, CreditGives, CreditAgain, CreditAll: whatever the input, the law returns true, and the input reads as it did. No condition.
-/
import Derived.Test.YtdaigbpaggnijaaRows
import Derived.Test.YtdaigbpaggnijaaOO15
import Derived.Test.YtdaigbpaggnijaaOAbsR
set_option linter.unusedVariables false
namespace Go.Proofs.Ytdaigbpaggnijaa
open Go Go.Proofs.Ytdaigbpaggnijaa.Abs Go.ChangeShapes Go.WideShapes Go.ChangeAt Go.RowKit

theorem laidOut : laidOutB Try.prog = true := by kernel_rfl
theorem own : ownKnob Try.prog.godebug = none := by kernel_rfl

theorem sh_int {n : Nat} {x : D} (h : ShD Try.prog n 3 x) : ∃ z, x = .l (.int z) ∧ In64 z := by
  obtain ⟨z, e, h1, h2⟩ := ShD_int Try.underlying3 h
  exact ⟨z, e, h1, by have : z ≤ 9223372036854775807 := h2; omega⟩
theorem sh_int' (m : Nat) (ls : List L) (h : Sh Try.prog m 3 ls) : ∃ z : Int, ls = [.int z] ∧ In64 z := by
  obtain ⟨z, e, h1, h2⟩ := Sh_int Try.underlying3 h
  exact ⟨z, e, h1, by have : z ≤ 9223372036854775807 := h2; omega⟩
theorem sh_ints' (m : Nat) (ls : List L) (h : Sh Try.prog m 22 ls) : ∃ l : List Int, ls = [.sl 1 (Il l)] ∧ ∀ x ∈ l, In64 x := by
  obtain ⟨l, e, _, hl⟩ := Sh_slice Try.underlying22 (c := 1) (by kernel_rfl) (fun z : Int => [.int z]) (fun z => In64 z) sh_int' h
  exact ⟨l, e, hl⟩
theorem sh_ints {n : Nat} {x : D} (h : ShD Try.prog n 22 x) : ∃ l : List Int, x = .l (.sl 1 (Il l)) ∧ ∀ x ∈ l, In64 x := by
  obtain ⟨l, e, _, hl⟩ := ShD_slice Try.underlying22 (c := 1) (by kernel_rfl) (fun z : Int => [.int z]) (fun z => In64 z) sh_int' h
  exact ⟨l, e, hl⟩
theorem sh_pair' (m : Nat) (ls : List L) (h : Sh Try.prog m 45 ls) : ∃ z : Int × Int, ls = [.int z.1, .int z.2] ∧ (In64 z.1 ∧ In64 z.2) := by
  obtain ⟨p, q, rfl, h1, p', q', rfl, h2, h3⟩ := Sh_array Try.underlying45 h
  obtain ⟨a, rfl, ha⟩ := sh_int' _ _ h1
  obtain ⟨b, rfl, hb⟩ := sh_int' _ _ h2
  cases h3
  exact ⟨(a, b), rfl, ha, hb⟩
theorem sh_pairs {n : Nat} {x : D} (h : ShD Try.prog n 44 x) : ∃ l : List (Int × Int), x = .l (.sl 2 (Pl l)) ∧ ∀ x ∈ l, In64 x.1 ∧ In64 x.2 := by
  obtain ⟨l, e, _, hl⟩ := ShD_slice Try.underlying44 (c := 2) (by kernel_rfl) (fun z : Int × Int => [.int z.1, .int z.2]) (fun z => In64 z.1 ∧ In64 z.2) sh_pair' h
  exact ⟨l, e, hl⟩
theorem sh_credit {n : Nat} {x : D} (h : ShD Try.prog n 24 x) : ∃ (w : Int) (l : List Int), x = .agg [.int w, .sl 1 (Il l)] := by
  obtain ⟨ls, rfl, hs⟩ := ShD_row (by rw [isRowT_of Try.underlying24]; rfl) h
  obtain ⟨p, q, rfl, h1, p', q', rfl, h2, h3⟩ := Sh_struct Try.underlying24 hs
  obtain ⟨a, rfl, ha⟩ := sh_int' _ _ h1
  obtain ⟨b, rfl, hb⟩ := sh_ints' _ _ h2
  cases h3
  exact ⟨a, b, rfl⟩

theorem creditTells_data (xs : List D) (h : ShDs Try.prog 5 Try.f3.params.toList xs) : M 3 (xs.map V.d) (.bool true) := by
  rw [Try.params3] at h
  obtain ⟨x0, r0, rfl, h0, x1, r1, rfl, h1, x2, r2, rfl, h2, x3, r3, rfl, h3, x4, r4, rfl, h4, x5, r5, rfl, h5, rfl⟩ := h
  obtain ⟨a0, rfl, w0⟩ := sh_int h0
  obtain ⟨a1, rfl, w1⟩ := sh_ints h1
  obtain ⟨a2, b2, rfl⟩ := sh_credit h2
  obtain ⟨a3, rfl, w3⟩ := sh_int h3
  obtain ⟨a4, rfl, w4⟩ := sh_int h4
  obtain ⟨a5, rfl, w5⟩ := sh_ints h5
  exact tells_ok a0 a1 a2 b2 a3 a4 a5 w0 w1 w3 w4
set_option maxRecDepth 100000 in
theorem creditTells_lifted (os : Os) (started : os.Started) (H : Type) (enc : TypeId × Value → H) :
    ReturnsInHanded {} Try.checked os 3 .any (Rows.creditTellsSpec.pre6 enc Try.prog Try.f3 Rows.creditTellsRow.domain false) (Rows.creditTellsSpec.post enc Try.prog Try.f3 false true false false) := by
  refine returnsInHanded_of_change (C := Try.checked) own started (by kernel_rfl) Try.func3
    (ChangeSpec.witness6 (enc := enc) (C := Try.checked) false ⟨#[], #[.int .i64 0, .slice none 0 0, .agg #[.int .i64 0, .slice none 0 0], .int .i64 0, .int .i64 0, .slice none 0 0], []⟩ 8 (by kernel_rfl) (by kernel_rfl) (by kernel_rfl) (by kernel_rfl)) ?_
  intro W base args ds gs before hval hW hcnd _
  refine row_true (n := 5) (tb := 4) laidOut ?_ rfl Try.underlying4 rfl ?_ creditTells_data (foreign00 W) hval hW
  · have h : (Try.f3.params.toList.all fun t => dataT Try.prog 5 t && Try.prog.readableRec t && decide (t < Try.prog.types.size)) = true := by kernel_rfl
    intro t ht
    have := List.all_eq_true.1 h t ht
    simp only [Bool.and_eq_true, decide_eq_true_eq] at this
    exact ⟨this.1.1, this.1.2, this.2⟩
  · intro ds h
    rw [Try.params3] at h
    match ds, h with
    | [d0, d1, d2, d3, d4, d5], _ => rfl
theorem creditTells_holds : Rows.CreditTellsSaid :=
  OpenClaim.holds_of_wide 3 Try.f3 rfl rfl rfl rfl rfl rfl rfl ⟨rfl, rfl, rfl, rfl, rfl⟩ rfl rfl rfl rfl rfl (by kernel_rfl) Try.func3 (by kernel_rfl)
    (of_decide_eq_true (by kernel_rfl)) (by unfold Func.isWrapper; rw [if_neg (by decide +kernel)]; exact ⟨rfl, rfl⟩)
    (fun os started H enc _ => creditTells_lifted os started H enc)

theorem creditBounds_data (xs : List D) (h : ShDs Try.prog 5 Try.f4.params.toList xs) : M 4 (xs.map V.d) (.bool true) := by
  rw [Try.params4] at h
  obtain ⟨x0, r0, rfl, h0, x1, r1, rfl, h1, rfl⟩ := h
  obtain ⟨a0, rfl, w0⟩ := sh_int h0
  obtain ⟨a1, rfl, w1⟩ := sh_pairs h1
  exact bounds_ok a0 a1 w0 w1
set_option maxRecDepth 100000 in
theorem creditBounds_lifted (os : Os) (started : os.Started) (H : Type) (enc : TypeId × Value → H) :
    ReturnsInHanded {} Try.checked os 4 .any (Rows.creditBoundsSpec.pre6 enc Try.prog Try.f4 Rows.creditBoundsRow.domain false) (Rows.creditBoundsSpec.post enc Try.prog Try.f4 false true false false) := by
  refine returnsInHanded_of_change (C := Try.checked) own started (by kernel_rfl) Try.func4
    (ChangeSpec.witness6 (enc := enc) (C := Try.checked) false ⟨#[], #[.int .i64 0, .slice none 0 0], []⟩ 8 (by kernel_rfl) (by kernel_rfl) (by kernel_rfl) (by kernel_rfl)) ?_
  intro W base args ds gs before hval hW hcnd _
  refine row_true (n := 5) (tb := 4) laidOut ?_ rfl Try.underlying4 rfl ?_ creditBounds_data (foreign00 W) hval hW
  · have h : (Try.f4.params.toList.all fun t => dataT Try.prog 5 t && Try.prog.readableRec t && decide (t < Try.prog.types.size)) = true := by kernel_rfl
    intro t ht
    have := List.all_eq_true.1 h t ht
    simp only [Bool.and_eq_true, decide_eq_true_eq] at this
    exact ⟨this.1.1, this.1.2, this.2⟩
  · intro ds h
    rw [Try.params4] at h
    match ds, h with
    | [d0, d1], _ => rfl
theorem creditBounds_holds : Rows.CreditBoundsSaid :=
  OpenClaim.holds_of_wide 4 Try.f4 rfl rfl rfl rfl rfl rfl rfl ⟨rfl, rfl, rfl, rfl, rfl⟩ rfl rfl rfl rfl rfl (by kernel_rfl) Try.func4 (by kernel_rfl)
    (of_decide_eq_true (by kernel_rfl)) (by unfold Func.isWrapper; rw [if_neg (by decide +kernel)]; exact ⟨rfl, rfl⟩)
    (fun os started H enc _ => creditBounds_lifted os started H enc)

theorem creditGives_data (xs : List D) (h : ShDs Try.prog 5 Try.f5.params.toList xs) : M 5 (xs.map V.d) (.bool true) := by
  rw [Try.params5] at h
  obtain ⟨x0, r0, rfl, h0, x1, r1, rfl, h1, x2, r2, rfl, h2, x3, r3, rfl, h3, rfl⟩ := h
  obtain ⟨a0, rfl, w0⟩ := sh_int h0
  obtain ⟨a1, rfl, w1⟩ := sh_ints h1
  obtain ⟨a2, rfl, w2⟩ := sh_ints h2
  obtain ⟨a3, rfl, w3⟩ := sh_int h3
  exact gives_ok a0 a1 a2 a3 w0 w1 w2 w3
set_option maxRecDepth 100000 in
theorem creditGives_lifted (os : Os) (started : os.Started) (H : Type) (enc : TypeId × Value → H) :
    ReturnsInHanded {} Try.checked os 5 .any (Rows.creditGivesSpec.pre6 enc Try.prog Try.f5 Rows.creditGivesRow.domain false) (Rows.creditGivesSpec.post enc Try.prog Try.f5 false true false false) := by
  refine returnsInHanded_of_change (C := Try.checked) own started (by kernel_rfl) Try.func5
    (ChangeSpec.witness6 (enc := enc) (C := Try.checked) false ⟨#[], #[.int .i64 0, .slice none 0 0, .slice none 0 0, .int .i64 0], []⟩ 8 (by kernel_rfl) (by kernel_rfl) (by kernel_rfl) (by kernel_rfl)) ?_
  intro W base args ds gs before hval hW hcnd _
  refine row_true (n := 5) (tb := 4) laidOut ?_ rfl Try.underlying4 rfl ?_ creditGives_data (foreign00 W) hval hW
  · have h : (Try.f5.params.toList.all fun t => dataT Try.prog 5 t && Try.prog.readableRec t && decide (t < Try.prog.types.size)) = true := by kernel_rfl
    intro t ht
    have := List.all_eq_true.1 h t ht
    simp only [Bool.and_eq_true, decide_eq_true_eq] at this
    exact ⟨this.1.1, this.1.2, this.2⟩
  · intro ds h
    rw [Try.params5] at h
    match ds, h with
    | [d0, d1, d2, d3], _ => rfl
theorem creditGives_holds : Rows.CreditGivesSaid :=
  OpenClaim.holds_of_wide 5 Try.f5 rfl rfl rfl rfl rfl rfl rfl ⟨rfl, rfl, rfl, rfl, rfl⟩ rfl rfl rfl rfl rfl (by kernel_rfl) Try.func5 (by kernel_rfl)
    (of_decide_eq_true (by kernel_rfl)) (by unfold Func.isWrapper; rw [if_neg (by decide +kernel)]; exact ⟨rfl, rfl⟩)
    (fun os started H enc _ => creditGives_lifted os started H enc)

theorem creditAgain_data (xs : List D) (h : ShDs Try.prog 5 Try.f6.params.toList xs) : M 6 (xs.map V.d) (.bool true) := by
  rw [Try.params6] at h
  obtain ⟨x0, r0, rfl, h0, x1, r1, rfl, h1, x2, r2, rfl, h2, rfl⟩ := h
  obtain ⟨a0, rfl, w0⟩ := sh_int h0
  obtain ⟨a1, rfl, w1⟩ := sh_ints h1
  obtain ⟨a2, rfl, w2⟩ := sh_int h2
  exact again_ok a0 a1 a2 w0 w1 w2
set_option maxRecDepth 100000 in
theorem creditAgain_lifted (os : Os) (started : os.Started) (H : Type) (enc : TypeId × Value → H) :
    ReturnsInHanded {} Try.checked os 6 .any (Rows.creditAgainSpec.pre6 enc Try.prog Try.f6 Rows.creditAgainRow.domain false) (Rows.creditAgainSpec.post enc Try.prog Try.f6 false true false false) := by
  refine returnsInHanded_of_change (C := Try.checked) own started (by kernel_rfl) Try.func6
    (ChangeSpec.witness6 (enc := enc) (C := Try.checked) false ⟨#[], #[.int .i64 0, .slice none 0 0, .int .i64 0], []⟩ 8 (by kernel_rfl) (by kernel_rfl) (by kernel_rfl) (by kernel_rfl)) ?_
  intro W base args ds gs before hval hW hcnd _
  refine row_true (n := 5) (tb := 4) laidOut ?_ rfl Try.underlying4 rfl ?_ creditAgain_data (foreign00 W) hval hW
  · have h : (Try.f6.params.toList.all fun t => dataT Try.prog 5 t && Try.prog.readableRec t && decide (t < Try.prog.types.size)) = true := by kernel_rfl
    intro t ht
    have := List.all_eq_true.1 h t ht
    simp only [Bool.and_eq_true, decide_eq_true_eq] at this
    exact ⟨this.1.1, this.1.2, this.2⟩
  · intro ds h
    rw [Try.params6] at h
    match ds, h with
    | [d0, d1, d2], _ => rfl
theorem creditAgain_holds : Rows.CreditAgainSaid :=
  OpenClaim.holds_of_wide 6 Try.f6 rfl rfl rfl rfl rfl rfl rfl ⟨rfl, rfl, rfl, rfl, rfl⟩ rfl rfl rfl rfl rfl (by kernel_rfl) Try.func6 (by kernel_rfl)
    (of_decide_eq_true (by kernel_rfl)) (by unfold Func.isWrapper; rw [if_neg (by decide +kernel)]; exact ⟨rfl, rfl⟩)
    (fun os started H enc _ => creditAgain_lifted os started H enc)

theorem creditAll_data (xs : List D) (h : ShDs Try.prog 5 Try.f7.params.toList xs) : M 7 (xs.map V.d) (.bool true) := by
  rw [Try.params7] at h
  obtain ⟨x0, r0, rfl, h0, rfl⟩ := h
  obtain ⟨a0, rfl, w0⟩ := sh_int h0
  exact all_ok a0 w0
set_option maxRecDepth 100000 in
theorem creditAll_lifted (os : Os) (started : os.Started) (H : Type) (enc : TypeId × Value → H) :
    ReturnsInHanded {} Try.checked os 7 .any (Rows.creditAllSpec.pre6 enc Try.prog Try.f7 Rows.creditAllRow.domain false) (Rows.creditAllSpec.post enc Try.prog Try.f7 false true false false) := by
  refine returnsInHanded_of_change (C := Try.checked) own started (by kernel_rfl) Try.func7
    (ChangeSpec.witness6 (enc := enc) (C := Try.checked) false ⟨#[], #[.int .i64 0], []⟩ 8 (by kernel_rfl) (by kernel_rfl) (by kernel_rfl) (by kernel_rfl)) ?_
  intro W base args ds gs before hval hW hcnd _
  refine row_true (n := 5) (tb := 4) laidOut ?_ rfl Try.underlying4 rfl ?_ creditAll_data (foreign00 W) hval hW
  · have h : (Try.f7.params.toList.all fun t => dataT Try.prog 5 t && Try.prog.readableRec t && decide (t < Try.prog.types.size)) = true := by kernel_rfl
    intro t ht
    have := List.all_eq_true.1 h t ht
    simp only [Bool.and_eq_true, decide_eq_true_eq] at this
    exact ⟨this.1.1, this.1.2, this.2⟩
  · intro ds h
    rw [Try.params7] at h
    match ds, h with
    | [d0], _ => rfl
theorem creditAll_holds : Rows.CreditAllSaid :=
  OpenClaim.holds_of_wide 7 Try.f7 rfl rfl rfl rfl rfl rfl rfl ⟨rfl, rfl, rfl, rfl, rfl⟩ rfl rfl rfl rfl rfl (by kernel_rfl) Try.func7 (by kernel_rfl)
    (of_decide_eq_true (by kernel_rfl)) (by unfold Func.isWrapper; rw [if_neg (by decide +kernel)]; exact ⟨rfl, rfl⟩)
    (fun os started H enc _ => creditAll_lifted os started H enc)
end Go.Proofs.Ytdaigbpaggnijaa
