/-
  Layer 13: the row and the card of TxqTells: whatever the input, the law returns true, and the input reads as it did; the package variable ident.greatest as the program's text lays it.
-/
import Derived.Test.YthcbdpghfefnlaaDoorOR13
import Derived.Test.YthcbdpghfefnlaaDoorOB13
set_option linter.unusedVariables false
namespace Go.Proofs.YthcbdpghfefnlaaDoor
open Go Go.Proofs.YthcbdpghfefnlaaDoor.Abs Go.ChangeShapes Go.WideShapes Go.ChangeAt Go.RowKit
theorem sh_r6 {n : Nat} {x : D} (h : ShD Tryd.prog n 23 x) : ∃ r : R6, x = .agg r.L ∧ r.ok := by
  obtain ⟨ls, rfl, hs⟩ := ShD_row (by rw [isRowT_of Tryd.underlying23]; rfl) h
  obtain ⟨r, rfl, hr⟩ := sh_r6' _ _ hs
  exact ⟨r, rfl, hr⟩
theorem sh_msg' (k : Nat) (ls : List L) (h : Sh Tryd.prog k 27 ls) : ∃ m : Msg, ls = m.L ∧ True := by
  obtain ⟨p, q, rfl, h1, p2, q2, rfl, h2, p3, q3, rfl, h3, p4, q4, rfl, h4, p5, q5, rfl, h5, p6, q6, rfl, h6, h7⟩ := Sh_struct Tryd.underlying27 h
  obtain ⟨i1, j1, rfl, g1, i2, j2, rfl, g2, g3⟩ := Sh_struct Tryd.underlying25 h1
  obtain ⟨e, rfl⟩ := Sh_bool Tryd.underlying4 g1
  obtain ⟨n, rfl, _⟩ := sh_int' _ _ g2
  cases g3
  obtain ⟨b, rfl, hb⟩ := sh_int' _ _ h2
  obtain ⟨c, rfl, hc⟩ := sh_int' _ _ h3
  obtain ⟨d, rfl, hd⟩ := sh_int' _ _ h4
  obtain ⟨f, rfl, hf⟩ := sh_int' _ _ h5
  obtain ⟨s, rfl, hs⟩ := Sh_string Tryd.underlying9 h6
  cases h7
  exact ⟨⟨e, n, b, c, d, f, s⟩, rfl, trivial⟩
theorem sh_msg {n : Nat} {x : D} (h : ShD Tryd.prog n 27 x) : ∃ m : Msg, x = .agg m.L := by
  obtain ⟨ls, rfl, hs⟩ := ShD_row (by rw [isRowT_of Tryd.underlying27]; rfl) h
  obtain ⟨m, rfl, _⟩ := sh_msg' _ _ hs
  exact ⟨m, rfl⟩
theorem sh_msgs {n : Nat} {x : D} (h : ShD Tryd.prog n 28 x) : ∃ l : List Msg, x = .l (.sl 7 (Ml l)) ∧ l.length ≤ 9223372036854775807 := by
  obtain ⟨l, e, hb, hl⟩ := ShD_slice Tryd.underlying28 (c := 7) (by kernel_rfl) Msg.L (fun _ => True) sh_msg' h
  exact ⟨l, e, hb⟩
theorem txqTells_data (xs : List D) (h : ShDs Tryd.prog 5 Tryd.f3.params.toList xs) : M 3 (xs.map V.d) (.bool true) := by
  rw [Tryd.params3] at h
  obtain ⟨x0, q0, rfl, h0, x1, q1, rfl, h1, x2, q2, rfl, h2, x3, q3, rfl, h3, x4, q4, rfl, h4, x5, q5, rfl, h5, x6, q6, rfl, h6, rfl⟩ := h
  obtain ⟨a, rfl, w0⟩ := sh_int h0
  obtain ⟨raw, rfl, b1, w1⟩ := sh_r6s h1
  obtain ⟨r, rfl, w2⟩ := sh_r6 h2
  obtain ⟨m, rfl⟩ := sh_msg h3
  obtain ⟨odd, rfl, b4⟩ := sh_msgs h4
  obtain ⟨how, rfl, w5⟩ := sh_int h5
  obtain ⟨number, rfl, w6⟩ := sh_int h6
  exact tells_law a raw r m odd how number w0 w1 w2 w5 w6 b4
set_option maxRecDepth 100000 in
theorem txqTells_lifted (os : Os) (started : os.Started) (H : Type) (enc : TypeId × Value → H) :
    ReturnsInHanded {} Tryd.checked os 3 .any (fun w args => (Rows.txqTellsSpec.pre enc Tryd.prog Tryd.f3 [] false w args ∧ laidMetH Tryd.prog laidL w) ∧ sizedMet enc Tryd.prog Tryd.f3 (OpenSpec.ofChange Rows.txqTellsSpec) false w args)
      (Rows.txqTellsSpec.post enc Tryd.prog Tryd.f3 false true false false) := by
  refine returnsInHanded_of_change_and (C := Tryd.checked) (X := fun w _ => laidMetH Tryd.prog laidL w) (fun _ _ _ hh h => h.of_heap hh) own started (by kernel_rfl) Tryd.func3
    (ChangeSpec.witness_shaped (enc := enc) (C := Tryd.checked) (os := os) (X := fun w _ => laidMetH Tryd.prog laidL w) false (World.doorLaid Tryd.prog 400 os) #[.int .i64 0, .slice none 0 0, .agg #[.int .i64 0, .int .i64 0, .int .i64 0, .int .i64 0, .int .i64 0, .int .i64 0], .agg #[.bool false, .int .i64 0, .int .i64 0, .int .i64 0, .int .i64 0, .int .i64 0, .string ByteArray.empty], .slice none 0 0, .int .i64 0, .int .i64 0] 8 rfl (World.shaped_of_RefB (by kernel_rfl) (by kernel_rfl)) (by kernel_rfl) (by kernel_rfl) (by kernel_rfl) (door_met os _)) ?_
  intro W base args ds gs before hval hW _ _ hL _
  refine row_true (P := Tryd.prog) (gl := gl) (n := 5) (tb := 4) laidOut ?_ rfl Tryd.underlying4 rfl ?_ (fun xs h => (txqTells_data xs h).nil) (of_laid hL) hval hW
  · have h : (Tryd.f3.params.toList.all fun t => dataT Tryd.prog 5 t && Tryd.prog.readableRec t && decide (t < Tryd.prog.types.size)) = true := by kernel_rfl
    intro t ht
    have := List.all_eq_true.1 h t ht
    simp only [Bool.and_eq_true, decide_eq_true_eq] at this
    exact ⟨this.1.1, this.1.2, this.2⟩
  · intro ds h
    rw [Tryd.params3] at h
    match ds, h with
    | [d0, d1, d2, d3, d4, d5, d6], _ => rfl
theorem txqTells_row : Rows.TxqTellsSaid :=
  OpenClaim.holds_of_wide 3 Tryd.f3 rfl rfl rfl rfl rfl rfl rfl ⟨rfl, rfl, rfl, rfl, rfl⟩ rfl rfl rfl rfl rfl (by kernel_rfl) Tryd.func3 (by kernel_rfl)
    (of_decide_eq_true (by kernel_rfl)) (by unfold Func.isWrapper; rw [if_neg (by decide +kernel)]; exact ⟨rfl, rfl⟩)
    (fun os started H enc _ => txqTells_lifted os started H enc)
theorem txqTells_holds : Rows.TxqTellsCardSaid :=
  Claim7.holds_tied_plain_at .later [] [.data] true (true, "7b0e0875cf57c415a2362fb59c81b69631f3134ceb30fce10e09ea67a8f27b71") false
    txqTells_row (fun _ h => by cases h) (by kernel_rfl) (fun _ h => by cases h) txqTells_row_tie rfl ⟨rfl, rfl⟩ (by kernel_rfl) rfl
    (fun f fn hf hfn => by
      obtain rfl : f = 3 := Option.some.inj ((show Tryd.prog.funcNamed "omnibus/omnibuslaw13.TxqTells" = some 3 by kernel_rfl).symm.trans hf) |>.symm
      obtain rfl : fn = Tryd.f3 := (Option.some.inj (Tryd.func3.symm.trans hfn)).symm
      exact ⟨by kernel_rfl, fun j t ht => by
        have h : (Tryd.f3.params.toList.all fun t => Tryd.prog.wantsStandIn t == false) = true := by kernel_rfl
        have := List.all_eq_true.1 h t (by simpa using Array.mem_of_getElem? ht)
        have h2 : Tryd.prog.wantsStandIn t = false := by simpa using this
        exact h2⟩)
    (by kernel_rfl)
end Go.Proofs.YthcbdpghfefnlaaDoor
