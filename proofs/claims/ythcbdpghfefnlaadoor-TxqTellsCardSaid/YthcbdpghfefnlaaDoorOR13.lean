/-
  Layer 13: the rows and cards. TxqSame ..: whatever the input, the law returns true, and the input reads as it did; the package variable ident.greatest as the program's text lays it.
-/
import Derived.Test.YthcbdpghfefnlaaDoorTie
import Derived.Test.YthcbdpghfefnlaaDoorCards
import Derived.Test.YthcbdpghfefnlaaDoorOL13
import Derived.Test.YthcbdpghfefnlaaDoorOAbsR
import Derived.LaidMore
import Derived.OpenShut
import Derived.Stop.Joined
set_option linter.unusedVariables false
namespace Go.Proofs.YthcbdpghfefnlaaDoor
open Go Go.Proofs.YthcbdpghfefnlaaDoor.Abs Go.ChangeShapes Go.WideShapes Go.ChangeAt Go.RowKit

theorem laidOut : laidOutB Tryd.prog = true := by kernel_rfl
theorem own : ownKnob Tryd.prog.godebug = none := by kernel_rfl
abbrev laidL : List (String × DataW Unit) := [("omnibus/ident.greatest", Rows.laid_omnibus_ident_greatest)]
theorem gGr : Tryd.prog.globalNamed "omnibus/ident.greatest" = some 0 := by kernel_rfl
theorem door_met (os : Os) (args : Array Value) : laidMetH Tryd.prog laidL ((World.doorLaid Tryd.prog 400 os).forCall (fun _ _ => 0) ⟨#[], args, []⟩).memory :=
  laidMetH_of_parts3 (fuel := 8) (laidMet_of_run' 8 (by kernel_rfl) (by kernel_rfl)) (by kernel_rfl) (by kernel_rfl)
theorem gTy : ∃ t, (Tryd.prog.globals[0]?).map (·.type) = some t ∧ Tryd.prog.underlying t = some (.array 2 3) := by
  refine ⟨80, ?_, ?_⟩
  · kernel_rfl
  · kernel_rfl
theorem of_laid {W : World} (h : laidMetH Tryd.prog laidL W) : Foreign W g00 gl := by
  rw [MakeChecks.laidMetH_plain _ _ _ (by kernel_rfl)] at h
  obtain ⟨ps, ⟨g0, t0, cs0, f0, p0, q0, hg0, ht0, hv0, hd0, _, _⟩, _, _⟩ := h
  obtain rfl := Option.some.inj (gGr.symm.trans hg0)
  obtain ⟨t, e1, e2⟩ := gTy
  obtain rfl := Option.some.inj (e1.symm.trans ht0)
  obtain ⟨xs, m1, rfl, hx1, hlen, hn3, hel⟩ := DataW.trod_array e2 hd0
  have c3 : Tryd.prog.cellsOf 3 = 1 := by kernel_rfl
  have ct : Tryd.prog.cellsOf t = 2 := by
    have : (Tryd.prog.globals[0]?).map (fun g => Tryd.prog.cellsOf g.type) = some 2 := by kernel_rfl
    cases hg : Tryd.prog.globals[0]? with
    | none => rw [hg] at e1; cases e1
    | some g => rw [hg] at e1 this; cases e1; simpa using this
  rw [ct] at hlen
  have h0 := hel 0 (by decide)
  have h1 := hel 1 (by decide)
  simp only [Prod.mk.injEq, Rows.laid_omnibus_ident_greatest, DataW.agg.injEq] at hx1
  have hcs : cs0 = #[.int .i64 2047, .int .i64 536870911] := by
    obtain ⟨l⟩ := cs0
    match l, hlen with
    | [a, b], _ =>
      match xs, hn3, hx1, h0, h1 with
      | [x0, x1], _, hx1, h0, h1 =>
        rw [c3] at h0 h1
        simp only [List.map_cons, List.map_nil, List.cons.injEq] at hx1
        obtain ⟨k, e1, e2, _⟩ := DataW.trod_int Tryd.underlying3 (show DataW.trod _ Tryd.prog W 0 _ false m1 3 [a] = some x0 from h0)
        obtain ⟨k', e1', e2', _⟩ := DataW.trod_int Tryd.underlying3 (show DataW.trod _ Tryd.prog W 0 _ false m1 3 [b] = some x1 from h1)
        rw [e2] at hx1
        rw [e2'] at hx1
        have hk : k = 2047 := by simpa using hx1.1.1.symm
        have hk' : k' = 536870911 := by simpa using hx1.1.2.1.symm
        subst hk; subst hk'
        simp at e1 e1'
        subst e1; subst e1'
        rfl
  have hh : ∃ e f, W.heap[0]? = some (.cells #[.int .i64 2047, .int .i64 536870911] e f) := by
    simp only [World.var?, gGr, Option.bind_some] at hv0
    split at hv0
    · rename_i cs e f hh
      cases hv0
      rw [hcs] at hh
      exact ⟨e, f, hh⟩
    · cases hv0
  refine ⟨(fun _ _ _ h => nomatch h), (fun _ _ _ h => nomatch h), fun _ => rfl, fun _ h => h, fun b cs hb => ?_⟩
  simp only [Abs.look] at hb
  split at hb
  · rename_i e
    have := Nat.eq_of_beq_eq_true e
    subst this
    cases hb
    exact ⟨hh, rfl⟩
  · cases hb

theorem sh_int {n : Nat} {x : D} (h : ShD Tryd.prog n 3 x) : ∃ z, x = .l (.int z) ∧ InR z := by
  obtain ⟨z, e, h1, h2⟩ := ShD_int Tryd.underlying3 h
  exact ⟨z, e, h1, by have : z ≤ 9223372036854775807 := h2; omega⟩
theorem sh_int' (m : Nat) (ls : List L) (h : Sh Tryd.prog m 3 ls) : ∃ z : Int, ls = [.int z] ∧ InR z := by
  obtain ⟨z, e, h1, h2⟩ := Sh_int Tryd.underlying3 h
  exact ⟨z, e, h1, by have : z ≤ 9223372036854775807 := h2; omega⟩
theorem sh_r6' (m : Nat) (ls : List L) (h : Sh Tryd.prog m 23 ls) : ∃ r : R6, ls = r.L ∧ r.ok := by
  obtain ⟨p, q, rfl, h1, p2, q2, rfl, h2, p3, q3, rfl, h3, p4, q4, rfl, h4, p5, q5, rfl, h5, p6, q6, rfl, h6, h7⟩ := Sh_array Tryd.underlying23 h
  obtain ⟨a, rfl, ha⟩ := sh_int' _ _ h1
  obtain ⟨b, rfl, hb⟩ := sh_int' _ _ h2
  obtain ⟨c, rfl, hc⟩ := sh_int' _ _ h3
  obtain ⟨d, rfl, hd⟩ := sh_int' _ _ h4
  obtain ⟨e, rfl, he⟩ := sh_int' _ _ h5
  obtain ⟨f, rfl, hf⟩ := sh_int' _ _ h6
  cases h7
  exact ⟨⟨a, b, c, d, e, f⟩, rfl, ha, hb, hc, hd, he, hf⟩
theorem sh_r6s {n : Nat} {x : D} (h : ShD Tryd.prog n 22 x) : ∃ l : List R6, x = .l (.sl 6 (Rl l)) ∧ l.length ≤ 9223372036854775807 ∧ ∀ r ∈ l, r.ok := by
  obtain ⟨l, e, hb, hl⟩ := ShD_slice Tryd.underlying22 (c := 6) (by kernel_rfl) R6.L R6.ok sh_r6' h
  exact ⟨l, e, hb, hl⟩

theorem txqSame_data (xs : List D) (h : ShDs Tryd.prog 5 Tryd.f6.params.toList xs) : M 6 (xs.map V.d) (.bool true) := by
  rw [Tryd.params6] at h
  obtain ⟨x0, r0, rfl, h0, x1, r1, rfl, h1, rfl⟩ := h
  obtain ⟨raw, rfl, b0, w0⟩ := sh_r6s h0
  obtain ⟨a, rfl, w1⟩ := sh_int h1
  exact same_law raw a w0 w1 b0
set_option maxRecDepth 100000 in
theorem txqSame_lifted (os : Os) (started : os.Started) (H : Type) (enc : TypeId × Value → H) :
    ReturnsInHanded {} Tryd.checked os 6 .any (fun w args => (Rows.txqSameSpec.pre enc Tryd.prog Tryd.f6 [] false w args ∧ laidMetH Tryd.prog laidL w) ∧ sizedMet enc Tryd.prog Tryd.f6 (OpenSpec.ofChange Rows.txqSameSpec) false w args)
      (Rows.txqSameSpec.post enc Tryd.prog Tryd.f6 false true false false) := by
  refine returnsInHanded_of_change_and (C := Tryd.checked) (X := fun w _ => laidMetH Tryd.prog laidL w) (fun _ _ _ hh h => h.of_heap hh) own started (by kernel_rfl) Tryd.func6
    (ChangeSpec.witness_shaped (enc := enc) (C := Tryd.checked) (os := os) (X := fun w _ => laidMetH Tryd.prog laidL w) false (World.doorLaid Tryd.prog 400 os) #[.slice none 0 0, .int .i64 0] 8 rfl (World.shaped_of_RefB (by kernel_rfl) (by kernel_rfl)) (by kernel_rfl) (by kernel_rfl) (by kernel_rfl) (door_met os _)) ?_
  intro W base args ds gs before hval hW _ _ hL _
  refine row_true (P := Tryd.prog) (gl := gl) (n := 5) (tb := 4) laidOut ?_ rfl Tryd.underlying4 rfl ?_ (fun xs h => (txqSame_data xs h).nil) (of_laid hL) hval hW
  · have h : (Tryd.f6.params.toList.all fun t => dataT Tryd.prog 5 t && Tryd.prog.readableRec t && decide (t < Tryd.prog.types.size)) = true := by kernel_rfl
    intro t ht
    have := List.all_eq_true.1 h t ht
    simp only [Bool.and_eq_true, decide_eq_true_eq] at this
    exact ⟨this.1.1, this.1.2, this.2⟩
  · intro ds h
    rw [Tryd.params6] at h
    match ds, h with
    | [d0, d1], _ => rfl
theorem txqSame_row : Rows.TxqSameSaid :=
  OpenClaim.holds_of_wide 6 Tryd.f6 rfl rfl rfl rfl rfl rfl rfl ⟨rfl, rfl, rfl, rfl, rfl⟩ rfl rfl rfl rfl rfl (by kernel_rfl) Tryd.func6 (by kernel_rfl)
    (of_decide_eq_true (by kernel_rfl)) (by unfold Func.isWrapper; rw [if_neg (by decide +kernel)]; exact ⟨rfl, rfl⟩)
    (fun os started H enc _ => txqSame_lifted os started H enc)
theorem txqSame_holds : Rows.TxqSameCardSaid :=
  Claim7.holds_tied_plain_at .later [] [.data] true (true, "7b0e0875cf57c415a2362fb59c81b69631f3134ceb30fce10e09ea67a8f27b71") false
    txqSame_row (fun _ h => by cases h) (by kernel_rfl) (fun _ h => by cases h) txqSame_row_tie rfl ⟨rfl, rfl⟩ (by kernel_rfl) rfl
    (fun f fn hf hfn => by
      obtain rfl : f = 6 := Option.some.inj ((show Tryd.prog.funcNamed "omnibus/omnibuslaw13.TxqSame" = some 6 by kernel_rfl).symm.trans hf) |>.symm
      obtain rfl : fn = Tryd.f6 := (Option.some.inj (Tryd.func6.symm.trans hfn)).symm
      exact ⟨by kernel_rfl, fun j t ht => by
        have h : (Tryd.f6.params.toList.all fun t => Tryd.prog.wantsStandIn t == false) = true := by kernel_rfl
        have := List.all_eq_true.1 h t (by simpa using Array.mem_of_getElem? ht)
        have h2 : Tryd.prog.wantsStandIn t = false := by simpa using this
        exact h2⟩)
    (by kernel_rfl)
end Go.Proofs.YthcbdpghfefnlaaDoor
