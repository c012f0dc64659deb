/-
  Layer 04: what its rows and cards have in common: the package variable ident.greatest as the program's text lays it, the shapes of what is handed in.
-/
import Derived.Test.YtokomdenoegkgaaDoorTie
import Derived.Test.YtokomdenoegkgaaDoorCards
import Derived.Test.YtokomdenoegkgaaDoorOL04
import Derived.Test.YtokomdenoegkgaaDoorOAbsR
import Derived.LaidMore
import Derived.OpenShut
import Derived.Stop.Joined
set_option linter.unusedVariables false
namespace Go.Proofs.YtokomdenoegkgaaDoor
open Go Go.Proofs.YtokomdenoegkgaaDoor.Abs Go.ChangeShapes Go.WideShapes Go.ChangeAt Go.RowKit
theorem laidOut : laidOutB Tryd.prog = true := by kernel_rfl
theorem own : ownKnob Tryd.prog.godebug = none := by kernel_rfl
abbrev laidL : List (String × DataW Unit) := [("omnibus/ident.greatest", Rows.laid_omnibus_ident_greatest)]
theorem gGr : Tryd.prog.globalNamed "omnibus/ident.greatest" = some 0 := by kernel_rfl
theorem door_met (os : Os) (args : Array Value) : laidMetH Tryd.prog laidL ((World.doorLaid Tryd.prog 400 os).forCall (fun _ _ => 0) ⟨#[], args, []⟩).memory :=
  laidMetH_of_parts3 (fuel := 8) (laidMet_of_run' 8 (by kernel_rfl) (by kernel_rfl)) (by kernel_rfl) (by kernel_rfl)
theorem gTy : ∃ t, (Tryd.prog.globals[0]?).map (·.type) = some t ∧ Tryd.prog.underlying t = some (.array 2 3) := by
  refine ⟨79, ?_, ?_⟩
  · kernel_rfl
  · kernel_rfl
theorem of_laid {W : World} (h : laidMetH Tryd.prog laidL W) : Foreign W g00 gl := by
  rw [MakeChecks.laidMetH_plain _ _ _ (by kernel_rfl)] at h
  obtain ⟨ps, ⟨g0, t0, cs0, f0, p0, q0, hg0, ht0, hv0, hd0, _, _⟩, _, _⟩ := h
  obtain rfl := Option.some.inj (gGr.symm.trans hg0)
  obtain ⟨t, e1, e2⟩ := gTy
  obtain rfl := Option.some.inj (e1.symm.trans ht0)
  obtain ⟨xs, m1, rfl, hx1, hlen, hn3, hel⟩ := DataW.trod_array e2 hd0
  have c3 : Tryd.prog.cellsOf 3 = 1 := by kernel_rfl
  have ct : Tryd.prog.cellsOf t = 2 := by
    have : (Tryd.prog.globals[0]?).map (fun g => Tryd.prog.cellsOf g.type) = some 2 := by kernel_rfl
    cases hg : Tryd.prog.globals[0]? with
    | none => rw [hg] at e1; cases e1
    | some g => rw [hg] at e1 this; cases e1; simpa using this
  rw [ct] at hlen
  have h0 := hel 0 (by decide)
  have h1 := hel 1 (by decide)
  simp only [Prod.mk.injEq, Rows.laid_omnibus_ident_greatest, DataW.agg.injEq] at hx1
  have hcs : cs0 = #[.int .i64 2047, .int .i64 536870911] := by
    obtain ⟨l⟩ := cs0
    match l, hlen with
    | [a, b], _ =>
      match xs, hn3, hx1, h0, h1 with
      | [x0, x1], _, hx1, h0, h1 =>
        rw [c3] at h0 h1
        simp only [List.map_cons, List.map_nil, List.cons.injEq] at hx1
        obtain ⟨k, e1, e2, _⟩ := DataW.trod_int Tryd.underlying3 (show DataW.trod _ Tryd.prog W 0 _ false m1 3 [a] = some x0 from h0)
        obtain ⟨k', e1', e2', _⟩ := DataW.trod_int Tryd.underlying3 (show DataW.trod _ Tryd.prog W 0 _ false m1 3 [b] = some x1 from h1)
        rw [e2] at hx1
        rw [e2'] at hx1
        have hk : k = 2047 := by simpa using hx1.1.1.symm
        have hk' : k' = 536870911 := by simpa using hx1.1.2.1.symm
        subst hk; subst hk'
        simp at e1 e1'
        subst e1; subst e1'
        rfl
  have hh : ∃ e f, W.heap[0]? = some (.cells #[.int .i64 2047, .int .i64 536870911] e f) := by
    simp only [World.var?, gGr, Option.bind_some] at hv0
    split at hv0
    · rename_i cs e f hh
      cases hv0
      rw [hcs] at hh
      exact ⟨e, f, hh⟩
    · cases hv0
  refine ⟨(fun _ _ _ h => nomatch h), (fun _ _ _ h => nomatch h), fun _ => rfl, fun _ h => h, fun b cs hb => ?_⟩
  simp only [Abs.look] at hb
  split at hb
  · rename_i e
    have := Nat.eq_of_beq_eq_true e
    subst this
    cases hb
    exact ⟨hh, rfl⟩
  · cases hb

theorem sh_int {n : Nat} {x : D} (h : ShD Tryd.prog n 3 x) : ∃ z, x = .l (.int z) ∧ InR z := by
  obtain ⟨z, e, h1, h2⟩ := ShD_int Tryd.underlying3 h
  exact ⟨z, e, h1, by have : z ≤ 9223372036854775807 := h2; omega⟩
theorem sh_int' (m : Nat) (ls : List L) (h : Sh Tryd.prog m 3 ls) : ∃ z : Int, ls = [.int z] ∧ InR z := by
  obtain ⟨z, e, h1, h2⟩ := Sh_int Tryd.underlying3 h
  exact ⟨z, e, h1, by have : z ≤ 9223372036854775807 := h2; omega⟩
theorem sh_r6' (m : Nat) (ls : List L) (h : Sh Tryd.prog m 26 ls) : ∃ r : R6, ls = r.L ∧ r.ok := by
  obtain ⟨p, q, rfl, h1, p2, q2, rfl, h2, p3, q3, rfl, h3, p4, q4, rfl, h4, p5, q5, rfl, h5, p6, q6, rfl, h6, h7⟩ := Sh_array Tryd.underlying26 h
  obtain ⟨a, rfl, ha⟩ := sh_int' _ _ h1
  obtain ⟨b, rfl, hb⟩ := sh_int' _ _ h2
  obtain ⟨c, rfl, hc⟩ := sh_int' _ _ h3
  obtain ⟨d, rfl, hd⟩ := sh_int' _ _ h4
  obtain ⟨e, rfl, he⟩ := sh_int' _ _ h5
  obtain ⟨f, rfl, hf⟩ := sh_int' _ _ h6
  cases h7
  exact ⟨⟨a, b, c, d, e, f⟩, rfl, ha, hb, hc, hd, he, hf⟩
theorem sh_r6s {n : Nat} {x : D} (h : ShD Tryd.prog n 41 x) : ∃ l : List R6, x = .l (.sl 6 (Rl l)) ∧ l.length ≤ 9223372036854775807 ∧ ∀ r ∈ l, r.ok := by
  obtain ⟨l, e, hb, hl⟩ := ShD_slice Tryd.underlying41 (c := 6) (by kernel_rfl) R6.L R6.ok sh_r6' h
  exact ⟨l, e, hb, hl⟩

theorem sh_r6 {n : Nat} {x : D} (h : ShD Tryd.prog n 26 x) : ∃ r : R6, x = .agg r.L ∧ r.ok := by
  obtain ⟨ls, rfl, hs⟩ := ShD_row (by rw [isRowT_of Tryd.underlying26]; rfl) h
  obtain ⟨r, rfl, hr⟩ := sh_r6' _ _ hs
  exact ⟨r, rfl, hr⟩
theorem sh_msg' (k : Nat) (ls : List L) (h : Sh Tryd.prog k 25 ls) : ∃ m : Msg, ls = m.L ∧ True := by
  obtain ⟨p, q, rfl, h1, p2, q2, rfl, h2, p3, q3, rfl, h3, p4, q4, rfl, h4, p5, q5, rfl, h5, p6, q6, rfl, h6, h7⟩ := Sh_struct Tryd.underlying25 h
  obtain ⟨i1, j1, rfl, g1, i2, j2, rfl, g2, g3⟩ := Sh_struct Tryd.underlying23 h1
  obtain ⟨e, rfl⟩ := Sh_bool Tryd.underlying4 g1
  obtain ⟨n, rfl, _⟩ := sh_int' _ _ g2
  cases g3
  obtain ⟨b, rfl, hb⟩ := sh_int' _ _ h2
  obtain ⟨c, rfl, hc⟩ := sh_int' _ _ h3
  obtain ⟨d, rfl, hd⟩ := sh_int' _ _ h4
  obtain ⟨f, rfl, hf⟩ := sh_int' _ _ h5
  obtain ⟨s, rfl, hs⟩ := Sh_string Tryd.underlying9 h6
  cases h7
  exact ⟨⟨e, n, b, c, d, f, s⟩, rfl, trivial⟩
theorem sh_msg {n : Nat} {x : D} (h : ShD Tryd.prog n 25 x) : ∃ m : Msg, x = .agg m.L := by
  obtain ⟨ls, rfl, hs⟩ := ShD_row (by rw [isRowT_of Tryd.underlying25]; rfl) h
  obtain ⟨m, rfl, _⟩ := sh_msg' _ _ hs
  exact ⟨m, rfl⟩
theorem sh_msgs {n : Nat} {x : D} (h : ShD Tryd.prog n 40 x) : ∃ l : List Msg, x = .l (.sl 7 (Ml l)) ∧ l.length ≤ 9223372036854775807 := by
  obtain ⟨l, e, hb, hl⟩ := ShD_slice Tryd.underlying40 (c := 7) (by kernel_rfl) Msg.L (fun _ => True) sh_msg' h
  exact ⟨l, e, hb⟩
theorem sh_str {n : Nat} {x : D} (h : ShD Tryd.prog n 9 x) : ∃ s : ByteArray, x = .l (.str s) := by
  obtain ⟨s, e, _⟩ := ShD_string Tryd.underlying9 h
  exact ⟨s, e⟩

end Go.Proofs.YtokomdenoegkgaaDoor
