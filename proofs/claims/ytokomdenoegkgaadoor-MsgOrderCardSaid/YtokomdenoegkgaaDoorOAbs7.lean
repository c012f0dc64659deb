/-
  Slices that are built, cut and grown.
-/
import Derived.Test.YtokomdenoegkgaaDoorOAbs6
set_option linter.unusedVariables false
set_option linter.unusedSimpArgs false
namespace Go.Proofs.YtokomdenoegkgaaDoor.Abs
open Go

variable {P : Program} {T : List (Nat × TI)} {E : Env} {w : World} {g : G} {K : Kont} {ob : Prop → Prop}

/-- a slice that is there, under a fresh token: it has no room behind it -/
theorem newTok_post {bxF : Nat → Option Box} {tk : Nat → Bool} {fr : Nat → Prop} {ks : List Nat} {n st : Nat} (hH : HOk E w g bxF tk fr st) (hfr : fr n) (s : Nat) (l : List (List L)) (a : Option Addr) (u : Value)
    (hu' : u = .slice a l.length l.length) (hr : RepL w g (.sl s l) u) (hK : K (.own n s l) ⟨[], ks, [n], n⟩) : Post E w g bxF tk fr st (n + 1) K u w := by
  obtain ⟨g', hg'⟩ : ∃ g' : G, g' = { own := g.own, ρ := g.ρ, used := fun k => k = n ∨ g.used k } := ⟨_, rfl⟩
  have ho : g'.own = g.own := by rw [hg']
  have hρ : g'.ρ = g.ρ := by rw [hg']
  have hu : ∀ k, g'.used k ↔ (k = n ∨ g.used k) := by intro k; rw [hg']
  have hcst : ∀ b o v, Cst w g b o v → Cst w g' b o v := fun b o v hc => ⟨hc.1, fun u k hk => hc.2 u k (by rw [← ho]; exact hk)⟩
  have hev : EvX w g w g' := ⟨rfl, rfl, rfl, Nat.le_refl _, hcst, fun _ _ h => h, fun id b _ h => by rw [hρ]; exact h, fun b _ hn => ⟨rfl, by rw [ho]; exact hn⟩, fun b u k hk _ => ⟨rfl, by rw [ho]; exact hk⟩, fun b u k hk _ => by rw [ho] at hk; exact hk⟩
  have hp : Pres w g tk w g' (Dl.tk ⟨[], ks, [n], n⟩ tk) := by
    refine ⟨hcst, fun id b hb => by rw [hρ]; exact hb, fun _ _ h => h, fun k hk => (hu k).2 (.inr hk), fun k hk hin => ?_⟩
    have hkn : ¬ n = k := fun e => hH.toks k hk (e ▸ hfr)
    have e1 : isIn [n] k = false := by rw [isIn_cons]; simp [hkn, isIn]
    simp only [Dl.tk, e1, Bool.false_or, Bool.and_eq_true] at hin
    exact ⟨hin.1, fun b m hb => ⟨rfl, by rw [ho]⟩⟩
  refine ⟨.own n s l, _, g', hK, Nat.le_succ n, .own n s l u (hr.ev hcst) ((hu n).2 (.inl rfl)) ?_, ?_, hev, hp⟩
  · intro _ a' len cap e hlt
    subst hu'
    cases e
    omega
  · refine ⟨?_, ?_, ?_, ?_, ?_, ?_, ?_, E.stable _ _ _ _ _ hH.J hev.w⟩
    · intro id B hB
      refine RepBox.keep hp (hH.bx id _ hB) fun b0 k1 k2 => ?_
      exact ⟨rfl, by rw [ho]; exact k2⟩
    · intro id b hb
      rw [hρ] at hb
      have := hH.ids id b hb; exact ⟨fun h => this.1 h.1, this.2⟩
    · intro k hk
      rcases (hu k).1 hk with rfl | hk
      · exact fun h => by have := h.2; simp at this
      · exact fun h => hH.toks k hk h.1
    · intro b k m hb; rw [ho] at hb; exact (hu k).2 (.inr (hH.tkown b k m hb))
    · intro b id m hb; rw [ho] at hb; rw [hρ]; exact hH.bxown b id m hb
    · intro b u m hb; rw [ho] at hb; exact hH.size b u m hb
    · intro b cs hcs
      obtain ⟨k1, k2⟩ := hH.gl b cs hcs
      exact ⟨k1, by rw [ho]; exact k2⟩

theorem flatten_take {α : Type} : ∀ (l : List (List α)) (j : Nat), ∃ r, l.flatten = (l.take j).flatten ++ r
  | [], j => ⟨[], by simp⟩
  | a :: l, 0 => ⟨(a :: l).flatten, by simp⟩
  | a :: l, j + 1 => by obtain ⟨r, hr⟩ := flatten_take l j; exact ⟨r, by simp [hr, List.append_assoc]⟩

theorem WsliceFull_ok (hT : TysOk P T) (hob : ∀ p, ob p → p) {bxF : Nat → Option Box} {tk : Nat → Bool} {fr : Nat → Prop} {st nid : Nat} {t : Nat} {x hi mx : V} {vx vh vm : Value} (hH : HOk E w g bxF tk fr st) (hfr : ∀ v d, K v d → ∀ x, d.nid ≤ x → x < nid → fr x) (hx : RepV w g tk x vx) (hh : RepV w g tk hi vh) (hm : RepV w g tk mx vm) (hW : WsliceFull T ob nid t x hi mx K) :
    ∃ val, (Instr.sliceAt t vx none (some vh) (some vm)).run P w = .ok val w ∧ Post E w g bxF tk fr st nid K val w := by
  cases nid with
  | zero => simp [WsliceFull] at hW
  | succ n =>
    simp only [WsliceFull] at hW
    cases hl : look T t with
    | none => rw [hl] at hW; simp at hW
    | some ti =>
      rw [hl] at hW
      simp only at hW
      obtain ⟨hu, inf, hinf, hsz, _⟩ := hT t ti hl
      split at hW
      · rename_i e k1 n1 k2 n2 he
        have hd := elemOf_spec he
        cases hh.lit_inv
        cases hm.lit_inv
        cases hle : look T e with
        | none => rw [hle] at hW; simp at hW
        | some te =>
          rw [hle] at hW
          simp only at hW
          obtain ⟨hu2, i2, hi2, hsz2, _⟩ := hT e te hle
          cases hs : V.asSl te.size x with
          | none => rw [hs] at hW; simp at hW
          | some l =>
            rw [hs] at hW
            simp only at hW
            obtain ⟨j, hj0, hK⟩ := hW
            obtain ⟨rfl, rfl, hj⟩ := hob _ hj0
            obtain ⟨a, cap, b, off, f, rfl, ha, hn, hl', hb, hss, hc, hr⟩ := (asSl_rep hx hs).sl_inv
            have hlen : (l.take j).length = j := by simp; omega
            have hrun : (Instr.sliceAt t (.slice a l.length cap) none (some (.int k1 j)) (some (.int k2 j))).run P w = .ok (.slice a j j) w := by
              have b1 : (0 : Int) ≤ (j : Int) ∧ (j : Int) ≤ (cap : Int) := by omega
              have b2 : (0 : Int) ≤ (j : Int) ∧ (j : Int) ≤ (j : Int) := by omega
              have b3 : j ≤ cap := by omega
              have ea : (if j = 0 then a else Option.map (fun x => x.add 0) a) = a := by
                split
                · rfl
                · cases a <;> simp [Addr.add]
              simp [Instr.sliceAt, run_underlying hu, hd, Instr.slice, Instr.sliceBounds, Instr.sliceBound, asIntOf, b1, b2, b3, run_sizeOf' hi2, ea]
            refine ⟨_, hrun, newTok_post hH (hfr _ _ hK n (Nat.le_refl _) (Nat.lt_succ_self n)) te.size (l.take j) a _ (by rw [hlen]) ?_ hK⟩
            obtain ⟨r, hr'⟩ := flatten_take l j
            have pre : ∀ (q : Nat) (z : L), (l.take j).flatten[q]? = some z → l.flatten[q]? = some z := by
              intro q z hq
              rw [hr', List.getElem?_append_left (List.getElem?_eq_some_iff.1 hq).1]; exact hq
            have := RepL.sl (w := w) (g := g) te.size (l.take j) a j b off f (fun hne => ha (fun e => hne (by simp [e]))) (fun e => by have := hn e; omega) (by omega) (by omega) (fun z hz => hss z (List.mem_of_mem_take hz))
              (fun q z hq => hc q z (pre q z hq)) (fun q z hq => hr q z (pre q z hq))
            rw [hlen] at this
            exact this
      · exact hW.elim

/-! ### building -/
theorem foldl_put : ∀ (vs : List Value) (off k : Nat) (cs : Array Value), off + k + vs.length ≤ cs.size →
    ((vs.zipIdx k).foldl (fun cs (p : Value × Nat) => cs.setIfInBounds (off + p.2) p.1) cs).size = cs.size ∧
    ∀ i : Nat, ((vs.zipIdx k).foldl (fun cs (p : Value × Nat) => cs.setIfInBounds (off + p.2) p.1) cs)[i]? = if off + k ≤ i ∧ i < off + k + vs.length then vs[i - (off + k)]? else cs[i]?
  | [], off, k, cs, h => ⟨rfl, fun i => by simp; omega⟩
  | v :: vs, off, k, cs, h => by
    simp only [List.zipIdx_cons, List.foldl_cons]
    have hl : (v :: vs).length = vs.length + 1 := rfl
    obtain ⟨h1, h2⟩ := foldl_put vs off (k + 1) (cs.setIfInBounds (off + k) v) (by simp; omega)
    refine ⟨by rw [h1]; simp, fun i => ?_⟩
    rw [h2, hl]
    by_cases c1 : off + (k + 1) ≤ i ∧ i < off + (k + 1) + vs.length
    · rw [if_pos c1, if_pos (by omega)]
      have : i - (off + k) = (i - (off + (k + 1))) + 1 := by omega
      rw [this]; simp
    · rw [if_neg c1]
      by_cases c2 : i = off + k
      · subst c2
        rw [if_pos (by omega)]
        simp [Array.getElem?_setIfInBounds]; omega
      · rw [if_neg (by omega), Array.getElem?_setIfInBounds, if_neg (fun e => c2 e.symm)]

theorem fill_range (size : Nat) : ∀ (vs : List Value) (k : Nat) (cells : Array Value), (∀ v ∈ vs, v.cells.size = size) → (k + vs.length) * size ≤ cells.size →
    ∃ r, Instr.fill (fun i => some (i * size, size)) cells ((List.range' k vs.length).zip vs) = some r ∧ r.size = cells.size ∧
      ∀ i : Nat, r[i]? = if k * size ≤ i ∧ i < (k + vs.length) * size then (vs.flatMap fun v => v.cells.toList)[i - k * size]? else cells[i]?
  | [], k, cells, _, _ => ⟨cells, by simp [Instr.fill], rfl, fun i => by simp; omega⟩
  | v :: vs, k, cells, hv, hs => by
    have hsz : v.cells.size = size := hv v (by simp)
    have e1 : (k + (v :: vs).length) * size = k * size + size + vs.length * size := by simp [Nat.add_mul]; omega
    have e2 : (k + 1 + vs.length) * size = k * size + size + vs.length * size := by simp [Nat.add_mul]
    have e3 : (k + 1) * size = k * size + size := by simp [Nat.add_mul]
    obtain ⟨f1, f2⟩ := foldl_put v.cells.toList (k * size) 0 cells (by simp; omega)
    obtain ⟨c1, hc1⟩ : ∃ c1, c1 = (v.cells.toList.zipIdx 0).foldl (fun cs (p : Value × Nat) => cs.setIfInBounds (k * size + p.2) p.1) cells := ⟨_, rfl⟩
    rw [← hc1] at f1 f2
    obtain ⟨r, hr, hrs, hri⟩ := fill_range size vs (k + 1) c1 (fun x hx => hv x (by simp [hx])) (by rw [f1]; omega)
    refine ⟨r, ?_, by omega, fun i => ?_⟩
    · have hl : (v :: vs).length = vs.length + 1 := rfl
      rw [hl, List.range'_succ]
      simp only [List.zip_cons_cons, Instr.fill, hsz]
      rw [if_neg (by simp; omega)]
      have : (v.cells.zipIdx.foldl (fun cs (p : Value × Nat) => cs.setIfInBounds (k * size + p.2) p.1) cells) = c1 := by
        rw [hc1, ← Array.foldl_toList, Array.toList_zipIdx]
      have this' : Array.foldl (fun cs x => match x with | (c, j) => cs.setIfInBounds (k * size + j) c) cells v.cells.zipIdx = c1 := this
      rw [this']
      exact hr
    · rw [hri, e1, e2, e3]
      by_cases a1 : k * size + size ≤ i ∧ i < k * size + size + vs.length * size
      · rw [if_pos a1, if_pos (by omega), List.flatMap_cons, List.getElem?_append_right (by simp; omega)]
        congr 1; simp; omega
      · rw [if_neg a1, f2]
        by_cases a2 : k * size ≤ i ∧ i < k * size + size
        · rw [if_pos (by simp; omega), if_pos (by omega), List.flatMap_cons, List.getElem?_append_left (by simp; omega)]
          simp
        · rw [if_neg (by simp; omega), if_neg (by omega)]
end Go.Proofs.YtokomdenoegkgaaDoor.Abs
