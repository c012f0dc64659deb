/-
  Regions whose order is drawn.
-/
import Derived.Test.YtokomdenoegkgaaDoorOAbsH
set_option linter.unusedVariables false
set_option linter.unusedSimpArgs false
namespace Go.Proofs.YtokomdenoegkgaaDoor.Abs
open Go

variable {P : Program} {T : List (Nat × TI)} {E : Env} {w : World} {g : G} {M : MeetsT}

def ItGood (P : Program) (E : Env) (nt : Nat) (st : Nat) (ops : Array Oper) (it : It) : Prop := ops[it.i]? = some it.o ∧ ∀ σ, it.Ag σ → OpGo P E nt st ops it.o it.e σ
def Anc (anc : Nat → Nat → Prop) (it : It) : Prop :=
  (∀ j, anc it.i j → ∃ e ∈ it.o.after, Region.binds .any e = true ∧ (j = e.on ∨ anc e.on j)) ∧ ∀ e ∈ it.o.after, Region.binds .any e = true → e.on < it.i

theorem mem_ready {ops : Array Oper} {listed : Array Bool} {i : Nat} (hs : listed.size = ops.size) (h : i ∈ Region.ready .any ops listed) :
    ∃ o, ops[i]? = some o ∧ listed[i]? = some false ∧ ∀ e ∈ o.after, Region.binds .any e = true → listed[e.on]? = some true := by
  unfold Region.ready at h
  rw [List.mem_filter] at h
  obtain ⟨h1, h2⟩ := h
  have hi : i < ops.size := by simpa using h1
  rw [Array.getElem?_eq_getElem hi, Bool.and_eq_true] at h2
  obtain ⟨h2, h3⟩ := h2
  refine ⟨_, Array.getElem?_eq_getElem hi, ?_, ?_⟩
  · have hil : i < listed.size := by omega
    rw [Array.getElem?_eq_getElem hil]
    simp [Array.getD, hil] at h2
    rw [h2]
  · intro e he hb
    simp only [Option.map_some, Option.getD_some, Array.all_eq_true_iff_forall_mem] at h3
    have := h3 e he
    rw [hb] at this
    simp only [Bool.not_true, Bool.false_or, Array.getD] at this
    split at this
    · rename_i hlt; rw [Array.getElem?_eq_getElem hlt]; exact congrArg some this
    · simp at this

theorem ready_mem {ops : Array Oper} {listed : Array Bool} {i : Nat} {o : Oper} (ho : ops[i]? = some o) (hl : listed[i]? = some false) (he : ∀ e ∈ o.after, Region.binds .any e = true → listed[e.on]? = some true) : i ∈ Region.ready .any ops listed := by
  unfold Region.ready
  rw [List.mem_filter]
  have hi : i < ops.size := (Array.getElem?_eq_some_iff.1 ho).1
  refine ⟨by simpa using hi, ?_⟩
  rw [ho, Bool.and_eq_true]
  constructor
  · obtain ⟨h1, h2⟩ := Array.getElem?_eq_some_iff.1 hl
    simp [Array.getD, h1, h2]
  · simp only [Option.map_some, Option.getD_some, Array.all_eq_true_iff_forall_mem]
    intro e hm
    cases hb : Region.binds .any e with
    | false => rfl
    | true =>
      obtain ⟨h1, h2⟩ := Array.getElem?_eq_some_iff.1 (he e hm hb)
      simp [Array.getD, h1, h2]

theorem any_ok {F : Fence} (hF : FenceOk F) {n : Nat} {ops : Array Oper} {nt : Nat} {st : Nat} {Q : Exit → Act → World → Prop} {anc : Nat → Nat → Prop} {all : List It}
    (hanc : ∀ it ∈ all, Anc anc it) (hgood : ∀ it ∈ all, ItGood P E nt st ops it) :
    ∀ (fuel : Nat) (l : List It) (listed : Array Bool) (σ : Sg) (a : Act) (w : World) (g : G), l.length ≤ fuel → (∀ it ∈ l, it ∈ all) → l.Pairwise (fun x y => x.i < y.i ∧ (anc y.i x.i ∨ Inv x y)) → listed.size = ops.size →
      (∀ i, listed[i]? = some false ↔ ∃ it ∈ l, it.i = i) → (∀ i j, listed[i]? = some true → anc i j → listed[j]? = some true) → Valid l σ → RepS E nt st σ a w g →
      (∀ a' w' g', RepS E nt st (final l σ) a' w' g' → E.Ev w g w' g' → Q .normal a' w') → wpAnyIn F n P .any ops Q fuel listed a w := by
  have base : ∀ (l : List It) (listed : Array Bool) (σ : Sg) (a : Act) (w : World) (g : G), (∀ it ∈ l, it ∈ all) → l.Pairwise (fun x y => x.i < y.i ∧ (anc y.i x.i ∨ Inv x y)) → listed.size = ops.size →
      (∀ i, listed[i]? = some false ↔ ∃ it ∈ l, it.i = i) → RepS E nt st σ a w g →
      (∀ a' w' g', RepS E nt st (final l σ) a' w' g' → E.Ev w g w' g' → Q .normal a' w') → Region.ready .any ops listed = [] → Q .normal a w := by
    intro l listed σ a w g hall hpw hsz hl hr hQ hready
    cases l with
    | nil => exact hQ a w g hr (E.refl w g)
    | cons it l =>
      exfalso
      have hit := hall it (by simp)
      obtain ⟨ho, _⟩ := hgood it hit
      have : it.i ∈ Region.ready .any ops listed := by
        refine ready_mem ho ((hl it.i).2 ⟨it, by simp, rfl⟩) fun e he hb => ?_
        have hlt := (hanc it hit).2 e he hb
        have hi : it.i < ops.size := (Array.getElem?_eq_some_iff.1 ho).1
        have hlt2 : e.on < listed.size := by omega
        rw [Array.getElem?_eq_getElem hlt2]
        cases hv : listed[e.on] with
        | true => rfl
        | false =>
          exfalso
          obtain ⟨b, hb1, hb2⟩ := (hl e.on).1 (by rw [Array.getElem?_eq_getElem hlt2, hv])
          rcases List.mem_cons.1 hb1 with rfl | hb1
          · omega
          · have := ((List.pairwise_cons.1 hpw).1 b hb1).1; omega
      rw [hready] at this
      simp at this
  intro fuel
  induction fuel with
  | zero =>
    intro l listed σ a w g hlen hall hpw hsz hl hcl hv hr hQ
    have : l = [] := List.eq_nil_of_length_eq_zero (by omega)
    subst this
    refine ⟨?_, hQ a w g hr (E.refl w g)⟩
    cases hrd : Region.ready .any ops listed with
    | nil => rfl
    | cons i rs =>
      obtain ⟨o, _, h2, _⟩ := mem_ready (i := i) hsz (by rw [hrd]; simp)
      obtain ⟨it, h, _⟩ := (hl i).1 h2
      simp at h
  | succ fuel ih =>
    intro l listed σ a w g hlen hall hpw hsz hl hcl hv hr hQ
    refine ⟨base l listed σ a w g hall hpw hsz hl hr hQ, fun i hi => ?_⟩
    obtain ⟨o, ho, hli, hed⟩ := mem_ready hsz hi
    obtain ⟨it, hit, hiti⟩ := (hl i).1 hli
    subst hiti
    obtain ⟨l1, l2, rfl⟩ := List.append_of_mem hit
    obtain ⟨ho', hgo⟩ := hgood it (hall it hit)
    rw [ho] at ho'
    cases ho'
    have hanci := hanc it (hall it hit)
    rw [List.pairwise_append] at hpw
    obtain ⟨p1, p2, p3⟩ := hpw
    rw [List.pairwise_cons] at p2
    have hinv : ∀ x ∈ l1, Inv x it := by
      intro x hx
      rcases (p3 x hx it (by simp)).2 with h | h
      · exfalso
        obtain ⟨e, he, hb, hj⟩ := hanci.1 _ h
        have hon := hed e he hb
        have hx' : listed[x.i]? = some true := by
          rcases hj with hj | hj
          · rw [hj]; exact hon
          · exact hcl _ _ hon hj
        have := (hl x.i).2 ⟨x, by simp [hx], rfl⟩
        rw [hx'] at this
        simp at this
      · exact h
    obtain ⟨q1, q2, q3⟩ := pull hv hinv
    unfold wpOpIn
    rw [ho]
    have hilt : it.i < listed.size := (Array.getElem?_eq_some_iff.1 hli).1
    refine hgo σ q1 F n a w g _ Q hF hr fun a' w' g' hr' hev => ?_
    refine ih (l1 ++ l2) (listed.setIfInBounds it.i true) (it.e.app σ) a' w' g' ?_ ?_ ?_ (by simpa using hsz) ?_ ?_ q2 hr' (fun a2 w2 g2 hr2 hev2 => hQ a2 w2 g2 (q3 ▸ hr2) (E.trans hev hev2))
    · simp at hlen ⊢; omega
    · intro x hx
      refine hall x ?_
      rcases List.mem_append.1 hx with h | h
      · simp [h]
      · simp [h]
    · rw [List.pairwise_append]
      exact ⟨p1, p2.2, fun x hx y hy => p3 x hx y (by simp [hy])⟩
    · intro i
      rw [Array.getElem?_setIfInBounds]
      by_cases e : it.i = i
      · subst e
        simp only [if_true, hilt]
        constructor
        · simp
        · rintro ⟨x, hx, hxi⟩
          exfalso
          rcases List.mem_append.1 hx with h | h
          · have := (p3 x h it (by simp)).1; omega
          · have := (p2.1 x h).1; omega
      · rw [if_neg e, hl i]
        constructor
        · rintro ⟨x, hx, rfl⟩
          refine ⟨x, ?_, rfl⟩
          rcases List.mem_append.1 hx with h | h
          · simp [h]
          · rcases List.mem_cons.1 h with rfl | h
            · exact absurd rfl e
            · simp [h]
        · rintro ⟨x, hx, rfl⟩
          refine ⟨x, ?_, rfl⟩
          rcases List.mem_append.1 hx with h | h
          · simp [h]
          · simp [h]
    · intro i j hi hj
      rw [Array.getElem?_setIfInBounds] at hi ⊢
      have old : ∀ k, listed[k]? = some true → (if it.i = k then if it.i < listed.size then some true else none else listed[k]?) = some true := by
        intro k hk
        by_cases e : it.i = k
        · subst e; simp [hilt]
        · rw [if_neg e]; exact hk
      by_cases e : it.i = i
      · subst e
        obtain ⟨e, he, hb, hj'⟩ := hanci.1 _ hj
        have hon := hed e he hb
        rcases hj' with hj' | hj'
        · rw [hj']; exact old _ hon
        · exact old _ (hcl _ _ hon hj')
      · rw [if_neg e] at hi
        exact old _ (hcl _ _ hi hj)

theorem unionL_mem : ∀ (l m : List Nat) (x : Nat), x ∈ unionL l m → x ∈ l ∨ x ∈ m
  | [], m, x, h => .inr h
  | a :: l, m, x, h => by
    simp only [unionL] at h
    split at h
    · rcases unionL_mem l m x h with h | h
      · exact .inl (by simp [h])
      · exact .inr h
    · rcases unionL_mem l _ x h with h | h
      · exact .inl (by simp [h])
      · rcases List.mem_cons.1 h with h | h
        · exact .inl (by simp [h])
        · exact .inr h

theorem ancOf_mem {acc : List (Nat × List Nat)} : ∀ (es : List Edge) (j : Nat), j ∈ ancOf acc es → ∃ e ∈ es, Region.binds .any e = true ∧ (j = e.on ∨ ∃ m, look acc e.on = some m ∧ j ∈ m)
  | [], j, h => by simp [ancOf] at h
  | e :: l, j, h => by
    simp only [ancOf] at h
    have back : j ∈ ancOf acc l → ∃ e' ∈ e :: l, Region.binds .any e' = true ∧ (j = e'.on ∨ ∃ m, look acc e'.on = some m ∧ j ∈ m) := by
      intro h
      obtain ⟨e', h1, h2⟩ := ancOf_mem l j h
      exact ⟨e', by simp [h1], h2⟩
    split at h
    · rename_i hb
      rcases unionL_mem _ _ _ h with h | h
      · refine ⟨e, by simp, hb, ?_⟩
        rcases List.mem_cons.1 h with h | h
        · exact .inl h
        · refine .inr ?_
          split at h
          · rename_i m hm; exact ⟨m, hm, h⟩
          · simp at h
      · exact back h
    · exact back h

/-- what the check of the footprints says -/
theorem okFps_spec : ∀ (l : List It) (k : Nat) (acc : List (Nat × List Nat)) (fs : List (Nat × Fp)), okFps (l.map fun it => (it.i, it.o.after.toList, it.f)) acc fs = true → (∀ j it, l[j]? = some it → it.i = k + j) → (∀ i, k ≤ i → look acc i = none) →
    ∃ acc', (∀ i, i < k → look acc' i = look acc i) ∧ (∀ it ∈ l, ∃ m, look acc' it.i = some m ∧ (∀ j ∈ m, ∃ e ∈ it.o.after, Region.binds .any e = true ∧ (j = e.on ∨ ∃ m', look acc' e.on = some m' ∧ j ∈ m')) ∧ (∀ e ∈ it.o.after, Region.binds .any e = true → e.on < it.i) ∧
      ∀ p ∈ fs, p.1 ∈ m ∨ Fp.apart p.2 it.f = true) ∧ l.Pairwise fun x y => ∃ m, look acc' y.i = some m ∧ (x.i ∈ m ∨ Fp.apart x.f y.f = true)
  | [], k, acc, fs, h, hi, hk => ⟨acc, fun _ _ => rfl, by simp, .nil⟩
  | it :: l, k, acc, fs, h, hi, hk => by
    simp only [List.map_cons, okFps, Bool.and_eq_true] at h
    obtain ⟨⟨h0, h1⟩, h2⟩ := h
    have hik : it.i = k := by simpa using hi 0 it rfl
    obtain ⟨acc', e1, e2, e3⟩ := okFps_spec l (k + 1) _ _ h2 (fun j x hx => by have := hi (j + 1) x (by simpa using hx); omega) (fun i hki => by
      rw [look_cons, if_neg (by omega)]; exact hk i (by omega))
    have hlook : look acc' it.i = some (ancOf acc it.o.after.toList) := by
      rw [e1 it.i (by omega), look_cons, if_pos rfl]
    have hold : ∀ i m, look acc i = some m → look acc' i = some m := by
      intro i m hm
      have hlt : i < k := Nat.lt_of_not_le fun hle => by rw [hk i hle] at hm; simp at hm
      rw [e1 i (by omega), look_cons, if_neg (by omega)]; exact hm
    refine ⟨acc', fun i hlt => ?_, ?_, ?_⟩
    · rw [e1 i (by omega), look_cons, if_neg (by omega)]
    · intro x hx
      rcases List.mem_cons.1 hx with rfl | hx
      · refine ⟨_, hlook, ?_, ?_, ?_⟩
        · intro j hj
          obtain ⟨e, he, hb, hj'⟩ := ancOf_mem _ _ hj
          refine ⟨e, by simpa using he, hb, ?_⟩
          rcases hj' with h | ⟨m, hm, hjm⟩
          · exact .inl h
          · exact .inr ⟨m, hold _ _ hm, hjm⟩
        · intro e he hb
          have := List.all_eq_true.1 h0 e (by simpa using he)
          rw [hb] at this
          simp only [Bool.not_true, Bool.false_or, Nat.blt] at this
          exact Nat.le_of_ble_eq_true this
        · intro p hp
          have := List.all_eq_true.1 h1 p hp
          rw [Bool.or_eq_true] at this
          rcases this with h | h
          · exact .inl (mem_of_isIn h)
          · exact .inr h
      · obtain ⟨m, a1, a2, a3, a4⟩ := e2 x hx
        exact ⟨m, a1, a2, a3, fun p hp => a4 p (by simp [hp])⟩
    · refine .cons ?_ e3
      intro x hx
      obtain ⟨m, a1, a2, a3, a4⟩ := e2 x hx
      exact ⟨m, a1, a4 (it.i, it.f) (by simp)⟩

theorem Fp.apart_inv {f1 f2 : Fp} {e1 e2 : Ef} {tm1 tm2 : Tm} {gs1 gs2 : Gs} {bx1 bx2 : List (Nat × Box)} {tk1 tk2 : List Nat} (k1 : Fits e1 f1) (k2 : Fits e2 f2) (h : Fp.apart f1 f2 = true) :
    (∀ σ, Agree f1 tm1 gs1 bx1 tk1 (e2.app σ) ↔ Agree f1 tm1 gs1 bx1 tk1 σ) ∧ (∀ σ, Agree f2 tm2 gs2 bx2 tk2 (e1.app σ) ↔ Agree f2 tm2 gs2 bx2 tk2 σ) ∧ ∀ σ, e1.app (e2.app σ) = e2.app (e1.app σ) := by
  have h' := h
  simp only [Fp.apart, Bool.and_eq_true] at h
  obtain ⟨⟨⟨⟨⟨⟨⟨a1, a2⟩, a3⟩, a4⟩, a5⟩, a6⟩, a7⟩, a8⟩ := h
  have a8' : f1.hi ≤ f2.lo ∨ f2.hi ≤ f1.lo := by
    rw [Bool.or_eq_true] at a8
    rcases a8 with h | h
    · exact .inl (Nat.le_of_ble_eq_true h)
    · exact .inr (Nat.le_of_ble_eq_true h)
  have a5' : apartL f2.del f1.del = true := by
    have := apartL_spec a5
    have : ∀ {l : List Nat}, (∀ x ∈ l, x ∉ f1.del) → apartL l f1.del = true := by
      intro l
      induction l with
      | nil => intro _; rfl
      | cons a l ih =>
        intro hl
        simp only [apartL]
        cases hh : isIn f1.del a with
        | true => exact absurd (mem_of_isIn hh) (hl a (by simp))
        | false => exact ih fun x hx => hl x (by simp [hx])
    exact this fun x hx hx' => apartL_spec a5 x hx' hx
  exact ⟨agree_app k2 a2 a4 a5 a6 a8', agree_app k1 a1 a3 a5' a7 (a8'.elim .inr .inl), apart_comm k1 k2 h'⟩

theorem fpOf_fits {ops : List Oper} {tm : Tm} {gs : Gs} {nid : Nat} {o : Oper} {d : Dl} {v : V} {ge : Option (Nat × Bool × V)} (hge : ∀ tg want x, ge = some (tg, want, x) → guardSlot ops o.guard = some (tg, want)) : Fits ⟨o.dst, v, ge, d, nid⟩ (fpOf ops tm gs nid o d) := by
  unfold fpOf
  cases hg : guardSlot ops o.guard with
  | none =>
    refine ⟨?_, ?_, ?_, ?_, ?_, rfl, rfl⟩
    · intro t e; simp only at e; simp [e]
    · intro tg want x e; rw [hge tg want x e] at hg; simp at hg
    · intro id B e; have := look_mem e; exact ⟨this, List.mem_append_left _ this⟩
    · intro k h; exact List.mem_append_right _ (mem_of_isIn h)
    · intro k h; exact mem_of_isIn h
  | some p =>
    obtain ⟨tg0, w0⟩ := p
    refine ⟨?_, ?_, ?_, ?_, ?_, rfl, rfl⟩
    · intro t e; simp only at e; simp [e]
    · intro tg want x e; have := hge tg want x e; rw [hg] at this; simp at this; simp [this]
    · intro id B e; have := look_mem e; exact ⟨this, List.mem_append_left _ this⟩
    · intro k h; exact List.mem_append_right _ (mem_of_isIn h)
    · intro k h; exact mem_of_isIn h

/-- what an item of the chain is -/
structure ItOk (P : Program) (E : Env) (nt : Nat) (st : Nat) (ops : Array Oper) (it : It) : Prop where
  good : ItGood P E nt st ops it
  fits : Fits it.e it.f
  ag : ∃ tm gs bx tk, it.Ag = Agree it.f tm gs bx tk

theorem ItOk.inv {nt : Nat} {st : Nat} {ops : Array Oper} {a b : It} (ha : ItOk P E nt st ops a) (hb : ItOk P E nt st ops b) (h : Fp.apart a.f b.f = true) : Inv a b := by
  obtain ⟨tm1, gs1, bx1, tk1, e1⟩ := ha.ag
  obtain ⟨tm2, gs2, bx2, tk2, e2⟩ := hb.ag
  unfold Inv
  rw [e1, e2]
  exact Fp.apart_inv ha.fits hb.fits h

theorem inBlk_spec {nid nid' : Nat} {K : Prop} (h : inBlk nid nid' K) : nid - block ≤ nid' ∧ nid - block ≤ nid ∧ K := by
  unfold inBlk at h
  generalize h1 : Nat.ble (nid - block) nid' = b1 at h
  generalize Nat.ble block nid = b2 at h
  cases b1 <;> cases b2 <;> first | exact h.elim | exact ⟨Nat.le_of_ble_eq_true h1, Nat.sub_le _ _, h⟩

/-- the chain of a region -/
theorem Dops_chain (hT : TysOk P T) (hM : MOk P E.gl M) {nt : Nat} {ops : Array Oper} {keep : List Nat} {K : ASt → Prop} :
    ∀ (rest : List Oper) (i : Nat) (_ : ops.toList.drop i = rest) (tm : Tm) (gs : Gs) (h : H) (fs : List (Nat × List Edge × Fp)), Dops T M E.fz nt ops.toList keep rest i tm gs h fs K →
      ∃ l : List It, (∀ it ∈ l, ItOk P E nt h.st ops it) ∧ Valid l (sgOf tm gs h) ∧ l.length = rest.length ∧ (∀ j it, l[j]? = some it → it.i = i + j) ∧
        okFps (fs.reverse ++ l.map fun it => (it.i, it.o.after.toList, it.f)) [] [] = true ∧
        ∃ s, K s ∧ s.h.st = h.st ∧ (sgOf s.tm [] s.h).bx = (final l (sgOf tm gs h)).bx ∧ (sgOf s.tm [] s.h).tk = (final l (sgOf tm gs h)).tk ∧ (sgOf s.tm [] s.h).fr = (final l (sgOf tm gs h)).fr ∧
          ∀ t v, look s.tm t = some v → (final l (sgOf tm gs h)).tm t = some v := by
  intro rest
  induction rest with
  | nil =>
    intro i hi tm gs h fs hW
    simp only [Dops] at hW
    obtain ⟨hfs, hW⟩ := hW
    obtain ⟨tm', hK, hl⟩ := keepTm_spec keep tm _ hW
    refine ⟨[], by simp, trivial, rfl, by simp, by simpa using hfs, _, hK, rfl, rfl, rfl, rfl, ?_⟩
    intro t v ht
    simp only at ht
    rw [hl] at ht
    split at ht
    · exact ht
    · simp at ht
  | cons o rest ih =>
    intro i hi tm gs h fs hW
    have hoi : ops[i]? = some o := by
      have : (ops.toList.drop i)[0]? = some o := by rw [hi]; rfl
      rw [List.getElem?_drop] at this
      simpa using this
    have hrest : ops.toList.drop (i + 1) = rest := by
      have : (ops.toList.drop i).drop 1 = rest := by rw [hi]; rfl
      rw [List.drop_drop] at this
      exact this
    obtain ⟨bx, tk, nid, st⟩ := h
    simp only [Dops] at hW
    obtain ⟨v, ge, d, hK, hd, hge, hgo⟩ := Wop_ok (E := E) (nt := nt) (st := st) hT hM hW
    obtain ⟨nb, del, add, nid'⟩ := d
    obtain ⟨hlo, hle, hK⟩ := inBlk_spec hK
    revert hK hlo hle
    generalize nid - block = lo
    intro hlo hle hK
    obtain ⟨hlt, tm', gs', h', hK', hst, hnid, hsg⟩ := step_spec (d := ⟨nb, del, add, lo⟩) hle hK
    obtain ⟨l, q1, q2, q3, q4, q5, s, q6, q7, q8, q9, q10, q11⟩ := ih (i + 1) hrest tm' gs' h' _ hK'
    rw [hst] at q1 q7
    rw [hsg] at q2 q8 q9 q10 q11
    refine ⟨⟨i, o, ⟨o.dst, v, ge, ⟨nb, del, add, lo⟩, nid⟩, fpOf ops.toList tm gs nid o ⟨nb, del, add, lo⟩, Agree (fpOf ops.toList tm gs nid o ⟨nb, del, add, lo⟩) tm gs bx tk⟩ :: l, ?_, ⟨?_, q2⟩, by simp [q3], ?_, ?_, s, q6, q7, q8, q9, q10, q11⟩
    · intro it hit
      rcases List.mem_cons.1 hit with rfl | hit
      · exact ⟨⟨hoi, fun σ hag => hgo _ hlo σ hlt hag⟩, fpOf_fits hge, _, _, _, _, rfl⟩
      · exact q1 it hit
    · exact sg_agree (fpOf_hi _ _ _ _ _ _).1
    · intro j it hj
      cases j with
      | zero => simp at hj; subst hj; rfl
      | succ j => have := q4 j it (by simpa using hj); omega
    · simpa using q5

/-- IN AN OPEN ORDER -/
theorem Dops_ok (hT : TysOk P T) (hM : MOk P E.gl M) {F : Fence} (hF : FenceOk F) {n : Nat} {ops : Array Oper} {keep : List Nat} {nt : Nat} {K : ASt → Prop} {Q : Exit → Act → World → Prop}
    (tm : Tm) (h : H) (a : Act) (w : World) (g : G) (hr : RepS E nt h.st (sgOf tm [] h) a w g) (hW : Dops T M E.fz nt ops.toList keep ops.toList 0 tm [] h [] K)
    (hQ : ∀ s' a' w' g', K s' → RepS E nt s'.h.st (sgOf s'.tm [] s'.h) a' w' g' → E.Ev w g w' g' → Q .normal a' w') : wpAnyIn F n P .any ops Q ops.size (Array.replicate ops.size false) a w := by
  obtain ⟨l, q1, q2, q3, q4, q5, s, q6, q7, q8, q9, q10, q11⟩ := Dops_chain (E := E) hT hM ops.toList 0 (by simp) tm [] h [] hW
  obtain ⟨acc, e1, e2, e3⟩ := okFps_spec l 0 [] [] (by simpa using q5) (by simpa using q4) (by simp [look])
  refine any_ok (E := E) (nt := nt) (st := h.st) (anc := fun i j => ∃ m, look acc i = some m ∧ j ∈ m) (all := l) hF ?_ (fun it hit => (q1 it hit).good) ops.size l _ _ a w g (by simp [q3]) (fun _ h => h) ?_ (by simp) ?_ ?_ q2 hr ?_
  · intro it hit
    obtain ⟨m, a1, a2, a3, a4⟩ := e2 it hit
    refine ⟨?_, a3⟩
    rintro j ⟨m', hm', hj⟩
    rw [a1] at hm'
    cases hm'
    exact a2 j hj
  · rw [List.pairwise_iff_getElem] at e3 ⊢
    intro i j hi hj hij
    have k1 := q4 i _ (List.getElem?_eq_getElem hi)
    have k2 := q4 j _ (List.getElem?_eq_getElem hj)
    refine ⟨by omega, ?_⟩
    obtain ⟨m, b1, b2⟩ := e3 i j hi hj hij
    rcases b2 with b2 | b2
    · exact .inl ⟨m, b1, b2⟩
    · exact .inr (ItOk.inv (q1 _ (List.getElem_mem hi)) (q1 _ (List.getElem_mem hj)) b2)
  · intro i
    rw [Array.getElem?_replicate]
    constructor
    · intro hh
      split at hh
      · rename_i hlt
        have hlt' : i < l.length := by rw [q3]; simpa using hlt
        exact ⟨l[i], List.getElem_mem hlt', by have := q4 i _ (List.getElem?_eq_getElem hlt'); omega⟩
      · simp at hh
    · rintro ⟨it, hit, rfl⟩
      obtain ⟨j, hj, rfl⟩ := List.getElem_of_mem hit
      have := q4 j _ (List.getElem?_eq_getElem hj)
      rw [if_pos (by rw [this]; rw [q3] at hj; simpa using hj)]
  · intro i j hi
    rw [Array.getElem?_replicate] at hi
    split at hi <;> simp at hi
  · intro a' w' g' hr' hev
    refine hQ s a' w' g' q6 ?_ hev
    rw [q7]
    refine ⟨hr'.size, hr'.defers, hr'.frz, ?_, ?_, ?_⟩
    · intro t v ht
      rw [q9]
      exact hr'.tm t v (q11 t v ht)
    · intro t tg want v ht; simp [sgOf, look] at ht
    · rw [q8, q9, q10]; exact hr'.h
end Go.Proofs.YtokomdenoegkgaaDoor.Abs
