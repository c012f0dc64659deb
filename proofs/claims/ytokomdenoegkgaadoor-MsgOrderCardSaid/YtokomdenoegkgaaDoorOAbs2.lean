/-
  The operations: each one's computed precondition is kept by the machine's operation.
-/
import Derived.Test.YtokomdenoegkgaaDoorOAbs1
set_option linter.unusedVariables false
set_option linter.unusedSimpArgs false
namespace Go.Proofs.YtokomdenoegkgaaDoor.Abs
open Go

variable {P : Program} {T : List (Nat × TI)} {E : Env} {w : World} {g : G} {K : Kont}

/-- nothing was done -/
abbrev Dl.no (nid : Nat) : Dl := ⟨[], [], [], nid⟩
theorem Dl.no_tk (nid : Nat) (tk : Nat → Bool) : (Dl.no nid).tk tk = tk := by funext k; simp [Dl.tk, isIn]
theorem Dl.no_fr (nid : Nat) (fr : Nat → Prop) : (Dl.no nid).fr nid fr = fr := by funext x; simp only [Dl.fr, eq_iff_iff]; exact ⟨fun h => h.1, fun h => ⟨h, by omega⟩⟩
theorem post_same {bx : Nat → Option Box} {tk : Nat → Bool} {fr : Nat → Prop} {st nid : Nat} {v : V} {val : Value} (hH : HOk E w g bx tk fr st) (hK : K v ⟨[], [], [], nid⟩) (hv : RepV w g tk v val) : Post E w g bx tk fr st nid K val w :=
  ⟨v, Dl.no nid, g, hK, Nat.le_refl _, by rw [Dl.no_tk]; exact hv, by rw [Dl.no_tk, Dl.no_fr]; exact hH, EvX.refl w g, by rw [Dl.no_tk]; exact Pres.refl w g tk⟩

/-! ### inversions -/
theorem RepV.lit_inv {tk : Nat → Bool} {v u : Value} (h : RepV w g tk (.d (.l (.lit v))) u) : u = v := by
  cases h with
  | d x _ h => cases h with
    | lit _ _ => rfl
theorem RepV.ref_inv {tk : Nat → Bool} {id off : Nat} {u : Value} (h : RepV w g tk (.ref id off) u) : ∃ b, g.ρ id = some b ∧ u = .pointer (some ⟨b, off, none⟩) := by
  cases h with
  | ref _ _ b h => exact ⟨b, h, rfl⟩
theorem RepV.agg_inv {tk : Nat → Bool} {cs : List L} {u : Value} (h : RepV w g tk (.d (.agg cs)) u) : ∃ vs : Array Value, u = .agg vs ∧ vs.size = cs.length ∧ ∀ (i : Nat) (x : L) (u : Value), cs[i]? = some x → vs[i]? = some u → RepL w g x u := by
  cases h with
  | d x _ h => exact h
theorem RepV.aggV_inv {tk : Nat → Bool} {l : List V} {u : Value} (h : RepV w g tk (.agg l) u) : ∃ vs : Array Value, u = .agg vs ∧ vs.size = l.length ∧ ∀ (i : Nat) (x : V) (u : Value), l[i]? = some x → vs[i]? = some u → RepV w g tk x u := by
  cases h with
  | agg _ vs h hr => exact ⟨vs, rfl, h, hr⟩
theorem RepV.tup_inv {tk : Nat → Bool} {l : List V} {u : Value} (h : RepV w g tk (.tup l) u) : ∃ vs : Array Value, u = .tuple vs ∧ vs.size = l.length ∧ ∀ (i : Nat) (x : V) (u : Value), l[i]? = some x → vs[i]? = some u → RepV w g tk x u := by
  cases h with
  | tup _ vs h hr => exact ⟨vs, rfl, h, hr⟩
theorem RepL.oneCell {x : L} {u : Value} (h : RepL w g x u) : u.oneCell' = true := by cases h with | lit _ h => exact h | sl => rfl
theorem RepL.toV {tk : Nat → Bool} {x : L} {u : Value} (h : RepL w g x u) : RepV w g tk (.d (.l x)) u := .d _ _ h
theorem RepV.leaf {tk : Nat → Bool} {x : V} {u : Value} (h : RepV w g tk x u) (hl : x.leaf = true) : u.oneCell' = true := by
  cases h with
  | any => simp [V.leaf] at hl
  | d x _ h => cases x with
    | l x => exact RepL.oneCell h
    | agg => simp [V.leaf] at hl
  | own k s l v h _ _ => exact h.oneCell
  | ref => rfl
  | sref => rfl
  | ep => simp [V.leaf] at hl
  | fn => rfl
  | agg => simp [V.leaf] at hl
  | tup => simp [V.leaf] at hl
  | bq => rfl
  | ob => simp [V.leaf] at hl
  | msl => rfl
  | er => rfl
  | mp => simp [V.leaf] at hl
theorem leafs_mem : ∀ {l : List V}, V.leafs l = true → ∀ x ∈ l, x.leaf = true
  | [], _, x, hx => by simp at hx
  | v :: l, h, x, hx => by
    simp only [V.leafs] at h
    cases hv : v.leaf with
    | false => rw [hv] at h; simp at h
    | true =>
      rw [hv] at h
      rcases List.mem_cons.1 hx with rfl | hx
      · exact hv
      · exact leafs_mem h x hx

/-- a value's cells -/
theorem RepV.cells {tk : Nat → Bool} {x : V} {u : Value} (h : RepV w g tk x u) (hl : V.leafs x.cells = true) :
    u.cells.size = x.cells.length ∧ (∀ (i : Nat) (y : V) (c : Value), x.cells[i]? = some y → u.cells[i]? = some c → RepV w g tk y c) ∧ ∀ c ∈ u.cells, c.oneCell' = true := by
  have one : ∀ (y : V) (c : Value), RepV w g tk y c → y.leaf = true → u = c → x = y → x.cells = [y] → (u.cells = #[c]) → (u.cells.size = x.cells.length ∧ (∀ (i : Nat) (y : V) (c : Value), x.cells[i]? = some y → u.cells[i]? = some c → RepV w g tk y c) ∧ ∀ c ∈ u.cells, c.oneCell' = true) := by
    intro y c hy hyl _ _ hxc huc
    rw [hxc, huc]
    refine ⟨rfl, ?_, ?_⟩
    · intro i y' c' h1 h2
      cases i with
      | zero => simp at h1 h2; subst h1; subst h2; exact hy
      | succ i => simp at h1
    · intro c' hc'; simp at hc'; subst hc'; exact hy.leaf hyl
  have oc : ∀ {z : Value}, z.oneCell' = true → z.cells = #[z] := by intro z hz; cases z <;> first | rfl | simp [Value.oneCell'] at hz
  have fromL : ∀ {l : List V} {vs : Array Value}, u = .agg vs → vs.size = l.length → (∀ (i : Nat) (y : V) (c : Value), l[i]? = some y → vs[i]? = some c → RepV w g tk y c) → x.cells = l → (u.cells.size = x.cells.length ∧ (∀ (i : Nat) (y : V) (c : Value), x.cells[i]? = some y → u.cells[i]? = some c → RepV w g tk y c) ∧ ∀ c ∈ u.cells, c.oneCell' = true) := by
    intro l vs hu hs hr hx
    rw [hx] at hl ⊢
    subst hu
    refine ⟨hs, hr, fun c hc => ?_⟩
    obtain ⟨i, hi, rfl⟩ := Array.mem_iff_getElem.1 hc
    have hi' : i < l.length := by have : i < vs.size := hi; omega
    exact (hr i l[i] vs[i] (List.getElem?_eq_getElem hi') (Array.getElem?_eq_getElem hi)).leaf (leafs_mem hl _ (List.getElem_mem hi'))
  cases h with
  | any v => simp [V.cells, V.leafs, V.leaf] at hl
  | d y v h =>
    cases y with
    | l y => exact one (.d (.l y)) u (.d _ _ h) rfl rfl rfl rfl (oc (RepL.oneCell h))
    | agg cs =>
      obtain ⟨vs, rfl, hs, hr⟩ := h
      refine fromL (l := cs.map fun x => .d (.l x)) rfl (by simpa using hs) ?_ rfl
      intro i y c h1 h2
      simp only [List.getElem?_map, Option.map_eq_some_iff] at h1
      obtain ⟨x, hx, rfl⟩ := h1
      exact (hr i x c hx h2).toV
  | own k s l v h hu ht => exact one (.own k s l) u (.own k s l u h hu ht) rfl rfl rfl rfl (oc h.oneCell)
  | ref id off b h => exact one _ _ (.ref id off b h) rfl rfl rfl rfl rfl
  | sref id off len cap b h => exact one _ _ (.sref id off len cap b h) rfl rfl rfl rfl rfl
  | ep c o b off f hc hr => simp [V.cells, V.leafs, V.leaf] at hl
  | fn f l1 l2 vs1 vs2 h1 h2 hr1 hr2 => exact one _ _ (.fn f l1 l2 vs1 vs2 h1 h2 hr1 hr2) rfl rfl rfl rfl rfl
  | agg l vs h hr => exact fromL rfl h hr rfl
  | tup l vs h hr => simp [V.cells, V.leafs, V.leaf] at hl
  | bq p q b h1 h2 => exact one _ _ (.bq p q b h1 h2) rfl rfl rfl rfl rfl
  | ob c b v h1 h2 => simp [V.cells, V.leafs, V.leaf] at hl
  | msl id s i n b cap m o e h hs hc hn ho => exact one _ _ (.msl id s i n b cap m o e h hs hc hn ho) rfl rfl rfl rfl rfl
  | er id s j o b h => exact one _ _ (.er id s j o b h) rfl rfl rfl rfl rfl
  | mp => simp [V.cells, V.leafs, V.leaf] at hl

theorem toL_rep {tk : Nat → Bool} {x : V} {y : L} {u : Value} (h : RepV w g tk x u) (hx : V.toL x = some y) : RepL w g y u := by
  cases h with
  | d x v h => cases x with
    | l x => simp [V.toL] at hx; subst hx; exact h
    | agg => simp [V.toL] at hx
  | own k s l v h _ _ => simp [V.toL] at hx; subst hx; exact h
  | _ => simp [V.toL] at hx
theorem toLs_spec : ∀ {l : List V} {ds : List L}, V.toLs l = some ds → ds.length = l.length ∧ ∀ (i : Nat) (x : V) (y : L), l[i]? = some x → ds[i]? = some y → V.toL x = some y
  | [], ds, h => by simp [V.toLs] at h; subst h; exact ⟨rfl, fun i x y h => by simp at h⟩
  | v :: l, ds, h => by
    simp only [V.toLs] at h
    cases h1 : V.toL v with
    | none => rw [h1] at h; simp at h
    | some x =>
      cases h2 : V.toLs l with
      | none => rw [h1, h2] at h; simp at h
      | some xs =>
        rw [h1, h2] at h; simp at h; subst h
        obtain ⟨hl, hi⟩ := toLs_spec h2
        refine ⟨by simp [hl], fun i y z hy hz => ?_⟩
        cases i with
        | zero => simp at hy hz; subst hy; subst hz; exact h1
        | succ i => simp at hy hz; exact hi i y z hy hz
theorem toD_rep {tk : Nat → Bool} {x : V} {y : D} {u : Value} (h : RepV w g tk x u) (hx : V.toD x = some y) : RepD w g y u := by
  cases h with
  | d x v h => simp [V.toD] at hx; subst hx; exact h
  | own k s l v h _ _ => simp [V.toD] at hx; subst hx; exact h
  | agg l vs h hr =>
    simp only [V.toD] at hx
    cases h2 : V.toLs l with
    | none => rw [h2] at hx; simp at hx
    | some ds =>
      rw [h2] at hx; simp at hx; subst hx
      obtain ⟨hl, hi⟩ := toLs_spec h2
      refine ⟨vs, rfl, by omega, fun i x u hx hu => ?_⟩
      have hlt : i < l.length := by have := (List.getElem?_eq_some_iff.1 hx).1; omega
      exact toL_rep (hr i l[i] u (List.getElem?_eq_getElem hlt) hu) (hi i _ x (List.getElem?_eq_getElem hlt) hx)
  | _ => simp [V.toD] at hx
mutual
theorem toA_rep {tk : Nat → Bool} {w' : World} {gc : G} (hc : ∀ b o v, Cst w g b o v → Cst w' gc b o v) : ∀ (x : V) (y : V) (u : Value), RepV w g tk x u → V.toA x = some y → RepV w' gc (fun _ => false) y u
  | .d x, y, u, h, hx => by
    simp [V.toA] at hx; subst hx
    cases h with | d _ _ h => exact .d _ _ (h.ev hc)
  | .own k s l, y, u, h, hx => by
    simp [V.toA] at hx; subst hx
    cases h with | own _ _ _ _ h _ _ => exact .d _ _ (RepL.ev hc h)
  | .agg l, y, u, h, hx => by
    simp only [V.toA] at hx
    cases h2 : V.toLs l with
    | none => rw [h2] at hx; simp at hx
    | some ds =>
      rw [h2] at hx; simp at hx; subst hx
      have : V.toD (.agg l) = some (.agg ds) := by simp [V.toD, h2]
      exact .d _ _ ((toD_rep h this).ev hc)
  | .ep c o, y, u, h, hx => by
    simp [V.toA] at hx; subst hx
    cases h with | ep _ _ b off f hcc hr => exact .ep c o b off f (fun j x hj => hc _ _ _ (hcc j x hj)) (fun j x hj => (hr j x hj).ev hc)
  | .fn f a b, y, u, h, hx => by
    simp only [V.toA] at hx
    cases h1 : V.toAs a with
    | none => rw [h1] at hx; simp at hx
    | some a' => cases h2 : V.toAs b with
      | none => rw [h1, h2] at hx; simp at hx
      | some b' =>
        rw [h1, h2] at hx; simp at hx; subst hx
        cases h with
        | fn _ _ _ vs1 vs2 e1 e2 hr1 hr2 =>
          obtain ⟨k1, k2⟩ := toAs_rep hc a a' h1
          obtain ⟨k3, k4⟩ := toAs_rep hc b b' h2
          refine .fn f a' b' vs1 vs2 (by omega) (by omega) (fun i x u hx hu => ?_) (fun i x u hx hu => ?_)
          · have hlt : i < a.length := by have := (List.getElem?_eq_some_iff.1 hx).1; omega
            exact k2 i a[i] x u (List.getElem?_eq_getElem hlt) hx (hr1 i _ u (List.getElem?_eq_getElem hlt) hu)
          · have hlt : i < b.length := by have := (List.getElem?_eq_some_iff.1 hx).1; omega
            exact k4 i b[i] x u (List.getElem?_eq_getElem hlt) hx (hr2 i _ u (List.getElem?_eq_getElem hlt) hu)
  | .any, _, _, _, hx => by simp [V.toA] at hx
  | .ref _ _, _, _, _, hx => by simp [V.toA] at hx
  | .sref _ _ _ _, _, _, _, hx => by simp [V.toA] at hx
  | .tup _, _, _, _, hx => by simp [V.toA] at hx
  | .bq _ _, _, _, _, hx => by simp [V.toA] at hx
  | .ob _ _, _, _, _, hx => by simp [V.toA] at hx
  | .msl _ _ _ _, _, _, _, hx => by simp [V.toA] at hx
  | .er _ _ _ _, _, _, _, hx => by simp [V.toA] at hx
  | .mp _, _, _, _, hx => by simp [V.toA] at hx
theorem toAs_rep {tk : Nat → Bool} {w' : World} {gc : G} (hc : ∀ b o v, Cst w g b o v → Cst w' gc b o v) : ∀ (l ds : List V), V.toAs l = some ds → ds.length = l.length ∧ ∀ (i : Nat) (x y : V) (u : Value), l[i]? = some x → ds[i]? = some y → RepV w g tk x u → RepV w' gc (fun _ => false) y u
  | [], ds, h => by simp [V.toAs] at h; subst h; exact ⟨rfl, fun i x y u h => by simp at h⟩
  | v :: l, ds, h => by
    simp only [V.toAs] at h
    cases h1 : V.toA v with
    | none => rw [h1] at h; simp at h
    | some x =>
      cases h2 : V.toAs l with
      | none => rw [h1, h2] at h; simp at h
      | some xs =>
        rw [h1, h2] at h; simp at h; subst h
        obtain ⟨hl, hi⟩ := toAs_rep hc l xs h2
        refine ⟨by simp [hl], fun i y z u hy hz hr => ?_⟩
        cases i with
        | zero => simp at hy hz; subst hy; subst hz; exact toA_rep hc _ _ u hr h1
        | succ i => simp at hy hz; exact hi i y z u hy hz hr
end

theorem plains_mem : ∀ {l : List V}, V.plains l = true → ∀ x ∈ l, V.plain x = true
  | [], _, x, hx => by simp at hx
  | v :: l, h, x, hx => by
    simp only [V.plains] at h
    cases hv : V.plain v with
    | false => rw [hv] at h; simp at h
    | true =>
      rw [hv] at h
      rcases List.mem_cons.1 hx with rfl | hx
      · exact hv
      · exact plains_mem h x hx
theorem plain_rep {tk tk' : Nat → Bool} {w' : World} {g' : G} (hc : ∀ b o v, Cst w g b o v → Cst w' g' b o v) {x : V} {u : Value} (hp : V.plain x = true) (h : RepV w g tk x u) : RepV w' g' tk' x u := by
  cases h with
  | d _ _ h => exact .d _ _ (h.ev hc)
  | ep c o b off f hcc hr => exact .ep c o b off f (fun j x hj => hc _ _ _ (hcc j x hj)) (fun j x hj => (hr j x hj).ev hc)
  | _ => simp [V.plain] at hp

theorem toDs_spec : ∀ {l : List V} {ds : List D}, V.toDs l = some ds → ds.length = l.length ∧ ∀ (i : Nat) (x : V) (y : D), l[i]? = some x → ds[i]? = some y → V.toD x = some y
  | [], ds, h => by simp [V.toDs] at h; subst h; exact ⟨rfl, fun i x y h => by simp at h⟩
  | v :: l, ds, h => by
    simp only [V.toDs] at h
    cases h1 : V.toD v with
    | none => rw [h1] at h; simp at h
    | some x =>
      cases h2 : V.toDs l with
      | none => rw [h1, h2] at h; simp at h
      | some xs =>
        rw [h1, h2] at h; simp at h; subst h
        obtain ⟨hl, hi⟩ := toDs_spec h2
        refine ⟨by simp [hl], fun i y z hy hz => ?_⟩
        cases i with
        | zero => simp at hy hz; subst hy; subst hz; exact h1
        | succ i => simp at hy hz; exact hi i y z hy hz

/-- a slice's content -/
theorem asSl_rep {tk : Nat → Bool} {x : V} {se : Nat} {l : List (List L)} {u : Value} (h : RepV w g tk x u) (hx : V.asSl se x = some l) : RepL w g (.sl se l) u := by
  cases h with
  | d x v h => cases x with
    | l x => cases x with
      | sl s m =>
        simp only [V.asSl] at hx
        cases hb : Nat.beq s se with
        | false => rw [hb] at hx; simp at hx
        | true => rw [hb] at hx; simp at hx; subst hx; have := Nat.eq_of_beq_eq_true hb; subst this; exact h
      | lit v' =>
        have hu : u = v' := by cases h with | lit _ _ => rfl
        subst hu
        revert hx
        simp only [V.asSl]
        split
        · rename_i heq; simp at heq
        · rename_i heq; simp at heq
        · rename_i heq
          simp at heq
          subst heq
          intro hx; simp at hx; subst hx
          exact .sl se [] none 0 0 0 (fun _ => undef) (fun h => absurd rfl h) (fun _ => rfl) (Nat.le_refl _) (by simp) (by simp) (by simp) (by simp)
        · simp
    | agg => simp [V.asSl] at hx
  | own k s m v h _ _ =>
    simp only [V.asSl] at hx
    cases hb : Nat.beq s se with
    | false => rw [hb] at hx; simp at hx
    | true => rw [hb] at hx; simp at hx; subst hx; have := Nat.eq_of_beq_eq_true hb; subst this; exact h
  | _ => simp [V.asSl] at hx

/-! ### the world behind -/
theorem cell_heap {w w' : World} {b o : Nat} (h : w'.heap[b]? = w.heap[b]?) : w'.cell? ⟨b, o, none⟩ = w.cell? ⟨b, o, none⟩ := by simp [World.cell?, h]
theorem cell_lt {w : World} {b o : Nat} {v : Value} (h : w.cell? ⟨b, o, none⟩ = some v) : b < w.heap.size := World.block_lt_of_cell? w _ h
theorem cell_in {w : World} {b o : Nat} {c : Array Value} {e : TypeId} {fr : Nat × Nat} (h : w.heap[b]? = some (.cells c e fr)) : w.cell? ⟨b, o, none⟩ = c[o]? := by simp [World.cell?, h]

theorem run_isAgg {t : TypeId} {d : TypeDesc} (hu : P.underlying t = some d) : (Go.isAgg t).run P w = .ok d.isRow w := by
  unfold Go.isAgg
  rw [Sem.run_bind, run_underlying hu w]
  cases d <;> rfl
theorem isAgg_row (ti : TI) : isAgg ti = ti.desc.isRow := by unfold isAgg; cases ti.desc <;> rfl
theorem run_load1 {t : TypeId} {d : TypeDesc} {b o : Nat} {v : Value} (hu : P.underlying t = some d) (hd : d.isRow = false) (hc : w.cell? ⟨b, o, none⟩ = some v) : (loadVar t ⟨b, o, none⟩).run P w = .ok v w := by
  unfold loadVar
  rw [Sem.run_bind, run_isAgg hu, hd]
  simp [hc]
theorem run_sizeOf' {t : TypeId} {i : TypeInfo} (h : P.info? t = some i) : (sizeOf t).run P w = .ok i.size w := by simp [sizeOf, typeInfo, h]
end Go.Proofs.YtokomdenoegkgaaDoor.Abs
