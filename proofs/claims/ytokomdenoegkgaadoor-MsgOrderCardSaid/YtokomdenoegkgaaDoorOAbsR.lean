/-
  The rows: arguments are read as data; what is behind the call.
-/
import Derived.Test.YtokomdenoegkgaaDoorOAbsF
import Derived.ProofKit
set_option linter.unusedVariables false
set_option linter.unusedSimpArgs false
namespace Go.Proofs.YtokomdenoegkgaaDoor.Abs
open Go Go.ChangeShapes Go.WideShapes Go.ChangeAt Go.RowKit

/-- the ghost that owns nothing -/
def g00 : G := { own := fun _ => none, ρ := fun _ => none, used := fun _ => False }

/-- shapes of data, by types -/
def ShAll (sh : TypeId → List L → Prop) : List TypeId → List L → Prop
  | [], ls => ls = []
  | t :: ts, ls => ∃ p q, ls = p ++ q ∧ sh t p ∧ ShAll sh ts q
def Sh (P : Program) : Nat → TypeId → List L → Prop
  | 0, _, _ => False
  | n + 1, t, ls => match P.underlying t with
    | some .bool => ∃ b, ls = [.lit (.bool b)]
    | some (.int k) => ∃ z, ls = [.lit (.int k z)] ∧ k.min ≤ z ∧ z ≤ k.max
    | some .string => ∃ s : ByteArray, ls = [.lit (.string s)] ∧ s.size ≤ 9223372036854775807
    | some (.slice e) => ∃ l, ls = [.sl (P.cellsOf e) l] ∧ l.length ≤ 9223372036854775807 ∧ ∀ x ∈ l, Sh P n e x
    | some (.struct fs) => ShAll (Sh P n) (fs.toList.map (·.type)) ls
    | some (.array m e) => ShAll (Sh P n) (List.replicate m e) ls
    | _ => False
/-- fields lie one behind the other -/
def contig (P : Program) : List Field → Nat → Nat → Bool
  | [], o, n => o == n
  | f :: fs, o, n => f.offset == o && contig P fs (o + P.cellsOf f.type) n
/-- data alone -/
def dataT (P : Program) : Nat → TypeId → Bool
  | 0, _ => false
  | n + 1, t => match P.underlying t with
    | some .bool => true
    | some (.int _) => true
    | some .string => true
    | some (.slice e) => dataT P n e && decide (0 < P.cellsOf e)
    | some (.struct fs) => contig P fs.toList 0 (P.cellsOf t) && fs.toList.all fun f => dataT P n f.type
    | some (.array m e) => dataT P n e && (P.cellsOf t == m * P.cellsOf e)
    | _ => false

variable {P : Program} {H : Type} {enc : TypeId × Value → H} {W : World}

/-- cells that hold these -/
def Holds (W : World) (cs : List Value) (ls : List L) : Prop := ls.length = cs.length ∧ ∀ (i : Nat) (x : L) (u : Value), ls[i]? = some x → cs[i]? = some u → RepL W g00 x u
theorem Holds.one {u : Value} {x : L} (h : RepL W g00 x u) : Holds W [u] [x] := ⟨rfl, fun i y v h1 h2 => by
  cases i with
  | zero => simp at h1 h2; subst h1; subst h2; exact h
  | succ i => simp at h1⟩
theorem Holds.append {a b : List Value} {p q : List L} (h1 : Holds W a p) (h2 : Holds W b q) : Holds W (a ++ b) (p ++ q) := by
  refine ⟨by simp [h1.1, h2.1], fun i x u hx hu => ?_⟩
  by_cases hi : i < p.length
  · rw [List.getElem?_append_left hi] at hx
    rw [List.getElem?_append_left (by rw [← h1.1]; exact hi)] at hu
    exact h1.2 i x u hx hu
  · rw [List.getElem?_append_right (by omega)] at hx
    rw [List.getElem?_append_right (by rw [← h1.1]; omega), ← h1.1] at hu
    exact h2.2 _ x u hx hu

theorem mapM_cons_some {α β : Type} {f : α → Option β} {a : α} {l : List α} {ys : List β} (h : (a :: l).mapM f = some ys) : ∃ y ys', f a = some y ∧ l.mapM f = some ys' ∧ ys = y :: ys' := by
  rw [List.mapM_cons] at h
  cases ha : f a with
  | none => rw [ha] at h; simp at h
  | some y =>
    cases hl : l.mapM f with
    | none => rw [ha, hl] at h; simp at h
    | some ys' => rw [ha, hl] at h; simp at h; exact ⟨y, ys', rfl, rfl, h.symm⟩
theorem mapM_get {α β : Type} {f : α → Option β} : ∀ {l : List α} {ys : List β}, l.mapM f = some ys → ys.length = l.length ∧ ∀ (i : Nat) (a : α), l[i]? = some a → ∃ y, f a = some y
  | [], ys, h => by simp at h; subst h; simp
  | a :: l, ys, h => by
    obtain ⟨y, ys', h1, h2, rfl⟩ := mapM_cons_some h
    obtain ⟨k1, k2⟩ := mapM_get h2
    refine ⟨by simp [k1], fun i b hb => ?_⟩
    cases i with
    | zero => simp at hb; subst hb; exact ⟨y, h1⟩
    | succ i => simp at hb; exact k2 i b hb

theorem read_fields {n m : Nat} {base : Nat} {spare : Nat → Bool} {held : Bool}
    (ih : ∀ (t : TypeId) (cs : List Value) (d : DataW H) (ps : List MemPlace), dataT P n t = true → DataW.trod enc P W base spare held m t cs = some (d, ps) → ∃ ls, Holds W cs ls ∧ Sh P n t ls) :
    ∀ (fs : List Field) (cs : List Value) (o : Nat) (xs : List (DataW H × List MemPlace)), contig P fs o cs.length = true → (fs.all fun f => dataT P n f.type) = true →
      (fs.mapM fun f => DataW.trod enc P W base spare held m f.type ((cs.drop f.offset).take (P.cellsOf f.type))) = some xs → ∃ ls, Holds W (cs.drop o) ls ∧ ShAll (Sh P n) (fs.map (·.type)) ls
  | [], cs, o, xs, hc, _, _ => by
    simp [contig] at hc
    exact ⟨[], ⟨by simp [hc], by simp⟩, rfl⟩
  | f :: fs, cs, o, xs, hc, hd, hm => by
    simp only [contig, Bool.and_eq_true, beq_iff_eq] at hc
    simp only [List.all_cons, Bool.and_eq_true] at hd
    obtain ⟨y, ys, h1, h2, rfl⟩ := mapM_cons_some hm
    obtain ⟨p, k1, k2⟩ := ih f.type _ y.1 y.2 hd.1 h1
    obtain ⟨q, k3, k4⟩ := read_fields ih fs cs _ ys hc.2 hd.2 h2
    rw [hc.1] at k1
    refine ⟨p ++ q, ?_, p, q, rfl, k2, k4⟩
    have e : cs.drop o = (cs.drop o).take (P.cellsOf f.type) ++ cs.drop (o + P.cellsOf f.type) := by
      rw [← List.drop_drop, List.take_append_drop]
    rw [e]
    exact k1.append k3

theorem read_array {n q : Nat} {base : Nat} {spare : Nat → Bool} {held : Bool} {e : TypeId}
    (ih : ∀ (cs : List Value) (d : DataW H) (ps : List MemPlace), DataW.trod enc P W base spare held q e cs = some (d, ps) → ∃ ls, Holds W cs ls ∧ Sh P n e ls) :
    ∀ (m k : Nat) (cs : List Value) (xs : List (DataW H × List MemPlace)), cs.length = (k + m) * P.cellsOf e →
      ((List.range' k m).mapM fun i => DataW.trod enc P W base spare held q e ((cs.drop (i * P.cellsOf e)).take (P.cellsOf e))) = some xs → ∃ ls, Holds W (cs.drop (k * P.cellsOf e)) ls ∧ ShAll (Sh P n) (List.replicate m e) ls
  | 0, k, cs, xs, hl, _ => ⟨[], ⟨by simp [hl], by simp⟩, rfl⟩
  | m + 1, k, cs, xs, hl, hm => by
    rw [List.range'_succ] at hm
    obtain ⟨y, ys, h1, h2, rfl⟩ := mapM_cons_some hm
    obtain ⟨p, k1, k2⟩ := ih _ y.1 y.2 h1
    obtain ⟨q, k3, k4⟩ := read_array ih m (k + 1) cs ys (by rw [hl]; congr 1; omega) h2
    refine ⟨p ++ q, ?_, p, q, rfl, k2, k4⟩
    have e : cs.drop (k * P.cellsOf e) = (cs.drop (k * P.cellsOf e)).take (P.cellsOf e) ++ cs.drop ((k + 1) * P.cellsOf e) := by
      rw [Nat.add_mul, Nat.one_mul, ← List.drop_drop, List.take_append_drop]
    rw [e]
    exact k1.append k3

theorem cells_row {base : Nat} {a : Addr} {n : Nat} {cs : List Value} (h : W.cells? base a n = some cs) : cs.length = n ∧ ∀ i, i < n → ∃ v, W.cell? (a.add i) = some v ∧ cs[i]? = some v := by
  unfold World.cells? at h
  split at h
  · obtain ⟨h1, h2⟩ := mapM_get h
    refine ⟨by simpa using h1, fun i hi => ?_⟩
    obtain ⟨v, hv⟩ := h2 i i (by simp [hi])
    refine ⟨v, hv, ?_⟩
    have : ∀ (l : List Nat) (cs : List Value) (f : Nat → Option Value), l.mapM f = some cs → ∀ (i a : Nat), l[i]? = some a → cs[i]? = f a := by
      intro l
      induction l with
      | nil => intro cs f _ i a ha; simp at ha
      | cons b l ihl =>
        intro cs f hm i a ha
        obtain ⟨y, ys, k1, k2, rfl⟩ := mapM_cons_some hm
        cases i with
        | zero => simp at ha; subst ha; simp [k1]
        | succ i => simp at ha ⊢; exact ihl ys f k2 i a ha
    rw [this _ _ _ h i i (by simp [hi]), hv]
  · simp at h

theorem one_of {α : Type} {l : List α} (h : ¬ (l = [] ∨ ∃ a b r, l = a :: b :: r)) : ∃ v, l = [v] := by
  match l, h with
  | [], h => exact absurd (.inl rfl) h
  | [v], _ => exact ⟨v, rfl⟩
  | a :: b :: r, h => exact absurd (.inr ⟨a, b, r, rfl⟩) h

/-- A READING IS DATA -/
theorem read {spare : Nat → Bool} {held : Bool} : ∀ (n m : Nat) (t : TypeId) (cs : List Value) (d : DataW H) (ps : List MemPlace), dataT P n t = true → DataW.trod enc P W 0 spare held m t cs = some (d, ps) → ∃ ls, Holds W cs ls ∧ Sh P n t ls := by
  intro n
  induction n with
  | zero => intro m t cs d ps h; simp [dataT] at h
  | succ n ih =>
    intro fuel t cs d ps hd h
    cases fuel with
    | zero => simp [DataW.trod] at h
    | succ fuel =>
    unfold DataW.trod at h
    unfold dataT at hd
    unfold Sh
    cases hu : P.underlying t with
    | none => rw [hu] at hd; simp at hd
    | some desc =>
      rw [hu] at hd h
      cases desc with
      | bool =>
        obtain ⟨v, rfl⟩ := one_of (l := cs) (fun h0 => by rcases h0 with rfl | ⟨a, b, r, rfl⟩ <;> simp at h)
        cases v <;> simp only at h <;> first | (cases h; done) | skip
        rename_i b
        exact ⟨_, .one (.lit _ rfl), b, rfl⟩
      | int k =>
        obtain ⟨v, rfl⟩ := one_of (l := cs) (fun h0 => by rcases h0 with rfl | ⟨a, b, r, rfl⟩ <;> simp at h)
        cases v <;> simp only at h <;> first | (cases h; done) | skip
        rename_i k' m
        split at h
        · rename_i hw
          obtain ⟨rfl, hw⟩ := hw
          simp [Lit.wf] at hw
          exact ⟨_, .one (.lit _ rfl), m, rfl, hw⟩
        · cases h
      | string =>
        obtain ⟨v, rfl⟩ := one_of (l := cs) (fun h0 => by rcases h0 with rfl | ⟨a, b, r, rfl⟩ <;> simp at h)
        cases v <;> simp only at h <;> first | (cases h; done) | skip
        rename_i s
        split at h
        · rename_i hw
          exact ⟨_, .one (.lit _ rfl), s, rfl, by simp [maxLen] at hw; exact hw⟩
        · cases h
      | slice e =>
        simp only [Bool.and_eq_true, decide_eq_true_eq] at hd
        obtain ⟨hde, hpos⟩ := hd
        obtain ⟨v, rfl⟩ := one_of (l := cs) (fun h0 => by rcases h0 with rfl | ⟨a, b, r, rfl⟩ <;> simp at h)
        cases v <;> simp only at h <;> first | (cases h; done) | skip
        rename_i a len cap
        cases a with
        | none =>
          have : len = 0 ∧ cap = 0 := by
            cases len <;> cases cap <;> simp at h ⊢
          obtain ⟨rfl, rfl⟩ := this
          refine ⟨_, .one ?_, [], rfl, by simp, by simp⟩
          exact .sl _ [] none 0 0 0 (fun _ => undef) (fun h => absurd rfl h) (fun _ => rfl) (Nat.le_refl _) (by simp) (by simp) (by simp) (by simp)
        | some a =>
          simp only at h
          split at h
          case isFalse => cases h
          rename_i hb
          obtain ⟨_, hlc, hcm⟩ := hb
          rw [Option.bind_eq_some_iff] at h
          obtain ⟨elems, hel, h⟩ := h
          obtain ⟨hlen, hget⟩ := mapM_get hel
          have each : ∀ i, i < len → ∃ csi ls, W.cells? 0 (a.add (i * P.cellsOf e)) (P.cellsOf e) = some csi ∧ Holds W csi ls ∧ Sh P n e ls := by
            intro i hi
            obtain ⟨y, hy⟩ := hget i i (by simp [hi])
            rw [Option.bind_eq_some_iff] at hy
            obtain ⟨csi, h1, h2⟩ := hy
            obtain ⟨ls, k1, k2⟩ := ih fuel e csi y.1 y.2 hde h2
            exact ⟨csi, ls, h1, k1, k2⟩
          obtain ⟨l, hl1, hl2⟩ : ∃ l : List (List L), l.length = len ∧ ∀ (i : Nat) (y : List L), l[i]? = some y → ∃ csi, W.cells? 0 (a.add (i * P.cellsOf e)) (P.cellsOf e) = some csi ∧ Holds W csi y ∧ Sh P n e y := by
            clear hel hget hlen h hlc hcm
            induction len with
            | zero => exact ⟨[], rfl, by simp⟩
            | succ m ihm =>
              obtain ⟨l, h1, h2⟩ := ihm (fun i hi => each i (by omega))
              obtain ⟨csi, ls, k1, k2, k3⟩ := each m (by omega)
              refine ⟨l ++ [ls], by simp [h1], fun i y hy => ?_⟩
              by_cases hi : i < m
              · rw [List.getElem?_append_left (by omega)] at hy
                exact h2 i y hy
              · rw [List.getElem?_append_right (by omega)] at hy
                have him : i = m := by
                  have := (List.getElem?_eq_some_iff.1 hy).1
                  simp at this; omega
                subst him
                simp [h1] at hy
                subst hy
                exact ⟨csi, k1, k2, k3⟩
          have hs : ∀ x ∈ l, x.length = P.cellsOf e := by
            intro x hx
            obtain ⟨i, hi, rfl⟩ := List.getElem_of_mem hx
            obtain ⟨csi, k1, k2, _⟩ := hl2 i _ (List.getElem?_eq_getElem hi)
            rw [k2.1]; exact (cells_row k1).1
          have hspot : l ≠ [] → a = ⟨a.block, a.off, none⟩ := by
            intro hne
            have h0 : 0 < l.length := List.length_pos_iff.2 hne
            obtain ⟨csi, k1, _⟩ := hl2 0 _ (List.getElem?_eq_getElem h0)
            obtain ⟨v, hv, _⟩ := (cells_row k1).2 0 hpos
            obtain ⟨ab, ao, asp⟩ := a
            unfold World.cell? at hv
            split at hv
            · split at hv
              · simp at hv
              · rename_i hsp
                simp [Addr.add] at hsp
                simp [hsp]
            · simp at hv
          refine ⟨[.sl (P.cellsOf e) l], .one ?_, l, rfl, by rw [hl1]; simp [maxLen] at hcm; omega, ?_⟩
          · have cell : ∀ (j : Nat) (x : L), l.flatten[j]? = some x → ∃ v, W.cell? ⟨a.block, a.off + j, none⟩ = some v ∧ RepL W g00 x v := by
              intro j x hx
              obtain ⟨i, m, y, rfl, hm, hi, hy⟩ := flatten_inv hs j x hx
              obtain ⟨csi, k1, k2, _⟩ := hl2 i y hi
              obtain ⟨v, hv, hcv⟩ := (cells_row k1).2 m hm
              have hne : l ≠ [] := fun e => by subst e; simp at hi
              refine ⟨v, ?_, k2.2 m x v hy hcv⟩
              rw [hspot hne] at hv
              simp only [Addr.add_mid] at hv
              rw [← Nat.add_assoc]
              exact hv
            rw [← hl1]
            refine .sl _ l (some a) cap a.block a.off (fun j => (W.cell? ⟨a.block, a.off + j, none⟩).getD undef) (fun h => congrArg some (hspot h)) (by simp) (by rw [hl1]; exact hlc) (by rw [hl1]; simp [maxLen] at hcm; omega) hs ?_ ?_
            · intro j x hx
              obtain ⟨v, hv, _⟩ := cell j x hx
              exact ⟨by rw [hv]; rfl, by simp [g00]⟩
            · intro j x hx
              obtain ⟨v, hv, hr⟩ := cell j x hx
              simp only [hv]; exact hr
          · intro x hx
            obtain ⟨i, hi, rfl⟩ := List.getElem_of_mem hx
            obtain ⟨csi, _, _, k3⟩ := hl2 i _ (List.getElem?_eq_getElem hi)
            exact k3
      | struct fs =>
        simp only [Bool.and_eq_true] at hd
        simp only at h
        split at h
        · rename_i hlen
          rw [Option.map_eq_some_iff] at h
          obtain ⟨xs, hm, _⟩ := h
          obtain ⟨ls, h1, h2⟩ := read_fields (fun t cs d ps => ih fuel t cs d ps) fs.toList cs 0 xs (by rw [hlen]; exact hd.1) (by simpa using hd.2) hm
          exact ⟨ls, by simpa using h1, h2⟩
        · simp at h
      | array m e =>
        simp only [Bool.and_eq_true, beq_iff_eq] at hd
        simp only at h
        split at h
        · rename_i hlen
          rw [Option.map_eq_some_iff] at h
          obtain ⟨xs, hm, _⟩ := h
          rw [List.range_eq_range'] at hm
          obtain ⟨ls, h1, h2⟩ := read_array (fun cs d ps => ih fuel e cs d ps hd.1) m 0 cs xs (by rw [hlen, hd.2]; simp) hm
          exact ⟨ls, by simpa using h1, h2⟩
        · simp at h
      | _ => simp at hd

theorem foreign00 (w : World) : Foreign w g00 [] := ⟨(fun _ _ _ h => nomatch h), (fun _ _ _ h => nomatch h), fun _ => rfl, fun _ h => h, (fun _ _ h => nomatch h)⟩
theorem below_of {w w' : World} {g' : G} (h : EvX w g00 w' g') : Below w.heap.size w w' := ⟨h.os, h.tape, h.output, h.size, fun k hk => (h.none k hk rfl).1⟩

/-- a datum of a type -/
def isRowT (P : Program) (t : TypeId) : Bool :=
  match P.underlying t with
  | some (.struct _) => true
  | some (.array _ _) => true
  | _ => false
def ShD (P : Program) (n : Nat) (t : TypeId) : D → Prop
  | .agg ls => isRowT P t = true ∧ Sh P n t ls
  | .l x => isRowT P t = false ∧ Sh P n t [x]
def ShDs (P : Program) (n : Nat) : List TypeId → List D → Prop
  | [], ds => ds = []
  | t :: ts, ds => ∃ x r, ds = x :: r ∧ ShD P n t x ∧ ShDs P n ts r

/-- an argument is read -/
theorem read_arg {n : Nat} {t : TypeId} {base : Nat} {v : Value} {d : DataW H} {ps : List MemPlace} (hd : dataT P n t = true) (hv : Value.okWide P W .any base t v) (h : DataW.Trod enc P W 0 (fun _ => true) true t v d ps) :
    ∃ x : D, RepV W g00 (fun _ => false) (.d x) v ∧ ShD P n t x := by
  obtain ⟨m, hm⟩ := h
  obtain ⟨ls, h1, h2⟩ := read n m t _ d ps hd hm
  unfold Value.okWide at hv
  have row : (∃ cs, v = .agg cs) → isRowT P t = true → ∃ x : D, RepV W g00 (fun _ => false) (.d x) v ∧ ShD P n t x := by
    rintro ⟨cs, rfl⟩ hr
    refine ⟨.agg ls, .d _ _ ⟨cs, rfl, by have := h1.1; simpa [Value.cells] using this.symm, fun i x u hx hu => h1.2 i x u hx (by simpa [Value.cells] using hu)⟩, hr, h2⟩
  cases hu : P.underlying t with
  | none => cases n <;> simp [dataT, hu] at hd
  | some desc =>
    rw [hu] at hv
    have one : isRowT P t = false → (∃ y, ls = [y]) → v.cells = #[v] → ∃ x : D, RepV W g00 (fun _ => false) (.d x) v ∧ ShD P n t x := by
      rintro hr ⟨y, rfl⟩ hc
      exact ⟨.l y, .d _ _ (h1.2 0 y v rfl (by simp [hc])), hr, h2⟩
    have fin : isRowT P t = false → (∃ y, ls = [y]) → Cell.okWide P W .any base t v → ∃ x : D, RepV W g00 (fun _ => false) (.d x) v ∧ ShD P n t x := by
      intro hr hy hc
      refine one hr hy ?_
      unfold Cell.okWide Cell.ok at hc
      rw [hu] at hc
      cases v <;> first | rfl | (cases desc <;> exact hc.elim)
    cases n with
    | zero => exact h2.elim
    | succ n =>
      rw [Sh] at h2
      rw [hu] at h2
      cases desc with
      | bool => obtain ⟨b, e⟩ := h2; exact fin (by simp [isRowT, hu]) ⟨_, e⟩ hv
      | int k => obtain ⟨z, e, _⟩ := h2; exact fin (by simp [isRowT, hu]) ⟨_, e⟩ hv
      | string => obtain ⟨z, e, _⟩ := h2; exact fin (by simp [isRowT, hu]) ⟨_, e⟩ hv
      | slice e' => obtain ⟨z, e, _⟩ := h2; exact fin (by simp [isRowT, hu]) ⟨_, e⟩ hv
      | struct fs => obtain ⟨cs, e, _⟩ := hv; exact row ⟨cs, e⟩ (by simp [isRowT, hu])
      | array k e' => obtain ⟨cs, e, _⟩ := hv; exact row ⟨cs, e⟩ (by simp [isRowT, hu])
      | _ => exact h2.elim

/-- all arguments are read -/
theorem read_args {n : Nat} {base : Nat} : ∀ {ts : List TypeId} {vs : List Value} {ds : List (DataW H)} {ps : List MemPlace}, (∀ t ∈ ts, dataT P n t = true) → (∀ (j : Nat) t v, ts[j]? = some t → vs[j]? = some v → Value.okWide P W .any base t v) →
    DataW.TrodAll enc P W 0 (fun _ => true) true ts vs ds ps → ∃ xs : List D, ShDs P n ts xs ∧ xs.length = vs.length ∧ ds.length = ts.length ∧ ∀ (i : Nat) (x : D) (u : Value), xs[i]? = some x → vs[i]? = some u → RepV W g00 (fun _ => false) (.d x) u
  | [], vs, ds, ps, hd, hv, h => by
    cases vs <;> cases ds <;> simp [DataW.TrodAll] at h
    exact ⟨[], rfl, rfl, rfl, by simp⟩
  | t :: ts, vs, ds, ps, hd, hv, h => by
    obtain ⟨v, vs', d, ds', p, q, rfl, rfl, rfl, h1, h2⟩ := trodAll_cons h
    obtain ⟨x, hx1, hx2⟩ := read_arg (hd t (by simp)) (hv 0 t v rfl rfl) h1
    obtain ⟨xs, k1, k2, k3, k4⟩ := read_args (fun t ht => hd t (by simp [ht])) (fun j t v e1 e2 => hv (j + 1) t v (by simpa using e1) (by simpa using e2)) h2
    refine ⟨x :: xs, ⟨x, xs, rfl, hx2, k1⟩, by simp [k2], by simp [k3], fun i y u hy hu => ?_⟩
    cases i with
    | zero => simp at hy hu; subst hy; subst hu; exact hx1
    | succ i => simp at hy hu; exact k4 i y u hy hu

/-- behind the call they read as before -/
theorem trodAll_below {W' : World} (hl : laidOutB P = true) : ∀ {ts : List TypeId} {vs : List Value} {ds : List (DataW H)} {ps : List MemPlace}, (∀ t ∈ ts, P.readableRec t = true ∧ t < P.types.size) → DataW.TrodAll enc P W 0 (fun _ => true) true ts vs ds ps →
    Below W.heap.size W W' → (∀ p ∈ ps, p.block < W.heap.size) → ∀ sp : Nat → Bool, (∀ p ∈ ps, sp p.block = true) → DataW.TrodAll enc P W' 0 sp true ts vs ds ps
  | [], vs, ds, ps, _, h, _, _, sp, _ => by
    cases vs <;> cases ds <;> simp [DataW.TrodAll] at h ⊢
    exact h
  | t :: ts, vs, ds, ps, hr, h, hb, hlt, sp, hs => by
    obtain ⟨v, vs', d, ds', p, q, rfl, rfl, rfl, h1, h2⟩ := trodAll_cons h
    exact ⟨p, q, WideElems.Trod_stays hl (hr t (by simp)).1 (hr t (by simp)).2 h1 (fun x hx => hb.same (hlt x (by simp [hx]))) (fun x hx => hs x (by simp [hx])),
      trodAll_below hl (fun t ht => hr t (by simp [ht])) h2 hb (fun x hx => hlt x (by simp [hx])) sp (fun x hx => hs x (by simp [hx])), rfl⟩

/-- 'post', where below the heap's old size nothing has turned -/
theorem post_below {f : Func} {s : ChangeSpec} {apart fresh handsOn again : Bool} {W' : World} {args : Array Value} {v : Value} {ds gs : List (DataW H)} {before pa pv : List MemPlace}
    (hW : DataW.Whole enc P f.params.toList s.vars apart W args.toList ds gs before) (hb : Below W.heap.size W W')
    (hres : ∀ (b : Nat) (sp : Nat → Bool) (hd : Bool), DataW.TrodAll enc P W' b sp hd f.resultTypes.toList (v.resultList f.resultTypes.size) (s.fn H (ds ++ gs)).results [])
    (hargs : ∀ sp : Nat → Bool, (∀ p ∈ before, sp p.block = true) → DataW.TrodAll enc P W' 0 sp true f.params.toList args.toList (s.fn H (ds ++ gs)).args pa)
    (hvars : ∀ sp : Nat → Bool, (∀ p ∈ before, sp p.block = true) → DataW.TrodVars enc P W' sp s.vars (s.fn H (ds ++ gs)).vars pv)
    (hps : before = pa ++ pv)
    (hok : ∀ (j : Nat) (t : TypeId) (r : Value), f.resultTypes[j]? = some t → (v.resultList f.resultTypes.size)[j]? = some r → Value.okWide P W' .any 0 t r) :
    s.post enc P f apart fresh handsOn again W args v W' := by
  have hlt : ∀ p ∈ before, p.block < W.heap.size := fun p hp => by simpa using hW.lt p hp
  have hold : ∀ p ∈ before, (fun b => decide (b < W.heap.size)) p.block = true := fun p hp => by simpa using hlt p hp
  refine ⟨ds, gs, before, [], pa, pv, hW, hres _ _ _, hargs _ hold, hvars _ hold, hb.frame _, fun _ => ?_⟩
  obtain ⟨_, _, _, _, _, hz, hn⟩ := hW
  refine ⟨hok, _, _, ([] ++ pa) ++ pv, ⟨[] ++ pa, pv, trodAll_append (hargs _ (fun _ _ => rfl)) (hres _ _ _), hvars _ (fun _ _ => rfl), rfl, ?_, ?_⟩, ?_⟩
  · intro b off hp
    have hp' : MemPlace.cell b off ∈ before := by rw [hps]; simpa using hp
    have hb' := hlt _ hp'
    rw [hb.frozen (p := ⟨b, off, none⟩) hb']
    exact hz b off hp'
  · intro ha
    have := hn ha
    rw [hps] at this
    simpa using this
  · intro p hp _
    rw [hps]
    simpa using hp

/-- A ROW OF THE FORM 'true; the arguments read as they did', OUT OF A CONTRACT -/
theorem row_true {gl : List (Nat × Array Value)} {k : Nat} {f : Func} {s : ChangeSpec} {n : Nat} {tb : TypeId} {base : Nat} {args : Array Value} {ds gs : List (DataW H)} {before : List MemPlace}
    (hl : laidOutB P = true) (hts : ∀ t ∈ f.params.toList, dataT P n t = true ∧ P.readableRec t = true ∧ t < P.types.size) (hres : f.resultTypes = #[tb]) (hbool : P.underlying tb = some .bool) (hvars : s.vars = [])
    (hfn : ∀ ds : List (DataW H), ds.length = f.params.toList.length → s.fn H ds = { results := [.lit (.bool true)], args := ds })
    (hM : ∀ xs : List D, ShDs P n f.params.toList xs → Meets P gl k (xs.map V.d) (.bool true)) (hF : Foreign W g00 gl)
    (hval : ∀ (j : Nat) t v, f.params[j]? = some t → args[j]? = some v → Value.okWide P W .any base t v)
    (hW : DataW.Whole enc P f.params.toList s.vars false W args.toList ds gs before) :
    Calls P k args W fun e W' => ∃ v, e = .returned v ∧ s.post enc P f false true false false W args v W' := by
  have hW' := hW
  obtain ⟨p, q, hA, hV, rfl, hfz, hnd⟩ := hW
  rw [hvars] at hV
  obtain ⟨rfl, rfl⟩ := trodVars_none hV
  obtain ⟨xs, h1, h2, h3, h4⟩ := read_args (fun t ht => (hts t ht).1) (fun j t v e1 e2 => hval j t v (by simpa using e1) (by simpa using e2)) hA
  refine (callsIn_wide (n := 0)).1 (((hM xs h1).2.2 0 W g00 args hF (by simpa using h2.symm) ?_).mono fun e W' ⟨val, g', he, hr, hev, _⟩ => ?_)
  · intro i x u hx hu
    simp only [List.getElem?_map, Option.map_eq_some_iff] at hx
    obtain ⟨y, hy, rfl⟩ := hx
    exact h4 i y u hy (by simpa using hu)
  · have hb := below_of hev
    refine ⟨_, he, ?_⟩
    rw [hr.lit_inv]
    have hds := hfn (ds ++ []) (by simpa using h3)
    refine post_below (pa := p) (pv := []) hW' hb (fun _ _ _ => ?_) (fun sp hsp => ?_) (fun _ _ => ?_) rfl (ok_one hres rfl (okWide_bool_mk hbool true))
    · rw [hds, hres]; exact trodAll_mk1 (shut_bool hbool true)
    · rw [hds]
      rw [List.append_nil]
      exact trodAll_below hl (fun t ht => (hts t ht).2) hA hb (fun x hx => by simpa using hW'.lt x (by simpa using hx)) sp (fun x hx => hsp x (by simpa using hx))
    · rw [hds, hvars]; rfl

/-! ### shapes, opened -/
theorem Sh_int {n : Nat} {t : TypeId} {k : IntKind} (hu : P.underlying t = some (.int k)) {ls : List L} (h : Sh P n t ls) : ∃ z, ls = [.lit (.int k z)] ∧ k.min ≤ z ∧ z ≤ k.max := by
  cases n with
  | zero => exact h.elim
  | succ n => rw [Sh, hu] at h; exact h
theorem Sh_bool {n : Nat} {t : TypeId} (hu : P.underlying t = some .bool) {ls : List L} (h : Sh P n t ls) : ∃ b, ls = [.lit (.bool b)] := by
  cases n with
  | zero => exact h.elim
  | succ n => rw [Sh, hu] at h; exact h
theorem Sh_string {n : Nat} {t : TypeId} (hu : P.underlying t = some .string) {ls : List L} (h : Sh P n t ls) : ∃ s : ByteArray, ls = [.lit (.string s)] ∧ s.size ≤ 9223372036854775807 := by
  cases n with
  | zero => exact h.elim
  | succ n => rw [Sh, hu] at h; exact h
theorem Sh_struct {n : Nat} {t : TypeId} {fs : Array Field} (hu : P.underlying t = some (.struct fs)) {ls : List L} (h : Sh P n t ls) : ShAll (Sh P (n - 1)) (fs.toList.map (·.type)) ls := by
  cases n with
  | zero => exact h.elim
  | succ n => rw [Sh, hu] at h; exact h
theorem Sh_array {n : Nat} {t e : TypeId} {m : Nat} (hu : P.underlying t = some (.array m e)) {ls : List L} (h : Sh P n t ls) : ShAll (Sh P (n - 1)) (List.replicate m e) ls := by
  cases n with
  | zero => exact h.elim
  | succ n => rw [Sh, hu] at h; exact h
theorem list_choose {α β : Type} {f : α → β} {p : α → Prop} : ∀ {l : List β}, (∀ x ∈ l, ∃ a, x = f a ∧ p a) → ∃ m : List α, l = m.map f ∧ ∀ a ∈ m, p a
  | [], _ => ⟨[], rfl, by simp⟩
  | x :: l, h => by
    obtain ⟨a, rfl, ha⟩ := h x (by simp)
    obtain ⟨m, rfl, hm⟩ := list_choose (l := l) (fun x hx => h x (List.mem_cons_of_mem _ hx))
    refine ⟨a :: m, rfl, fun b hb => ?_⟩
    rcases List.mem_cons.1 hb with rfl | hb
    · exact ha
    · exact hm b hb
theorem Sh_slice {α : Type} {n : Nat} {t e : TypeId} {c : Nat} (hu : P.underlying t = some (.slice e)) (hc : P.cellsOf e = c) (f : α → List L) (p : α → Prop) (hf : ∀ m ls, Sh P m e ls → ∃ a, ls = f a ∧ p a) {ls : List L} (h : Sh P n t ls) :
    ∃ l : List α, ls = [.sl c (l.map f)] ∧ l.length ≤ 9223372036854775807 ∧ ∀ a ∈ l, p a := by
  cases n with
  | zero => exact h.elim
  | succ n =>
    rw [Sh, hu] at h
    obtain ⟨l, rfl, hl, hs⟩ := h
    obtain ⟨m, rfl, hm⟩ := list_choose (f := f) (p := p) (fun x hx => hf n x (hs x hx))
    exact ⟨m, by rw [hc], by simpa using hl, hm⟩
theorem ShD_one {n : Nat} {t : TypeId} {x : D} (hr : isRowT P t = false) (h : ShD P n t x) : ∃ y, x = .l y ∧ Sh P n t [y] := by
  cases x with
  | l y => exact ⟨y, rfl, h.2⟩
  | agg ls => rw [h.1] at hr; cases hr
theorem ShD_row {n : Nat} {t : TypeId} {x : D} (hr : isRowT P t = true) (h : ShD P n t x) : ∃ ls, x = .agg ls ∧ Sh P n t ls := by
  cases x with
  | l y => rw [h.1] at hr; cases hr
  | agg ls => exact ⟨ls, rfl, h.2⟩
theorem isRowT_of {t : TypeId} {d : TypeDesc} (hu : P.underlying t = some d) : isRowT P t = isAgg ⟨d, 0, 0, .bool false, false⟩ := by
  rw [isRowT, hu, isAgg]
  cases d <;> rfl
theorem ShD_int {n : Nat} {t : TypeId} {k : IntKind} (hu : P.underlying t = some (.int k)) {x : D} (h : ShD P n t x) : ∃ z, x = .l (.lit (.int k z)) ∧ k.min ≤ z ∧ z ≤ k.max := by
  obtain ⟨y, rfl, hy⟩ := ShD_one (by rw [isRowT_of hu]; rfl) h
  obtain ⟨z, e, hz⟩ := Sh_int hu hy
  cases e
  exact ⟨z, rfl, hz⟩
theorem ShD_string {n : Nat} {t : TypeId} (hu : P.underlying t = some .string) {x : D} (h : ShD P n t x) : ∃ s : ByteArray, x = .l (.lit (.string s)) ∧ s.size ≤ 9223372036854775807 := by
  obtain ⟨y, rfl, hy⟩ := ShD_one (by rw [isRowT_of hu]; rfl) h
  obtain ⟨z, e, hz⟩ := Sh_string hu hy
  cases e
  exact ⟨z, rfl, hz⟩
theorem ShD_slice {α : Type} {n : Nat} {t e : TypeId} {c : Nat} (hu : P.underlying t = some (.slice e)) (hc : P.cellsOf e = c) (f : α → List L) (p : α → Prop) (hf : ∀ m ls, Sh P m e ls → ∃ a, ls = f a ∧ p a) {x : D} (h : ShD P n t x) :
    ∃ l : List α, x = .l (.sl c (l.map f)) ∧ l.length ≤ 9223372036854775807 ∧ ∀ a ∈ l, p a := by
  obtain ⟨y, rfl, hy⟩ := ShD_one (by rw [isRowT_of hu]; rfl) h
  obtain ⟨l, e, hl⟩ := Sh_slice hu hc f p hf hy
  cases e
  exact ⟨l, rfl, hl⟩
end Go.Proofs.YtokomdenoegkgaaDoor.Abs
