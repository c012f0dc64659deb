/-
  Further operations that only compute.
-/
import Derived.Test.YtokomdenoegkgaaDoorOAbs9
import Derived.Laws.IdiomStrings
set_option linter.unusedVariables false
set_option linter.unusedSimpArgs false
namespace Go.Proofs.YtokomdenoegkgaaDoor.Abs
open Go

variable {P : Program} {T : List (Nat × TI)} {E : Env} {w : World} {g : G} {K : V → Prop} {tk : Nat → Bool} {ob : Prop → Prop}

theorem optI_rep {x : Option V} {n : Option Int} {vx : Option Value} (h : optI x = some n) (hr : ∀ a b, x = some a → vx = some b → RepV w g tk a b) (hs : vx.isSome = x.isSome) :
    (n = none → vx = none) ∧ ∀ i, n = some i → ∃ k, vx = some (.int k i) := by
  unfold optI at h
  split at h
  · cases h; simp at hs; simp [hs]
  · cases h
    cases vx with
    | none => simp at hs
    | some v =>
      have := (hr _ _ rfl rfl).lit_inv
      subst this
      simp
  · simp at h

theorem run_sliceD {t e : TypeId} {i : TypeInfo} {a : Option Addr} {len cap : Nat} (hu : P.underlying t = some (.slice e)) (hi : P.info? e = some i) (lo hi' : Option Value) (x y : Nat)
    (h1 : (lo = none ∧ x = 0) ∨ ∃ k, lo = some (.int k x)) (h2 : (hi' = none ∧ y = len) ∨ ∃ k, hi' = some (.int k y)) (hxy : x ≤ y) (hy : y ≤ cap) :
    (Instr.sliceAt t (.slice a len cap) lo hi' none).run P w = .ok (.slice (if cap = x then a else a.map (·.add (x * i.size))) (y - x) (cap - x)) w := by
  have b1 : (0 : Int) ≤ (y : Int) ∧ (y : Int) ≤ (cap : Int) := by omega
  have b2 : (0 : Int) ≤ (x : Int) ∧ (x : Int) ≤ (y : Int) := by omega
  rcases h1 with ⟨rfl, rfl⟩ | ⟨k, rfl⟩ <;> rcases h2 with ⟨rfl, rfl⟩ | ⟨k', rfl⟩ <;>
    simp [Instr.sliceAt, run_underlying hu, Instr.slice, Instr.sliceBounds, Instr.sliceBound, asIntOf, b1, b2, hxy, hy, run_sizeOf' hi]

theorem flatten_drop {α : Type} : ∀ (l : List (List α)) (s i j : Nat) (x : α), (∀ y ∈ l, y.length = s) → (l.drop i).flatten[j]? = some x → l.flatten[i * s + j]? = some x
  | l, s, 0, j, x, _, h => by simpa using h
  | [], s, i + 1, j, x, _, h => by simp at h
  | a :: l, s, i + 1, j, x, hs, h => by
    have ih := flatten_drop l s i j x (fun y hy => hs y (by simp [hy])) (by simpa using h)
    have ha := hs a (by simp)
    simp only [List.flatten_cons]
    have e : (i + 1) * s + j = a.length + (i * s + j) := by rw [ha, Nat.succ_mul]; omega
    rw [e, List.getElem?_append_right (by omega)]
    simpa using ih

theorem cut_rep {s : Nat} {l : List (List L)} {a : Option Addr} {cap x y : Nat} (h : RepL w g (.sl s l) (.slice a l.length cap)) (hxy : x ≤ y) (hy : y ≤ l.length) :
    RepL w g (.sl s ((l.take y).drop x)) (.slice (if cap = x then a else a.map (·.add (x * s))) (y - x) (cap - x)) := by
  obtain ⟨a', cap', b, off, f, e, ha, hn, hl', hb, hss, hc, hr⟩ := h.sl_inv
  cases e
  have hlen : ((l.take y).drop x).length = y - x := by simp; omega
  obtain ⟨r, hr'⟩ := flatten_take l y
  have pre : ∀ (q : Nat) (z : L), ((l.take y).drop x).flatten[q]? = some z → l.flatten[x * s + q]? = some z := by
    intro q z hq
    have := flatten_drop (l.take y) s x q z (fun y' hy' => hss y' (List.mem_of_mem_take hy')) hq
    rw [hr', List.getElem?_append_left (List.getElem?_eq_some_iff.1 this).1]; exact this
  have := RepL.sl (w := w) (g := g) s ((l.take y).drop x) (if cap = x then a else a.map (·.add (x * s))) (cap - x) b (off + x * s) (fun j => f (x * s + j)) ?_ ?_ ?_ ?_ ?_ ?_ ?_
  · rw [hlen] at this; exact this
  · intro hne
    have hlt : x < y := Nat.lt_of_not_le fun hle => hne (by rw [← List.length_eq_zero_iff, hlen]; omega)
    have := ha (fun e => by subst e; simp at hy; omega)
    rw [if_neg (by omega), this]
    simp [Addr.add]
  · intro e
    split at e
    · have := hn e; omega
    · cases a with
      | none => have := hn rfl; omega
      | some _ => simp at e
  · omega
  · omega
  · intro z hz; exact hss z (List.mem_of_mem_take (List.mem_of_mem_drop hz))
  · intro q z hq
    have := hc _ z (pre q z hq)
    rwa [← Nat.add_assoc] at this
  · intro q z hq; exact hr _ z (pre q z hq)

theorem WsliceD_ok (hT : TysOk P T) (hob : ∀ p, ob p → p) {t : Nat} {x : V} {lo hi : Option V} {vx : Value} {vlo vhi : Option Value} (hx : RepV w g tk x vx)
    (hlo : ∀ a b, lo = some a → vlo = some b → RepV w g tk a b) (hls : vlo.isSome = lo.isSome) (hhi : ∀ a b, hi = some a → vhi = some b → RepV w g tk a b) (hhs : vhi.isSome = hi.isSome) (hW : WsliceD T ob t x lo hi K) :
    ∃ val, (Instr.sliceAt t vx vlo vhi none).run P w = .ok val w ∧ ∃ v, K v ∧ RepV w g tk v val := by
  unfold WsliceD at hW
  cases hl : look T t with
  | none => rw [hl] at hW; simp at hW
  | some ti =>
    rw [hl] at hW
    simp only at hW
    obtain ⟨hu, inf, hinf, hsz, _⟩ := hT t ti hl
    split at hW
    · rename_i e hd
      rw [hd] at hu
      cases hle : look T e with
      | none => rw [hle] at hW; simp at hW
      | some te =>
        rw [hle] at hW
        simp only at hW
        obtain ⟨hu2, i2, hi2, hsz2, _⟩ := hT e te hle
        cases hs : V.asSl te.size x with
        | none => rw [hs] at hW; simp at hW
        | some l =>
          rw [hs] at hW
          simp only at hW
          have hrep := asSl_rep hx hs
          obtain ⟨a, cap, b, off, f, rfl, ha, hn, hl', hb, hss, hc, hr⟩ := hrep.sl_inv
          have fin : ∀ x y, x ≤ y → y ≤ l.length → ((vlo = none ∧ x = 0) ∨ ∃ k, vlo = some (.int k x)) → ((vhi = none ∧ y = l.length) ∨ ∃ k, vhi = some (.int k y)) → K (.d (.l (.sl te.size ((l.take y).drop x)))) →
              ∃ val, (Instr.sliceAt t (.slice a l.length cap) vlo vhi none).run P w = .ok val w ∧ ∃ v, K v ∧ RepV w g tk v val := by
            intro x y hxy hy h1 h2 hK
            refine ⟨_, run_sliceD hu hi2 vlo vhi x y h1 h2 hxy (by omega), _, hK, ?_⟩
            rw [hsz2]
            exact .d _ _ (cut_rep hrep hxy hy)
          split at hW
          · rename_i h1 h2
            have k1 := (optI_rep h1 hlo hls).1 rfl
            have k2 := (optI_rep h2 hhi hhs).1 rfl
            exact fin 0 l.length (Nat.zero_le _) (Nat.le_refl _) (.inl ⟨k1, rfl⟩) (.inl ⟨k2, rfl⟩) (by simpa using hW)
          · rename_i n h1 h2
            obtain ⟨i, hi0, hK⟩ := hW
            obtain ⟨rfl, hi1⟩ := hob _ hi0
            have k1 := (optI_rep h1 hlo hls).2 _ rfl
            have k2 := (optI_rep h2 hhi hhs).1 rfl
            exact fin i l.length hi1 (Nat.le_refl _) (.inr k1) (.inl ⟨k2, rfl⟩) (by simpa using hK)
          · rename_i n h1 h2
            obtain ⟨j, hi0, hK⟩ := hW
            obtain ⟨rfl, hi1⟩ := hob _ hi0
            have k1 := (optI_rep h1 hlo hls).1 rfl
            have k2 := (optI_rep h2 hhi hhs).2 _ rfl
            exact fin 0 j (Nat.zero_le _) hi1 (.inl ⟨k1, rfl⟩) (.inr k2) (by simpa using hK)
          · rename_i n m h1 h2
            obtain ⟨⟨i, j⟩, hi0, hK⟩ := hW
            obtain ⟨rfl, rfl, hij, hjl⟩ := hob _ hi0
            have k1 := (optI_rep h1 hlo hls).2 _ rfl
            have k2 := (optI_rep h2 hhi hhs).2 _ rfl
            exact fin i j hij hjl (.inr k1) (.inr k2) hK
          · exact hW.elim
    · rename_i hd
      rw [hd] at hu
      split at hW
      · rename_i s
        cases hx.lit_inv
        have fin : ∀ x y, x ≤ y → y ≤ s.size → ((vlo = none ∧ x = 0) ∨ ∃ k, vlo = some (.int k x)) → ((vhi = none ∧ y = s.size) ∨ ∃ k, vhi = some (.int k y)) → K (.d (.l (.lit (.string (s.extract x y))))) →
            ∃ val, (Instr.sliceAt t (.string s) vlo vhi none).run P w = .ok val w ∧ ∃ v, K v ∧ RepV w g tk v val := by
          intro x y hxy hy h1 h2 hK
          refine ⟨.string (s.extract x y), ?_, _, hK, litRep _ rfl⟩
          have b1 : (0 : Int) ≤ (y : Int) ∧ (y : Int) ≤ (s.size : Int) := by omega
          have b2 : (0 : Int) ≤ (x : Int) ∧ (x : Int) ≤ (y : Int) := by omega
          rcases h1 with ⟨rfl, rfl⟩ | ⟨k, rfl⟩ <;> rcases h2 with ⟨rfl, rfl⟩ | ⟨k', rfl⟩ <;>
            simp [Instr.sliceAt, run_underlying hu, Instr.slice, Instr.sliceBounds, Instr.sliceBound, asIntOf, b1, b2, hxy, hy]
        split at hW
        · rename_i n h1 h2
          obtain ⟨i, hi0, hK⟩ := hW
          obtain ⟨rfl, hi1⟩ := hob _ hi0
          exact fin i s.size hi1 (Nat.le_refl _) (.inr ((optI_rep h1 hlo hls).2 _ rfl)) (.inl ⟨(optI_rep h2 hhi hhs).1 rfl, rfl⟩) hK
        · rename_i n h1 h2
          obtain ⟨j, hi0, hK⟩ := hW
          obtain ⟨rfl, hi1⟩ := hob _ hi0
          exact fin 0 j (Nat.zero_le _) hi1 (.inl ⟨(optI_rep h1 hlo hls).1 rfl, rfl⟩) (.inr ((optI_rep h2 hhi hhs).2 _ rfl)) hK
        · rename_i n m h1 h2
          obtain ⟨⟨i, j⟩, hi0, hK⟩ := hW
          obtain ⟨rfl, rfl, hij, hjl⟩ := hob _ hi0
          exact fin i j hij hjl (.inr ((optI_rep h1 hlo hls).2 _ rfl)) (.inr ((optI_rep h2 hhi hhs).2 _ rfl)) hK
        · exact hW.elim
      · exact hW.elim
    · exact hW.elim

theorem Windex_ok (hT : TysOk P T) (hob : ∀ p, ob p → p) {t : Nat} {x i : V} {vx vi : Value} (hx : RepV w g tk x vx) (hi : RepV w g tk i vi) (hW : Windex T ob t x i K) :
    ∃ val, (Instr.index t vx vi).run P w = .ok val w ∧ ∃ v, K v ∧ RepV w g tk v val := by
  unfold Windex at hW
  cases hl : look T t with
  | none => rw [hl] at hW; simp at hW
  | some ti =>
    rw [hl] at hW
    simp only at hW
    obtain ⟨hu, inf, hinf, hsz, _⟩ := hT t ti hl
    split at hW
    · rename_i hd
      rw [hd] at hu
      split at hW
      · rename_i s k n
        cases hx.lit_inv
        cases hi.lit_inv
        obtain ⟨y, h0, hK⟩ := hW
        obtain ⟨h1, h2⟩ := hob _ h0
        exact ⟨_, by simp [Instr.index, asIntOf, run_underlying hu, h1, h2], _, hK, litRep _ rfl⟩
      · exact hW.elim
    · exact hW.elim

theorem Wminmax_ok {mx : Bool} {x y : V} {vx vy : Value} (hx : RepV w g tk x vx) (hy : RepV w g tk y vy) (hW : Wminmax mx x y K) (ts : Array TypeId) (t : TypeId) :
    ∃ val, (match mx with | true => Builtin.max_ ts t #[vx, vy] | false => Builtin.min_ ts t #[vx, vy]).run P w = .ok val w ∧ ∃ v, K v ∧ RepV w g tk v val := by
  unfold Wminmax at hW
  split at hW
  · rename_i k a k' b
    cases hx.lit_inv
    cases hy.lit_inv
    cases mx with
    | true =>
      refine ⟨.int k (max a b), ?_, _, hW, litRep _ rfl⟩
      simp only [Builtin.max_, List.foldlM, Builtin.max2]
      simp
      omega
    | false =>
      refine ⟨.int k (min a b), ?_, _, hW, litRep _ rfl⟩
      simp only [Builtin.min_, List.foldlM, Builtin.min2]
      simp
      omega
  · exact hW.elim

theorem Wconvert_ok (hT : TysOk P T) (hob : ∀ p, ob p → p) {K : Kont} {bxF : Nat → Option Box} {fr : Nat → Prop} {st nid : Nat} {s d : Nat} {x : V} {vx : Value} (hH : HOk E w g bxF tk fr st) (hfr : ∀ v d, K v d → ∀ x, d.nid ≤ x → x < nid → fr x) (hx : RepV w g tk x vx) (hW : Wconvert T ob nid s d x K) :
    ∃ val w', (convert s d vx).run P w = .ok val w' ∧ Post E w g bxF tk fr st nid K val w' := by
  unfold Wconvert at hW
  split at hW
  · rename_i ts td h1 h2
    obtain ⟨hu, _⟩ := hT s ts h1
    obtain ⟨hu2, _⟩ := hT d td h2
    split at hW
    · rename_i k hd
      rw [hd] at hu2
      split at hW
      · rename_i k0 n
        cases hx.lit_inv
        refine ⟨.int k (k.wrap n), w, ?_, post_same hH hW (litRep _ rfl)⟩
        simp [convert, run_underlying hu, run_underlying hu2, Conv.intToInt]
      · exact hW.elim
    · rename_i e hd
      rw [hd] at hu2
      split at hW
      · rename_i n te str hle hs
        obtain ⟨hu3, _⟩ := hT e te hle
        split at hW
        · rename_i h8
          have hd8 : te.desc = .int .u8 := by unfold isU8 at h8; split at h8 <;> simp_all
          have hds : ts.desc = .string := by unfold isStr at hs; split at hs <;> simp_all
          rw [hd8] at hu3
          rw [hds] at hu
          obtain ⟨hb, hK⟩ := hW
          have hb := hob _ hb
          cases hx.lit_inv
          have hrun := run_bytes_of_string w s d e str hu hu2 hu3
          have hge := grownCap_ge w str.size 0 e
          have hl : (bytesL str).length = str.size := by rw [bytesL, List.length_map, ByteArray.toList_eq]; rfl
          have hss : ∀ y ∈ bytesL str, y.length = 1 := by
            intro y hy
            simp only [bytesL, List.mem_map] at hy
            obtain ⟨b, _, rfl⟩ := hy
            rfl
          have hP := newArr_post (K := K) (ks := []) hH (hfr _ _ hK n (Nat.le_refl _) (Nat.lt_succ_self n)) 1 (bytesL str) (bytesRow str (grownCap w str.size 0 e)) e (grownCap w str.size 0 e) (grown1_drew w _) hss ?_ (by rw [hl]; exact hge) (by rw [hl]; omega) ?_ hK (fz := ((bytesRow str (grownCap w str.size 0 e)).size, (bytesRow str (grownCap w str.size 0 e)).size + 1)) (hfz := .inr (Nat.le_refl _))
          · rw [hl] at hP
            exact ⟨_, _, hrun, hP⟩
          · intro j y hj
            obtain ⟨i, m, z, rfl, hm, hz, hzy⟩ := flatten_inv hss j y hj
            have hm0 : m = 0 := by omega
            subst hm0
            simp only [bytesL, List.getElem?_map, Option.map_eq_some_iff] at hz
            obtain ⟨b, hb2, rfl⟩ := hz
            simp at hzy
            subst hzy
            refine ⟨.int .u8 b.toNat, ?_, .lit _ rfl⟩
            have hb3 : str.data[i]? = some b := by rw [ByteArray.toList_eq] at hb2; simpa using hb2
            have hilt : i < str.data.size := (Array.getElem?_eq_some_iff.1 hb3).1
            simp only [bytesRow, Nat.mul_one, Nat.add_zero]
            rw [Array.getElem?_append_left (by simpa using hilt)]
            simp [hb3]
          · have e1 : (bytesRow str (grownCap w str.size 0 e)).size = str.size + (grownCap w str.size 0 e - str.size) := by
              rw [bytesRow, Array.size_append, Array.size_map, Array.size_replicate]; rfl
            rw [e1]
            omega
        · exact hW.elim
      · exact hW.elim
    · rename_i hd
      rw [hd] at hu2
      split at hW
      · rename_i e he
        have hsd := elemOf_spec he
        rw [hsd] at hu
        split at hW
        · rename_i te l hle hasl
          obtain ⟨hu3, _⟩ := hT e te hle
          split at hW
          · rename_i h8
            have hd8 : te.desc = .int .u8 := by unfold isU8 at h8; split at h8 <;> simp_all
            rw [hd8] at hu3
            obtain ⟨str, hl0, hK⟩ := hW
            have hl0 := hob _ hl0
            subst hl0
            have hl : (bytesL str).length = str.toList.length := by simp [bytesL]
            obtain ⟨a, cap, b, off, f, rfl, ha, hn, hl', hb, hss, hc, hr⟩ := (asSl_rep hx hasl).sl_inv
            refine ⟨.string str, w, ?_, post_same hH hK (litRep _ rfl)⟩
            cases a with
            | none =>
              have h0 : bytesL str = [] := Classical.byContradiction fun h => by have := ha h; simp at this
              have h1 : str.toList = [] := by simpa [bytesL] using h0
              rw [run_convert_bytes_string w s d e none _ cap hu hu3 hu2]
              have : str = .empty := by
                obtain ⟨⟨q⟩⟩ := str
                rw [ByteArray.toList_eq] at h1
                simp at h1
                subst h1
                rfl
              subst this
              simp [Conv.bytesToString]
            | some ad =>
              by_cases h0 : bytesL str = []
              · have h1 : str.toList = [] := by simpa [bytesL] using h0
                have : str = .empty := by
                  obtain ⟨⟨q⟩⟩ := str
                  rw [ByteArray.toList_eq] at h1
                  simp at h1
                  subst h1
                  rfl
                subst this
                have := run_convert_bytes_back w s d e ad cap [] hu hu3 hu2 (by simp)
                rw [h0]
                exact this
              · have had := ha h0
                cases had
                have := run_convert_bytes_back w s d e ⟨b, off, none⟩ cap str.toList hu hu3 hu2 (fun j hj => by
                  rw [Addr.add_mid]
                  have hg : (bytesL str).flatten[j * 1 + 0]? = some (.lit (.int .u8 str.toList[j].toNat)) := flatten_get hss j [.lit (.int .u8 str.toList[j].toNat)] (by simp [bytesL, List.getElem?_eq_getElem hj]) 0 _ rfl
                  simp only [Nat.mul_one, Nat.add_zero] at hg
                  rw [(hc j _ hg).1]
                  have := hr j _ hg
                  generalize f j = z at this
                  cases this
                  rfl)
                rw [hl]
                rw [this]
                congr 2
                rw [ByteArray.toList_eq]
          · exact hW.elim
        · exact hW.elim
      · exact hW.elim
    · exact hW.elim
  · exact hW.elim

theorem fill_one {off : Nat} {vs : Array Value} {cells : Array Value} (h : off + vs.size ≤ cells.size) :
    (vs.zipIdx.foldl (fun cs x => match x with | (c, j) => cs.setIfInBounds (off + j) c) cells).size = cells.size ∧
    ∀ i : Nat, (vs.zipIdx.foldl (fun cs x => match x with | (c, j) => cs.setIfInBounds (off + j) c) cells)[i]? = if off ≤ i ∧ i < off + vs.size then vs[i - off]? else cells[i]? := by
  obtain ⟨f1, f2⟩ := foldl_put vs.toList off 0 cells (by simp; omega)
  have e : (vs.zipIdx.foldl (fun cs (p : Value × Nat) => cs.setIfInBounds (off + p.2) p.1) cells) = (vs.toList.zipIdx 0).foldl (fun cs (p : Value × Nat) => cs.setIfInBounds (off + p.2) p.1) cells := by
    rw [← Array.foldl_toList, Array.toList_zipIdx]
  have e' : (vs.zipIdx.foldl (fun cs x => match x with | (c, j) => cs.setIfInBounds (off + j) c) cells) = (vs.toList.zipIdx 0).foldl (fun cs (p : Value × Nat) => cs.setIfInBounds (off + p.2) p.1) cells := e
  rw [e']
  exact ⟨f1, fun i => by rw [f2]; simp⟩

theorem buildCells_ok (hT : TysOk P T) {ti : TI} {place : Nat → Option (Nat × Nat)} (hp : ∀ i o n, fldPl T ti i = some (o, n) → place i = some (o, n)) :
    ∀ (parts : List (Nat × V)) (vparts : List (Nat × Value)) (cs : List V) (cells : Array Value) (cs' : List V), vparts.length = parts.length → (∀ (j : Nat) (p : Nat × V) (q : Nat × Value), parts[j]? = some p → vparts[j]? = some q → q.1 = p.1 ∧ RepV w g tk p.2 q.2) →
      cells.size = cs.length → (∀ (i : Nat) (x : V) (u : Value), cs[i]? = some x → cells[i]? = some u → RepV w g tk x u) → buildCells T ti parts cs = some cs' →
      ∃ r, Instr.fill place cells vparts = some r ∧ r.size = cs'.length ∧ ∀ (i : Nat) (x : V) (u : Value), cs'[i]? = some x → r[i]? = some u → RepV w g tk x u
  | [], vparts, cs, cells, cs', hl, _, hs, hr, h => by
    have : vparts = [] := List.eq_nil_of_length_eq_zero (by simpa using hl)
    subst this
    simp [buildCells] at h
    subst h
    exact ⟨cells, rfl, hs, hr⟩
  | (i, v) :: parts, [], _, _, _, hl, _, _, _, _ => by simp at hl
  | (i, v) :: parts, (i', u) :: vparts, cs, cells, cs', hl, hpr, hs, hr, h => by
    obtain ⟨rfl, hv⟩ := hpr 0 _ _ rfl rfl
    simp only at hv
    simp only [buildCells] at h
    cases hf : fldPl T ti i' with
    | none => rw [hf] at h; simp at h
    | some p =>
      obtain ⟨o, n⟩ := p
      rw [hf] at h
      simp only at h
      cases h1 : Nat.beq v.cells.length n with
      | false => rw [h1] at h; simp at h
      | true => cases h2 : V.leafs v.cells with
        | false => rw [h1, h2] at h; simp at h
        | true => cases h3 : Nat.ble (o + n) cs.length with
          | false => rw [h1, h2, h3] at h; simp at h
          | true =>
            rw [h1, h2, h3] at h
            simp only at h
            have h1' := Nat.eq_of_beq_eq_true h1
            have h3' := Nat.le_of_ble_eq_true h3
            obtain ⟨c1, c2, c3⟩ := hv.cells h2
            obtain ⟨f1, f2⟩ := fill_one (off := o) (vs := u.cells) (cells := cells) (by omega)
            obtain ⟨c, hc⟩ : ∃ c, c = (u.cells.zipIdx.foldl (fun cs x => match x with | (c, j) => cs.setIfInBounds (o + j) c) cells) := ⟨_, rfl⟩
            rw [← hc] at f1 f2
            have hle : o + v.cells.length ≤ cs.length := by omega
            obtain ⟨r, hr1, hr2, hr3⟩ := buildCells_ok hT hp parts vparts (setCells cs o v.cells) c cs' (by simpa using hl) (fun j p q hp' hq => hpr (j + 1) p q (by simpa using hp') (by simpa using hq)) (by
              rw [f1, setCells_eq _ _ _ hle]; simp; omega) (by
              intro j x y hx hy
              rw [setCells_eq _ _ _ hle, splice_get _ _ _ _ hle] at hx
              rw [f2] at hy
              by_cases j1 : j < o
              · rw [if_pos j1] at hx; rw [if_neg (by omega)] at hy; exact hr j x y hx hy
              · rw [if_neg j1] at hx
                by_cases j2 : j < o + v.cells.length
                · rw [if_pos j2] at hx; rw [if_pos (by omega)] at hy; exact c2 _ x y hx hy
                · rw [if_neg j2] at hx; rw [if_neg (by omega)] at hy; exact hr j x y hx hy) h
            refine ⟨r, ?_, hr2, hr3⟩
            simp only [Instr.fill, hp _ _ _ hf]
            rw [if_neg (by simp; omega)]
            rw [← hc]
            exact hr1

theorem run_places (fs : List Field) (T : List (Nat × TI)) (hT : TysOk P T) (h : ∀ f ∈ fs, (look T f.type).isSome = true) :
    ∃ r, (fs.mapM (fun f => do pure (f.offset, ← sizeOf f.type) : Field → Sem (Nat × Nat))).run P w = .ok r w ∧ ∀ i : Nat, r[i]? = (fs[i]?).bind fun f => (look T f.type).map fun ti => (f.offset, ti.size) := by
  induction fs with
  | nil => exact ⟨[], by simp, by simp⟩
  | cons f fs ih =>
    obtain ⟨r, h1, h2⟩ := ih fun f hf => h f (by simp [hf])
    have := h f (by simp)
    obtain ⟨ti, hti⟩ := Option.isSome_iff_exists.1 this
    obtain ⟨hu, i, hi, hsz, _⟩ := hT f.type ti hti
    refine ⟨(f.offset, ti.size) :: r, ?_, ?_⟩
    · rw [List.mapM_cons]
      simp only [Sem.run_bind, run_sizeOf' hi, Result.andThen_ok, Sem.run_pure, h1, hsz]
    · intro j
      cases j with
      | zero => simp [hti]
      | succ j => simpa using h2 j

theorem Wbuild_ok (hT : TysOk P T) {t : Nat} {parts : List (Nat × V)} {vparts : Array (Nat × Value)} (hl : vparts.size = parts.length) (hpr : ∀ (j : Nat) (p : Nat × V) (q : Nat × Value), parts[j]? = some p → vparts[j]? = some q → q.1 = p.1 ∧ RepV w g tk p.2 q.2) (hW : Wbuild T t parts K) :
    ∃ val, (Instr.build t vparts).run P w = .ok val w ∧ ∃ v, K v ∧ RepV w g tk v val := by
  unfold Wbuild at hW
  cases hlk : look T t with
  | none => rw [hlk] at hW; simp at hW
  | some ti =>
    rw [hlk] at hW
    simp only at hW
    obtain ⟨hu, inf, hinf, hsz, hby, hz, hzs, hzc⟩ := hT t ti hlk
    cases haf : allFields T ti with
    | false => rw [haf] at hW; simp at hW
    | true =>
      cases hb : buildCells T ti parts (zeroV ti.zero).cells with
      | none => rw [haf, hb] at hW; simp at hW
      | some cs =>
        rw [haf, hb] at hW
        simp only [forceLV_eq] at hW
        unfold allFields at haf
        split at haf
        · rename_i fs hd
          rw [hd] at hu
          obtain ⟨pl, hp1, hp2⟩ := run_places (w := w) fs.toList T hT (fun f hf => List.all_eq_true.1 haf f hf)
          obtain ⟨z1, z2⟩ := zeroV_rep (w := w) (g := g) (tk := tk) ti.zero hzc
          have hpA : (fs.mapM (fun f => do pure (f.offset, ← sizeOf f.type) : Field → Sem (Nat × Nat))).run P w = .ok pl.toArray w := by
            rw [Array.mapM_eq_mapM_toList]
            simp only [Sem.run_map, hp1, Result.andThen_ok]
          obtain ⟨r, hr1, hr2, hr3⟩ := buildCells_ok (place := (pl.toArray[·]?)) hT (by
            intro i o n hf
            unfold fldPl at hf
            cases hfo : fieldOf ti i with
            | none => rw [hfo] at hf; simp [arrOf, hd] at hf
            | some p =>
              obtain ⟨o', ft⟩ := p
              rw [hfo] at hf
              simp only at hf
              obtain ⟨fs', fd, hd', hfd, rfl, rfl⟩ := fieldOf_spec hfo
              rw [hd] at hd'
              cases hd'
              cases hft : look T fd.type with
              | none => rw [hft] at hf; simp at hf
              | some fi =>
                rw [hft] at hf
                simp at hf
                obtain ⟨rfl, rfl⟩ := hf
                have hfd' : fs.toList[i]? = some fd := by simpa using hfd
                simp [hp2, hfd', hft]) parts vparts.toList (zeroV ti.zero).cells ti.zero.cells cs (by simpa using hl) (by intro j p q h1 h2; exact hpr j p q h1 (by simpa using h2)) z1.symm z2 hb
          refine ⟨.agg r, ?_, _, hW, .agg _ _ hr2 hr3⟩
          unfold Instr.build
          simp only [Sem.run_bind, run_zeroValue' hinf hz, Result.andThen_ok, run_underlying hu, hpA, hr1, Sem.run_pure]
        · rename_i len e hd
          rw [hd] at hu
          obtain ⟨te, hte⟩ := Option.isSome_iff_exists.1 haf
          obtain ⟨_, i2, hi2, hsz2, _⟩ := hT e te hte
          obtain ⟨z1, z2⟩ := zeroV_rep (w := w) (g := g) (tk := tk) ti.zero hzc
          obtain ⟨r, hr1, hr2, hr3⟩ := buildCells_ok (place := fun i => some (i * te.size, te.size)) hT (by
            intro i o n hf
            unfold fldPl at hf
            simp [fieldOf, arrOf, hd, hte] at hf
            obtain ⟨rfl, rfl⟩ := hf
            rfl) parts vparts.toList (zeroV ti.zero).cells ti.zero.cells cs (by simpa using hl) (by intro j p q h1 h2; exact hpr j p q h1 (by simpa using h2)) z1.symm z2 hb
          refine ⟨.agg r, ?_, _, hW, .agg _ _ hr2 hr3⟩
          unfold Instr.build
          simp only [Sem.run_bind, run_zeroValue' hinf hz, Result.andThen_ok, run_underlying hu, run_sizeOf' hi2, hsz2, hr1, Sem.run_pure]
        · simp at haf
end Go.Proofs.YtokomdenoegkgaaDoor.Abs
