/-
  The operations on addresses and slices.
-/
import Derived.Test.YtokomdenoegkgaaDoorOAbs5
set_option linter.unusedVariables false
set_option linter.unusedSimpArgs false
namespace Go.Proofs.YtokomdenoegkgaaDoor.Abs
open Go

variable {P : Program} {T : List (Nat × TI)} {E : Env} {w : World} {g : G} {K : V → Prop} {tk : Nat → Bool} {ob : Prop → Prop}

theorem WfieldAddr_ok (hT : TysOk P T) {t : Nat} {x : V} {f : Nat} {vx : Value} (hx : RepV w g tk x vx) (hW : WfieldAddr T t x f K) :
    ∃ val, (Instr.fieldAt t vx f).run P w = .ok val w ∧ ∃ v, K v ∧ RepV w g tk v val := by
  unfold WfieldAddr at hW
  cases hl : look T t with
  | none => rw [hl] at hW; simp at hW
  | some ti =>
    rw [hl] at hW
    simp only at hW
    obtain ⟨hu, i, hi, hsz, _⟩ := hT t ti hl
    cases hf : fieldOf ti f with
    | none => rw [hf] at hW; simp at hW
    | some p =>
      obtain ⟨o, ft⟩ := p
      rw [hf] at hW
      simp only at hW
      obtain ⟨fs, fd, hd, hfd, rfl, rfl⟩ := fieldOf_spec hf
      cases hfi : look T fd.type with
      | none => rw [hfi] at hW; simp at hW
      | some fi =>
        rw [hfi] at hW
        simp only at hW
        obtain ⟨hu2, i2, hi2, hsz2, _⟩ := hT fd.type fi hfi
        have run : ∀ b off, fi.size ≠ 0 → (Instr.fieldAt t (.pointer (some ⟨b, off, none⟩)) f).run P w = .ok (.pointer (some ⟨b, off + fd.offset, none⟩)) w := by
          intro b off h0
          have hne : i2.size ≠ 0 := by omega
          simp [Instr.fieldAt, run_underlying hu, hd, hfd, Instr.sureAddr, fieldPlace, run_sizeOf' hi2, hne, Addr.add_mid]
        split at hW
        · rename_i id off h1
          have h0 := Nat.le_of_ble_eq_true h1
          obtain ⟨b, hb, rfl⟩ := hx.ref_inv
          exact ⟨_, run b off (by omega), _, hW, (.ref _ _ b hb)⟩
        · rename_i c off h1
          have h0 := Nat.le_of_ble_eq_true h1
          cases hx with
          | ep _ _ b o f hc hr => exact ⟨_, run b (o + off) (by omega), _, hW, (by rw [Nat.add_assoc]; exact .ep c _ b o f hc hr)⟩
        · rename_i b off h1
          have h0 := Nat.le_of_ble_eq_true h1
          have := hx.lit_inv
          subst this
          exact ⟨_, run b off (by omega), _, hW, .d _ _ (.lit _ rfl)⟩
        · exact hW.elim

/-- the cells of a slice -/
theorem RepL.sl_inv {s : Nat} {l : List (List L)} {u : Value} (h : RepL w g (.sl s l) u) : ∃ (a : Option Addr) (cap b off : Nat) (f : Nat → Value), u = .slice a l.length cap ∧ (l ≠ [] → a = some ⟨b, off, none⟩) ∧ (a = none → cap = 0) ∧ l.length ≤ cap ∧
    l.length ≤ 9223372036854775807 ∧ (∀ x ∈ l, x.length = s) ∧ (∀ (j : Nat) (x : L), l.flatten[j]? = some x → Cst w g b (off + j) (f j)) ∧ (∀ (j : Nat) (x : L), l.flatten[j]? = some x → RepL w g x (f j)) := by
  cases h with
  | sl s l a cap b off f ha hn hl hb hs hc hr => exact ⟨a, cap, b, off, f, rfl, ha, hn, hl, hb, hs, hc, hr⟩

theorem flatten_get {α : Type} : ∀ {l : List (List α)} {s : Nat}, (∀ x ∈ l, x.length = s) → ∀ (j : Nat) (y : List α), l[j]? = some y → ∀ (i : Nat) (x : α), y[i]? = some x → l.flatten[j * s + i]? = some x
  | [], s, _, j, y, hj, i, x, hi => by simp at hj
  | a :: l, s, hs, 0, y, hj, i, x, hi => by
    simp at hj; subst hj
    simp only [List.flatten_cons, Nat.zero_mul, Nat.zero_add]
    rw [List.getElem?_append_left (List.getElem?_eq_some_iff.1 hi).1]; exact hi
  | a :: l, s, hs, j + 1, y, hj, i, x, hi => by
    simp at hj
    have ha : a.length = s := hs a (by simp)
    simp only [List.flatten_cons]
    rw [List.getElem?_append_right (by rw [ha, Nat.add_mul]; omega)]
    have e : (j + 1) * s + i - a.length = j * s + i := by rw [ha, Nat.add_mul]; omega
    rw [e]
    exact flatten_get (fun x hx => hs x (by simp [hx])) j y hj i x hi
theorem flatten_inv {α : Type} : ∀ {l : List (List α)} {s : Nat}, (∀ x ∈ l, x.length = s) → ∀ (j : Nat) (x : α), l.flatten[j]? = some x → ∃ (i m : Nat) (y : List α), j = i * s + m ∧ m < s ∧ l[i]? = some y ∧ y[m]? = some x
  | [], s, _, j, x, h => by simp at h
  | a :: l, s, hs, j, x, h => by
    have ha : a.length = s := hs a (by simp)
    simp only [List.flatten_cons] at h
    by_cases hj : j < s
    · rw [List.getElem?_append_left (by omega)] at h
      exact ⟨0, j, a, by simp, hj, rfl, h⟩
    · rw [List.getElem?_append_right (by omega), ha] at h
      obtain ⟨i, m, y, h1, h2, h3, h4⟩ := flatten_inv (fun x hx => hs x (by simp [hx])) _ x h
      exact ⟨i + 1, m, y, by rw [Nat.add_mul]; omega, h2, by simpa using h3, h4⟩
theorem flatten_len {α : Type} : ∀ {l : List (List α)} {s : Nat}, (∀ x ∈ l, x.length = s) → l.flatten.length = l.length * s
  | [], s, _ => by simp
  | a :: l, s, hs => by
    simp only [List.flatten_cons, List.length_append, List.length_cons]
    rw [flatten_len (fun x hx => hs x (by simp [hx])), hs a (by simp), Nat.add_mul]; omega

theorem elemOf_spec {ti : TI} {e : Nat} (h : elemOf ti = some e) : ti.desc = .slice e := by
  unfold elemOf at h; split at h
  · rename_i e' he; simp at h; subst h; exact he
  · simp at h

theorem WindexAddr_ok (hT : TysOk P T) (hob : ∀ p, ob p → p) {t : Nat} {x i : V} {vx vi : Value} (hx : RepV w g tk x vx) (hi : RepV w g tk i vi) (hW : WindexAddr T ob t x i K) :
    ∃ val, (Instr.indexAt t vx vi).run P w = .ok val w ∧ ∃ v, K v ∧ RepV w g tk v val := by
  unfold WindexAddr at hW
  cases hl : look T t with
  | none => rw [hl] at hW; simp at hW
  | some ti =>
    rw [hl] at hW
    simp only at hW
    obtain ⟨hu, inf, hinf, hsz, _⟩ := hT t ti hl
    split at hW
    · rename_i e k n he
      have hd := elemOf_spec he
      cases hi.lit_inv
      cases hle : look T e with
      | none => rw [hle] at hW; simp at hW
      | some te =>
        rw [hle] at hW
        simp only at hW
        obtain ⟨hu2, i2, hi2, hsz2, _⟩ := hT e te hle
        cases hs : V.asSl te.size x with
        | none => rw [hs] at hW; simp at hW
        | some l =>
          rw [hs] at hW
          simp only at hW
          obtain ⟨y, hy0, hK⟩ := hW
          obtain ⟨j, rfl, hj⟩ := hob _ hy0
          obtain ⟨a, cap, b, off, f, rfl, ha, hn, hl', hb, hss, hc, hr⟩ := (asSl_rep hx hs).sl_inv
          have hjlt : j < l.length := (List.getElem?_eq_some_iff.1 hj).1
          have ha' := ha (fun e => by subst e; simp at hjlt)
          subst ha'
          refine ⟨.pointer (some ⟨b, off + j * te.size + 0, none⟩), ?_, _, hK, (.ep y 0 b (off + j * te.size) (fun m => f (j * te.size + m)) ?_ ?_)⟩
          · have hb1 : (0 : Int) ≤ (j : Int) ∧ (j : Int) < (l.length : Int) := by omega
            simp [Instr.indexAt, asIntOf, run_underlying hu, hd, hb1, run_sizeOf' hi2, hsz2, Addr.add_mid, hjlt]
          · intro m z hz
            have := hc _ z (flatten_get hss j y hj m z hz)
            rwa [← Nat.add_assoc] at this
          · intro m z hz
            exact hr _ z (flatten_get hss j y hj m z hz)
    · split at hW
      · rename_i len e k n harr hneg
        have hd : ti.desc = .array len e := by
          unfold arrOf at harr; split at harr
          · rename_i l' e' he; simp at harr; obtain ⟨rfl, rfl⟩ := harr; exact he
          · simp at harr
        cases hi.lit_inv
        cases hle : look T e with
        | none => rw [hle] at hW; simp at hW
        | some te =>
          rw [hle] at hW
          simp only at hW
          obtain ⟨hu2, i2, hi2, hsz2, _⟩ := hT e te hle
          split at hW
          · rename_i id off
            obtain ⟨j, hj0, hK⟩ := hW
            obtain ⟨rfl, hj⟩ := hob _ hj0
            have hb1 : (0 : Int) ≤ (j : Int) ∧ (j : Int) < (len : Int) := by omega
            obtain ⟨b, hb, rfl⟩ := hx.ref_inv
            refine ⟨.pointer (some ⟨b, off + j * te.size, none⟩), ?_, _, hK, .ref id _ b hb⟩
            simp [Instr.indexAt, asIntOf, run_underlying hu, hd, hb1, run_sizeOf' hi2, hsz2, Instr.sureAddr, Addr.add_mid, hj]
          · rename_i c off
            obtain ⟨j, hj0, hK⟩ := hW
            obtain ⟨rfl, hj⟩ := hob _ hj0
            have hb1 : (0 : Int) ≤ (j : Int) ∧ (j : Int) < (len : Int) := by omega
            cases hx with
            | ep _ _ b o f hc hr =>
              refine ⟨.pointer (some ⟨b, o + (off + j * te.size), none⟩), ?_, _, hK, .ep c _ b o f hc hr⟩
              have e1 : o + off + j * te.size = o + (off + j * te.size) := by omega
              simp [Instr.indexAt, asIntOf, run_underlying hu, hd, hb1, run_sizeOf' hi2, hsz2, Instr.sureAddr, Addr.add_mid, hj, e1]
          · exact hW.elim
      · exact hW.elim

theorem Wlen_ok (hT : TysOk P T) {t ty : Nat} {x : V} {vx : Value} (hx : RepV w g tk x vx) (hW : Wlen T t x K) :
    ∃ val, (Builtin.len_ #[t] ty #[vx]).run P w = .ok val w ∧ ∃ v, K v ∧ RepV w g tk v val := by
  unfold Wlen at hW
  cases hl : look T t with
  | none => rw [hl] at hW; simp at hW
  | some ti =>
    rw [hl] at hW
    simp only at hW
    obtain ⟨hu, inf, hinf, hsz, _⟩ := hT t ti hl
    split at hW
    · rename_i e hd
      have sl : ∀ a n c, vx = .slice a n c → (Builtin.len_ #[t] ty #[vx]).run P w = .ok (.int .i64 n) w := by
        intro a n c e
        subst e
        simp [Builtin.len_, run_underlying hu, hd, goInt]
      split at hW
      · cases hx with
        | d _ _ hx =>
          obtain ⟨a, cap, b, off, f, rfl, ha, hn, hl', hb, _⟩ := RepL.sl_inv hx
          exact ⟨_, sl _ _ _ rfl, _, hW, (.d _ _ (.lit _ rfl))⟩
      · cases hx with
        | own _ _ _ _ hx _ _ =>
          obtain ⟨a, cap, b, off, f, rfl, ha, hn, hl', hb, _⟩ := RepL.sl_inv hx
          exact ⟨_, sl _ _ _ rfl, _, hW, (.d _ _ (.lit _ rfl))⟩
      · cases hx.lit_inv
        exact ⟨_, sl _ _ _ rfl, _, hW, (.d _ _ (.lit _ rfl))⟩
      · exact hW.elim
    · rename_i hd
      split at hW
      · rename_i s
        cases hx.lit_inv
        exact ⟨.int .i64 s.size, by simp [Builtin.len_, run_underlying hu, hd, goInt], _, hW, (.d _ _ (.lit _ rfl))⟩
      · exact hW.elim
    · exact hW.elim
end Go.Proofs.YtokomdenoegkgaaDoor.Abs
