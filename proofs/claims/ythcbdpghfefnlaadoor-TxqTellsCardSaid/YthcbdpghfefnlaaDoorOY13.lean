/-
  Layer 13: put, taken, aborted.
-/
import Derived.Test.YthcbdpghfefnlaaDoorOX13
set_option linter.unusedVariables false
set_option linter.unusedSimpArgs false
namespace Go.Proofs.YthcbdpghfefnlaaDoor
open Go Go.Proofs.YthcbdpghfefnlaaDoor.Abs

theorem MM_full {k : FuncId} {s : Nat} {l : List (List L)} {ds : List V} {bo : List (Nat × Box)} {r : V} (h : MM k [(1000000, .arr s l false)] ds bo r) : MM k [(1000000, .arr s l true)] ds bo r := by
  obtain ⟨h1, h2, h3⟩ := h
  refine ⟨h1, h2, fun n w g vals hown hH hs ha => h3 n w g vals hown ?_ hs ha⟩
  refine ⟨fun id B hB => ?_, hH.ids, hH.toks, hH.tkown, hH.bxown, hH.size, hH.gl, hH.J⟩
  rw [look_cons] at hB
  split at hB
  · rename_i e
    cases hB
    have := hH.bx id (.arr s l true) (by rw [look_cons, if_pos e])
    obtain ⟨b, c, e, q1, q2, q3, q4, q5⟩ := this
    exact ⟨b, c, e, q1, q2, q3, ⟨q4.1, nofun⟩, q5⟩
  · have hB : (none : Option Box) = some B := hB
    cases hB

theorem own_cons (q : Que) (hq : q.msgs.length ≤ 1000000000) (h0 : q.msgs ≠ []) : MM 36 [] [.agg [.int q.lim, Ms q.msgs]] [(100, .arr 7 (Ml q.msgs) true)] (.agg [.int q.lim, .msl 100 7 0 q.msgs.length]) := by
  have hp : 0 < q.msgs.length := by cases hm : q.msgs with | nil => exact absurd hm h0 | cons => simp
  refine gb36 [(3, 100)] [] rfl rfl fun hb => ?_
  refine ⟨fun h => ?_, fun h => ?_⟩
  · refine ⟨q.msgs.length, ⟨by rw [Ml_length], by rw [Ml_length], by show 64 * q.msgs.length ≤ _; omega⟩, ?_⟩
    refine ⟨⟨trivial, by simp⟩, ?_⟩
    refine ⟨⟨⟨L.le_refl _, ⟨rfl, rfl, rfl, rfl⟩, trivial⟩, trivial⟩, ⟨⟨rfl, ⟨[], ?_⟩, fun _ => ⟨rfl, ?_⟩⟩, trivial⟩, rfl, rfl⟩
    all_goals (have := Ml_length q.msgs; simp [this, List.take_of_length_le])
  · rw [Ml_length] at h
    have : ¬ ((q.msgs.length : Int) > 0) := by simpa using h
    omega
theorem own_nil (lim : Int) : MM 36 [] [.agg [.int lim, .d (.l .nil)]] [] (.agg [.int lim, .d (.l .nil)]) := by
  refine gb36 [] [] rfl rfl fun hb => ?_
  refine ⟨nofun, fun h => ?_⟩
  exact ⟨⟨⟨L.le_refl _, L.le_refl _, trivial⟩, trivial⟩, trivial, rfl, rfl⟩
theorem own_emp (lim : Int) : MM 36 [] [.agg [.int lim, Ms []]] [] (.agg [.int lim, Ms []]) := by
  refine gb36 [] [] rfl rfl fun hb => ?_
  refine ⟨nofun, fun h => ?_⟩
  exact ⟨⟨⟨L.le_refl _, L.le_refl _, trivial⟩, trivial⟩, trivial, rfl, rfl⟩
def del {α : Type} (l : List α) (i : Nat) : List α := l.take i ++ l.drop (i + 1)
theorem del_eq {α : Type} (l : List α) (i n : Nat) (hi : i < l.length) (hn : n = l.length) (X Y R D : List α) (hX : X = l.take (0 + i) ++ (l.drop (0 + (i + 1))).take (n - (i + 1)) ++ Y) : ∃ z, X.take (0 + (n - 1)) ++ R ++ D = (l.take i ++ l.drop (i + 1)) ++ z := by
  subst hn
  refine ⟨R ++ D, ?_⟩
  rw [List.append_assoc]
  congr 1
  have h1 : (l.drop (0 + (i + 1))).take (l.length - (i + 1)) = l.drop (i + 1) := by rw [Nat.zero_add]; exact List.take_of_length_le (by simp)
  have h2 : (l.take i ++ l.drop (i + 1)).length = 0 + (l.length - 1) := by simp; omega
  rw [hX, h1, Nat.zero_add i, ← h2, List.take_left']
  rfl
theorem delete_ok (l : List Msg) (hl : l.length ≤ 1000000000) (i : Nat) (hi : i < l.length) : MM 44 [(1000000, .arr 7 (Ml l) true)] [.msl 1000000 7 0 l.length, .int i, .int (i + 1 : Nat)] [(1000000, .arr 7 (Ml (del l i)) false)] (.msl 1000000 7 0 (l.length - 1)) := by
  have hm := Ml_length l
  refine gb44 [] [] rfl rfl fun hb => ?_
  refine ⟨⟨by omega, by omega, by omega, by rw [hm]; simp⟩, ?_⟩
  refine ⟨fun h => ?_, fun h => ?_⟩
  · exfalso
    have : (i : Int) = ((i + 1 : Nat) : Int) := eq_of_beq h
    omega
  refine ⟨i, ⟨rfl, by omega⟩, ?_⟩
  refine ⟨i + 1, ⟨rfl, by omega⟩, ?_⟩
  refine ⟨by omega, .inl ⟨by simp; omega, ?_⟩⟩
  refine ⟨rfl, ?_⟩
  refine ⟨(l.length - 1, l.length), ⟨by simp; omega, rfl, by omega, by simp; omega⟩, ?_⟩
  refine ⟨by simp; omega, ?_⟩
  refine ⟨⟨⟨rfl, rfl, rfl, by simp; omega⟩, trivial⟩, ⟨⟨rfl, ?_, nofun⟩, trivial⟩, rfl, rfl⟩
  have hd : Ml (del l i) = (Ml l).take i ++ (Ml l).drop (i + 1) := by simp [Ml, del, List.map_take, List.map_drop]
  rw [hd]
  exact del_eq (Ml l) i l.length (by omega) hm.symm _ _ _ _ rfl
/-! put -/
def atQ (l : List Msg) (m : Msg) : Nat := if findN (fun x => m.less x) l < 0 then l.length else (findN (fun x => m.less x) l).toNat
def putR (q : Que) (m : Msg) : Que × Int :=
  if q.right = false ∨ m.right = false then (q, 1) else if 0 ≤ findN (fun x => x.number == m.number) q.msgs then (q, 42) else if (q.msgs.length : Int) = q.lim then (q, 40) else (⟨q.lim, ins' q.msgs [m] (atQ q.msgs m)⟩, 0)
theorem findN_lt (p : Msg → Bool) (l : List Msg) : findN p l < l.length := by
  rw [findN]
  cases h : l.findIdx? p with
  | none => simp; omega
  | some k =>
    obtain ⟨hk, _⟩ := List.findIdx?_eq_some_iff_getElem.1 h
    simpa using hk
theorem findN_ge (p : Msg → Bool) (l : List Msg) : -1 ≤ findN p l := by
  rw [findN]
  cases h : l.findIdx? p with
  | none => simp
  | some k => show (-1 : Int) ≤ (k : Int); omega
theorem finQ {fz : Fz} {id : Nat} (q : Que) (h : fz.a id 7 (Ml q.msgs)) : leV fz (.agg [.int q.lim, .msl id 7 0 q.msgs.length]) q.V :=
  ⟨L.le_refl _, ⟨_, h, by simp [Ml_length], L.le_of_eq (by have := Ml_length q.msgs; simp [this, List.take_of_length_le])⟩, trivial⟩
theorem put_cons (q : Que) (m : Msg) (hq : q.msgs.length ≤ 1000000) (h0 : q.msgs ≠ []) : M 22 [q.V, m.V] (.tup [(putR q m).1.V, .int (putR q m).2]) := by
  have hml := Ml_length q.msgs
  refine go22 rfl rfl fun hb => ?_
  refine ⟨_, qright_ok q (by omega), ?_⟩
  have bad : (q.right = false ∨ m.right = false) → putR q m = (q, 1) := fun h => by rw [putR, if_pos h]
  refine ⟨fun h => ?_, fun h => ?_⟩
  · have h : q.right = false := by simpa using h
    rw [bad (.inl h)]
    refine ⟨fun h2 => ?_, fun h2 => absurd h2 (by simp [h])⟩
    refine ⟨_, _, own_cons q (by omega) h0, ?_⟩
    exact ⟨⟨⟨finQ q ⟨rfl, _, rfl⟩, L.le_refl _, trivial⟩, trivial⟩, trivial, rfl, rfl⟩
  have h : q.right = true := by simpa using h
  refine ⟨_, right_ok m, ?_⟩
  refine ⟨fun h2 => ?_, fun h2 => ?_⟩
  · have h2 : m.right = false := by simpa using h2
    rw [bad (.inr h2)]
    refine ⟨_, _, own_cons q (by omega) h0, ?_⟩
    exact ⟨⟨⟨finQ q ⟨rfl, _, rfl⟩, L.le_refl _, trivial⟩, trivial⟩, trivial, rfl, rfl⟩
  have h2 : m.right = true := by simpa using h2
  refine ⟨_, of_ok m.number, ?_⟩
  refine ⟨_, _, findDOf_ok q.msgs (by omega) m.number, ?_⟩
  refine ⟨rfl, ?_⟩
  have n1 : ¬ (q.right = false ∨ m.right = false) := by simp [h, h2]
  refine ⟨fun h3 => ?_, fun h3 => ?_⟩
  · have h3 : 0 ≤ findN (fun x => x.number == m.number) q.msgs := by simpa using h3
    rw [show putR q m = (q, 42) by rw [putR, if_neg n1, if_pos h3]]
    refine ⟨_, _, own_cons q (by omega) h0, ?_⟩
    exact ⟨⟨⟨finQ q ⟨rfl, _, rfl⟩, L.le_refl _, trivial⟩, trivial⟩, trivial, rfl, rfl⟩
  have h3 : ¬ 0 ≤ findN (fun x => x.number == m.number) q.msgs := by simpa using h3
  refine ⟨fun h4 => ?_, fun h4 => ?_⟩
  · have h4 : (q.msgs.length : Int) = q.lim := by rw [hml] at h4; exact eq_of_beq h4
    rw [show putR q m = (q, 40) by rw [putR, if_neg n1, if_neg h3, if_pos h4]]
    refine ⟨_, _, own_cons q (by omega) h0, ?_⟩
    exact ⟨⟨⟨finQ q ⟨rfl, _, rfl⟩, L.le_refl _, trivial⟩, trivial⟩, trivial, rfl, rfl⟩
  have h4 : ¬ (q.msgs.length : Int) = q.lim := by rw [hml] at h4; simpa using h4
  rw [show putR q m = (⟨q.lim, ins' q.msgs [m] (atQ q.msgs m)⟩, 0) by rw [putR, if_neg n1, if_neg h3, if_neg h4]]
  refine ⟨_, _, own_cons q (by omega) h0, ?_⟩
  refine ⟨_, _, findALess_ok q.msgs (by omega) true m, ?_⟩
  have hlt := findN_lt (fun x => m.less x) q.msgs
  have hge := findN_ge (fun x => m.less x) q.msgs
  have hat : atQ q.msgs m ≤ q.msgs.length := by rw [atQ]; split <;> omega
  have hins := insert_ok (Ml q.msgs) [m.L] (atQ q.msgs m) (by omega) (by show (Ml q.msgs).length ≤ _; omega) (by show 1 ≤ _; omega) (by simp)
  rw [hml] at hins
  have hfin : ∀ {fz : Fz} {id : Nat}, fz.a id 7 (ins (Ml q.msgs) [m.L] (atQ q.msgs m)) → leV fz (.agg [.int q.lim, .msl id 7 0 (q.msgs.length + [m.L].length)]) (Que.V ⟨q.lim, ins' q.msgs [m] (atQ q.msgs m)⟩) := by
    intro fz id hz
    have e1 : ins (Ml q.msgs) [m.L] (atQ q.msgs m) = Ml (ins' q.msgs [m] (atQ q.msgs m)) := by simp [ins', Ml, List.map_take, List.map_drop]
    have e2 : q.msgs.length + [m.L].length = (ins' q.msgs [m] (atQ q.msgs m)).length := by simp [ins']; omega
    rw [e1] at hz
    rw [e2]
    exact finQ ⟨q.lim, ins' q.msgs [m] (atQ q.msgs m)⟩ hz
  refine ⟨fun h5 => ?_, fun h5 => ?_⟩
  · have h5 : findN (fun x => m.less x) q.msgs < 0 := by simpa using h5
    have e5 : atQ q.msgs m = q.msgs.length := by rw [atQ, if_pos h5]
    refine ⟨_, _, by rw [e5] at hins; exact MM_full hins, ?_⟩
    exact ⟨⟨⟨hfin ⟨rfl, _, by rw [e5]; rfl⟩, L.le_refl _, trivial⟩, trivial⟩, trivial, rfl, rfl⟩
  · have h5 : ¬ findN (fun x => m.less x) q.msgs < 0 := by simpa using h5
    have e5 : findN (fun x => m.less x) q.msgs = ((atQ q.msgs m : Nat) : Int) := by rw [atQ, if_neg h5]; omega
    refine ⟨_, _, by rw [e5]; exact MM_full hins, ?_⟩
    exact ⟨⟨⟨hfin ⟨rfl, _, rfl⟩, L.le_refl _, trivial⟩, trivial⟩, trivial, rfl, rfl⟩
theorem put_nil (lim : Int) (m : Msg) : M 22 [Qnil lim, m.V] (.tup [(putR ⟨lim, []⟩ m).1.V, .int (putR ⟨lim, []⟩ m).2]) := by
  refine go22 rfl rfl fun hb => ?_
  refine ⟨_, nilq (qright_ok ⟨lim, []⟩ (by simp)), ?_⟩
  have bad : (Que.right ⟨lim, []⟩ = false ∨ m.right = false) → putR ⟨lim, []⟩ m = (⟨lim, []⟩, 1) := fun h => by rw [putR, if_pos h]
  have fin : ∀ {fz : Fz}, leV fz (.agg [.int lim, .d (.l .nil)]) (Que.V ⟨lim, []⟩) := ⟨L.le_refl _, L.le_nil 7, trivial⟩
  refine ⟨fun h => ?_, fun h => ?_⟩
  · have h : Que.right ⟨lim, []⟩ = false := by simpa using h
    rw [bad (.inl h)]
    refine ⟨fun h2 => ?_, fun h2 => absurd h2 (by simp [h])⟩
    refine ⟨_, _, own_nil lim, ?_⟩
    exact ⟨⟨⟨fin, L.le_refl _, trivial⟩, trivial⟩, trivial, rfl, rfl⟩
  have h : Que.right ⟨lim, []⟩ = true := by simpa using h
  refine ⟨_, right_ok m, ?_⟩
  refine ⟨fun h2 => ?_, fun h2 => ?_⟩
  · have h2 : m.right = false := by simpa using h2
    rw [bad (.inr h2)]
    refine ⟨_, _, own_nil lim, ?_⟩
    exact ⟨⟨⟨fin, L.le_refl _, trivial⟩, trivial⟩, trivial, rfl, rfl⟩
  have h2 : m.right = true := by simpa using h2
  have dn : ∀ {k : FuncId} {bi : List (Nat × Box)} {ds : List V} {bo : List (Nat × Box)} {r : V}, MM k bi (Ms [] :: ds) bo r → MM k bi (.d (.l .nil) :: ds) bo r := fun h => MM_arg1 h rfl fun w g tk u hu => by
    cases hu with
    | d _ _ hu => exact .d _ _ (L.le_nil 7 _ _ _ hu)
  refine ⟨_, of_ok m.number, ?_⟩
  refine ⟨_, _, dn (findDOf_ok [] (by simp) m.number), ?_⟩
  refine ⟨rfl, ?_⟩
  have n1 : ¬ (Que.right ⟨lim, []⟩ = false ∨ m.right = false) := by simp [h, h2]
  refine ⟨fun h3 => absurd h3 (by simp [findN]), fun h3 => ?_⟩
  have h3 : ¬ 0 ≤ findN (fun x => x.number == m.number) [] := by simp [findN]
  have hl : ¬ lim = 0 := by
    intro e
    subst e
    revert h
    rw [show Que.right ⟨0, []⟩ = false by rfl]
    simp
  refine ⟨fun h4 => absurd h4 (by simp; omega), fun h4 => ?_⟩
  rw [show putR ⟨lim, []⟩ m = (⟨lim, [m]⟩, 0) by rw [putR, if_neg n1, if_neg h3, if_neg (by simp; omega)]; simp [ins']]
  refine ⟨_, _, own_nil lim, ?_⟩
  refine ⟨_, _, dn (findDLess_ok [] (by simp) m), ?_⟩
  refine ⟨fun h5 => ?_, fun h5 => absurd h5 (by simp [findN])⟩
  refine ⟨_, _, insert_nil [m.L] (by show 1 ≤ _; omega) (by simp), ?_⟩
  exact ⟨⟨⟨finQ ⟨lim, [m]⟩ ⟨rfl, _, rfl⟩, L.le_refl _, trivial⟩, trivial⟩, trivial, rfl, rfl⟩
/-! taken -/
def takenT (q : Que) (p : Msg → Bool) : Que × Msg × Int :=
  if q.right = false then (q, dmsg, 1) else if findN p q.msgs < 0 then (q, dmsg, 41) else (⟨q.lim, del q.msgs (findN p q.msgs).toNat⟩, q.msgs.getD (findN p q.msgs).toNat dmsg, 0)
def takenR (q : Que) (p : Msg → Bool) : V := match takenT q p with | (a, b, c) => .tup [a.V, b.V, .int c]
theorem takenOf_ok (q : Que) (n : Int) (hq : q.msgs.length ≤ 1000000) : M 29 [q.V, .fn (.func 53) [] [.ep [L.int n] 0]] (takenR q (fun m => m.number == n)) := by
  have hml := Ml_length q.msgs
  refine go29 rfl (by rw [takenR]; split <;> rfl) fun hb => ?_
  refine ⟨_, qright_ok q (by omega), ?_⟩
  by_cases h0 : q.msgs = []
  · obtain ⟨lim, ms⟩ := q
    cases h0
    refine ⟨_, _, own_emp lim, ?_⟩
    refine ⟨fun h => ?_, fun h => ?_⟩
    · have h : Que.right ⟨lim, []⟩ = false := by simpa using h
      rw [show takenR ⟨lim, []⟩ (fun m => m.number == n) = .tup [Que.V ⟨lim, []⟩, dmsg.V, .int 1] by simp [takenR, takenT, h]]
      exact ⟨⟨⟨⟨L.le_refl _, L.le_refl _, trivial⟩, m7 dmsg, L.le_refl _, trivial⟩, trivial⟩, trivial, rfl, rfl⟩
    · have h : Que.right ⟨lim, []⟩ = true := by simpa using h
      refine ⟨_, _, findDOf_ok [] (by simp) n, ?_⟩
      refine ⟨fun h2 => ?_, fun h2 => absurd h2 (by simp [findN])⟩
      rw [show takenR ⟨lim, []⟩ (fun m => m.number == n) = .tup [Que.V ⟨lim, []⟩, dmsg.V, .int 41] by simp [takenR, takenT, h, findN]]
      exact ⟨⟨⟨⟨L.le_refl _, L.le_refl _, trivial⟩, m7 dmsg, L.le_refl _, trivial⟩, trivial⟩, trivial, rfl, rfl⟩
  refine ⟨_, _, own_cons q (by omega) h0, ?_⟩
  refine ⟨fun h => ?_, fun h => ?_⟩
  · have h : q.right = false := by simpa using h
    rw [show takenR q (fun m => m.number == n) = .tup [q.V, dmsg.V, .int 1] by simp [takenR, takenT, h]]
    exact ⟨⟨⟨finQ q ⟨rfl, _, rfl⟩, m7 dmsg, L.le_refl _, trivial⟩, trivial⟩, trivial, rfl, rfl⟩
  have h : q.right = true := by simpa using h
  refine ⟨_, _, findAOf_ok q.msgs (by omega) true n, ?_⟩
  have hlt := findN_lt (fun m => m.number == n) q.msgs
  refine ⟨fun h2 => ?_, fun h2 => ?_⟩
  · have h2 : findN (fun m => m.number == n) q.msgs < 0 := by simpa using h2
    rw [show takenR q (fun m => m.number == n) = .tup [q.V, dmsg.V, .int 41] by simp [takenR, takenT, h, h2]]
    exact ⟨⟨⟨finQ q ⟨rfl, _, rfl⟩, m7 dmsg, L.le_refl _, trivial⟩, trivial⟩, trivial, rfl, rfl⟩
  have h2 : ¬ findN (fun m => m.number == n) q.msgs < 0 := by simpa using h2
  obtain ⟨k, hk⟩ : ∃ k : Nat, findN (fun m => m.number == n) q.msgs = k := ⟨(findN (fun m => m.number == n) q.msgs).toNat, by omega⟩
  have hkl : k < q.msgs.length := by omega
  rw [show takenR q (fun m => m.number == n) = .tup [Que.V ⟨q.lim, del q.msgs k⟩, q.msgs[k].V, .int 0] by rw [takenR, takenT, if_neg (by simp [h]), if_neg h2]; simp [hk, List.getD_eq_getElem?_getD, hkl]]
  refine ⟨k, ⟨hk, by simpa using hkl⟩, q.msgs[k].L, by simp [Ml_get, hkl], ?_⟩
  refine ⟨_, _, by rw [hk]; rw [show IntKind.i64.wrap ((k : Int) + 1) = ((k + 1 : Nat) : Int) by rw [wrap64 (by omega) (by omega)]; omega]; exact delete_ok q.msgs (by omega) k hkl, ?_⟩
  refine ⟨rfl, ?_⟩
  have hd : q.msgs.length - 1 = (del q.msgs k).length := by simp [del]; omega
  rw [hd]
  exact ⟨⟨⟨finQ ⟨q.lim, del q.msgs k⟩ ⟨rfl, _, rfl⟩, m7 _, L.le_refl _, trivial⟩, trivial⟩, trivial, rfl, rfl⟩
theorem takenAll_ok (q : Que)  (hq : q.msgs.length ≤ 1000000) : M 29 [q.V, .fn (.func 30) [] []] (takenR q (fun _ => true)) := by
  have hml := Ml_length q.msgs
  refine go29 rfl (by rw [takenR]; split <;> rfl) fun hb => ?_
  refine ⟨_, qright_ok q (by omega), ?_⟩
  by_cases h0 : q.msgs = []
  · obtain ⟨lim, ms⟩ := q
    cases h0
    refine ⟨_, _, own_emp lim, ?_⟩
    refine ⟨fun h => ?_, fun h => ?_⟩
    · have h : Que.right ⟨lim, []⟩ = false := by simpa using h
      rw [show takenR ⟨lim, []⟩ (fun _ => true) = .tup [Que.V ⟨lim, []⟩, dmsg.V, .int 1] by simp [takenR, takenT, h]]
      exact ⟨⟨⟨⟨L.le_refl _, L.le_refl _, trivial⟩, m7 dmsg, L.le_refl _, trivial⟩, trivial⟩, trivial, rfl, rfl⟩
    · have h : Que.right ⟨lim, []⟩ = true := by simpa using h
      refine ⟨_, _, findDAll_ok [] (by simp) , ?_⟩
      refine ⟨fun h2 => ?_, fun h2 => absurd h2 (by simp [findN])⟩
      rw [show takenR ⟨lim, []⟩ (fun _ => true) = .tup [Que.V ⟨lim, []⟩, dmsg.V, .int 41] by simp [takenR, takenT, h, findN]]
      exact ⟨⟨⟨⟨L.le_refl _, L.le_refl _, trivial⟩, m7 dmsg, L.le_refl _, trivial⟩, trivial⟩, trivial, rfl, rfl⟩
  refine ⟨_, _, own_cons q (by omega) h0, ?_⟩
  refine ⟨fun h => ?_, fun h => ?_⟩
  · have h : q.right = false := by simpa using h
    rw [show takenR q (fun _ => true) = .tup [q.V, dmsg.V, .int 1] by simp [takenR, takenT, h]]
    exact ⟨⟨⟨finQ q ⟨rfl, _, rfl⟩, m7 dmsg, L.le_refl _, trivial⟩, trivial⟩, trivial, rfl, rfl⟩
  have h : q.right = true := by simpa using h
  refine ⟨_, _, findAAll_ok q.msgs (by omega) true , ?_⟩
  have hlt := findN_lt (fun _ => true) q.msgs
  refine ⟨fun h2 => ?_, fun h2 => ?_⟩
  · have h2 : findN (fun _ => true) q.msgs < 0 := by simpa using h2
    rw [show takenR q (fun _ => true) = .tup [q.V, dmsg.V, .int 41] by simp [takenR, takenT, h, h2]]
    exact ⟨⟨⟨finQ q ⟨rfl, _, rfl⟩, m7 dmsg, L.le_refl _, trivial⟩, trivial⟩, trivial, rfl, rfl⟩
  have h2 : ¬ findN (fun _ => true) q.msgs < 0 := by simpa using h2
  obtain ⟨k, hk⟩ : ∃ k : Nat, findN (fun _ => true) q.msgs = k := ⟨(findN (fun _ => true) q.msgs).toNat, by omega⟩
  have hkl : k < q.msgs.length := by omega
  rw [show takenR q (fun _ => true) = .tup [Que.V ⟨q.lim, del q.msgs k⟩, q.msgs[k].V, .int 0] by rw [takenR, takenT, if_neg (by simp [h]), if_neg h2]; simp [hk, List.getD_eq_getElem?_getD, hkl]]
  refine ⟨k, ⟨hk, by simpa using hkl⟩, q.msgs[k].L, by simp [Ml_get, hkl], ?_⟩
  refine ⟨_, _, by rw [hk]; rw [show IntKind.i64.wrap ((k : Int) + 1) = ((k + 1 : Nat) : Int) by rw [wrap64 (by omega) (by omega)]; omega]; exact delete_ok q.msgs (by omega) k hkl, ?_⟩
  refine ⟨rfl, ?_⟩
  have hd : q.msgs.length - 1 = (del q.msgs k).length := by simp [del]; omega
  rw [hd]
  exact ⟨⟨⟨finQ ⟨q.lim, del q.msgs k⟩ ⟨rfl, _, rfl⟩, m7 _, L.le_refl _, trivial⟩, trivial⟩, trivial, rfl, rfl⟩
theorem take_ok (q : Que) (hq : q.msgs.length ≤ 1000000) : M 17 [q.V] (takenR q fun _ => true) := by
  obtain ⟨a, b, c, hT⟩ : ∃ a b c, takenT q (fun _ => true) = (a, b, c) := ⟨_, _, _, rfl⟩
  have hR : takenR q (fun _ => true) = .tup [a.V, b.V, .int c] := by rw [takenR, hT]
  have ht := takenAll_ok q hq
  rw [hR] at ht ⊢
  refine go17 rfl rfl fun hb => ?_
  refine ⟨_, ht, ?_⟩
  exact ⟨⟨⟨⟨L.le_refl _, L.le_refl _, trivial⟩, m7 b, L.le_refl _, trivial⟩, trivial⟩, trivial, rfl, rfl⟩
theorem abort_ok (q : Que) (n : Int) (hq : q.msgs.length ≤ 1000000) : M 24 [q.V, .int n] (takenR q fun m => m.number == n) := by
  obtain ⟨a, b, c, hT⟩ : ∃ a b c, takenT q (fun m => m.number == n) = (a, b, c) := ⟨_, _, _, rfl⟩
  have hR : takenR q (fun m => m.number == n) = .tup [a.V, b.V, .int c] := by rw [takenR, hT]
  have ht := takenOf_ok q n hq
  rw [hR] at ht ⊢
  refine go24 rfl rfl fun hb => ?_
  refine ⟨_, of_ok n, ?_⟩
  refine ⟨_, ht, ?_⟩
  refine ⟨rfl, ?_⟩
  exact ⟨⟨⟨⟨L.le_refl _, L.le_refl _, trivial⟩, m7 b, L.le_refl _, trivial⟩, trivial⟩, trivial, rfl, rfl⟩
end Go.Proofs.YthcbdpghfefnlaaDoor
