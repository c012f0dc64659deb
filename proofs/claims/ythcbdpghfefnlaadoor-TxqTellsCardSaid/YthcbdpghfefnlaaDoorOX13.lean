/-
  Layer 13: queues.
-/
import Derived.Test.YthcbdpghfefnlaaDoorOS13
set_option linter.unusedVariables false
set_option linter.unusedSimpArgs false
namespace Go.Proofs.YthcbdpghfefnlaaDoor
open Go Go.Proofs.YthcbdpghfefnlaaDoor.Abs

structure Que where
  lim : Int
  msgs : List Msg
abbrev Que.L (q : Que) : List L := [L.int q.lim, .sl 7 (Ml q.msgs)]
abbrev Que.V (q : Que) : V := .d (.agg q.L)
abbrev Qnil (lim : Int) : V := .d (.agg [L.int lim, L.nil])

abbrev dmsg : Msg := ⟨false, 0, 0, 0, 0, 0, .empty⟩
def mayB (n : Int) : Bool := decide (1 ≤ n) && decide (n ≤ 32)
theorem may_ok (n : Int) : M 28 [.int n] (.bool (mayB n)) := by
  refine go28 rfl rfl fun hb => ?_
  refine ⟨⟨L.le_of_eq ?_, trivial⟩, trivial, rfl, rfl⟩
  by_cases h : 1 ≤ n <;> simp [h, mayB]
theorem new_ok (n : Int) : M 9 [.int n] (cond (mayB n) (.tup [Qnil n, .int 0]) (.tup [Qnil 0, .int 1])) := by
  refine go9 rfl (by cases mayB n <;> rfl) fun hb => ?_
  refine ⟨_, may_ok n, ?_⟩
  refine ⟨fun h => ?_, fun h => ?_⟩
  · have h : mayB n = false := by simpa using h
    rw [h]
    exact ⟨⟨⟨⟨L.le_refl _, L.le_refl _, trivial⟩, L.le_refl _, trivial⟩, trivial⟩, trivial, rfl, rfl⟩
  · have h : mayB n = true := by simpa using h
    rw [h]
    exact ⟨⟨⟨⟨L.le_refl _, L.le_refl _, trivial⟩, L.le_refl _, trivial⟩, trivial⟩, trivial, rfl, rfl⟩

def numsI (l : List Msg) : List Int := l.foldl (fun s m => insI s m.number) []
theorem numsI_take (l : List Msg) (k : Nat) (h : k < l.length) : numsI (l.take (k + 1)) = insI (numsI (l.take k)) l[k].number := by
  rw [numsI, numsI, List.take_add_one, List.getElem?_eq_getElem h, List.foldl_append]; rfl
def okAt (l : List Msg) (k : Nat) : Bool := (l.getD k dmsg).right && (decide (k = 0) || (l.getD (k - 1) dmsg).less (l.getD k dmsg))
def Que.right (q : Que) : Bool := (mayB q.lim && decide ((q.msgs.length : Int) ≤ q.lim)) && ((List.range q.msgs.length).all (okAt q.msgs) && decide ((numsI q.msgs).length = q.msgs.length))

/-- a contract for other arguments that hold no more -/
theorem MM_arg {k : FuncId} {bi : List (Nat × Box)} {ds ds' : List V} {bo : List (Nat × Box)} {r : V} (h : MM k bi ds bo r) (hlen : ds'.length = ds.length) (ht : V.tokss ds' = V.tokss ds)
    (hle : ∀ (i : Nat) (x x' : V), ds[i]? = some x → ds'[i]? = some x' → ∀ w g tk u, RepV w g tk x' u → RepV w g tk x u) : MM k bi ds' bo r := by
  obtain ⟨h1, h2, h3⟩ := h
  refine ⟨h1, h2, fun n w g vals hown hH hs ha => ?_⟩
  rw [ht] at hH ha
  refine h3 n w g vals hown hH (by omega) fun i x u hx hu => ?_
  have hlt : i < ds'.length := by have := (List.getElem?_eq_some_iff.1 hx).1; omega
  exact hle i x ds'[i] hx (List.getElem?_eq_getElem hlt) w g _ u (ha i _ u (List.getElem?_eq_getElem hlt) hu)
theorem MM_arg1 {k : FuncId} {bi : List (Nat × Box)} {x x' : V} {ds : List V} {bo : List (Nat × Box)} {r : V} (h : MM k bi (x :: ds) bo r) (ht : V.toks x' = V.toks x)
    (hle : ∀ w g tk u, RepV w g tk x' u → RepV w g tk x u) : MM k bi (x' :: ds) bo r := by
  refine MM_arg h rfl (by simp [V.tokss, ht]) fun i y y' hy hy' => ?_
  cases i with
  | zero => simp at hy hy'; subst hy; subst hy'; exact hle
  | succ i => simp at hy hy'; rw [hy] at hy'; cases hy'; exact fun _ _ _ _ h => h
theorem agg_of_d {cs : List L} {w : World} {g : G} {tk : Nat → Bool} {u : Value} (h : RepV w g tk (.d (.agg cs)) u) : RepV w g tk (.agg (cs.map fun x => .d (.l x))) u := by
  obtain ⟨vs, rfl, hs, hr⟩ := h.agg_inv
  refine .agg _ vs (by simpa using hs) fun i x u hx hu => ?_
  simp only [List.getElem?_map, Option.map_eq_some_iff] at hx
  obtain ⟨y, hy, rfl⟩ := hx
  exact .d _ _ (hr i y u hy hu)
theorem d_of_agg {cs : List L} {w : World} {g : G} {tk : Nat → Bool} {u : Value} (h : RepV w g tk (.agg (cs.map fun x => .d (.l x))) u) : RepV w g tk (.d (.agg cs)) u := by
  obtain ⟨vs, rfl, hs, hr⟩ := h.aggV_inv
  refine .d _ _ ⟨vs, rfl, by simpa using hs, fun i x u hx hu => ?_⟩
  have := hr i (.d (.l x)) u (by simp [hx]) hu
  cases this with
  | d _ _ h => exact h
theorem nil_sl {lim : Int} {w : World} {g : G} {tk : Nat → Bool} {u : Value} (h : RepV w g tk (Qnil lim) u) : RepV w g tk (Que.V ⟨lim, []⟩) u := by
  obtain ⟨vs, rfl, hs, hr⟩ := h.agg_inv
  refine .d _ _ ⟨vs, rfl, hs, fun i x u hx hu => ?_⟩
  match i, hx with
  | 0, hx => simp at hx; subst hx; exact hr 0 _ u rfl hu
  | 1, hx => simp at hx; subst hx; exact L.le_nil 7 _ _ _ (hr 1 _ u rfl hu)
theorem nilq {k : FuncId} {bi : List (Nat × Box)} {lim : Int} {ds : List V} {bo : List (Nat × Box)} {r : V} (h : MM k bi (Que.V ⟨lim, []⟩ :: ds) bo r) : MM k bi (Qnil lim :: ds) bo r := MM_arg1 h rfl fun _ _ _ _ => nil_sl

theorem qright_ok (q : Que) (hq : q.msgs.length ≤ 1000000000) : M 19 [q.V] (.bool q.right) := by
  refine go19 rfl rfl fun hb => ?_
  refine ⟨_, may_ok q.lim, ?_⟩
  refine ⟨fun h => ?_, fun h => ?_⟩
  · refine ⟨⟨L.le_of_eq ?_, trivial⟩, trivial, rfl, rfl⟩
    have : (mayB q.lim && decide ((q.msgs.length : Int) ≤ q.lim)) = false := by
      revert h; rw [Ml_length]; cases mayB q.lim <;> simp
    rw [Que.right, this]; rfl
  have h0 : (mayB q.lim && decide ((q.msgs.length : Int) ≤ q.lim)) = true := by
    revert h; rw [Ml_length]; cases mayB q.lim <;> simp
  have hwk : ∀ k : Nat, k < q.msgs.length → IntKind.i64.wrap ((k : Int) + 1) = ((k + 1 : Nat) : Int) := fun k hk => by rw [wrap64 (by omega) (by omega)]; omega
  refine ⟨Nat, fun k => ⟨[(1, .ref 999999 0), (3, .mp 999998), (20, Ms q.msgs), (21, .int q.msgs.length), (22, .int k)], ⟨[(999999, .cells [.int q.lim, Ms q.msgs]), (999998, .mpi (numsI (q.msgs.take k)))], [], 900000, 0⟩⟩, fun k => k ≤ q.msgs.length ∧ ∀ j, j < k → okAt q.msgs j = true, fun k => q.msgs.length - k, 0, ⟨Nat.zero_le _, nofun⟩, ?_, ?_⟩
  · refine ⟨⟨⟨rfl, rfl⟩, rfl, L.le_refl _, L.le_of_eq (by rw [Ml_length]), L.le_refl _, trivial⟩, ⟨⟨L.le_refl _, L.le_refl _, trivial⟩, rfl, trivial⟩, rfl, rfl⟩
  · rintro k ⟨hk, hall⟩ _
    refine ⟨fun hc => ?_, fun hc => ?_⟩
    · have hlt : k < q.msgs.length := by simpa using hc
      have hnext := numsI_take q.msgs k hlt
      have hget : q.msgs.getD k dmsg = q.msgs[k] := by simp [List.getD_eq_getElem?_getD, hlt]
      refine ⟨q.msgs[k].L, ⟨k, rfl, by simp [Ml_get, hlt]⟩, ?_⟩
      refine ⟨_, right_ok q.msgs[k], ?_⟩
      refine ⟨(q.msgs.getD (k - 1) dmsg).L, fun _ hg => ⟨k - 1, ?_, ?_⟩, ?_⟩
      · have hg : 0 < k := by simpa using hg
        rw [wrap64 (by omega) (by omega)]; omega
      · have hg : 0 < k := by simpa using hg
        have : k - 1 < q.msgs.length := by omega
        simp [Ml_get, this, List.getD_eq_getElem?_getD]
      refine ⟨_, fun _ _ => less_ok (q.msgs.getD (k - 1) dmsg) q.msgs[k], ?_⟩
      refine ⟨rfl, ?_⟩
      refine ⟨fun hc2 => ?_, fun hc2 => ?_⟩
      · have hok : okAt q.msgs k = false := by
          rw [okAt, hget]
          revert hc2
          cases q.msgs[k].right <;> cases (q.msgs.getD (k - 1) dmsg).less q.msgs[k] <;> by_cases hz : k = 0 <;> simp [hz] <;> omega
        refine ⟨⟨L.le_of_eq ?_, trivial⟩, trivial, rfl, rfl⟩
        have : (List.range q.msgs.length).all (okAt q.msgs) = false := by
          rw [List.all_eq_false]
          exact ⟨k, by simpa using hlt, by simp [hok]⟩
        rw [Que.right, this]
        simp
      · have hok : okAt q.msgs k = true := by
          rw [okAt, hget]
          revert hc2
          cases q.msgs[k].right <;> cases (q.msgs.getD (k - 1) dmsg).less q.msgs[k] <;> by_cases hz : k = 0 <;> simp [hz] <;> omega
        refine ⟨k + 1, ⟨hlt, fun j hj => ?_⟩, by show q.msgs.length - (k + 1) < q.msgs.length - k; omega, ?_⟩
        · rcases Nat.lt_or_eq_of_le (Nat.lt_succ_iff.1 hj) with h1 | h1
          · exact hall j h1
          · rw [h1]; exact hok
        refine ⟨⟨⟨rfl, rfl⟩, rfl, L.le_refl _, L.le_refl _, L.le_of_eq (by rw [hwk k hlt]), trivial⟩, ⟨⟨L.le_refl _, L.le_refl _, trivial⟩, hnext, trivial⟩, rfl, rfl⟩
    · have hge : k = q.msgs.length := by
        have : ¬ ((k : Int) < q.msgs.length) := by simpa using hc
        omega
      refine ⟨⟨L.le_of_eq ?_, trivial⟩, trivial, rfl, rfl⟩
      have hal : (List.range q.msgs.length).all (okAt q.msgs) = true := by
        rw [List.all_eq_true]
        intro j hj
        exact hall j (by rw [hge]; simpa using hj)
      rw [Que.right, h0, hal, hge, List.take_length, Ml_length]
      simp only [Bool.true_and]
      congr 2
      rw [Bool.eq_iff_iff]
      simp
      try omega
abbrev Msg.C (m : Msg) : List Abs.V := [.bool m.ext, .int m.n, .int m.sender, .int m.inc, .int m.seq, .int m.number, .str m.data]
theorem m7 {fz : Fz} (m : Msg) : leV fz (.agg m.C) m.V := ⟨L.le_refl _, L.le_refl _, L.le_refl _, L.le_refl _, L.le_refl _, L.le_refl _, L.le_refl _, trivial⟩
def firstR (q : Que) : V := cond q.right (match q.msgs with | [] => .tup [dmsg.V, .bool false] | m :: _ => .tup [m.V, .bool true]) (.tup [dmsg.V, .bool false])
theorem first_ok (q : Que) (hq : q.msgs.length ≤ 1000000000) : M 15 [q.V] (firstR q) := by
  refine go15 rfl (by rw [firstR]; cases q.right <;> cases q.msgs <;> rfl) fun hb => ?_
  refine ⟨_, qright_ok q hq, ?_⟩
  refine ⟨fun h => ?_, fun h => ?_⟩
  · have hR : firstR q = .tup [dmsg.V, .bool false] := by
      rw [firstR]; revert h; rw [Ml_length]
      cases q.right <;> cases q.msgs <;> simp
      omega
    rw [hR]
    exact ⟨⟨⟨m7 dmsg, L.le_refl _, trivial⟩, trivial⟩, trivial, rfl, rfl⟩
  · obtain ⟨m, l, hl⟩ : ∃ m l, q.msgs = m :: l := by
      cases hm : q.msgs with
      | nil => revert h; rw [Ml_length, hm]; cases q.right <;> simp
      | cons m l => exact ⟨m, l, rfl⟩
    have hR : firstR q = .tup [m.V, .bool true] := by
      rw [firstR, hl]; revert h
      cases q.right <;> simp
    rw [hR]
    refine ⟨m.L, ⟨0, rfl, by rw [hl]; rfl⟩, ?_⟩
    exact ⟨⟨⟨m7 m, L.le_refl _, trivial⟩, trivial⟩, trivial, rfl, rfl⟩
/-! the closures -/
theorem clOf_ok (m : Msg) (n : Int) : M 53 [m.V, .ep [L.int n] 0] (.bool (m.number == n)) := by
  refine go53 rfl rfl fun hb => ?_
  exact ⟨⟨L.le_refl _, trivial⟩, trivial, rfl, rfl⟩
theorem clAll_ok (m : Msg) : M 30 [m.V] (.bool true) := by
  refine go30 rfl rfl fun hb => ?_
  exact ⟨⟨L.le_refl _, trivial⟩, trivial, rfl, rfl⟩
theorem of_ok (n : Int) : M 38 [.int n] (.fn (.func 53) [] [.ep [L.int n] 0]) := by
  refine go38 rfl rfl fun hb => ?_
  exact ⟨⟨⟨rfl, ⟨rfl, rfl⟩, trivial, ⟨.inr ⟨_, rfl, rfl, _, rfl, rfl⟩, trivial⟩⟩, trivial⟩, trivial, rfl, rfl⟩
theorem clLess_ok (m x : Msg) : MM 39 [(N0, .cells m.C)] [x.V, .ref N0 0] [(N0, .cells m.C)] (.bool (m.less x)) := by
  refine gb39 [] [] rfl rfl fun hb => ?_
  refine ⟨_, less_ok m x, ?_⟩
  exact ⟨⟨L.le_refl _, trivial⟩, ⟨⟨L.le_refl _, L.le_refl _, L.le_refl _, L.le_refl _, L.le_refl _, L.le_refl _, L.le_refl _, trivial⟩, trivial⟩, rfl, rfl⟩
/-! where something is -/
def findN (p : Msg → Bool) (l : List Msg) : Int := match l.findIdx? p with | some i => (i : Int) | none => -1
theorem findN_none {p : Msg → Bool} {l : List Msg} (h : ∀ j (hj : j < l.length), p l[j] = false) : findN p l = -1 := by
  have : l.findIdx? p = none := by rw [List.findIdx?_eq_none_iff]; intro x hx; obtain ⟨i, hi, rfl⟩ := List.getElem_of_mem hx; simp [h i hi]
  rw [findN, this]
theorem findN_some {p : Msg → Bool} {l : List Msg} {k : Nat} (hk : k < l.length) (h : ∀ j (hj : j < k), p (l[j]'(by omega)) = false) (hp : p l[k] = true) : findN p l = k := by
  have : l.findIdx? p = some k := by
    rw [List.findIdx?_eq_some_iff_getElem]
    exact ⟨hk, hp, fun j hj => by simp [h j hj]⟩
  rw [findN, this]
theorem ifDOf_ok (l : List Msg) (hl : l.length ≤ 1000000000) (n : Int) : MM 52 [] [Ms l, .fn (.func 53) [] [.ep [L.int n] 0]] [] (.int (findN (fun m => m.number == n) l)) := by
  refine gb52 [] [] rfl rfl fun hb => ?_
  refine ⟨Nat, fun k => ⟨[(0, Ms l), (1, .fn (.func 53) [] [.ep [L.int n] 0]), (7, .int l.length), (8, .int k)], ⟨[], [], 900000, 0⟩⟩, fun k => k ≤ l.length ∧ ∀ j (hj : j < l.length), j < k → (l[j].number == n) = false, fun k => l.length - k, 0, ⟨Nat.zero_le _, nofun⟩, ?_, ?_⟩
  · exact ⟨⟨L.le_refl _, ⟨rfl, ⟨rfl, rfl⟩, trivial, ⟨.inl rfl, trivial⟩⟩, L.le_of_eq (by rw [Ml_length]), L.le_refl _, trivial⟩, trivial, rfl, rfl⟩
  · rintro k ⟨hk, hall⟩ _
    refine ⟨fun hc => ?_, fun hc => ?_⟩
    · have hlt : k < l.length := by simpa using hc
      refine ⟨l[k].L, ⟨k, rfl, by simp [Ml_get, hlt]⟩, ?_⟩
      refine ⟨_, clOf_ok l[k] n, ?_⟩
      refine ⟨fun hc2 => ?_, fun hc2 => ?_⟩
      · refine ⟨⟨L.le_of_eq ?_, trivial⟩, trivial, rfl, rfl⟩
        rw [findN_some hlt (fun j hj => hall j (by omega) hj) hc2]
      · refine ⟨k + 1, ⟨hlt, fun j hj hjk => ?_⟩, by show l.length - (k + 1) < l.length - k; omega, ?_⟩
        · rcases Nat.lt_or_eq_of_le (Nat.lt_succ_iff.1 hjk) with h1 | h1
          · exact hall j hj h1
          · subst h1; exact hc2
        refine ⟨⟨L.le_refl _, ⟨rfl, ⟨rfl, rfl⟩, trivial, ⟨.inl rfl, trivial⟩⟩, L.le_refl _, L.le_of_eq (by rw [wrap64 (by omega) (by omega)]; simp), trivial⟩, trivial, rfl, rfl⟩
    · have hge : k = l.length := by
        have : ¬ ((k : Int) < l.length) := by simpa using hc
        omega
      refine ⟨⟨L.le_of_eq ?_, trivial⟩, trivial, rfl, rfl⟩
      rw [findN_none fun j hj => hall j hj (by omega)]
theorem findDOf_ok (l : List Msg) (hl : l.length ≤ 1000000000) (n : Int) : MM 37 [] [Ms l, .fn (.func 53) [] [.ep [L.int n] 0]] [] (.int (findN (fun m => m.number == n) l)) := by
  refine gb37 [] [] rfl rfl fun hb => ?_
  refine ⟨_, _, ifDOf_ok l hl n, ?_⟩
  exact ⟨⟨L.le_refl _, trivial⟩, trivial, rfl, rfl⟩
theorem ifDAll_ok (l : List Msg) (hl : l.length ≤ 1000000000)  : MM 52 [] [Ms l, .fn (.func 30) [] []] [] (.int (findN (fun _ => true) l)) := by
  refine gb52 [] [] rfl rfl fun hb => ?_
  refine ⟨Nat, fun k => ⟨[(0, Ms l), (1, .fn (.func 30) [] []), (7, .int l.length), (8, .int k)], ⟨[], [], 900000, 0⟩⟩, fun k => k ≤ l.length ∧ ∀ j (hj : j < l.length), j < k → true = false, fun k => l.length - k, 0, ⟨Nat.zero_le _, nofun⟩, ?_, ?_⟩
  · exact ⟨⟨L.le_refl _, ⟨rfl, ⟨rfl, rfl⟩, trivial, trivial⟩, L.le_of_eq (by rw [Ml_length]), L.le_refl _, trivial⟩, trivial, rfl, rfl⟩
  · rintro k ⟨hk, hall⟩ _
    refine ⟨fun hc => ?_, fun hc => ?_⟩
    · have hlt : k < l.length := by simpa using hc
      refine ⟨l[k].L, ⟨k, rfl, by simp [Ml_get, hlt]⟩, ?_⟩
      refine ⟨_, clAll_ok l[k], ?_⟩
      refine ⟨fun hc2 => ?_, fun hc2 => ?_⟩
      · refine ⟨⟨L.le_of_eq ?_, trivial⟩, trivial, rfl, rfl⟩
        rw [findN_some hlt (fun j hj => hall j (by omega) hj) hc2]
      · refine ⟨k + 1, ⟨hlt, fun j hj hjk => ?_⟩, by show l.length - (k + 1) < l.length - k; omega, ?_⟩
        · rcases Nat.lt_or_eq_of_le (Nat.lt_succ_iff.1 hjk) with h1 | h1
          · exact hall j hj h1
          · subst h1; exact hc2
        refine ⟨⟨L.le_refl _, ⟨rfl, ⟨rfl, rfl⟩, trivial, trivial⟩, L.le_refl _, L.le_of_eq (by rw [wrap64 (by omega) (by omega)]; simp), trivial⟩, trivial, rfl, rfl⟩
    · have hge : k = l.length := by
        have : ¬ ((k : Int) < l.length) := by simpa using hc
        omega
      refine ⟨⟨L.le_of_eq ?_, trivial⟩, trivial, rfl, rfl⟩
      rw [findN_none fun j hj => hall j hj (by omega)]
theorem findDAll_ok (l : List Msg) (hl : l.length ≤ 1000000000)  : MM 37 [] [Ms l, .fn (.func 30) [] []] [] (.int (findN (fun _ => true) l)) := by
  refine gb37 [] [] rfl rfl fun hb => ?_
  refine ⟨_, _, ifDAll_ok l hl , ?_⟩
  exact ⟨⟨L.le_refl _, trivial⟩, trivial, rfl, rfl⟩
theorem ifDLess_ok (l : List Msg) (hl : l.length ≤ 1000000000) (m : Msg) : MM 52 [(1000000, .cells m.C)] [Ms l, .fn (.func 39) [] [.ref 1000000 0]] [(1000000, .cells m.C)] (.int (findN (fun x => m.less x) l)) := by
  refine gb52 [] [] rfl rfl fun hb => ?_
  refine ⟨Nat, fun k => ⟨[(0, Ms l), (1, .fn (.func 39) [] [.ref 1000000 0]), (7, .int l.length), (8, .int k)], ⟨[(1000000, .cells m.C)], [], 900000, 0⟩⟩, fun k => k ≤ l.length ∧ ∀ j (hj : j < l.length), j < k → m.less l[j] = false, fun k => l.length - k, 0, ⟨Nat.zero_le _, nofun⟩, ?_, ?_⟩
  · exact ⟨⟨L.le_refl _, ⟨rfl, ⟨rfl, rfl⟩, trivial, ⟨⟨rfl, rfl⟩, trivial⟩⟩, L.le_of_eq (by rw [Ml_length]), L.le_refl _, trivial⟩, ⟨⟨L.le_refl _, L.le_refl _, L.le_refl _, L.le_refl _, L.le_refl _, L.le_refl _, L.le_refl _, trivial⟩, trivial⟩, rfl, rfl⟩
  · rintro k ⟨hk, hall⟩ _
    refine ⟨fun hc => ?_, fun hc => ?_⟩
    · have hlt : k < l.length := by simpa using hc
      refine ⟨l[k].L, ⟨k, rfl, by simp [Ml_get, hlt]⟩, ?_⟩
      refine ⟨_, _, clLess_ok m l[k], ?_⟩
      refine ⟨fun hc2 => ?_, fun hc2 => ?_⟩
      · refine ⟨⟨L.le_of_eq ?_, trivial⟩, ⟨⟨L.le_refl _, L.le_refl _, L.le_refl _, L.le_refl _, L.le_refl _, L.le_refl _, L.le_refl _, trivial⟩, trivial⟩, rfl, rfl⟩
        rw [findN_some hlt (fun j hj => hall j (by omega) hj) hc2]
      · refine ⟨k + 1, ⟨hlt, fun j hj hjk => ?_⟩, by show l.length - (k + 1) < l.length - k; omega, ?_⟩
        · rcases Nat.lt_or_eq_of_le (Nat.lt_succ_iff.1 hjk) with h1 | h1
          · exact hall j hj h1
          · subst h1; exact hc2
        refine ⟨⟨L.le_refl _, ⟨rfl, ⟨rfl, rfl⟩, trivial, ⟨⟨rfl, rfl⟩, trivial⟩⟩, L.le_refl _, L.le_of_eq (by rw [wrap64 (by omega) (by omega)]; simp), trivial⟩, ⟨⟨L.le_refl _, L.le_refl _, L.le_refl _, L.le_refl _, L.le_refl _, L.le_refl _, L.le_refl _, trivial⟩, trivial⟩, rfl, rfl⟩
    · have hge : k = l.length := by
        have : ¬ ((k : Int) < l.length) := by simpa using hc
        omega
      refine ⟨⟨L.le_of_eq ?_, trivial⟩, ⟨⟨L.le_refl _, L.le_refl _, L.le_refl _, L.le_refl _, L.le_refl _, L.le_refl _, L.le_refl _, trivial⟩, trivial⟩, rfl, rfl⟩
      rw [findN_none fun j hj => hall j hj (by omega)]
theorem findDLess_ok (l : List Msg) (hl : l.length ≤ 1000000000) (m : Msg) : MM 37 [(1000000, .cells m.C)] [Ms l, .fn (.func 39) [] [.ref 1000000 0]] [(1000000, .cells m.C)] (.int (findN (fun x => m.less x) l)) := by
  refine gb37 [] [] rfl rfl fun hb => ?_
  refine ⟨_, _, ifDLess_ok l hl m, ?_⟩
  exact ⟨⟨L.le_refl _, trivial⟩, ⟨⟨L.le_refl _, L.le_refl _, L.le_refl _, L.le_refl _, L.le_refl _, L.le_refl _, L.le_refl _, trivial⟩, trivial⟩, rfl, rfl⟩
theorem ifAOf_ok (l : List Msg) (hl : l.length ≤ 1000000000) (f : Bool) (n : Int) : MM 52 [(1000000, .arr 7 (Ml l) f)] [.msl 1000000 7 0 l.length, .fn (.func 53) [] [.ep [L.int n] 0]] [(1000000, .arr 7 (Ml l) f)] (.int (findN (fun m => m.number == n) l)) := by
  refine gb52 [] [] rfl rfl fun hb => ?_
  refine ⟨Nat, fun k => ⟨[(0, .msl 1000000 7 0 l.length), (1, .fn (.func 53) [] [.ep [L.int n] 0]), (7, .int l.length), (8, .int k)], ⟨[(1000000, .arr 7 (Ml l) f)], [], 900000, 0⟩⟩, fun k => k ≤ l.length ∧ ∀ j (hj : j < l.length), j < k → (l[j].number == n) = false, fun k => l.length - k, 0, ⟨Nat.zero_le _, nofun⟩, ?_, ?_⟩
  · exact ⟨⟨⟨rfl, rfl, rfl, rfl⟩, ⟨rfl, ⟨rfl, rfl⟩, trivial, ⟨.inl rfl, trivial⟩⟩, L.le_refl _, L.le_refl _, trivial⟩, ⟨⟨rfl, ⟨[], by simp⟩, fun h => ⟨h, rfl⟩⟩, trivial⟩, rfl, rfl⟩
  · rintro k ⟨hk, hall⟩ _
    refine ⟨fun hc => ?_, fun hc => ?_⟩
    · have hlt : k < l.length := by simpa using hc
      refine ⟨k, ⟨rfl, hlt⟩, l[k].L, by simp [Ml_get, hlt], ?_⟩
      refine ⟨_, clOf_ok l[k] n, ?_⟩
      refine ⟨fun hc2 => ?_, fun hc2 => ?_⟩
      · refine ⟨⟨L.le_of_eq ?_, trivial⟩, ⟨⟨rfl, ⟨[], by simp⟩, fun h => ⟨h, rfl⟩⟩, trivial⟩, rfl, rfl⟩
        rw [findN_some hlt (fun j hj => hall j (by omega) hj) hc2]
      · refine ⟨k + 1, ⟨hlt, fun j hj hjk => ?_⟩, by show l.length - (k + 1) < l.length - k; omega, ?_⟩
        · rcases Nat.lt_or_eq_of_le (Nat.lt_succ_iff.1 hjk) with h1 | h1
          · exact hall j hj h1
          · subst h1; exact hc2
        refine ⟨⟨⟨rfl, rfl, rfl, rfl⟩, ⟨rfl, ⟨rfl, rfl⟩, trivial, ⟨.inl rfl, trivial⟩⟩, L.le_refl _, L.le_of_eq (by rw [wrap64 (by omega) (by omega)]; simp), trivial⟩, ⟨⟨rfl, ⟨[], by simp⟩, fun h => ⟨h, rfl⟩⟩, trivial⟩, rfl, rfl⟩
    · have hge : k = l.length := by
        have : ¬ ((k : Int) < l.length) := by simpa using hc
        omega
      refine ⟨⟨L.le_of_eq ?_, trivial⟩, ⟨⟨rfl, ⟨[], by simp⟩, fun h => ⟨h, rfl⟩⟩, trivial⟩, rfl, rfl⟩
      rw [findN_none fun j hj => hall j hj (by omega)]
theorem findAOf_ok (l : List Msg) (hl : l.length ≤ 1000000000) (f : Bool) (n : Int) : MM 37 [(1000000, .arr 7 (Ml l) f)] [.msl 1000000 7 0 l.length, .fn (.func 53) [] [.ep [L.int n] 0]] [(1000000, .arr 7 (Ml l) f)] (.int (findN (fun m => m.number == n) l)) := by
  refine gb37 [] [] rfl rfl fun hb => ?_
  refine ⟨_, _, ifAOf_ok l hl f n, ?_⟩
  exact ⟨⟨L.le_refl _, trivial⟩, ⟨⟨rfl, ⟨[], by simp⟩, fun h => ⟨h, rfl⟩⟩, trivial⟩, rfl, rfl⟩
theorem ifAAll_ok (l : List Msg) (hl : l.length ≤ 1000000000) (f : Bool)  : MM 52 [(1000000, .arr 7 (Ml l) f)] [.msl 1000000 7 0 l.length, .fn (.func 30) [] []] [(1000000, .arr 7 (Ml l) f)] (.int (findN (fun _ => true) l)) := by
  refine gb52 [] [] rfl rfl fun hb => ?_
  refine ⟨Nat, fun k => ⟨[(0, .msl 1000000 7 0 l.length), (1, .fn (.func 30) [] []), (7, .int l.length), (8, .int k)], ⟨[(1000000, .arr 7 (Ml l) f)], [], 900000, 0⟩⟩, fun k => k ≤ l.length ∧ ∀ j (hj : j < l.length), j < k → true = false, fun k => l.length - k, 0, ⟨Nat.zero_le _, nofun⟩, ?_, ?_⟩
  · exact ⟨⟨⟨rfl, rfl, rfl, rfl⟩, ⟨rfl, ⟨rfl, rfl⟩, trivial, trivial⟩, L.le_refl _, L.le_refl _, trivial⟩, ⟨⟨rfl, ⟨[], by simp⟩, fun h => ⟨h, rfl⟩⟩, trivial⟩, rfl, rfl⟩
  · rintro k ⟨hk, hall⟩ _
    refine ⟨fun hc => ?_, fun hc => ?_⟩
    · have hlt : k < l.length := by simpa using hc
      refine ⟨k, ⟨rfl, hlt⟩, l[k].L, by simp [Ml_get, hlt], ?_⟩
      refine ⟨_, clAll_ok l[k], ?_⟩
      refine ⟨fun hc2 => ?_, fun hc2 => ?_⟩
      · refine ⟨⟨L.le_of_eq ?_, trivial⟩, ⟨⟨rfl, ⟨[], by simp⟩, fun h => ⟨h, rfl⟩⟩, trivial⟩, rfl, rfl⟩
        rw [findN_some hlt (fun j hj => hall j (by omega) hj) hc2]
      · refine ⟨k + 1, ⟨hlt, fun j hj hjk => ?_⟩, by show l.length - (k + 1) < l.length - k; omega, ?_⟩
        · rcases Nat.lt_or_eq_of_le (Nat.lt_succ_iff.1 hjk) with h1 | h1
          · exact hall j hj h1
          · subst h1; exact hc2
        refine ⟨⟨⟨rfl, rfl, rfl, rfl⟩, ⟨rfl, ⟨rfl, rfl⟩, trivial, trivial⟩, L.le_refl _, L.le_of_eq (by rw [wrap64 (by omega) (by omega)]; simp), trivial⟩, ⟨⟨rfl, ⟨[], by simp⟩, fun h => ⟨h, rfl⟩⟩, trivial⟩, rfl, rfl⟩
    · have hge : k = l.length := by
        have : ¬ ((k : Int) < l.length) := by simpa using hc
        omega
      refine ⟨⟨L.le_of_eq ?_, trivial⟩, ⟨⟨rfl, ⟨[], by simp⟩, fun h => ⟨h, rfl⟩⟩, trivial⟩, rfl, rfl⟩
      rw [findN_none fun j hj => hall j hj (by omega)]
theorem findAAll_ok (l : List Msg) (hl : l.length ≤ 1000000000) (f : Bool)  : MM 37 [(1000000, .arr 7 (Ml l) f)] [.msl 1000000 7 0 l.length, .fn (.func 30) [] []] [(1000000, .arr 7 (Ml l) f)] (.int (findN (fun _ => true) l)) := by
  refine gb37 [] [] rfl rfl fun hb => ?_
  refine ⟨_, _, ifAAll_ok l hl f , ?_⟩
  exact ⟨⟨L.le_refl _, trivial⟩, ⟨⟨rfl, ⟨[], by simp⟩, fun h => ⟨h, rfl⟩⟩, trivial⟩, rfl, rfl⟩
theorem ifALess_ok (l : List Msg) (hl : l.length ≤ 1000000000) (f : Bool) (m : Msg) : MM 52 [(1000000, .cells m.C), (1000001, .arr 7 (Ml l) f)] [.msl 1000001 7 0 l.length, .fn (.func 39) [] [.ref 1000000 0]] [(1000000, .cells m.C), (1000001, .arr 7 (Ml l) f)] (.int (findN (fun x => m.less x) l)) := by
  refine gb52 [] [] rfl rfl fun hb => ?_
  refine ⟨Nat, fun k => ⟨[(0, .msl 1000001 7 0 l.length), (1, .fn (.func 39) [] [.ref 1000000 0]), (7, .int l.length), (8, .int k)], ⟨[(1000000, .cells m.C), (1000001, .arr 7 (Ml l) f)], [], 900000, 0⟩⟩, fun k => k ≤ l.length ∧ ∀ j (hj : j < l.length), j < k → m.less l[j] = false, fun k => l.length - k, 0, ⟨Nat.zero_le _, nofun⟩, ?_, ?_⟩
  · exact ⟨⟨⟨rfl, rfl, rfl, rfl⟩, ⟨rfl, ⟨rfl, rfl⟩, trivial, ⟨⟨rfl, rfl⟩, trivial⟩⟩, L.le_refl _, L.le_refl _, trivial⟩, ⟨⟨L.le_refl _, L.le_refl _, L.le_refl _, L.le_refl _, L.le_refl _, L.le_refl _, L.le_refl _, trivial⟩, ⟨rfl, ⟨[], by simp⟩, fun h => ⟨h, rfl⟩⟩, trivial⟩, rfl, rfl⟩
  · rintro k ⟨hk, hall⟩ _
    refine ⟨fun hc => ?_, fun hc => ?_⟩
    · have hlt : k < l.length := by simpa using hc
      refine ⟨k, ⟨rfl, hlt⟩, l[k].L, by simp [Ml_get, hlt], ?_⟩
      refine ⟨_, _, clLess_ok m l[k], ?_⟩
      refine ⟨fun hc2 => ?_, fun hc2 => ?_⟩
      · refine ⟨⟨L.le_of_eq ?_, trivial⟩, ⟨⟨L.le_refl _, L.le_refl _, L.le_refl _, L.le_refl _, L.le_refl _, L.le_refl _, L.le_refl _, trivial⟩, ⟨rfl, ⟨[], by simp⟩, fun h => ⟨h, rfl⟩⟩, trivial⟩, rfl, rfl⟩
        rw [findN_some hlt (fun j hj => hall j (by omega) hj) hc2]
      · refine ⟨k + 1, ⟨hlt, fun j hj hjk => ?_⟩, by show l.length - (k + 1) < l.length - k; omega, ?_⟩
        · rcases Nat.lt_or_eq_of_le (Nat.lt_succ_iff.1 hjk) with h1 | h1
          · exact hall j hj h1
          · subst h1; exact hc2
        refine ⟨⟨⟨rfl, rfl, rfl, rfl⟩, ⟨rfl, ⟨rfl, rfl⟩, trivial, ⟨⟨rfl, rfl⟩, trivial⟩⟩, L.le_refl _, L.le_of_eq (by rw [wrap64 (by omega) (by omega)]; simp), trivial⟩, ⟨⟨L.le_refl _, L.le_refl _, L.le_refl _, L.le_refl _, L.le_refl _, L.le_refl _, L.le_refl _, trivial⟩, ⟨rfl, ⟨[], by simp⟩, fun h => ⟨h, rfl⟩⟩, trivial⟩, rfl, rfl⟩
    · have hge : k = l.length := by
        have : ¬ ((k : Int) < l.length) := by simpa using hc
        omega
      refine ⟨⟨L.le_of_eq ?_, trivial⟩, ⟨⟨L.le_refl _, L.le_refl _, L.le_refl _, L.le_refl _, L.le_refl _, L.le_refl _, L.le_refl _, trivial⟩, ⟨rfl, ⟨[], by simp⟩, fun h => ⟨h, rfl⟩⟩, trivial⟩, rfl, rfl⟩
      rw [findN_none fun j hj => hall j hj (by omega)]
theorem findALess_ok (l : List Msg) (hl : l.length ≤ 1000000000) (f : Bool) (m : Msg) : MM 37 [(1000000, .cells m.C), (1000001, .arr 7 (Ml l) f)] [.msl 1000001 7 0 l.length, .fn (.func 39) [] [.ref 1000000 0]] [(1000000, .cells m.C), (1000001, .arr 7 (Ml l) f)] (.int (findN (fun x => m.less x) l)) := by
  refine gb37 [] [] rfl rfl fun hb => ?_
  refine ⟨_, _, ifALess_ok l hl f m, ?_⟩
  exact ⟨⟨L.le_refl _, trivial⟩, ⟨⟨L.le_refl _, L.le_refl _, L.le_refl _, L.le_refl _, L.le_refl _, L.le_refl _, L.le_refl _, trivial⟩, ⟨rfl, ⟨[], by simp⟩, fun h => ⟨h, rfl⟩⟩, trivial⟩, rfl, rfl⟩

end Go.Proofs.YthcbdpghfefnlaaDoor
