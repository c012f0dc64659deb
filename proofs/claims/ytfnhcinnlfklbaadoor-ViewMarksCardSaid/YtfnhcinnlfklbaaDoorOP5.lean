/-
  Layer 17: views, messages of entries, what was seen.
-/
import Derived.Test.YtfnhcinnlfklbaaDoorOP4
import Derived.Test.YtfnhcinnlfklbaaDoorTie
import Derived.Test.YtfnhcinnlfklbaaDoorCards
import Derived.Test.YtfnhcinnlfklbaaDoorOP3
import Derived.LaidMore
import Derived.OpenShut
import Derived.Stop.Joined
import Derived.Test.YtfnhcinnlfklbaaDoorOP1
import Derived.Test.YtfnhcinnlfklbaaDoorOP2
set_option linter.unusedVariables false
set_option linter.unusedSimpArgs false
set_option maxRecDepth 100000
namespace Go.Proofs.YtfnhcinnlfklbaaDoor
open Go Go.Proofs.YtfnhcinnlfklbaaDoor.Abs

theorem Fit.some {l : List Ent} (h : Fit l) : Fit (someL l) := by
  rw [someL]
  split
  · exact h
  · exact ⟨Nat.zero_le _, fun e he => by cases he⟩
theorem Fit.take {l : List Ent} (h : Fit l) (k : Nat) : Fit (l.take k) := ⟨by simp; have := h.1; omega, fun e he => h.2 e (List.mem_of_mem_take he)⟩
theorem flat_len {l : List Ent} : (∀ e ∈ l, FitE e) → (l.flatMap Ent.msgs).length ≤ l.length * 1000 := by
  induction l with
  | nil => intro _; simp
  | cons e l ih =>
    intro h
    have h1 := ih fun x hx => h x (by simp [hx])
    have h2 := (h e (by simp)).2
    simp only [List.flatMap_cons, List.length_append, List.length_cons]
    omega
theorem msgsL_len {l : List Ent} (h : Fit l) (a b : Nat) : (msgsL l a b).length ≤ 400000 := by
  have hs := h.some
  have h1 := flat_len (l := ((someL l).take b).drop a) fun e he => hs.2 e (List.mem_of_mem_take (List.mem_of_mem_drop he))
  have h2 := hs.1
  have h3 : (((someL l).take b).drop a).length ≤ 400 := by simp; omega
  rw [msgsL]
  omega
theorem some_ok (l : List Ent) (hf : Fit l) : M 27 [Es l] (Es (someL l)) := by
  refine go27 rfl rfl fun hb => ?_
  refine ⟨_, lright_ok l hf, ?_⟩
  refine ⟨fun h => ?_, fun h => ?_⟩
  · have h : logRight l = false := by simpa using h
    have e : someL l = [] := by rw [someL, h]; rfl
    rw [e]
    exact ⟨⟨L.le_nil 5, trivial⟩, trivial, rfl, rfl⟩
  · have h : logRight l = true := by simpa using h
    rw [someL_right h]
    exact ⟨⟨L.le_refl _, trivial⟩, trivial, rfl, rfl⟩
theorem flat_succ (x : List Ent) (a i : Nat) (ha : a ≤ i) (hi : i < x.length) : ((x.take (i + 1)).drop a).flatMap Ent.msgs = ((x.take i).drop a).flatMap Ent.msgs ++ x[i].msgs := by
  rw [List.take_succ_eq_append_getElem hi, List.drop_append_of_le_length (by simp; omega), List.flatMap_append]
  simp
theorem msgs_ok (l : List Ent) (hf : Fit l) (a b : Nat) (ha : a ≤ 1000) (hb' : b ≤ 1000) : M 11 [Es l, .int a, .int b] (Ms (msgsL l a b)) := by
  have hs := hf.some
  obtain ⟨x, hx⟩ : ∃ x, x = someL l := ⟨_, rfl⟩
  rw [← hx] at hs
  have hel := El_length x
  have hx400 := hs.1
  refine go11 rfl rfl fun hb => ?_
  refine ⟨_, some_ok l hf, ?_⟩
  rw [← hx]
  refine ⟨Nat, fun d => ⟨[(2, .int (min b x.length : Nat)), (6, .own 950000 7 (Ml (((x.take (a + d)).drop a).flatMap Ent.msgs))), (7, Es x), (8, .int (a + d : Nat))], ⟨[], [950000], 900000, 0⟩⟩, fun d => d ≤ min b x.length - a, fun d => min b x.length - a - d, 0, Nat.zero_le _, ?_, ?_⟩
  · refine ⟨⟨L.le_of_eq (congrArg L.int (by rw [hel]; omega)), ?_, L.le_refl _, L.le_of_eq (congrArg L.int (by omega)), trivial⟩, trivial, rfl, rfl⟩
    show Ml (((x.take (a + 0)).drop a).flatMap Ent.msgs) = []
    have : (x.take (a + 0)).drop a = [] := List.drop_eq_nil_of_le (by simp; omega)
    rw [this]; rfl
  rintro d hd _
  have hd : d ≤ min b x.length - a := hd
  have hpl : (((x.take (a + d)).drop a).flatMap Ent.msgs).length ≤ 400000 := by
    have h1 := flat_len (l := (x.take (a + d)).drop a) fun e he => hs.2 e (List.mem_of_mem_take (List.mem_of_mem_drop he))
    have h3 : ((x.take (a + d)).drop a).length ≤ 400 := by simp; omega
    omega
  have hpm := Ml_length (((x.take (a + d)).drop a).flatMap Ent.msgs)
  refine ⟨fun hc => ?_, fun hc => ?_⟩
  · have hlt : a + d < min b x.length := by
      have : ((a + d : Nat) : Int) < ((min b x.length : Nat) : Int) := by simpa using hc
      omega
    have hxl : a + d < x.length := by omega
    refine ⟨x[a + d].L, ⟨a + d, rfl, by rw [El_get, List.getElem?_eq_getElem hxl]; rfl⟩, ?_⟩
    have hm := (hs.2 _ (List.getElem_mem hxl)).2
    have hmm := Ml_length x[a + d].msgs
    refine ⟨by show ((Ml _).length + (Ml x[a + d].msgs).length) * 64 ≤ _; omega, ?_⟩
    refine ⟨d + 1, by show d + 1 ≤ _; omega, by show min b x.length - a - (d + 1) < min b x.length - a - d; omega, ?_⟩
    refine ⟨⟨L.le_refl _, ⟨rfl, L.le_of_eq (congrArg (L.sl 7) ?_)⟩, L.le_refl _, L.le_of_eq (congrArg L.int ?_), trivial⟩, trivial, rfl, rfl⟩
    · rw [← Nat.add_assoc, flat_succ x a (a + d) (by omega) hxl, ← Ml_app]
    · rw [wrap64 (by omega) (by omega)]; omega
  · have hge : min b x.length ≤ a + d := by
      have : ¬ ((a + d : Nat) : Int) < ((min b x.length : Nat) : Int) := by simpa using hc
      omega
    refine ⟨⟨L.le_of_eq (congrArg (fun z => L.sl 7 (Ml z)) ?_), trivial⟩, trivial, rfl, rfl⟩
    rw [msgsL, ← hx]
    by_cases hab : a ≤ min b x.length
    · have e : a + d = min b x.length := by omega
      rw [e]
      congr 2
      rcases Nat.le_total b x.length with h | h
      · rw [Nat.min_eq_left h]
      · rw [Nat.min_eq_right h, List.take_length, List.take_of_length_le h]
    · have e1 : (x.take (a + d)).drop a = [] := List.drop_eq_nil_of_le (by simp; omega)
      have e2 : (x.take b).drop a = [] := List.drop_eq_nil_of_le (by simp; omega)
      rw [e1, e2]
theorem seenF_snoc (ms : List Msg) (node inc : Int) (k : Nat) (h : k < ms.length) : seenS (ms.take (k + 1)) node inc = if ms[k].sender = node ∧ ms[k].inc = inc then max (seenS (ms.take k) node inc) ms[k].seq else seenS (ms.take k) node inc := by
  rw [seenS, List.take_succ_eq_append_getElem h, List.foldl_append]; rfl
theorem seen_ok (l : List Ent) (hf : Fit l) (node inc : Int) : M 16 [Es l, .int node, .int inc] (.int (seenL l node inc)) := by
  have hel := El_length l
  have h400 := hf.1
  obtain ⟨ms, hms⟩ : ∃ ms, ms = msgsL l 0 l.length := ⟨_, rfl⟩
  have hml : ms.length ≤ 400000 := by rw [hms]; exact msgsL_len hf _ _
  have hmm := Ml_length ms
  refine go16 rfl rfl fun hb => ?_
  have hmo := msgs_ok l hf 0 l.length (by omega) (by omega)
  rw [← hms] at hmo
  have hmo' : M 11 [Es l, .int 0, .int ((El l).length : Nat)] (Ms ms) := by rw [hel]; exact hmo
  refine ⟨_, hmo', ?_⟩
  refine ⟨Nat, fun k => ⟨[(1, .int node), (2, .int inc), (6, .int (seenS (ms.take k) node inc)), (12, Ms ms), (13, .int ms.length), (14, .int k)], ⟨[], [], 900000, 0⟩⟩, fun k => k ≤ ms.length, fun k => ms.length - k, 0, Nat.zero_le _, ?_, ?_⟩
  · exact ⟨⟨L.le_refl _, L.le_refl _, L.le_refl _, L.le_refl _, L.le_of_eq (by rw [hmm]), L.le_refl _, trivial⟩, trivial, rfl, rfl⟩
  rintro k hk _
  have hk : k ≤ ms.length := hk
  have inc' : IntKind.i64.wrap ((k : Int) + 1) = ((k + 1 : Nat) : Int) := by rw [wrap64 (by omega) (by omega)]; simp
  refine ⟨fun hc => ?_, fun hc => ?_⟩
  · have hlt : k < ms.length := by simpa using hc
    have hsn := seenF_snoc ms node inc k hlt
    refine ⟨ms[k].L, ⟨k, rfl, by rw [Ml_get, List.getElem?_eq_getElem hlt]; rfl⟩, ?_⟩
    refine ⟨fun h => ?_, fun h => ?_⟩
    · have h : ms[k].sender = node ∧ ms[k].inc = inc := by
        rw [cond_and] at h
        simpa using h
      rw [if_pos h] at hsn
      refine ⟨k + 1, hlt, by show ms.length - (k + 1) < ms.length - k; omega, ?_⟩
      exact ⟨⟨L.le_refl _, L.le_refl _, L.le_of_eq (congrArg L.int hsn.symm), L.le_refl _, L.le_refl _, L.le_of_eq (congrArg L.int inc'), trivial⟩, trivial, rfl, rfl⟩
    · have h : ¬ (ms[k].sender = node ∧ ms[k].inc = inc) := by
        rintro ⟨q1, q2⟩
        rw [q1, q2] at h
        simp at h
      rw [if_neg h] at hsn
      refine ⟨k + 1, hlt, by show ms.length - (k + 1) < ms.length - k; omega, ?_⟩
      exact ⟨⟨L.le_refl _, L.le_refl _, L.le_of_eq (congrArg L.int hsn.symm), L.le_refl _, L.le_refl _, L.le_of_eq (congrArg L.int inc'), trivial⟩, trivial, rfl, rfl⟩
  · have hge : ms.length ≤ k := by
      have : ¬ ((k : Int) < ms.length) := by simpa using hc
      omega
    refine ⟨⟨L.le_of_eq (congrArg L.int ?_), trivial⟩, trivial, rfl, rfl⟩
    rw [List.take_of_length_le hge, seenL, hms]
theorem alike_ok (a b : Ent) (ha : FitE a) : M 29 [a.V, b.V] (.bool (alike a b)) := by
  refine go29 rfl rfl fun hb => ?_
  refine ⟨_, fun _ => equal_ok a.incs b.incs (Nat.le_trans ha.1 (by decide)), ?_⟩
  refine ⟨⟨L.le_of_eq (congrArg L.bool ?_), trivial⟩, trivial, rfl, rfl⟩
  show cond (a.mem == b.mem) (decide (a.incs = b.incs)) false = alike a b
  rw [cond_and, alike]
  congr 1
theorem views_succ (x : List Ent) (k : Nat) : ((List.range (k + 1)).filter (first x)).length = ((List.range k).filter (first x)).length + if first x k then 1 else 0 := by
  rw [List.range_succ, List.filter_append, List.length_append]
  cases h : first x k <;> simp [h]
theorem views_ok (l : List Ent) (hf : Fit l) : M 14 [Es l] (.int (viewsN l)) := by
  have hs := hf.some
  obtain ⟨x, hx⟩ : ∃ x, x = someL l := ⟨_, rfl⟩
  rw [← hx] at hs
  have hel := El_length x
  have hx400 := hs.1
  refine go14 rfl rfl fun hb => ?_
  refine ⟨_, some_ok l hf, ?_⟩
  rw [← hx]
  refine ⟨Nat, fun k => ⟨[(2, .int (((List.range k).filter (first x)).length : Nat)), (3, Es x), (8, Es x), (9, .int x.length), (10, .int k)], ⟨[], [], 900000, 0⟩⟩, fun k => k ≤ x.length, fun k => x.length - k, 0, Nat.zero_le _, ?_, ?_⟩
  · exact ⟨⟨L.le_refl _, L.le_refl _, L.le_refl _, L.le_of_eq (by rw [hel]), L.le_refl _, trivial⟩, trivial, rfl, rfl⟩
  rintro k hk _
  have hk : k ≤ x.length := hk
  have hvl : ((List.range k).filter (first x)).length ≤ k := by
    have := List.length_filter_le (first x) (List.range k)
    simpa using this
  have inc : IntKind.i64.wrap ((k : Int) + 1) = ((k + 1 : Nat) : Int) := by rw [wrap64 (by omega) (by omega)]; simp
  refine ⟨fun hc => ?_, fun hc => ?_⟩
  · have hlt : k < x.length := by simpa using hc
    obtain ⟨p, hp⟩ : ∃ p, p = x.getD (k - 1) dent := ⟨_, rfl⟩
    have hfit : FitE p := by
      rw [hp]
      by_cases h : k - 1 < x.length
      · have : x.getD (k - 1) dent = x[k - 1] := by simp [List.getD_eq_getElem?_getD, h]
        rw [this]; exact hs.2 _ (List.getElem_mem h)
      · omega
    refine ⟨x[k].L, ⟨k, rfl, by rw [El_get, List.getElem?_eq_getElem hlt]; rfl⟩, ?_⟩
    refine ⟨p.L, fun g => ⟨k - 1, ?_, ?_⟩, ?_⟩
    · have g : ¬ k = 0 := by
        have : ¬ (k : Int) = 0 := by simpa using g
        omega
      rw [wrap64 (by omega) (by omega)]; omega
    · have : k - 1 < x.length := by omega
      rw [hp, El_get, List.getElem?_eq_getElem this]
      simp [List.getD_eq_getElem?_getD, this]
    refine ⟨_, fun _ => alike_ok p x[k] hfit, ?_⟩
    refine ⟨rfl, ?_⟩
    have hvs := views_succ x k
    have hfi : ∀ X, cond ((k : Int) == 0) true (!(alike p x[k])) = X → first x k = X := by
      rintro _ rfl
      rw [first, List.getElem?_eq_getElem hlt]
      simp only
      rw [← hp]
      have e : ((k : Int) == 0) = decide (k = 0) := by rw [Bool.eq_iff_iff]; simp
      rw [e]
      cases decide (k = 0) <;> rfl
    refine ⟨fun h => ?_, fun h => ?_⟩
    · have h := hfi true h
      rw [h, if_pos rfl] at hvs
      refine ⟨k + 1, hlt, by show x.length - (k + 1) < x.length - k; omega, ?_⟩
      refine ⟨⟨L.le_of_eq (congrArg L.int ?_), L.le_refl _, L.le_refl _, L.le_refl _, L.le_of_eq (congrArg L.int inc), trivial⟩, trivial, rfl, rfl⟩
      rw [hvs, wrap64 (by omega) (by omega)]; omega
    · have h := hfi false h
      rw [h] at hvs
      refine ⟨k + 1, hlt, by show x.length - (k + 1) < x.length - k; omega, ?_⟩
      refine ⟨⟨L.le_of_eq (congrArg L.int ?_), L.le_refl _, L.le_refl _, L.le_refl _, L.le_of_eq (congrArg L.int inc), trivial⟩, trivial, rfl, rfl⟩
      rw [hvs]; simp
  · have hge : x.length ≤ k := by
      have : ¬ ((k : Int) < x.length) := by simpa using hc
      omega
    have e : k = x.length := by omega
    refine ⟨⟨L.le_of_eq (congrArg L.int ?_), trivial⟩, trivial, rfl, rfl⟩
    rw [viewsN, ← hx, e]
/-! who joined -/
def isInc (node inc : Int) (e : Ent) : Bool := cond (e.inc node).isSome ((e.inc node).getD 0 == inc) false
abbrev jB (node inc : Int) : List (Nat × Box) := [(1000000, .cells [.int inc]), (1000001, .cells [.int node])]
theorem clJoin_ok (e : Ent) (he : FitE e) (node inc : Int) : MM 31 (jB node inc) [e.V, .ref 1000001 0, .ref 1000000 0] (jB node inc) (.bool (isInc node inc e)) := by
  refine gb31 [] [] rfl rfl fun hb => ?_
  refine ⟨_, einc_ok e node (Nat.le_trans he.1 (by decide)), ?_⟩
  exact ⟨⟨L.le_refl _, trivial⟩, ⟨⟨L.le_refl _, trivial⟩, ⟨L.le_refl _, trivial⟩, trivial⟩, rfl, rfl⟩
theorem ifJoin_ok (l : List Ent) (hf : Fit l) (node inc : Int) : MM 30 (jB node inc) [Es l, .fn (.func 31) [] [.ref 1000001 0, .ref 1000000 0]] (jB node inc) (.int (findN (isInc node inc) l)) := by
  have ha := El_length l
  have h400 := hf.1
  refine gb30 [] [] rfl rfl fun hb => ?_
  have hfn : ∀ {fz : Fz}, leV fz (.fn (.func 31) [] [.ref 1000001 0, .ref 1000000 0]) (.fn (.func 31) [] [.ref 1000001 0, .ref 1000000 0]) := ⟨rfl, ⟨rfl, rfl⟩, trivial, ⟨⟨rfl, rfl⟩, ⟨rfl, rfl⟩, trivial⟩⟩
  have hbx : ∀ {fz : Fz}, (leVs fz [.int inc] [.int inc]) ∧ (leVs fz [.int node] [.int node]) ∧ True := ⟨⟨L.le_refl _, trivial⟩, ⟨L.le_refl _, trivial⟩, trivial⟩
  refine ⟨Nat, fun k => ⟨[(0, Es l), (1, .fn (.func 31) [] [.ref 1000001 0, .ref 1000000 0]), (7, .int l.length), (8, .int k)], ⟨[(1000000, .cells [.int inc]), (1000001, .cells [.int node])], [], 900000, 0⟩⟩, fun k => k ≤ l.length ∧ ∀ j (hj : j < k), ∀ h : j < l.length, isInc node inc l[j] = false, fun k => l.length - k, 0, ⟨Nat.zero_le _, fun j hj => absurd hj (Nat.not_lt_zero j)⟩, ?_, ?_⟩
  · exact ⟨⟨L.le_refl _, hfn, L.le_of_eq (by rw [ha]), L.le_refl _, trivial⟩, hbx, rfl, rfl⟩
  rintro k ⟨hk, hs⟩ _
  refine ⟨fun hc => ?_, fun hc => ?_⟩
  · have hlt : k < l.length := by simpa using hc
    refine ⟨l[k].L, ⟨k, rfl, by rw [El_get, List.getElem?_eq_getElem hlt]; rfl⟩, ?_⟩
    refine ⟨_, _, clJoin_ok l[k] (hf.2 _ (List.getElem_mem hlt)) node inc, ?_⟩
    refine ⟨fun he => ?_, fun he => ?_⟩
    · refine ⟨⟨L.le_of_eq (congrArg L.int ?_), trivial⟩, hbx, rfl, rfl⟩
      exact (findN_some (p := isInc node inc) hlt (fun j hj => hs j hj (by omega)) he).symm
    · refine ⟨k + 1, ⟨hlt, fun j hj h => ?_⟩, by show l.length - (k + 1) < l.length - k; omega, ?_⟩
      · by_cases e : j = k
        · subst e; exact he
        · exact hs j (by omega) h
      · refine ⟨⟨L.le_refl _, hfn, L.le_refl _, L.le_of_eq (congrArg L.int ?_), trivial⟩, hbx, rfl, rfl⟩
        rw [wrap64 (by omega) (by omega)]; simp
  · have hge : l.length ≤ k := by
      have : ¬ ((k : Int) < l.length) := by simpa using hc
      omega
    refine ⟨⟨L.le_of_eq (congrArg L.int ?_), trivial⟩, hbx, rfl, rfl⟩
    exact (findN_none (p := isInc node inc) fun j hj => hs j (by omega) hj).symm
def joinedN (l : List Ent) (node inc : Int) : Int := 1 + findN (isInc node inc) (someL l)
theorem findN_le {α : Type} (p : α → Bool) (l : List α) : -1 ≤ findN p l ∧ findN p l ≤ l.length := by
  rw [findN]
  split
  · rename_i i h
    have := (List.findIdx?_eq_some_iff_getElem.1 h).1
    omega
  · omega
theorem joined_ok (l : List Ent) (hf : Fit l) (node inc : Int) : M 15 [Es l, .int node, .int inc] (.int (joinedN l node inc)) := by
  have hs := hf.some
  have h1 := findN_le (isInc node inc) (someL l)
  have h2 := hs.1
  refine go15 rfl rfl fun hb => ?_
  refine ⟨_, some_ok l hf, ?_⟩
  refine ⟨_, _, ifJoin_ok (someL l) hs node inc, ?_⟩
  refine ⟨⟨L.le_of_eq (congrArg L.int ?_), trivial⟩, trivial, rfl, rfl⟩
  rw [joinedN, wrap64 (by omega) (by omega)]

/-! the last entry -/
def incL (l : List Ent) (node : Int) : V := match (someL l).getLast? with | none => .tup [.int 0, .bool false] | some e => incR e node
theorem inc_ok (l : List Ent) (hf : Fit l) (node : Int) : M 23 [Es l, .int node] (incL l node) := by
  have hs := hf.some
  obtain ⟨x, hx⟩ : ∃ x, x = someL l := ⟨_, rfl⟩
  rw [← hx] at hs
  have hel := El_length x
  have h400 := hs.1
  have htk : V.toks (incL l node) = [] := by rw [incL]; split <;> rfl
  refine go23 rfl (by rw [htk]; rfl) fun hb => ?_
  refine ⟨_, some_ok l hf, ?_⟩
  rw [← hx]
  refine ⟨fun h => ?_, fun h => ?_⟩
  · have h0 : x = [] := by
      have : (El x).length = 0 := by simpa using h
      exact List.eq_nil_of_length_eq_zero (by omega)
    rw [incL, ← hx, h0]
    exact ⟨⟨⟨L.le_refl _, L.le_refl _, trivial⟩, trivial⟩, trivial, rfl, rfl⟩
  · have h0 : x ≠ [] := by
      rintro rfl
      exact absurd h (by decide)
    have hpos := List.length_pos_iff.2 h0
    have hlast : x.getLast? = some (x[x.length - 1]'(by omega)) := by rw [List.getLast?_eq_getElem?, List.getElem?_eq_getElem]
    refine ⟨(x[x.length - 1]'(by omega)).L, ⟨x.length - 1, ?_, by rw [El_get, List.getElem?_eq_getElem (by omega)]; rfl⟩, ?_⟩
    · rw [hel, wrap64 (by omega) (by omega)]; omega
    refine ⟨_, einc_ok _ node (Nat.le_trans (hs.2 _ (List.getElem_mem _)).1 (by decide)), ?_⟩
    rw [incL, ← hx, hlast]
    exact ⟨⟨⟨L.le_refl _, L.le_refl _, trivial⟩, trivial⟩, trivial, rfl, rfl⟩

/-! the document's Term -/
def termR (l : List Ent) (n : Int) : V := if n < 0 ∨ l.length < n then .tup [.int 0, .bool false] else if n = 0 then .tup [.int 0, .bool true] else .tup [.int (l.getD (n.toNat - 1) dent).term, .bool true]
theorem termR_toks (l : List Ent) (n : Int) : V.toks (termR l n) = [] := by
  rw [termR]
  split
  · rfl
  · split <;> rfl
theorem cond_or (a b : Bool) : cond a true b = (a || b) := by cases a <;> rfl
theorem term_ok (l : List Ent) (n : Int) : M 43 [Es l, .int n] (termR l n) := by
  have hel := El_length l
  refine go43 rfl (by rw [termR_toks]; rfl) fun hb => ?_
  have hx400 : (l.length : Int) ≤ 9223372036854775807 := by
    have : Lb (L.sl 5 (El l)) := hb.1 0 _ rfl
    have := this.1
    omega
  refine ⟨fun h => ?_, fun h => ?_⟩
  · have h : n < 0 ∨ l.length < n := by
      rw [cond_or] at h
      simpa [hel] using h
    rw [termR, if_pos h]
    exact ⟨⟨⟨L.le_refl _, L.le_refl _, trivial⟩, trivial⟩, trivial, rfl, rfl⟩
  · have h : ¬ (n < 0 ∨ l.length < n) := by
      rw [cond_or] at h
      simpa [hel] using h
    rw [termR, if_neg h]
    refine ⟨fun h0 => ?_, fun h0 => ?_⟩
    · have h0 : n = 0 := by simpa using h0
      rw [if_pos h0]
      exact ⟨⟨⟨L.le_refl _, L.le_refl _, trivial⟩, trivial⟩, trivial, rfl, rfl⟩
    · have h0 : ¬ n = 0 := by simpa using h0
      rw [if_neg h0]
      have hlt : n.toNat - 1 < l.length := by omega
      refine ⟨(l[n.toNat - 1]).L, ⟨n.toNat - 1, ?_, by rw [El_get, List.getElem?_eq_getElem hlt]; rfl⟩, ?_⟩
      · rw [wrap64 (by omega) (by omega)]; omega
      have : l.getD (n.toNat - 1) dent = l[n.toNat - 1] := by simp [List.getD_eq_getElem?_getD, hlt]
      rw [this]
      exact ⟨⟨⟨L.le_refl _, L.le_refl _, trivial⟩, trivial⟩, trivial, rfl, rfl⟩
def lastT (l : List Ent) : Int := match l.getLast? with | none => 0 | some e => e.term
theorem termOf_ok (l : List Ent) : M 25 [Es l] (.int (lastT l)) := by
  have hel := El_length l
  refine go25 rfl rfl fun hb => ?_
  refine ⟨_, term_ok l _, ?_⟩
  rw [hel, termR, if_neg (by omega)]
  rcases Nat.eq_zero_or_pos l.length with h0 | h0
  · rw [if_pos (by omega), lastT, List.eq_nil_of_length_eq_zero h0]
    exact ⟨⟨L.le_refl _, trivial⟩, trivial, rfl, rfl⟩
  · rw [if_neg (by omega), lastT]
    have hlast : l.getLast? = some (l[l.length - 1]'(by omega)) := by rw [List.getLast?_eq_getElem?, List.getElem?_eq_getElem]
    rw [hlast]
    refine ⟨⟨L.le_of_eq (congrArg L.int ?_), trivial⟩, trivial, rfl, rfl⟩
    have : l.length - 1 < l.length := by omega
    simp [List.getD_eq_getElem?_getD, this]
end Go.Proofs.YtfnhcinnlfklbaaDoor

set_option linter.unusedVariables false
set_option linter.unusedSimpArgs false
set_option maxRecDepth 100000
namespace Go.Proofs.YtfnhcinnlfklbaaDoor
open Go Go.Proofs.YtfnhcinnlfklbaaDoor.Abs

theorem own_ok (e : Ent) (he : FitE e) : M 44 [e.V] e.V := by
  have h1 := Il_length e.incs
  have h2 := Ml_length e.msgs
  have he1 := he.1
  have he2 := he.2
  refine go44 rfl rfl fun hb => ?_
  refine ⟨by show (0 + (Il e.incs).length) * 8 ≤ _; omega, ?_⟩
  refine ⟨by show (0 + (Ml e.msgs).length) * 64 ≤ _; omega, ?_⟩
  exact ⟨⟨⟨L.le_refl _, L.le_refl _, L.le_refl _, L.le_refl _, L.le_refl _, trivial⟩, trivial⟩, trivial, rfl, rfl⟩
theorem owns_ok (l : List Ent) (hf : Fit l) : M 42 [Es l] (.own 5 5 (El l)) := by
  have hel := El_length l
  have h400 := hf.1
  refine go42 rfl rfl fun hb => ?_
  refine ⟨Nat, fun k => ⟨[(0, Es l), (3, .own 950000 5 (El (l.take k))), (4, .int k)], ⟨[], [950000], 900000, 0⟩⟩, fun k => k ≤ l.length, fun k => l.length - k, 0, Nat.zero_le _, ?_, ?_⟩
  · exact ⟨⟨L.le_refl _, rfl, L.le_refl _, trivial⟩, trivial, rfl, rfl⟩
  rintro k hk _
  have hk : k ≤ l.length := hk
  have inc : IntKind.i64.wrap ((k : Int) + 1) = ((k + 1 : Nat) : Int) := by rw [wrap64 (by omega) (by omega)]; simp
  refine ⟨fun hc => ?_, fun hc => ?_⟩
  · have hlt : k < l.length := by simpa [hel] using hc
    refine ⟨l[k].L, ⟨k, rfl, by rw [El_get, List.getElem?_eq_getElem hlt]; rfl⟩, ?_⟩
    refine ⟨_, own_ok l[k] (hf.2 _ (List.getElem_mem hlt)), ?_⟩
    refine ⟨by show ((El (l.take k)).length + 1) * 72 ≤ _; rw [El_length, List.length_take]; omega, ?_⟩
    refine ⟨k + 1, hlt, by show l.length - (k + 1) < l.length - k; omega, ?_⟩
    refine ⟨⟨L.le_refl _, ⟨rfl, L.le_of_eq (congrArg (L.sl 5) ?_)⟩, L.le_of_eq (congrArg L.int inc), trivial⟩, trivial, rfl, rfl⟩
    rw [List.take_succ_eq_append_getElem hlt, ← El_app]; rfl
  · have hge : k = l.length := by
      have : ¬ k < l.length := by simpa [hel] using hc
      omega
    have e : l.take k = l := by rw [hge, List.take_length]
    refine ⟨⟨⟨rfl, L.le_of_eq (congrArg (L.sl 5) ?_)⟩, trivial⟩, trivial, rfl, rfl⟩
    rw [e]

/-- is there such an entry, and its term -/
def termB (l : List Ent) (n : Int) : Bool := decide (0 ≤ n) && decide (n ≤ l.length)
def termV (l : List Ent) (n : Int) : Int := if termB l n = true then (if n = 0 then 0 else (l.getD (n.toNat - 1) dent).term) else 0
theorem termB_iff {l : List Ent} {n : Int} : termB l n = true ↔ 0 ≤ n ∧ n ≤ l.length := by simp [termB]
theorem termR_eq (l : List Ent) (n : Int) : termR l n = .tup [.int (termV l n), .bool (termB l n)] := by
  rw [termR]
  split
  · rename_i h
    have : termB l n = false := by
      rw [Bool.eq_false_iff]; intro hc; rw [termB_iff] at hc; omega
    rw [termV, this]; rfl
  · rename_i h
    have : termB l n = true := termB_iff.2 (by omega)
    rw [termV, this]
    split
    · rename_i h0; simp [h0]
    · rename_i h0; simp [h0]
theorem term'_ok (l : List Ent) (n : Int) : M 43 [Es l, .int n] (.tup [.int (termV l n), .bool (termB l n)]) := termR_eq l n ▸ term_ok l n
/-- is there an entry with this term at that place? -/
def hasT (l : List Ent) (n term : Int) : Bool := termB l n && decide (termV l n = term)
def putT (l : List Ent) (prev term : Int) (es : List Ent) : List Ent × Int × Int :=
  if logRight l = false ∨ 1 < es.length ∨ (es.length = 1 ∧ (es.getD 0 dent).right = false) then (l, 0, 1)
  else if hasT l prev term = false then (l, 0, 41)
  else if es = [] then (l, prev, 0)
  else if hasT l (prev + 1) (es.getD 0 dent).term = true then (l, prev + 1, 0)
  else if 300 ≤ prev then (l, 0, 40)
  else if logRight (l.take prev.toNat ++ es) = false then (l, 0, 1)
  else (l.take prev.toNat ++ es, prev + 1, 0)
abbrev putV (r : List Ent × Int × Int) : V := .tup [Es r.1, .int r.2.1, .int r.2.2]
theorem fit_cons {l : List Ent} (h : Fit l) (k : Nat) (hk : k < 400) {e : Ent} (he : FitE e) : Fit (l.take k ++ [e]) :=
  ⟨by simp; omega, fun x hx => by
    rcases List.mem_append.1 hx with hx | hx
    · exact h.2 x (List.mem_of_mem_take hx)
    · simp at hx; subst hx; exact he⟩
set_option maxHeartbeats 2000000 in
theorem put_ok (l es : List Ent) (prev term : Int) (hf : Fit l) (hfe : Fit es) (hp : InR prev) : M 24 [Es l, .int prev, .int term, Es es] (putV (putT l prev term es)) := by
  have hel := El_length l
  have hee := El_length es
  have h400 := hf.1
  obtain ⟨e0, he0⟩ : ∃ e0, e0 = es.getD 0 dent := ⟨_, rfl⟩
  have he0f : FitE e0 := by
    cases es with
    | nil => subst he0; exact ⟨Nat.zero_le _, Nat.zero_le _⟩
    | cons a r =>
      have : e0 = a := he0
      rw [this]; exact hfe.2 a (by simp)
  have hget : 0 < es.length → (El es)[0]? = some e0.L := by
    intro h
    cases es with
    | nil => simp at h
    | cons a r =>
      have : e0 = a := he0
      rw [this]; rfl
  refine go24 rfl rfl fun hb => ?_
  refine ⟨_, owns_ok l hf, ?_⟩
  refine ⟨_, lright'_ok l hf, ?_⟩
  refine ⟨e0.L, fun g1 g2 => ⟨0, rfl, hget ?_⟩, ?_⟩
  · have : (es.length : Int) = 1 := by simpa [hee] using g2
    omega
  refine ⟨_, fun g1 g2 => eright'_ok e0 (Nat.le_trans he0f.1 (by decide)) (Nat.le_trans he0f.2 (by decide)), ?_⟩
  have hbad : ∀ X, cond (cond (!logRight l) true (decide (((El es).length : Int) > 1))) true (cond (((El es).length : Int) == 1) (!e0.right) false) = X → (X = true ↔ (logRight l = false ∨ 1 < es.length ∨ (es.length = 1 ∧ e0.right = false))) := by
    rintro _ rfl
    rw [hee, cond_or, cond_or, cond_and]
    simp only [Bool.or_eq_true, Bool.and_eq_true, Bool.not_eq_true', decide_eq_true_eq, beq_iff_eq, or_assoc]
    constructor
    · rintro (h | h | ⟨h1, h2⟩)
      · exact .inl h
      · exact .inr (.inl (by omega))
      · exact .inr (.inr ⟨by omega, h2⟩)
    · rintro (h | h | ⟨h1, h2⟩)
      · exact .inl h
      · exact .inr (.inl (by omega))
      · exact .inr (.inr ⟨by omega, h2⟩)
  refine ⟨fun h => ?_, fun h => ?_⟩
  · have h1 := (hbad _ h).1 rfl
    rw [putT, ← he0, if_pos h1]
    exact ⟨⟨⟨L.le_refl _, L.le_refl _, L.le_refl _, trivial⟩, trivial⟩, trivial, rfl, rfl⟩
  have h1 : ¬ (logRight l = false ∨ 1 < es.length ∨ (es.length = 1 ∧ e0.right = false)) := fun hc => by
    have := (hbad _ h).2 hc
    cases this
  rw [putT, ← he0, if_neg h1]
  refine ⟨_, term'_ok l prev, ?_⟩
  have hmis : ∀ X, cond (!termB l prev) true (termV l prev != term) = X → hasT l prev term = !X := by
    rintro _ rfl
    rw [hasT, cond_or]
    cases termB l prev <;> simp [bne]
    rw [Bool.eq_iff_iff]; simp
  refine ⟨fun h => ?_, fun h => ?_⟩
  · rw [if_pos (show hasT l prev term = false from hmis _ h)]
    exact ⟨⟨⟨L.le_refl _, L.le_refl _, L.le_refl _, trivial⟩, trivial⟩, trivial, rfl, rfl⟩
  have h2 : hasT l prev term = true := hmis _ h
  rw [if_neg (by rw [h2]; simp)]
  refine ⟨fun h => ?_, fun h => ?_⟩
  · have h3 : es = [] := by
      have : (es.length : Int) = 0 := by simpa [hee] using h
      exact List.eq_nil_of_length_eq_zero (by omega)
    rw [if_pos h3]
    exact ⟨⟨⟨L.le_refl _, L.le_refl _, L.le_refl _, trivial⟩, trivial⟩, trivial, rfl, rfl⟩
  have h3 : es ≠ [] := by
    rintro rfl
    exact absurd h (by decide)
  rw [if_neg h3]
  have h2' := h2
  rw [hasT, Bool.and_eq_true, termB_iff] at h2'
  obtain ⟨⟨hp0, hpl⟩, _⟩ := h2'
  have hpos := List.length_pos_iff.2 h3
  have hes : es = [e0] := by
    cases es with
    | nil => exact absurd rfl h3
    | cons a r =>
      have h4 : e0 = a := he0
      have : r = [] := by
        cases r with
        | nil => rfl
        | cons _ _ => exfalso; apply h1; right; left; simp
      rw [this, h4]
  have hw : IntKind.i64.wrap (prev + 1) = prev + 1 := wrap64 (by omega) (by omega)
  refine ⟨_, term'_ok l _, ?_⟩
  rw [hw]
  refine ⟨e0.L, fun g1 => ⟨0, rfl, hget hpos⟩, ?_⟩
  have hnx : ∀ X, cond (termB l (prev + 1)) (termV l (prev + 1) == e0.term) false = X → hasT l (prev + 1) e0.term = X := by
    rintro _ rfl
    rw [hasT, cond_and]
    cases termB l (prev + 1) <;> simp
    rw [Bool.eq_iff_iff]; simp
  refine ⟨fun h => ?_, fun h => ?_⟩
  · rw [if_pos (hnx _ h)]
    exact ⟨⟨⟨L.le_refl _, L.le_of_eq (congrArg L.int hw), L.le_refl _, trivial⟩, trivial⟩, trivial, rfl, rfl⟩
  rw [if_neg (by rw [hnx _ h]; simp)]
  refine ⟨fun h => ?_, fun h => ?_⟩
  · have h4 : 300 ≤ prev := by simpa using h
    rw [if_pos h4]
    exact ⟨⟨⟨L.le_refl _, L.le_refl _, L.le_refl _, trivial⟩, trivial⟩, trivial, rfl, rfl⟩
  have h4 : ¬ 300 ≤ prev := by simpa using h
  rw [if_neg h4]
  have hfit := fit_cons hf prev.toNat (by omega) he0f
  refine ⟨prev.toNat, ⟨by omega, by rw [hel]; omega⟩, ?_⟩
  rw [El_take]
  refine ⟨_, owns_ok (l.take prev.toNat) (hf.take _), ?_⟩
  refine ⟨e0.L, ⟨0, rfl, hget hpos⟩, ?_⟩
  refine ⟨_, own_ok e0 he0f, ?_⟩
  refine ⟨by show ((El (l.take prev.toNat)).length + 1) * 72 ≤ _; rw [El_length, List.length_take]; omega, ?_⟩
  refine ⟨rfl, ?_⟩
  have happ : El (l.take prev.toNat) ++ [e0.L] = El (l.take prev.toNat ++ es) := by rw [← El_app, hes]; rfl
  rw [← hes] at hfit
  have hcall : M 10 [.d (.l (.sl 5 (El (l.take prev.toNat) ++ [e0.L])))] (.bool (logRight (l.take prev.toNat ++ es))) := by
    rw [happ]
    exact lright'_ok _ hfit
  refine ⟨_, hcall, ?_⟩
  refine ⟨fun h => ?_, fun h => ?_⟩
  · have h5 : logRight (l.take prev.toNat ++ es) = false := by simpa using h
    rw [if_pos h5]
    exact ⟨⟨⟨L.le_refl _, L.le_refl _, L.le_refl _, trivial⟩, trivial⟩, trivial, rfl, rfl⟩
  · have h5 : ¬ logRight (l.take prev.toNat ++ es) = false := by simpa using h
    rw [if_neg h5]
    exact ⟨⟨⟨L.le_of_eq (by rw [← happ]; rfl), L.le_of_eq (congrArg L.int hw), L.le_refl _, trivial⟩, trivial⟩, trivial, rfl, rfl⟩
end Go.Proofs.YtfnhcinnlfklbaaDoor

set_option linter.unusedVariables false
set_option linter.unusedSimpArgs false
set_option maxRecDepth 100000
namespace Go.Proofs.YtfnhcinnlfklbaaDoor
open Go Go.Proofs.YtfnhcinnlfklbaaDoor.Abs

theorem getD_of {α : Type} {l : List α} {k : Nat} (h : k < l.length) (d : α) : l.getD k d = l[k] := by simp [List.getD_eq_getElem?_getD, h]
set_option maxHeartbeats 2000000 in
theorem log_ok (raw : List R3) (msgs : List R6) (hr : ∀ r ∈ raw, r.ok) (hm : ∀ r ∈ msgs, r.ok) (hrl : raw.length ≤ 9223372036854775807) (hml : msgs.length ≤ 9223372036854775807) : M 17 [Rs3 raw, Rs msgs] (Es (logL raw msgs)) := by
  have h3 := Rl3_length raw
  have h6 := Rl_length msgs
  refine go17 rfl rfl fun hb => ?_
  refine ⟨Nat, fun k => ⟨[(0, Rs3 raw), (1, Rs msgs), (5, .own 950000 5 (El (logN raw msgs k))), (6, .int (termL raw k)), (7, .int k)], ⟨[], [950000], 900000, 0⟩⟩, fun k => k ≤ min raw.length 12, fun k => min raw.length 12 - k, 0, Nat.zero_le _, ?_, ?_⟩
  · exact ⟨⟨L.le_refl _, L.le_refl _, rfl, L.le_refl _, L.le_refl _, trivial⟩, trivial, rfl, rfl⟩
  rintro k hk _
  have hk : k ≤ min raw.length 12 := hk
  have hkk := Nat.le_trans hk (Nat.min_le_right _ _)
  have inc : IntKind.i64.wrap ((k : Int) + 1) = ((k + 1 : Nat) : Int) := by rw [wrap64 (by omega) (by omega)]; simp
  have htr := termL_range raw k
  refine ⟨fun hc => ?_, fun hc => ?_⟩
  · have hc : k < raw.length ∧ k < 12 := by
      rw [cond_and, h3] at hc
      simp only [Bool.and_eq_true, decide_eq_true_eq] at hc
      omega
    have hlt : k < min raw.length 12 := Nat.lt_min.2 hc
    obtain ⟨r, hre⟩ : ∃ r, r = raw[k]'hc.1 := ⟨_, rfl⟩
    have hrk : (Rl3 raw)[k]? = some r.L := by rw [Rl3_get, List.getElem?_eq_getElem hc.1, hre]; rfl
    have hok : r.ok := hre ▸ hr _ (List.getElem_mem hc.1)
    have hgd : raw.getD k r30 = r := by rw [getD_of hc.1, hre]
    have p3 := pick_range (c := r.a) (n := 3) (by omega)
    have p16 := pick_range (c := r.b) (n := 16) (by omega)
    have pc3 := pick_range (c := r.c) (n := 3) (by omega)
    have pc2 := pick_range (c := r.c) (n := 2) (by omega)
    have hts : termL raw (k + 1) = termL raw k + (pick r.a 3).tdiv 2 := by rw [termL, hgd]
    have htd : 0 ≤ (pick r.a 3).tdiv 2 ∧ (pick r.a 3).tdiv 2 ≤ 1 := by
      rw [Int.tdiv_eq_ediv_of_nonneg p3.1]; omega
    have w1 : IntKind.i64.wrap ((pick r.a 3).tdiv 2) = (pick r.a 3).tdiv 2 := wrap64 (by omega) (by omega)
    have w2 : IntKind.i64.wrap (termL raw k + IntKind.i64.wrap ((pick r.a 3).tdiv 2)) = termL raw (k + 1) := by rw [w1, hts, wrap64 (by omega) (by omega)]
    have w3 : IntKind.i64.wrap (IntKind.i64.wrap (IntKind.i64.wrap (2 * (k : Int)) + 1) + pick r.c 2) = 2 * (k : Int) + 1 + pick r.c 2 := by
      rw [wrap64 (x := 2 * (k : Int)) (by omega) (by omega), wrap64 (x := 2 * (k : Int) + 1) (by omega) (by omega), wrap64 (by omega) (by omega)]
    refine ⟨r.L, ⟨k, rfl, hrk⟩, 0, ⟨rfl, by decide⟩, _, pick33_ok r.a 3 hok.1 (by omega), ⟨rfl, by decide⟩, ?_⟩
    have hin : InR (pick r.c 3) := ⟨by omega, by omega⟩
    have h16 : R3.ok ⟨0, 0, pick r.b 16⟩ := ⟨(⟨by decide, by decide⟩ : InR 0), (⟨by decide, by decide⟩ : InR 0), (⟨by omega, by omega⟩ : InR (pick r.b 16))⟩
    have hent := entry_ok ⟨0, 0, pick r.b 16⟩ [pick r.c 3] ((msgs.drop k).take 1) h16 (by simpa using hin)
      (fun x hx => hm x (List.mem_of_mem_drop (List.mem_of_mem_take hx))) (by simp) (by simp; omega)
    have hE : ∀ i, El (logN raw msgs (i + 1)) = El (logN raw msgs i) ++ [(logE raw msgs i).L] := fun i => by rw [logN_succ, ← El_app]; rfl
    have hsz : ((El (logN raw msgs k)).length + 1) * 72 ≤ 140737488355328 := by rw [El_length, logN_length]; omega
    have hlast : (logE raw msgs k).L = [L.int (IntKind.i64.wrap (termL raw k + IntKind.i64.wrap ((pick r.a 3).tdiv 2))), L.int (IntKind.i64.wrap (IntKind.i64.wrap (IntKind.i64.wrap (2 * (k : Int)) + 1) + pick r.c 2)), L.int (entL ⟨0, 0, pick r.b 16⟩ [pick r.c 3] ((msgs.drop k).take 1)).mem, .sl 1 (Il (entL ⟨0, 0, pick r.b 16⟩ [pick r.c 3] ((msgs.drop k).take 1)).incs), .sl 7 (Ml (entL ⟨0, 0, pick r.b 16⟩ [pick r.c 3] ((msgs.drop k).take 1)).msgs)] := by
      rw [w2, w3, logE, hgd]
    refine ⟨fun h => ?_, fun h => ?_⟩
    · have h : k < msgs.length := by
        rw [h6] at h
        simp only [decide_eq_true_eq] at h
        omega
      refine ⟨(k, k + 1), ⟨rfl, inc, Nat.le_succ k, by rw [h6]; omega⟩, ?_⟩
      have hsl : ((Rl msgs).take (k + 1)).drop k = Rl ((msgs.drop k).take 1) := by
        rw [List.take_drop, Rl, Rl, List.map_drop, List.map_take]
      refine ⟨r.L, ⟨k, rfl, hrk⟩, 1, ⟨rfl, by decide⟩, _, pick33_ok r.b 16 hok.2.1 (by omega), ?_⟩
      refine ⟨r.L, ⟨k, rfl, hrk⟩, 2, ⟨rfl, by decide⟩, _, pick33_ok r.c 3 hok.2.2 (by omega), ?_⟩
      have hent' : M 34 [.d (.agg (R3.L ⟨0, 0, pick r.b 16⟩)), Is [pick r.c 3], .d (.l (.sl 6 (((Rl msgs).take (k + 1)).drop k)))] (entL ⟨0, 0, pick r.b 16⟩ [pick r.c 3] ((msgs.drop k).take 1)).V := by
        rw [hsl]; exact hent
      refine ⟨_, hent', ?_⟩
      refine ⟨rfl, ?_⟩
      refine ⟨r.L, ⟨k, rfl, hrk⟩, 2, ⟨rfl, by decide⟩, _, pick33_ok r.c 2 hok.2.2 (by omega), ?_⟩
      refine ⟨hsz, ?_⟩
      refine ⟨k + 1, hlt, by show min raw.length 12 - (k + 1) < min raw.length 12 - k; omega, ?_⟩
      refine ⟨⟨L.le_refl _, L.le_refl _, ⟨rfl, L.le_of_eq (congrArg (L.sl 5) ?_)⟩, L.le_of_eq (congrArg L.int w2), L.le_of_eq (congrArg L.int inc), trivial⟩, trivial, rfl, rfl⟩
      rw [hE, hlast]; rfl
    · have h : msgs.length ≤ k := by
        rw [h6] at h
        simp only [decide_eq_false_iff_not] at h
        omega
      have hsl : (msgs.drop k).take 1 = [] := by rw [List.drop_eq_nil_of_le h]; rfl
      refine ⟨r.L, ⟨k, rfl, hrk⟩, 1, ⟨rfl, by decide⟩, _, pick33_ok r.b 16 hok.2.1 (by omega), ?_⟩
      refine ⟨r.L, ⟨k, rfl, hrk⟩, 2, ⟨rfl, by decide⟩, _, pick33_ok r.c 3 hok.2.2 (by omega), ?_⟩
      have hent : M 34 [.d (.agg (R3.L ⟨0, 0, pick r.b 16⟩)), Is [pick r.c 3], .d (.l .nil)] (entL ⟨0, 0, pick r.b 16⟩ [pick r.c 3] ((msgs.drop k).take 1)).V := by
        rw [hsl] at hent ⊢
        exact hent.le ⟨leA.refl _, leA.refl _, leA.l (L.le_nil 6), trivial⟩
      refine ⟨_, hent, ?_⟩
      refine ⟨rfl, ?_⟩
      refine ⟨r.L, ⟨k, rfl, hrk⟩, 2, ⟨rfl, by decide⟩, _, pick33_ok r.c 2 hok.2.2 (by omega), ?_⟩
      refine ⟨hsz, ?_⟩
      refine ⟨k + 1, hlt, by show min raw.length 12 - (k + 1) < min raw.length 12 - k; omega, ?_⟩
      refine ⟨⟨L.le_refl _, L.le_refl _, ⟨rfl, L.le_of_eq (congrArg (L.sl 5) ?_)⟩, L.le_of_eq (congrArg L.int w2), L.le_of_eq (congrArg L.int inc), trivial⟩, trivial, rfl, rfl⟩
      rw [hE, hlast]; rfl
  · have hge : k = min raw.length 12 := by
      have : ¬ (k < raw.length ∧ k < 12) := by
        rintro ⟨q1, q2⟩
        rw [cond_and, h3] at hc
        have e1 : ((k : Int) < (raw.length : Int)) := by omega
        have e2 : ((k : Int) < 12) := by omega
        simp [e1, e2] at hc
      omega
    refine ⟨⟨L.le_of_eq ?_, trivial⟩, trivial, rfl, rfl⟩
    rw [logL, hge]

/-! raw messages -/
def pend (r : R6) : Msg := { r.msg ⟨#[100]⟩ with sender := pick r.c 5, inc := 1 + pick r.d 3, seq := 1 + pick r.e 6 }
def pendL (raw : List R6) : List Msg := (raw.take 8).map pend
theorem pendL_len (raw : List R6) : (pendL raw).length ≤ 8 := by simp [pendL]; omega
theorem pend_ok (raw : List R6) (hr : ∀ r ∈ raw, r.ok) (hrl : raw.length ≤ 9223372036854775807) : M 21 [Rs raw] (Ms (pendL raw)) := by
  have h6 := Rl_length raw
  refine go21 rfl rfl fun hb => ?_
  refine ⟨Nat, fun k => ⟨[(0, Rs raw), (3, .own 950000 7 (Ml ((raw.take k).map pend))), (4, .int k)], ⟨[], [950000], 900000, 0⟩⟩, fun k => k ≤ min raw.length 8, fun k => min raw.length 8 - k, 0, Nat.zero_le _, ?_, ?_⟩
  · exact ⟨⟨L.le_refl _, rfl, L.le_refl _, trivial⟩, trivial, rfl, rfl⟩
  rintro k hk _
  have hk : k ≤ min raw.length 8 := hk
  have hkk := Nat.le_trans hk (Nat.min_le_right _ _)
  have inc : IntKind.i64.wrap ((k : Int) + 1) = ((k + 1 : Nat) : Int) := by rw [wrap64 (by omega) (by omega)]; simp
  refine ⟨fun hc => ?_, fun hc => ?_⟩
  · have hc : k < raw.length ∧ k < 8 := by
      rw [cond_and, h6] at hc
      simp only [Bool.and_eq_true, decide_eq_true_eq] at hc
      omega
    have hlt : k < min raw.length 8 := Nat.lt_min.2 hc
    obtain ⟨r, hre⟩ : ∃ r, r = raw[k]'hc.1 := ⟨_, rfl⟩
    have hrk : (Rl raw)[k]? = some r.L := by rw [Rl_get, List.getElem?_eq_getElem hc.1, hre]; rfl
    have hok : r.ok := hre ▸ hr _ (List.getElem_mem hc.1)
    have p5 := pick_range (c := r.c) (n := 5) (by omega)
    have p3 := pick_range (c := r.d) (n := 3) (by omega)
    have p6 := pick_range (c := r.e) (n := 6) (by omega)
    refine ⟨r.L, ⟨k, rfl, hrk⟩, _, msg_ok r hok ⟨#[100]⟩, ?_⟩
    refine ⟨r.L, ⟨k, rfl, hrk⟩, 2, ⟨rfl, by decide⟩, _, pick18_ok r.c 5 hok.2.2.1 (by omega), ?_⟩
    refine ⟨r.L, ⟨k, rfl, hrk⟩, 3, ⟨rfl, by decide⟩, _, pick18_ok r.d 3 hok.2.2.2.1 (by omega), ?_⟩
    refine ⟨r.L, ⟨k, rfl, hrk⟩, 4, ⟨rfl, by decide⟩, _, pick18_ok r.e 6 hok.2.2.2.2.1 (by omega), ?_⟩
    have w1 : IntKind.i64.wrap (1 + pick r.d 3) = 1 + pick r.d 3 := wrap64 (by omega) (by omega)
    have w2 : IntKind.i64.wrap (1 + pick r.e 6) = 1 + pick r.e 6 := wrap64 (by omega) (by omega)
    refine ⟨by show ((Ml ((raw.take k).map pend)).length + 1) * 64 ≤ _; rw [Ml_length, List.length_map, List.length_take]; omega, ?_⟩
    refine ⟨k + 1, hlt, by show min raw.length 8 - (k + 1) < min raw.length 8 - k; omega, ?_⟩
    refine ⟨⟨L.le_refl _, ⟨rfl, L.le_of_eq (congrArg (L.sl 7) ?_)⟩, L.le_of_eq (congrArg L.int inc), trivial⟩, trivial, rfl, rfl⟩
    rw [List.take_succ_eq_append_getElem hc.1, List.map_append, ← Ml_app, ← hre]
    show Ml ((raw.take k).map pend) ++ [[_, _, _, L.int (IntKind.i64.wrap (1 + pick r.d 3)), L.int (IntKind.i64.wrap (1 + pick r.e 6)), _, _]] = _
    rw [w1, w2]; rfl
  · have hge : k = min raw.length 8 := by
      have : ¬ (k < raw.length ∧ k < 8) := by
        rintro ⟨q1, q2⟩
        rw [cond_and, h6] at hc
        have e1 : ((k : Int) < (raw.length : Int)) := by omega
        have e2 : ((k : Int) < 8) := by omega
        simp [e1, e2] at hc
      omega
    refine ⟨⟨L.le_of_eq (congrArg (L.sl 7) ?_), trivial⟩, trivial, rfl, rfl⟩
    rw [pendL, hge]
    congr 2
    exact List.take_eq_take_iff.2 (by omega)

/-! members -/
def memP (alive : Int) (incs : List Int) (k : Nat) : List Nat := ((listN alive).take k).filter fun n => decide (n < incs.length) && small (incs.getD n 0)
theorem memP_succ (alive : Int) (incs : List Int) (k : Nat) (h : k < (listN alive).length) : memP alive incs (k + 1) = memP alive incs k ++ if decide ((listN alive)[k] < incs.length) && small (incs.getD (listN alive)[k] 0) then [(listN alive)[k]] else [] := by
  rw [memP, memP, List.take_succ_eq_append_getElem h, List.filter_append]
  congr 1
  simp [List.filter_cons]
theorem memP_len (alive : Int) (incs : List Int) (k : Nat) : (memP alive incs k).length ≤ 16 := by
  have h1 := List.length_filter_le (fun n => decide (n < incs.length) && small (incs.getD n 0)) ((listN alive).take k)
  have h2 := listN_len alive
  have h3 : ((listN alive).take k).length ≤ (listN alive).length := by simp; omega
  rw [memP]
  omega
theorem memP_lt {alive : Int} {incs : List Int} {k : Nat} : ∀ n ∈ memP alive incs k, n < 16 := fun n hn => (mem_listN.1 (List.mem_of_mem_take (List.mem_filter.1 hn).1)).1
set_option maxHeartbeats 1000000 in
theorem members_ok (term epoch alive : Int) (incs : List Int) : M 37 [.int term, .int epoch, .int alive, Is incs] (.d (.agg [L.int term, L.int epoch, L.int (memE term epoch alive incs).mem, .sl 1 (Il (memE term epoch alive incs).incs), .nil])) := by
  have h16 := listN_len alive
  have hlb := listB_len alive
  have hli := Il_length (listB alive)
  have hii := Il_length incs
  refine go37 rfl rfl fun hb => ?_
  refine ⟨_, list_ok alive, ?_⟩
  refine ⟨Nat, fun k => ⟨[(3, Is incs), (8, .ref 999999 0), (9, .ref 999998 0), (16, Is (listB alive)), (17, .int (listN alive).length), (18, .int k)],
    ⟨[(999999, .cells [.int 0, .int 0, .int 0, .d (.l .nil), .d (.l .nil)]), (999998, .cells [.int term, .int epoch, .int ((memP alive incs k).foldl withN 0 : Nat), .own 950000 1 (Il ((memP alive incs k).map fun n => incs.getD n 0)), .d (.l .nil)])], [950000], 900000, 0⟩⟩,
    fun k => k ≤ (listN alive).length, fun k => (listN alive).length - k, 0, Nat.zero_le _, ?_, ?_⟩
  · exact ⟨⟨L.le_refl _, ⟨rfl, rfl⟩, ⟨rfl, rfl⟩, L.le_refl _, L.le_of_eq (congrArg L.int (by rw [hli, hlb])), L.le_refl _, trivial⟩, ⟨⟨L.le_refl _, L.le_refl _, L.le_refl _, L.le_refl _, L.le_refl _, trivial⟩, ⟨L.le_refl _, L.le_refl _, L.le_refl _, rfl, L.le_refl _, trivial⟩, trivial⟩, rfl, rfl⟩
  rintro k hk _
  have hk : k ≤ (listN alive).length := hk
  have inc : IntKind.i64.wrap ((k : Int) + 1) = ((k + 1 : Nat) : Int) := by rw [wrap64 (by omega) (by omega)]; simp
  refine ⟨fun hc => ?_, fun hc => ?_⟩
  · have hlt : k < (listN alive).length := by simpa using hc
    obtain ⟨n, hn⟩ : ∃ n, n = (listN alive)[k] := ⟨_, rfl⟩
    have hs := memP_succ alive incs k hlt
    rw [← hn] at hs
    have hn16 : n < 16 := by rw [hn]; exact (mem_listN.1 (List.getElem_mem hlt)).1
    have hget : (Il (listB alive))[k]? = some [L.int n] := by rw [Il_get, listB_get alive k hlt, ← hn]; rfl
    refine ⟨[L.int n], ⟨k, rfl, hget⟩, ?_⟩
    refine ⟨[L.int (incs.getD n 0)], fun g1 => ⟨n, rfl, ?_⟩, ?_⟩
    · have h : n < incs.length := by
        rw [hii] at g1
        have : (n : Int) < incs.length := by simpa using g1
        omega
      rw [Il_get, List.getElem?_eq_getElem h, getD_of h]; rfl
    refine ⟨_, fun g1 => small17_ok _, ?_⟩
    have hcond : cond (decide ((n : Int) < ((Il incs).length : Int))) (small (incs.getD n 0)) false = (decide (n < incs.length) && small (incs.getD n 0)) := by
      rw [cond_and, hii]
      congr 1
      simp
    refine ⟨fun h => ?_, fun h => ?_⟩
    · have h : (decide (n < incs.length) && small (incs.getD n 0)) = true := hcond ▸ h
      rw [if_pos h] at hs
      have hlen : n < incs.length := by
        simp only [Bool.and_eq_true, decide_eq_true_eq] at h
        exact h.1
      refine ⟨_, with_ok _ _, ?_⟩
      refine ⟨[L.int (incs.getD n 0)], ⟨n, rfl, by rw [Il_get, List.getElem?_eq_getElem hlen, getD_of hlen]; rfl⟩, ?_⟩
      refine ⟨by show ((Il ((memP alive incs k).map fun n => incs.getD n 0)).length + 1) * 8 ≤ _; rw [Il_length, List.length_map]; have := memP_len alive incs k; omega, ?_⟩
      refine ⟨rfl, ?_⟩
      refine ⟨k + 1, hlt, by show (listN alive).length - (k + 1) < (listN alive).length - k; omega, ?_⟩
      refine ⟨⟨L.le_refl _, ⟨rfl, rfl⟩, ⟨rfl, rfl⟩, L.le_refl _, L.le_refl _, L.le_of_eq (congrArg L.int inc), trivial⟩, ⟨⟨L.le_refl _, L.le_refl _, L.le_refl _, L.le_refl _, L.le_refl _, trivial⟩, ⟨L.le_refl _, L.le_refl _, L.le_of_eq (congrArg L.int ?_), ⟨rfl, L.le_of_eq (congrArg (L.sl 1) ?_)⟩, L.le_refl _, trivial⟩, trivial⟩, rfl, rfl⟩
      · rw [withB, if_pos ⟨by omega, by omega⟩, mb_fold memP_lt, hs, List.foldl_append]; rfl
      · rw [hs, List.map_append, ← Il_app]; rfl
    · have h : (decide (n < incs.length) && small (incs.getD n 0)) = false := hcond ▸ h
      rw [if_neg (by rw [h]; simp), List.append_nil] at hs
      refine ⟨k + 1, hlt, by show (listN alive).length - (k + 1) < (listN alive).length - k; omega, ?_⟩
      refine ⟨⟨L.le_refl _, ⟨rfl, rfl⟩, ⟨rfl, rfl⟩, L.le_refl _, L.le_refl _, L.le_of_eq (congrArg L.int inc), trivial⟩, ⟨⟨L.le_refl _, L.le_refl _, L.le_refl _, L.le_refl _, L.le_refl _, trivial⟩, ⟨L.le_refl _, L.le_refl _, L.le_of_eq (by rw [hs]), ⟨rfl, L.le_of_eq (by rw [hs])⟩, L.le_refl _, trivial⟩, trivial⟩, rfl, rfl⟩
  · have hge : k = (listN alive).length := by
      have : ¬ k < (listN alive).length := by simpa using hc
      omega
    have hall : memP alive incs k = memN alive incs := by rw [memP, hge, List.take_length]; rfl
    refine ⟨⟨⟨L.le_refl _, L.le_refl _, L.le_of_eq (by rw [hall]; rfl), L.le_of_eq (by rw [hall]; rfl), L.le_refl _, trivial⟩, trivial⟩, trivial, rfl, rfl⟩
end Go.Proofs.YtfnhcinnlfklbaaDoor

set_option linter.unusedVariables false
set_option linter.unusedSimpArgs false
set_option maxRecDepth 100000
namespace Go.Proofs.YtfnhcinnlfklbaaDoor
open Go Go.Proofs.YtfnhcinnlfklbaaDoor.Abs

abbrev pC (p : List Msg) : List L := [.sl 7 (Ml p)]
abbrev lC (l : List Ent) : List L := [.sl 5 (El l)]
theorem fresh_ok (l : List Ent) (e : Ent) (p : List Msg) : M 38 [Es l, e.V, Ms p] (.fn (.func 56) [] [.ep (pC p) 0, .ep e.L 0, .ep (lC l) 0]) := by
  refine go38 rfl rfl fun hb => ?_
  exact ⟨⟨⟨rfl, ⟨rfl, rfl⟩, trivial, ⟨.inr ⟨_, rfl, rfl, _, rfl, rfl⟩, .inr ⟨_, rfl, rfl, _, rfl, rfl⟩, .inr ⟨_, rfl, rfl, _, rfl, rfl⟩, trivial⟩⟩, trivial⟩, trivial, rfl, rfl⟩
def metGo (l : List Ent) (e : Ent) : List Int → List Msg → List Int
  | met, [] => met
  | met, m :: ms => if okF l e met m then metGo l e (insI met m.sender) ms else metGo l e met ms
theorem freshGo_app (l : List Ent) (e : Ent) : ∀ (a b : List Msg) (met : List Int), freshGo l e met (a ++ b) = freshGo l e met a ++ freshGo l e (metGo l e met a) b
  | [], b, met => rfl
  | m :: a, b, met => by
    rw [List.cons_append, freshGo, freshGo, metGo]
    split
    · rw [freshGo_app l e a b]; rfl
    · rw [freshGo_app l e a b]
theorem metGo_app (l : List Ent) (e : Ent) : ∀ (a b : List Msg) (met : List Int), metGo l e met (a ++ b) = metGo l e (metGo l e met a) b
  | [], b, met => rfl
  | m :: a, b, met => by
    rw [List.cons_append, metGo, metGo]
    split
    · rw [metGo_app l e a b]
    · rw [metGo_app l e a b]
def fm (l : List Ent) (e : Ent) (p : List Msg) (k : Nat) : List Int := metGo l e [] (p.take k)
def fo (l : List Ent) (e : Ent) (p : List Msg) (k : Nat) : List Msg := freshGo l e [] (p.take k)
theorem fo_succ (l : List Ent) (e : Ent) (p : List Msg) (k : Nat) (h : k < p.length) : fo l e p (k + 1) = fo l e p k ++ if okF l e (fm l e p k) p[k] then [p[k]] else [] := by
  rw [fo, List.take_succ_eq_append_getElem h, freshGo_app]
  rfl
theorem fm_succ (l : List Ent) (e : Ent) (p : List Msg) (k : Nat) (h : k < p.length) : fm l e p (k + 1) = if okF l e (fm l e p k) p[k] then insI (fm l e p k) p[k].sender else fm l e p k := by
  rw [fm, List.take_succ_eq_append_getElem h, metGo_app]
  rfl
theorem fo_get (l : List Ent) (e : Ent) (p : List Msg) (k : Nat) (h : k < p.length) (hok : okF l e (fm l e p k) p[k] = true) : (freshGo l e [] p)[(fo l e p k).length]? = some p[k] := by
  have e1 : freshGo l e [] p = fo l e p k ++ freshGo l e (fm l e p k) (p.drop k) := by rw [fo, fm, ← freshGo_app, List.take_append_drop]
  rw [e1, List.getElem?_append_right (Nat.le_refl _), Nat.sub_self, List.drop_eq_getElem_cons h, freshGo, if_pos hok]
  rfl
theorem fo_len (l : List Ent) (e : Ent) (p : List Msg) : (fo l e p p.length) = freshGo l e [] p := by rw [fo, List.take_length]
theorem freshGo_len (l : List Ent) (e : Ent) : ∀ (ms : List Msg) (met : List Int), (freshGo l e met ms).length ≤ ms.length
  | [], met => Nat.le_refl _
  | m :: a, met => by
    rw [freshGo]
    split
    · have := freshGo_len l e a (insI met m.sender); simp; omega
    · have := freshGo_len l e a met; simp; omega
def freshZ (l : List Ent) (e : Ent) (p : List Msg) : List (List D) := (freshGo l e [] p).map fun m => [D.agg m.L]
set_option maxHeartbeats 4000000 in
theorem fresh_it (l : List Ent) (hf : Fit l) (e : Ent) (he : FitE e) (p : List Msg) (hp : p.length ≤ 1000000) : N 56 [.ep (pC p) 0, .ep e.L 0, .ep (lC l) 0] (freshZ l e p) := by
  have hpl := Ml_length p
  refine it56 rfl fun y hb => ?_
  refine ⟨Nat, fun k => ⟨[(0, .fn (.yield y) [] []), (2, .ep e.L 0), (3, .ep (lC l) 0), (5, .mp 999999), (13, Ms p), (14, .int p.length), (15, .int k)], ⟨[(999999, .mpi (fm l e p k))], [], 900000, (fo l e p k).length + 1⟩⟩, fun k => k ≤ p.length, fun k => p.length - k, 0, Nat.zero_le _, ?_, ?_⟩
  · exact ⟨⟨⟨rfl, ⟨rfl, rfl⟩, trivial, trivial⟩, .inl rfl, .inl rfl, rfl, L.le_refl _, L.le_of_eq (congrArg L.int (by rw [hpl])), L.le_refl _, trivial⟩, ⟨rfl, trivial⟩, rfl, rfl⟩
  rintro k hk _
  have hk : k ≤ p.length := hk
  refine ⟨fun hc => ?_, fun hc => ?_⟩
  · have hlt : k < p.length := by simpa using hc
    have inc : IntKind.i64.wrap ((k : Int) + 1) = ((k + 1 : Nat) : Int) := by rw [wrap64 (by omega) (by omega)]; simp
    obtain ⟨m, hm⟩ : ∃ m, m = p[k] := ⟨_, rfl⟩
    have hs1 := fo_succ l e p k hlt
    have hs2 := fm_succ l e p k hlt
    have hs3 := fo_get l e p k hlt
    rw [← hm] at hs1 hs2 hs3
    obtain ⟨M0, hM0⟩ : ∃ M0, M0 = fm l e p k := ⟨_, rfl⟩
    rw [← hM0] at hs1 hs2 hs3
    refine ⟨m.L, ⟨k, rfl, by rw [Ml_get, List.getElem?_eq_getElem hlt, hm]; rfl⟩, ?_⟩
    refine ⟨_, einc_ok e m.sender (Nat.le_trans he.1 (by decide)), ?_⟩
    refine ⟨_, fun g1 => right_ok m, ?_⟩
    refine ⟨_, fun g1 => seen_ok l hf m.sender _, ?_⟩
    refine ⟨rfl, ?_⟩
    have hX : ∀ X, cond (cond (cond (cond (!(e.inc m.sender).isSome) true (decide (m.sender ∈ fm l e p k))) true ((e.inc m.sender).getD 0 != m.inc)) true (!m.right)) true (decide (m.seq ≤ seenL l m.sender ((e.inc m.sender).getD 0))) = X → okF l e M0 m = !X := by
      rintro _ rfl
      rw [okF, incIs, hM0]
      simp only [cond_or]
      cases hi : e.inc m.sender with
      | none => simp
      | some i =>
        by_cases h1 : i = m.inc
        · subst h1
          simp only [Option.isSome_some, Option.getD_some, Bool.not_true, Bool.false_or, bne_self_eq_false, beq_self_eq_true, Bool.true_and, Bool.or_false]
          have e2 : decide (m.seq ≤ seenL l m.sender m.inc) = !decide (seenL l m.sender m.inc < m.seq) := by rw [Bool.eq_iff_iff]; simp
          rw [e2]
          cases decide (m.sender ∈ fm l e p k) <;> cases m.right <;> cases decide (seenL l m.sender m.inc < m.seq) <;> rfl
        · have e1 : (i == m.inc) = false := by simpa using h1
          simp [e1, h1]
    refine ⟨fun h => ?_, fun h => ?_⟩
    · have h := hX _ h
      rw [h] at hs1 hs2
      refine ⟨k + 1, hlt, by show p.length - (k + 1) < p.length - k; omega, ?_⟩
      refine ⟨⟨⟨rfl, ⟨rfl, rfl⟩, trivial, trivial⟩, .inl rfl, .inl rfl, rfl, L.le_refl _, L.le_refl _, L.le_of_eq (congrArg L.int inc), trivial⟩, ⟨?_, trivial⟩, ?_, rfl⟩
      · rw [hs2, hM0]; rfl
      · rw [hs1]; simp
    · have h := hX _ h
      have h : okF l e M0 m = true := h
      have hz := hs3 h
      rw [if_pos h] at hs1 hs2
      refine ⟨⟨rfl, ?_⟩, ?_, ?_⟩
      · show (freshZ l e p)[(fo l e p k).length]? = _
        rw [freshZ, List.getElem?_map, hz]; rfl
      · refine ⟨fun h2 => ?_, fun h2 => ?_⟩
        · exact absurd h2 (by decide)
        · refine ⟨k + 1, hlt, by show p.length - (k + 1) < p.length - k; omega, ?_⟩
          refine ⟨⟨⟨rfl, ⟨rfl, rfl⟩, trivial, trivial⟩, .inl rfl, .inl rfl, rfl, L.le_refl _, L.le_refl _, L.le_of_eq (congrArg L.int inc), trivial⟩, ⟨?_, trivial⟩, ?_, rfl⟩
          · rw [hs2, hM0]; rfl
          · rw [hs1]; simp
      · refine ⟨fun h2 => .inl rfl, fun h2 => ?_⟩
        exact absurd h2 (by decide)
  · have hge : k = p.length := by
      have : ¬ k < p.length := by simpa using hc
      omega
    refine .inr ?_
    show (fo l e p k).length + 1 = (freshZ l e p).length + 1
    rw [hge, fo_len, freshZ, List.length_map]
theorem memE_fit (term epoch alive : Int) (incs : List Int) : FitE (memE term epoch alive incs) := by
  have h1 := List.length_filter_le (fun n => decide (n < incs.length) && small (incs.getD n 0)) (listN alive)
  have h2 := listN_len alive
  refine ⟨?_, Nat.zero_le _⟩
  show ((memN alive incs).map _).length ≤ 1000
  rw [List.length_map, memN]
  omega
def nextV (r : Ent × Bool) : V := .tup [r.1.V, .bool r.2]
theorem freshZ_one {l : List Ent} {e : Ent} {p : List Msg} : ∀ ds ∈ freshZ l e p, ds.length = 1 := by
  intro ds h
  obtain ⟨m, _, rfl⟩ := List.mem_map.1 h
  rfl
theorem freshZ_get {l : List Ent} {e : Ent} {p : List Msg} {i : Nat} {ds : List D} (h : (freshZ l e p)[i]? = some ds) : ∃ m, (freshGo l e [] p)[i]? = some m ∧ ds = [D.agg m.L] := by
  rw [freshZ, List.getElem?_map] at h
  cases hm : (freshGo l e [] p)[i]? with
  | none => rw [hm] at h; cases h
  | some m => rw [hm] at h; cases h; exact ⟨m, rfl, rfl⟩
set_option maxHeartbeats 4000000 in
theorem next_ok (l : List Ent) (hf : Fit l) (term epoch alive : Int) (incs : List Int) (p : List Msg) (hp : p.length ≤ 1000000) : M 20 [Es l, .int term, .int epoch, .int alive, Is incs, Ms p] (nextV (nextT l term epoch alive incs p)) := by
  have hel := El_length l
  have h400 := hf.1
  obtain ⟨R, hR⟩ : ∃ R, R = nextT l term epoch alive incs p := ⟨_, rfl⟩
  rw [← hR]
  refine go20 rfl rfl fun hb => ?_
  refine ⟨_, lright_ok l hf, ?_⟩
  refine ⟨_, fun g1 => small17_ok term, ?_⟩
  refine ⟨_, fun g1 => small17_ok epoch, ?_⟩
  have hX : ∀ X, cond (cond (cond (!logRight l) true (decide (((El l).length : Int) ≥ 300))) true (!small term)) true (!small epoch) = X → (X = false ↔ (logRight l = true ∧ l.length < 300 ∧ small term = true ∧ small epoch = true)) := by
    rintro _ rfl
    rw [hel]
    simp only [cond_or]
    have e1 : decide ((l.length : Int) ≥ 300) = !decide (l.length < 300) := by rw [Bool.eq_iff_iff]; simp; omega
    rw [e1]
    cases logRight l <;> cases small term <;> cases small epoch <;> by_cases h : l.length < 300 <;> simp [h]
  have hd0 : ∀ {fz : Fz}, leV fz (.agg [.int 0, .int 0, .int 0, .d (.l .nil), .d (.l .nil)]) dent.V := ⟨L.le_refl _, L.le_refl _, L.le_refl _, L.le_nil 1, L.le_nil 7, trivial⟩
  refine ⟨fun h => ?_, fun h => ?_⟩
  · have h1 : ¬ (logRight l = true ∧ l.length < 300 ∧ small term = true ∧ small epoch = true) := fun hc => by
      have := (hX _ h).2 hc; cases this
    have : R = (dent, false) := by rw [hR, nextT, if_neg h1]
    subst this
    exact ⟨⟨⟨hd0, L.le_refl _, trivial⟩, trivial⟩, trivial, rfl, rfl⟩
  have h1 := (hX _ h).1 rfl
  rw [nextT, if_pos h1] at hR
  obtain ⟨e, he⟩ : ∃ e, e = memE term epoch alive incs := ⟨_, rfl⟩
  have hme : M 37 [.int term, .int epoch, .int alive, Is incs] (.d (.agg [L.int e.term, L.int e.epoch, L.int e.mem, .sl 1 (Il e.incs), .nil])) := he ▸ members_ok term epoch alive incs
  have hmsgs : e.msgs = [] := by rw [he]; rfl
  have hnil : L.le .nil (.sl 7 (Ml e.msgs)) := by rw [hmsgs]; exact L.le_nil 7
  have heA : leA (.d (.agg [L.int e.term, L.int e.epoch, L.int e.mem, .sl 1 (Il e.incs), .nil])) e.V := leA.agg ⟨L.le_refl _, L.le_refl _, L.le_refl _, L.le_refl _, hnil, trivial⟩
  have hfe : FitE e := he ▸ memE_fit term epoch alive incs
  rw [← he] at hR
  refine ⟨_, hme, ?_⟩
  refine ⟨fun h0 => ?_, fun h0 => ?_⟩
  · have h0 : l = [] := by
      have : (El l).length = 0 := by simpa using h0
      exact List.eq_nil_of_length_eq_zero (by omega)
    subst h0
    have : R = (e, true) := hR
    subst this
    exact ⟨⟨⟨⟨L.le_refl _, L.le_refl _, L.le_refl _, L.le_refl _, hnil, trivial⟩, L.le_refl _, trivial⟩, trivial⟩, trivial, rfl, rfl⟩
  have h0 : l ≠ [] := by
    rintro rfl
    exact absurd h0 (by decide)
  have hpos := List.length_pos_iff.2 h0
  obtain ⟨last, hla⟩ : ∃ last, last = l[l.length - 1]'(by omega) := ⟨_, rfl⟩
  have hlast : l.getLast? = some last := by rw [List.getLast?_eq_getElem?, List.getElem?_eq_getElem (by omega), hla]
  have hlf : FitE last := hla ▸ hf.2 _ (List.getElem_mem _)
  rw [hlast] at hR
  simp only at hR
  refine ⟨last.L, ⟨l.length - 1, by rw [hel, wrap64 (by omega) (by omega)]; omega, by rw [El_get, List.getElem?_eq_getElem (by omega), hla]; rfl⟩, ?_⟩
  have late : ∀ {A : Prop}, (term < last.term ∨ epoch ≤ last.epoch → A) → (¬ (term < last.term ∨ epoch ≤ last.epoch) → A) → A := fun h1 h2 => (Classical.em _).elim h1 h2
  have hnew : M 29 [last.V, .d (.agg [L.int e.term, L.int e.epoch, L.int e.mem, .sl 1 (Il e.incs), .nil])] (.bool (alike last e)) := (alike_ok last e hlf).le ⟨leA.refl _, heA, trivial⟩
  have hself : ∀ {fz : Fz}, leV fz (.agg [.int e.term, .int e.epoch, .int e.mem, Is e.incs, .d (.l .nil)]) e.V := ⟨L.le_refl _, L.le_refl _, L.le_refl _, L.le_refl _, hnil, trivial⟩
  have tail : ¬ (term < last.term ∨ epoch ≤ last.epoch) → ¬ (last.term < term ∨ alike last e = false) → (freshGo l e [] p = [] → R = (dent, false)) ∧ (freshGo l e [] p ≠ [] → R = (withMsgs e (sortL (freshGo l e [] p)), true)) := fun q1 q2 => by
    rw [if_neg q1, if_neg q2] at hR
    exact ⟨fun q => by rw [hR, if_pos q], fun q => by rw [hR, if_neg q]⟩
  refine ⟨fun c1 => ?_, fun c1 => ?_⟩
  · have c1' : term < last.term := by simpa using c1
    have : R = (dent, false) := by rw [hR, if_pos (.inl c1')]
    subst this
    refine ⟨fun _ => ?_, fun c2 => absurd (c1.symm.trans c2) (by decide)⟩
    exact ⟨⟨⟨hd0, L.le_refl _, trivial⟩, trivial⟩, trivial, rfl, rfl⟩
  have c1' : ¬ term < last.term := by simpa using c1
  refine ⟨fun c2 => ?_, fun c2 => ?_⟩
  · have c2' : epoch ≤ last.epoch := by simpa using c2
    have : R = (dent, false) := by rw [hR, if_pos (.inr c2')]
    subst this
    exact ⟨⟨⟨hd0, L.le_refl _, trivial⟩, trivial⟩, trivial, rfl, rfl⟩
  have c2' : ¬ epoch ≤ last.epoch := by simpa using c2
  have hno : ¬ (term < last.term ∨ epoch ≤ last.epoch) := by omega
  refine ⟨fun c3 => ?_, fun c3 => ?_⟩
  · have c3' : last.term < term := by simpa using c3
    have : R = (e, true) := by rw [hR, if_neg hno, if_pos (.inl c3')]
    subst this
    refine ⟨fun _ => ?_, fun c2 => absurd (c3.symm.trans c2) (by decide)⟩
    exact ⟨⟨⟨hself, L.le_refl _, trivial⟩, trivial⟩, trivial, rfl, rfl⟩
  have c3' : ¬ last.term < term := by simpa using c3
  refine ⟨_, hnew, ?_⟩
  refine ⟨fun c4 => ?_, fun c4 => ?_⟩
  · have c4' : alike last e = false := by simpa using c4
    have : R = (e, true) := by rw [hR, if_neg hno, if_pos (.inr c4')]
    subst this
    exact ⟨⟨⟨hself, L.le_refl _, trivial⟩, trivial⟩, trivial, rfl, rfl⟩
  have c4' : ¬ alike last e = false := by simpa using c4
  obtain ⟨t1, t2⟩ := tail hno (fun hc => hc.elim c3' c4')
  obtain ⟨F, hF⟩ : ∃ F, F = freshGo l e [] p := ⟨_, rfl⟩
  have hFl : F.length ≤ p.length := hF ▸ freshGo_len l e p []
  rw [← hF] at t1 t2
  have hfr : M 38 [Es l, .d (.agg [L.int e.term, L.int e.epoch, L.int e.mem, .sl 1 (Il e.incs), .nil]), Ms p] (.fn (.func 56) [] [.ep (pC p) 0, .ep e.L 0, .ep (lC l) 0]) := (fresh_ok l e p).le ⟨leA.refl _, heA, leA.refl _, trivial⟩
  refine ⟨_, hfr, ?_⟩
  have hb0 : ∀ {fz : Fz}, leVs fz [.int 0, .int 0, .int 0, .d (.l .nil), .d (.l .nil)] [.int 0, .int 0, .int 0, .d (.l .nil), .d (.l .nil)] := ⟨L.le_refl _, L.le_refl _, L.le_refl _, L.le_refl _, L.le_refl _, trivial⟩
  refine ⟨freshZ l e p, [(12, .ref 999999 0), (14, .ref 999998 0)], fun i => ⟨[(999999, .cells [.int 0, .int 0, .int 0, .d (.l .nil), .d (.l .nil)]), (999998, .cells [.int e.term, .int e.epoch, .int e.mem, Is e.incs, .own 950000 7 (Ml (F.take i))])], [950000], 900000, 0⟩, fresh_it l hf e hfe p hp, freshZ_one, rfl, ?_, ?_, ?_⟩
  · exact ⟨⟨⟨rfl, rfl⟩, ⟨rfl, rfl⟩, trivial⟩, ⟨hb0, ⟨L.le_refl _, L.le_refl _, L.le_refl _, L.le_refl _, rfl, trivial⟩, trivial⟩, rfl, rfl⟩
  · intro i ds hz
    obtain ⟨m, hm, rfl⟩ := freshZ_get hz
    rw [← hF] at hm
    have hi : i < F.length := (List.getElem?_eq_some_iff.1 hm).1
    have hm2 : F[i] = m := (List.getElem?_eq_some_iff.1 hm).2
    refine ⟨⟨[(75, m.V), (12, .ref 999999 0), (14, .ref 999998 0)], ⟨[(999999, .cells [.int 0, .int 0, .int 0, .d (.l .nil), .d (.l .nil)]), (999998, .cells [.int e.term, .int e.epoch, .int e.mem, Is e.incs, .own 950000 7 (Ml (F.take i))])], [950000], 900000, 0⟩⟩, ?_, fun hbd => ?_⟩
    · exact ⟨⟨.inl rfl, ⟨rfl, rfl⟩, ⟨rfl, rfl⟩, trivial⟩, ⟨hb0, ⟨L.le_refl _, L.le_refl _, L.le_refl _, L.le_refl _, ⟨rfl, L.le_refl _⟩, trivial⟩, trivial⟩, rfl, rfl⟩
    · refine ⟨by show ((Ml (F.take i)).length + 1) * 64 ≤ _; rw [Ml_length, List.length_take]; omega, ?_⟩
      refine ⟨⟨⟨rfl, rfl⟩, ⟨rfl, rfl⟩, trivial⟩, ⟨hb0, ⟨L.le_refl _, L.le_refl _, L.le_refl _, L.le_refl _, ⟨rfl, L.le_of_eq (congrArg (L.sl 7) ?_)⟩, trivial⟩, trivial⟩, rfl, rfl⟩
      rw [List.take_succ_eq_append_getElem hi, hm2, ← Ml_app]; rfl
  · have hall : F.take (freshZ l e p).length = F := by rw [freshZ, List.length_map, ← hF, List.take_length]
    refine ⟨fun c5 => ?_, fun c5 => ?_⟩
    · have c5' : F = [] := by
        have : (Ml (F.take (freshZ l e p).length)).length = 0 := by simpa using c5
        rw [hall, Ml_length] at this
        exact List.eq_nil_of_length_eq_zero this
      have := t1 c5'
      subst this
      exact ⟨⟨⟨hd0, L.le_refl _, trivial⟩, trivial⟩, trivial, rfl, rfl⟩
    · have c5' : F ≠ [] := by
        intro hc
        rw [hall, hc] at c5
        exact absurd c5 (by decide)
      have := t2 c5'
      subst this
      refine ⟨_, _, sort_ok (F.take (freshZ l e p).length) (by rw [hall]; omega), ?_⟩
      refine ⟨⟨⟨⟨L.le_refl _, L.le_refl _, L.le_refl _, L.le_refl _, L.le_of_eq (by rw [hall]; rfl), trivial⟩, L.le_refl _, trivial⟩, trivial⟩, trivial, rfl, rfl⟩
end Go.Proofs.YtfnhcinnlfklbaaDoor

set_option linter.unusedVariables false
set_option linter.unusedSimpArgs false
set_option maxRecDepth 100000
namespace Go.Proofs.YtfnhcinnlfklbaaDoor
open Go Go.Proofs.YtfnhcinnlfklbaaDoor.Abs

abbrev wa : Ent := ⟨1, 1, 3, [5, 1], []⟩
abbrev wm : Msg := ⟨false, 5, 0, 5, 1, 1, ⟨#[]⟩⟩
abbrev wb : Ent := ⟨1, 2, 3, [5, 1], [wm]⟩
theorem aw1 : nextT [] 1 1 3 [5, 1] [] = (wa, true) := by rfl
theorem aw2 : nextT [wa] 1 2 3 [5, 1] [wm, wm] = (wb, true) := by rfl
theorem aw3 : nextT [wa, wb] 1 3 3 [5, 1] [wm] = (dent, false) := by rfl
theorem aw4 : incL [wa, wb] 0 = .tup [.int 5, .bool true] := by rfl
theorem aw5 : viewsN [wa, wb] = 1 := by rfl
theorem aw6 : joinedN [wa, wb] 1 1 = 1 := by rfl
theorem aw7 : joinedN [wa, wb] 1 2 = 0 := by rfl
theorem aw8 : seenL [wa, wb] 0 5 = 1 := by rfl
theorem aw9 : msgsL [wa, wb] 1 2 = [wm] := by rfl
theorem fit2 : Fit [wa, wb] := ⟨by decide, by simp [FitE]⟩
theorem fit1 : Fit [wa] := ⟨by decide, by simp [FitE]⟩
theorem fit0 : Fit [] := ⟨by decide, by simp⟩
theorem next0_ok (term epoch alive : Int) (incs : List Int) : M 20 [.d (.l .nil), .int term, .int epoch, .int alive, Is incs, .d (.l .nil)] (nextV (nextT [] term epoch alive incs [])) :=
  (next_ok [] fit0 term epoch alive incs [] (by decide)).le ⟨leA.l (L.le_nil 5), leA.refl _, leA.refl _, leA.refl _, leA.refl _, leA.l (L.le_nil 7), trivial⟩
set_option maxHeartbeats 2000000 in
theorem awake_ok : M 8 [] (.bool true) := by
  refine go8 rfl rfl fun hb => ?_
  have h1 := next0_ok 1 1 3 [5, 1]
  rw [aw1] at h1
  refine ⟨_, h1, ?_⟩
  have h2 := next_ok [wa] fit1 1 2 3 [5, 1] [wm, wm] (by decide)
  rw [aw2] at h2
  refine ⟨_, h2, ?_⟩
  refine ⟨fun h => ?_, fun h => ?_⟩
  · exact absurd h (by decide)
  refine ⟨by decide, ?_⟩
  have h3 := next_ok [wa, wb] fit2 1 3 3 [5, 1] [wm] (by decide)
  rw [aw3] at h3
  refine ⟨_, h3, ?_⟩
  have h4 := inc_ok [wa, wb] fit2 0
  rw [aw4] at h4
  refine ⟨_, h4, ?_⟩
  have h5 := ints_ok [5, 1] [5, 1] (by decide)
  refine ⟨_, fun _ => h5, ?_⟩
  refine ⟨wm.L, fun _ => ⟨0, rfl, rfl⟩, ?_⟩
  have h6 := views_ok [wa, wb] fit2
  rw [aw5] at h6
  refine ⟨_, fun _ => h6, ?_⟩
  have h7 := joined_ok [wa, wb] fit2 1 1
  rw [aw6] at h7
  refine ⟨_, fun _ => h7, ?_⟩
  have h8 := joined_ok [wa, wb] fit2 1 2
  rw [aw7] at h8
  refine ⟨_, fun _ => h8, ?_⟩
  have h9 := seen_ok [wa, wb] fit2 0 5
  rw [aw8] at h9
  refine ⟨_, fun _ => h9, ?_⟩
  have h10 := msgs_ok [wa, wb] fit2 1 2 (by decide) (by decide)
  rw [aw9] at h10
  refine ⟨_, fun _ => h10, ?_⟩
  refine ⟨rfl, ?_⟩
  refine ⟨⟨L.le_of_eq (congrArg L.bool ?_), trivial⟩, trivial, rfl, rfl⟩
  simp [eqCells, eqC]
  exact ⟨rfl, rfl⟩
end Go.Proofs.YtfnhcinnlfklbaaDoor

set_option linter.unusedVariables false
set_option linter.unusedSimpArgs false
set_option maxRecDepth 100000
namespace Go.Proofs.YtfnhcinnlfklbaaDoor
open Go Go.Proofs.YtfnhcinnlfklbaaDoor.Abs

theorem entMsgs_len (mem : Int) (incs : List Int) (raw : List R6) : (entMsgs mem incs raw).length ≤ 16 := by
  have := listN_len mem
  simp [entMsgs]; omega
theorem sortL_le (l : List Msg) : (sortL l).length ≤ l.length := by
  have := sortL_len l l.length
  rw [List.take_length] at this
  omega
theorem logE_fit (raw : List R3) (msgs : List R6) (i : Nat) : FitE (logE raw msgs i) := by
  constructor
  · show (entIncs _ _).length ≤ 1000
    rw [entIncs_len]
    have := listN_len (pick (pick (raw.getD i r30).b 16) 65536)
    exact Nat.le_trans this (by decide)
  · exact Nat.le_trans (sortL_le _) (Nat.le_trans (entMsgs_len _ _ _) (by decide))
theorem logL_fit (raw : List R3) (msgs : List R6) : Fit (logL raw msgs) :=
  ⟨by rw [logL, logN_length]; omega, fun e he => by
    obtain ⟨i, _, rfl⟩ := List.mem_map.1 he
    exact logE_fit raw msgs i⟩
set_option maxHeartbeats 4000000 in
theorem parts_law (raw : List R3) (msgs : List R6) (hr : ∀ r ∈ raw, r.ok) (hm : ∀ r ∈ msgs, r.ok) (hrl : raw.length ≤ 9223372036854775807) (hml : msgs.length ≤ 9223372036854775807) (at' node inc : Int) (ha : InR at') (hn : InR node) (hi : InR inc) :
    M 5 [Rs3 raw, Rs msgs, .int at', .int node, .int inc] (.bool true) := by
  refine go5 rfl rfl fun hb => ?_
  refine ⟨_, awake_ok, ?_⟩
  have hlog := log_ok raw msgs hr hm hrl hml
  have hright := logL_right raw msgs
  have hfit := logL_fit raw msgs
  have hl12 : (logL raw msgs).length ≤ 12 := by rw [logL, logN_length]; omega
  revert hlog hright hfit hl12
  generalize logL raw msgs = l
  intro hlog hright hf hl12
  have hel := El_length l
  refine ⟨_, hlog, ?_⟩
  have hw : IntKind.i64.wrap (((El l).length : Int) + 1) = l.length + 1 := by rw [hel, wrap64 (by omega) (by omega)]
  refine ⟨_, pick18_ok at' _ ha (by rw [hw]; omega), ?_⟩
  have pk := pick_range (c := at') (n := IntKind.i64.wrap (((El l).length : Int) + 1)) (by rw [hw]; omega)
  obtain ⟨k, hk⟩ : ∃ k : Nat, pick at' (IntKind.i64.wrap (((El l).length : Int) + 1)) = k := ⟨_, (Int.toNat_of_nonneg pk.1).symm⟩
  rw [hk, hw] at pk
  have hkl : k ≤ l.length := by omega
  obtain ⟨ms, hms⟩ : ∃ ms, ms = msgsL l 0 l.length := ⟨_, rfl⟩
  have hml : ms.length ≤ 400000 := by rw [hms]; exact msgsL_len hf _ _
  have hmm := Ml_length ms
  have hmo : M 11 [Es l, .int 0, .int ((El l).length : Nat)] (Ms ms) := by rw [hel, hms]; exact msgs_ok l hf 0 l.length (by omega) (by omega)
  refine ⟨_, hmo, ?_⟩
  refine ⟨_, pick18_ok node 16 hn (by omega), ?_⟩
  refine ⟨_, pick18_ok inc 3 hi (by omega), ?_⟩
  have ps := pick_range (c := node) (n := 16) (by omega)
  have pi := pick_range (c := inc) (n := 3) (by omega)
  obtain ⟨s, hs⟩ : ∃ s, s = pick node 16 := ⟨_, rfl⟩
  obtain ⟨i, hi'⟩ : ∃ i, i = IntKind.i64.wrap (1 + pick inc 3) := ⟨_, rfl⟩
  refine ⟨Nat, fun j => ⟨[(11, .bool true), (12, Es l), (13, .int k), (14, Ms ms), (15, .int s), (16, .int i), (17, .int (seenS (ms.take j) s i)), (18, .int j)], ⟨[], [], 900000, 0⟩⟩, fun j => j ≤ ms.length, fun j => ms.length - j, 0, Nat.zero_le _, ?_, ?_⟩
  · exact ⟨⟨L.le_refl _, L.le_refl _, L.le_of_eq (congrArg L.int hk), L.le_refl _, L.le_of_eq (congrArg L.int hs.symm), L.le_of_eq (congrArg L.int hi'.symm), L.le_refl _, L.le_refl _, trivial⟩, trivial, rfl, rfl⟩
  rintro j hj _
  have hj : j ≤ ms.length := hj
  have inc' : IntKind.i64.wrap ((j : Int) + 1) = ((j + 1 : Nat) : Int) := by rw [wrap64 (by omega) (by omega)]; simp
  refine ⟨fun hc => ?_, fun hc => ?_⟩
  · have hlt : j < ms.length := by simpa [hmm] using hc
    have hsn := seenF_snoc ms s i j hlt
    have hget : (Ml ms)[j]? = some ms[j].L := by rw [Ml_get, List.getElem?_eq_getElem hlt]; rfl
    refine ⟨ms[j].L, ⟨j, rfl, hget⟩, ?_⟩
    refine ⟨ms[j].L, fun _ => ⟨j, rfl, hget⟩, ?_⟩
    refine ⟨fun h => ?_, fun h => ?_⟩
    · have h : ms[j].sender = s ∧ ms[j].inc = i := by
        rw [cond_and] at h
        simpa using h
      rw [if_pos h] at hsn
      refine ⟨ms[j].L, ⟨j, rfl, hget⟩, ?_⟩
      refine ⟨j + 1, hlt, by show ms.length - (j + 1) < ms.length - j; omega, ?_⟩
      exact ⟨⟨L.le_refl _, L.le_refl _, L.le_refl _, L.le_refl _, L.le_refl _, L.le_refl _, L.le_of_eq (congrArg L.int hsn.symm), L.le_of_eq (congrArg L.int inc'), trivial⟩, trivial, rfl, rfl⟩
    · have h : ¬ (ms[j].sender = s ∧ ms[j].inc = i) := by
        rintro ⟨q1, q2⟩
        rw [q1, q2] at h
        simp at h
      rw [if_neg h] at hsn
      refine ⟨j + 1, hlt, by show ms.length - (j + 1) < ms.length - j; omega, ?_⟩
      exact ⟨⟨L.le_refl _, L.le_refl _, L.le_refl _, L.le_refl _, L.le_refl _, L.le_refl _, L.le_of_eq (congrArg L.int hsn.symm), L.le_of_eq (congrArg L.int inc'), trivial⟩, trivial, rfl, rfl⟩
  · have hge : ms.length ≤ j := by
      have : ¬ (j < ms.length) := by simpa [hmm] using hc
      omega
    have hall : ms.take j = ms := List.take_of_length_le hge
    have htk : ((El l).take k) = El (l.take k) := El_take l k
    refine ⟨k, ⟨rfl, by rw [hel]; exact hkl⟩, ?_⟩
    have hseen1 : M 16 [.d (.l (.sl 5 ((El l).take k))), .int s, .int i] (.int (seenL (l.take k) s i)) := by rw [htk]; exact seen_ok _ (hf.take k) s i
    refine ⟨_, hseen1, ?_⟩
    refine ⟨_, seen_ok l hf s i, ?_⟩
    refine ⟨_, fun _ => msgs_ok l hf 0 k (by omega) (by omega), ?_⟩
    have hl1 := msgsL_len hf 0 k
    have hl2 := msgsL_len hf k l.length
    have hm1 := Ml_length (msgsL l 0 k)
    have hm2 := Ml_length (msgsL l k l.length)
    refine ⟨fun _ => by show (0 + (Ml (msgsL l 0 k)).length) * 64 ≤ _; omega, ?_⟩
    have hmo2 : M 11 [Es l, .int k, .int ((El l).length : Nat)] (Ms (msgsL l k l.length)) := by rw [hel]; exact msgs_ok l hf k l.length (by omega) (by omega)
    refine ⟨_, fun _ => hmo2, ?_⟩
    refine ⟨fun _ => by show ((Ml (msgsL l 0 k)).length + (Ml (msgsL l k l.length)).length) * 64 ≤ _; omega, ?_⟩
    have hparts := msgsL_parts hright k hkl
    have hsame : M 19 [.d (.l (.sl 7 (Ml (msgsL l 0 k) ++ Ml (msgsL l k l.length)))), Ms ms] (.bool true) := by
      have := same_ok ms ms
      rw [(sameL_iff ms ms).2 rfl] at this
      rw [Ml_app, hparts, ← hms]
      exact this
    refine ⟨_, fun _ => hsame, ?_⟩
    refine ⟨k, fun _ => ⟨rfl, by rw [hel]; exact hkl⟩, ?_⟩
    have hv1 : M 14 [.d (.l (.sl 5 ((El l).take k)))] (.int (viewsN (l.take k))) := by rw [htk]; exact views_ok _ (hf.take k)
    refine ⟨_, fun _ => hv1, ?_⟩
    refine ⟨_, fun _ => views_ok l hf, ?_⟩
    refine ⟨_, fun _ => views_ok l hf, ?_⟩
    refine ⟨⟨L.le_of_eq (congrArg L.bool ?_), trivial⟩, trivial, rfl, rfl⟩
    have e1 : seenL l s i = seenS (ms.take j) s i := by rw [hall, seenL, hms]
    have e2 : decide (seenL (l.take k) s i ≤ seenL l s i) = true := by simpa using seenL_take hright k hkl s i
    have e3 : decide (((viewsN (l.take k) : Nat) : Int) ≤ ((viewsN l : Nat) : Int)) = true := by
      have := views_take hright k hkl
      simpa using this
    have e4 : ((((El l).length : Int) == 0) == (((viewsN l : Nat) : Int) == 0)) = true := by
      have := views_none hright
      rw [hel]
      rw [beq_iff_eq, Bool.eq_iff_iff]
      simp [this]
    rw [e1] at e2 ⊢
    simp only [beq_self_eq_true, cond_true, cond_false, e2, e3]
    exact e4
end Go.Proofs.YtfnhcinnlfklbaaDoor

set_option linter.unusedVariables false
set_option linter.unusedSimpArgs false
set_option maxRecDepth 100000
namespace Go.Proofs.YtfnhcinnlfklbaaDoor
open Go Go.Proofs.YtfnhcinnlfklbaaDoor.Abs

theorem and_31 (v : Int) : IntKind.i64.wrap ((BitVec.ofInt 64 v &&& BitVec.ofInt 64 31).toNat : Int) = v % 32 := by
  have h : ((BitVec.ofInt 64 v &&& BitVec.ofInt 64 31).toNat : Int) = v % 32 := by
    rw [BitVec.toNat_and, BitVec.toNat_ofInt]
    have : (BitVec.ofInt 64 31).toNat = 2 ^ 5 - 1 := by decide
    rw [this, Nat.and_two_pow_sub_one_eq_mod]
    omega
  rw [h, wrap64 (by omega) (by omega)]
theorem mem_two5' (t p v : Int) : (memE t p v two5).mem = v % 32 := mem_two5 v
set_option maxHeartbeats 4000000 in
theorem terms_law (raw : List R3) (members : Int) (pending : List R6) (back : Int) (hr : ∀ r ∈ raw, r.ok) (hp : ∀ r ∈ pending, r.ok) (hrl : raw.length ≤ 9223372036854775807) (hpl : pending.length ≤ 9223372036854775807) (hback : InR back) :
    M 7 [Rs3 raw, .int members, Rs pending, .int back] (.bool true) := by
  refine go7 rfl rfl fun hb => ?_
  refine ⟨_, awake_ok, ?_⟩
  have hlog : M 17 [Rs3 raw, .d (.l .nil)] (Es (logL raw [])) := (log_ok raw [] hr (by simp) hrl (by simp)).le ⟨leA.refl _, leA.l (L.le_nil 6), trivial⟩
  have hright := logL_right raw []
  have hf := logL_fit raw []
  have hl12 : (logL raw []).length = min raw.length 12 := by rw [logL, logN_length]
  have hel := El_length (logL raw [])
  refine ⟨_, hlog, ?_⟩
  refine ⟨fun h => ?_, fun h => ?_⟩
  · exact ⟨⟨L.le_refl _, trivial⟩, trivial, rfl, rfl⟩
  have hpos : 0 < (logL raw []).length := by
    have : ¬ (El (logL raw [])).length = 0 := by simpa using h
    omega
  obtain ⟨n, hn⟩ : ∃ n, (logL raw []).length = n + 1 := ⟨(logL raw []).length - 1, by omega⟩
  obtain ⟨last, hla⟩ : ∃ last, last = logE raw [] n := ⟨_, rfl⟩
  have hget : (logL raw [])[n]? = some last := by
    rw [logL, logN, List.getElem?_map, List.getElem?_range (by rw [← hl12]; omega), hla]; rfl
  have hlast : (logL raw []).getLast? = some last := by rw [List.getLast?_eq_getElem?, hn]; exact hget
  have ht : 1 ≤ last.term ∧ last.term ≤ 13 := by
    have : last.term = termL raw (n + 1) := by rw [hla]; rfl
    have := termL_range raw (n + 1)
    omega
  have he : 1 ≤ last.epoch ∧ last.epoch ≤ 25 := by
    have e : last.epoch = 2 * (n : Int) + 1 + pick (raw.getD n r30).c 2 := by rw [hla]; rfl
    have := pick_range (c := (raw.getD n r30).c) (n := 2) (by omega)
    omega
  have hn12 : n < 12 := by omega
  revert hright hf hlast hget hel
  generalize logL raw [] = l at hn
  intro hright hf hel hget hlast
  refine ⟨last.L, ⟨n, by rw [hel, wrap64 (by omega) (by omega)]; omega, by rw [El_get, hget]; rfl⟩, ?_⟩
  refine ⟨_, pend_ok pending hp hpl, ?_⟩
  have hq := pendL_len pending
  have w1 : IntKind.i64.wrap (last.term + 1) = last.term + 1 := wrap64 (by omega) (by omega)
  have w2 : IntKind.i64.wrap (last.epoch + 1) = last.epoch + 1 := wrap64 (by omega) (by omega)
  have w3 : IntKind.i64.wrap (last.term - 1) = last.term - 1 := wrap64 (by omega) (by omega)
  have pb := pick_range (c := back) (n := last.epoch) (by omega)
  have w4 : IntKind.i64.wrap (last.epoch - pick back last.epoch) = last.epoch - pick back last.epoch := wrap64 (by omega) (by omega)
  have n1 : M 20 [Es l, .int (IntKind.i64.wrap (last.term + 1)), .int (IntKind.i64.wrap (last.epoch + 1)), .int members, Is two5, Ms (pendL pending)] (nextV (memE (last.term + 1) (last.epoch + 1) members two5, true)) := by
    rw [w1, w2, ← next_term hright (by omega) hlast (small_of (by omega) (by omega)) (small_of (by omega) (by omega)) (by omega) (by omega)]
    exact next_ok l hf _ _ _ _ _ (by omega)
  have n2 : M 20 [Es l, .int (IntKind.i64.wrap (last.term + 1)), .int (IntKind.i64.wrap (last.epoch - pick back last.epoch)), .int members, Is two5, Ms (pendL pending)] (nextV (dent, false)) := by
    rw [w1, w4, ← next_late (t := last.term + 1) (p := last.epoch - pick back last.epoch) (a := members) (incs := two5) (q := pendL pending) hlast (.inr (by omega))]
    exact next_ok l hf _ _ _ _ _ (by omega)
  have n3 : M 20 [Es l, .int (IntKind.i64.wrap (last.term - 1)), .int (IntKind.i64.wrap (last.epoch + 1)), .int members, Is two5, Ms (pendL pending)] (nextV (dent, false)) := by
    rw [w3, w2, ← next_late (t := last.term - 1) (p := last.epoch + 1) (a := members) (incs := two5) (q := pendL pending) hlast (.inl (by omega))]
    exact next_ok l hf _ _ _ _ _ (by omega)
  refine ⟨_, n1, ?_⟩
  refine ⟨_, pick18_ok back last.epoch hback (by omega), ?_⟩
  refine ⟨_, n2, ?_⟩
  refine ⟨rfl, ?_⟩
  refine ⟨_, n3, ?_⟩
  refine ⟨⟨L.le_of_eq (congrArg L.bool ?_), trivial⟩, trivial, rfl, rfl⟩
  have e1 : ((memE (last.term + 1) (last.epoch + 1) members two5).mem == IntKind.i64.wrap ((BitVec.ofInt IntKind.i64.bits members &&& BitVec.ofInt IntKind.i64.bits 31).toNat : Int)) = true := by
    show ((memE (last.term + 1) (last.epoch + 1) members two5).mem == IntKind.i64.wrap ((BitVec.ofInt 64 members &&& BitVec.ofInt 64 31).toNat : Int)) = true
    rw [and_31, mem_two5', beq_self_eq_true]
  have e2 : ((memE (last.term + 1) (last.epoch + 1) members two5).term == IntKind.i64.wrap (last.term + 1)) = true := by rw [w1]; exact beq_self_eq_true _
  have e3 : ((memE (last.term + 1) (last.epoch + 1) members two5).epoch == IntKind.i64.wrap (last.epoch + 1)) = true := by rw [w2]; exact beq_self_eq_true _
  rw [e1, e2, e3]
  rfl
end Go.Proofs.YtfnhcinnlfklbaaDoor

set_option linter.unusedVariables false
set_option maxRecDepth 100000
namespace Go.Proofs.YtfnhcinnlfklbaaDoor
open Go Go.Proofs.YtfnhcinnlfklbaaDoor.Abs Go.ChangeShapes Go.WideShapes Go.ChangeAt Go.RowKit
theorem laidOut : laidOutB Tryd.prog = true := by kernel_rfl
theorem own : ownKnob Tryd.prog.godebug = none := by kernel_rfl
abbrev laidL : List (String × DataW Unit) := [("omnibus/ident.greatest", Rows.laid_omnibus_ident_greatest)]
theorem gGr : Tryd.prog.globalNamed "omnibus/ident.greatest" = some 0 := by kernel_rfl
theorem door_met (os : Os) (args : Array Value) : laidMetH Tryd.prog laidL ((World.doorLaid Tryd.prog 400 os).forCall (fun _ _ => 0) ⟨#[], args, []⟩).memory :=
  laidMetH_of_parts3 (fuel := 8) (laidMet_of_run' 8 (by kernel_rfl) (by kernel_rfl)) (by kernel_rfl) (by kernel_rfl)
theorem gTy : ∃ t, (Tryd.prog.globals[0]?).map (·.type) = some t ∧ Tryd.prog.underlying t = some (.array 2 3) := by
  refine ⟨100, ?_, ?_⟩
  · kernel_rfl
  · kernel_rfl
theorem of_laid {W : World} (h : laidMetH Tryd.prog laidL W) : Foreign W g00 gl := by
  rw [MakeChecks.laidMetH_plain _ _ _ (by kernel_rfl)] at h
  obtain ⟨ps, ⟨g0, t0, cs0, f0, p0, q0, hg0, ht0, hv0, hd0, _, _⟩, _, _⟩ := h
  obtain rfl := Option.some.inj (gGr.symm.trans hg0)
  obtain ⟨t, e1, e2⟩ := gTy
  obtain rfl := Option.some.inj (e1.symm.trans ht0)
  obtain ⟨xs, m1, rfl, hx1, hlen, hn3, hel⟩ := DataW.trod_array e2 hd0
  have c3 : Tryd.prog.cellsOf 3 = 1 := by kernel_rfl
  have ct : Tryd.prog.cellsOf t = 2 := by
    have : (Tryd.prog.globals[0]?).map (fun g => Tryd.prog.cellsOf g.type) = some 2 := by kernel_rfl
    cases hg : Tryd.prog.globals[0]? with
    | none => rw [hg] at e1; cases e1
    | some g => rw [hg] at e1 this; cases e1; simpa using this
  rw [ct] at hlen
  have h0 := hel 0 (by decide)
  have h1 := hel 1 (by decide)
  simp only [Prod.mk.injEq, Rows.laid_omnibus_ident_greatest, DataW.agg.injEq] at hx1
  have hcs : cs0 = #[.int .i64 2047, .int .i64 536870911] := by
    obtain ⟨l⟩ := cs0
    match l, hlen with
    | [a, b], _ =>
      match xs, hn3, hx1, h0, h1 with
      | [x0, x1], _, hx1, h0, h1 =>
        rw [c3] at h0 h1
        simp only [List.map_cons, List.map_nil, List.cons.injEq] at hx1
        obtain ⟨k, e1, e2, _⟩ := DataW.trod_int Tryd.underlying3 (show DataW.trod _ Tryd.prog W 0 _ false m1 3 [a] = some x0 from h0)
        obtain ⟨k', e1', e2', _⟩ := DataW.trod_int Tryd.underlying3 (show DataW.trod _ Tryd.prog W 0 _ false m1 3 [b] = some x1 from h1)
        rw [e2] at hx1
        rw [e2'] at hx1
        have hk : k = 2047 := by simpa using hx1.1.1.symm
        have hk' : k' = 536870911 := by simpa using hx1.1.2.1.symm
        subst hk; subst hk'
        simp at e1 e1'
        subst e1; subst e1'
        rfl
  have hh : ∃ e f, W.heap[0]? = some (.cells #[.int .i64 2047, .int .i64 536870911] e f) := by
    simp only [World.var?, gGr, Option.bind_some] at hv0
    split at hv0
    · rename_i cs e f hh
      cases hv0
      rw [hcs] at hh
      exact ⟨e, f, hh⟩
    · cases hv0
  refine ⟨(fun _ _ _ h => nomatch h), (fun _ _ _ h => nomatch h), fun _ => rfl, fun _ h => h, fun b cs hb => ?_⟩
  simp only [Abs.look] at hb
  split at hb
  · rename_i e
    have := Nat.eq_of_beq_eq_true e
    subst this
    cases hb
    exact ⟨hh, rfl⟩
  · cases hb

theorem sh_int {n : Nat} {x : D} (h : ShD Tryd.prog n 3 x) : ∃ z, x = .l (.int z) ∧ InR z := by
  obtain ⟨z, e, h1, h2⟩ := ShD_int Tryd.underlying3 h
  exact ⟨z, e, h1, by have : z ≤ 9223372036854775807 := h2; omega⟩
theorem sh_int' (m : Nat) (ls : List L) (h : Sh Tryd.prog m 3 ls) : ∃ z : Int, ls = [.int z] ∧ InR z := by
  obtain ⟨z, e, h1, h2⟩ := Sh_int Tryd.underlying3 h
  exact ⟨z, e, h1, by have : z ≤ 9223372036854775807 := h2; omega⟩
theorem sh_r6' (m : Nat) (ls : List L) (h : Sh Tryd.prog m 74 ls) : ∃ r : R6, ls = r.L ∧ r.ok := by
  obtain ⟨p, q, rfl, h1, p2, q2, rfl, h2, p3, q3, rfl, h3, p4, q4, rfl, h4, p5, q5, rfl, h5, p6, q6, rfl, h6, h7⟩ := Sh_array Tryd.underlying74 h
  obtain ⟨a, rfl, ha⟩ := sh_int' _ _ h1
  obtain ⟨b, rfl, hb⟩ := sh_int' _ _ h2
  obtain ⟨c, rfl, hc⟩ := sh_int' _ _ h3
  obtain ⟨d, rfl, hd⟩ := sh_int' _ _ h4
  obtain ⟨e, rfl, he⟩ := sh_int' _ _ h5
  obtain ⟨f, rfl, hf⟩ := sh_int' _ _ h6
  cases h7
  exact ⟨⟨a, b, c, d, e, f⟩, rfl, ha, hb, hc, hd, he, hf⟩
theorem sh_r6s {n : Nat} {x : D} (h : ShD Tryd.prog n 23 x) : ∃ l : List R6, x = .l (.sl 6 (Rl l)) ∧ l.length ≤ 9223372036854775807 ∧ ∀ r ∈ l, r.ok := by
  obtain ⟨l, e, hb, hl⟩ := ShD_slice Tryd.underlying23 (c := 6) (by kernel_rfl) R6.L R6.ok sh_r6' h
  exact ⟨l, e, hb, hl⟩

theorem sh_r3' (m : Nat) (ls : List L) (h : Sh Tryd.prog m 65 ls) : ∃ r : R3, ls = r.L ∧ r.ok := by
  obtain ⟨p, q, rfl, h1, p2, q2, rfl, h2, p3, q3, rfl, h3, h7⟩ := Sh_array Tryd.underlying65 h
  obtain ⟨a, rfl, ha⟩ := sh_int' _ _ h1
  obtain ⟨b, rfl, hb⟩ := sh_int' _ _ h2
  obtain ⟨c, rfl, hc⟩ := sh_int' _ _ h3
  cases h7
  exact ⟨⟨a, b, c⟩, rfl, ha, hb, hc⟩
theorem sh_r3s {n : Nat} {x : D} (h : ShD Tryd.prog n 44 x) : ∃ l : List R3, x = .l (.sl 3 (Rl3 l)) ∧ l.length ≤ 9223372036854775807 ∧ ∀ r ∈ l, r.ok := by
  obtain ⟨l, e, hb, hl⟩ := ShD_slice Tryd.underlying44 (c := 3) (by kernel_rfl) R3.L R3.ok sh_r3' h
  exact ⟨l, e, hb, hl⟩

end Go.Proofs.YtfnhcinnlfklbaaDoor

set_option linter.unusedVariables false
set_option linter.unusedSimpArgs false
set_option maxRecDepth 100000
namespace Go.Proofs.YtfnhcinnlfklbaaDoor
open Go Go.Proofs.YtfnhcinnlfklbaaDoor.Abs

structure R4 where
  a : Int
  b : Int
  c : Int
  d : Int
abbrev R4.L (r : R4) : List L := [L.int r.a, L.int r.b, L.int r.c, L.int r.d]
def R4.ok (r : R4) : Prop := InR r.a ∧ InR r.b ∧ InR r.c ∧ InR r.d
def Rl4 (l : List R4) : List (List L) := l.map R4.L
theorem Rl4_length (l : List R4) : (Rl4 l).length = l.length := by simp [Rl4]
theorem Rl4_get (l : List R4) (k : Nat) : (Rl4 l)[k]? = (l[k]?).map R4.L := by simp [Rl4]
abbrev Rs4 (l : List R4) : V := .d (.l (.sl 4 (Rl4 l)))
abbrev r40 : R4 := ⟨0, 0, 0, 0⟩

structure GS where
  l : List Ent
  incs : List Int
  term : Int
def bump (incs : List Int) (k : Int) : List Int := if k < 4 then incs.set k.toNat (min (incs.getD k.toNat 0 + 1) 3) else incs
def roundP (r : R4) (p : List Msg) : List Msg := if p = [] then p else p.drop (pick r.d p.length).toNat ++ p.take (pick r.d p.length).toNat
def roundA (r : R4) : Int := if pick r.a 3 = 0 then pick r.a 16 else 15
def roundT (r : R4) (t : Int) : Int := t + (pick r.c 5).tdiv 4
def gnext (p : List Msg) (i : Nat) (r : R4) (s : GS) : Ent × Bool := nextT s.l (roundT r s.term) ((i : Int) + 1) (roundA r) (bump s.incs (pick r.b 8)) (roundP r p)
def gstep (p : List Msg) (i : Nat) (r : R4) (s : GS) : GS := ⟨if (gnext p i r s).2 = true then s.l ++ [(gnext p i r s).1] else s.l, bump s.incs (pick r.b 8), roundT r s.term⟩
def gst (rounds : List R4) (p : List Msg) : Nat → GS
  | 0 => ⟨[], [1, 1, 1, 1], 1⟩
  | i + 1 => gstep p i (rounds.getD i r40) (gst rounds p i)
def grownL (rounds : List R4) (p : List Msg) : List Ent := (gst rounds p (min rounds.length 25)).l

theorem roundP_len (r : R4) (p : List Msg) : (roundP r p).length = p.length := by
  rw [roundP]
  split
  · rfl
  · simp; omega
theorem inc_memE {t p a : Int} {incs : List Int} {ms : List Msg} {node x : Int} (h : (withMsgs (memE t p a incs) ms).inc node = some x) : ∃ n : Nat, node = n ∧ n < incs.length ∧ x = incs.getD n 0 := by
  rw [Ent.inc] at h
  split at h
  · cases hf : (listB (withMsgs (memE t p a incs) ms).mem).findIdx? (· == node) with
    | none => rw [hf] at h; cases h
    | some i =>
      rw [hf] at h
      obtain ⟨hi, hb, _⟩ := List.findIdx?_eq_some_iff_getElem.1 hf
      have e1 : listB (withMsgs (memE t p a incs) ms).mem = (memN a incs).map fun n : Nat => (n : Int) := by
        rw [listB]; congr 1; exact listN_mem a incs
      have h : ((memN a incs).map fun n => incs.getD n 0)[i]? = some x := h
      rw [List.getElem?_map, Option.map_eq_some_iff] at h
      obtain ⟨n, hn, hx⟩ := h
      have hb : (listB (withMsgs (memE t p a incs) ms).mem)[i]? = some node := by
        rw [List.getElem?_eq_getElem hi]; simpa using hb
      rw [e1, List.getElem?_map, hn] at hb
      refine ⟨n, by simpa using hb.symm, ?_, hx.symm⟩
      have := (List.mem_filter.1 (List.mem_of_getElem? hn)).2
      simp only [Bool.and_eq_true, decide_eq_true_eq] at this
      exact this.1
  · cases h
theorem inc_alike {a b : Ent} (h : alike a b = true) (node : Int) : a.inc node = b.inc node := by
  simp only [alike, Bool.and_eq_true, decide_eq_true_eq] at h
  rw [Ent.inc, Ent.inc, h.1, h.2]
def isFirst (l : List Ent) (k : Nat) : Prop := k = 0 ∨ (l.getD (k - 1) dent).term ≠ (l.getD k dent).term ∨ alike (l.getD (k - 1) dent) (l.getD k dent) = false
theorem next_cases {l : List Ent} {t p a : Int} {incs : List Int} {q : List Msg} {e : Ent} (h : nextT l t p a incs q = (e, true)) :
    (e = memE t p a incs ∧ (l = [] ∨ ∃ last, l.getLast? = some last ∧ (last.term < t ∨ alike last e = false))) ∨
    (e = withMsgs (memE t p a incs) (sortL (freshGo l (memE t p a incs) [] q)) ∧ freshGo l (memE t p a incs) [] q ≠ [] ∧ ∃ last, l.getLast? = some last ∧ last.term = t ∧ alike last e = true) := by
  rw [nextT] at h
  split at h
  · split at h
    · rename_i hn
      cases h
      exact .inl ⟨rfl, .inl (List.getLast?_eq_none_iff.1 hn)⟩
    · rename_i last hl
      split at h
      · cases h
      · rename_i h1
        split at h
        · rename_i h2
          cases h
          exact .inl ⟨rfl, .inr ⟨last, hl, h2⟩⟩
        · rename_i h2
          split at h
          · cases h
          · rename_i h3
            cases h
            refine .inr ⟨rfl, h3, last, hl, by omega, ?_⟩
            have : alike last (memE t p a incs) = true := by
              cases hc : alike last (memE t p a incs) with
              | true => rfl
              | false => exact absurd (.inr hc) h2
            exact this
  · cases h
structure GI (s : GS) (i : Nat) : Prop where
  right : logRight s.l = true
  len : s.l.length ≤ i
  fit : ∀ e ∈ s.l, FitE e
  t : 1 ≤ s.term ∧ s.term ≤ 1 + i
  n4 : s.incs.length = 4
  rng : ∀ x ∈ s.incs, 1 ≤ x ∧ x ≤ 3
  firsts : ∀ k, k < s.l.length → (isFirst s.l k ↔ (s.l.getD k dent).msgs = [])
  seqs : (s.l.flatMap Ent.msgs).Pairwise fun a b => a.sender = b.sender → a.inc = b.inc → a.seq < b.seq
  mono : s.l.Pairwise fun a b => ∀ node x y, a.inc node = some x → b.inc node = some y → x ≤ y
  cur : ∀ e ∈ s.l, ∀ node x, e.inc node = some x → ∃ n : Nat, node = n ∧ n < s.incs.length ∧ x ≤ s.incs.getD n 0
theorem GI.zero : GI ⟨[], [1, 1, 1, 1], 1⟩ 0 := ⟨by decide, Nat.le_refl _, by simp, ⟨by decide, by decide⟩, rfl, by simp, by simp, by simp, by simp, by simp⟩
theorem bump_len (incs : List Int) (k : Int) : (bump incs k).length = incs.length := by rw [bump]; split <;> simp
theorem bump_get (incs : List Int) (k : Int) (n : Nat) : incs.getD n 0 ≤ 3 → incs.getD n 0 ≤ (bump incs k).getD n 0 := by
  intro h
  rw [bump]
  split
  · rw [List.getD_eq_getElem?_getD, List.getD_eq_getElem?_getD, List.getElem?_set]
    rw [List.getD_eq_getElem?_getD] at h
    split
    · rename_i e
      subst e
      split
      · rw [List.getD_eq_getElem?_getD]; simp only [Option.getD_some]; omega
      · rename_i hh
        rw [List.getElem?_eq_none (by omega)]; exact Int.le_refl _
    · exact Int.le_refl _
  · exact Int.le_refl _
theorem bump_rng {incs : List Int} {k : Int} (h : ∀ x ∈ incs, 1 ≤ x ∧ x ≤ 3) (h4 : incs.length = 4) (hk : 0 ≤ k) : ∀ x ∈ bump incs k, 1 ≤ x ∧ x ≤ 3 := by
  intro x hx
  rw [bump] at hx
  split at hx
  · rename_i hk4
    rcases List.mem_or_eq_of_mem_set hx with hx | rfl
    · exact h x hx
    · have := h (incs.getD k.toNat 0) (by rw [getD_of (by omega)]; exact List.getElem_mem _)
      omega
  · exact h x hx
theorem GI.step {s : GS} {i : Nat} (g : GI s i) (p : List Msg) (r : R4) (hi : i < 1000) (hp : p.length ≤ 1000) : GI (gstep p i r s) (i + 1) := by
  have pb := pick_range (c := r.b) (n := 8) (by omega)
  have pc := pick_range (c := r.c) (n := 5) (by omega)
  have ht : 0 ≤ (pick r.c 5).tdiv 4 ∧ (pick r.c 5).tdiv 4 ≤ 1 := by rw [Int.tdiv_eq_ediv_of_nonneg pc.1]; omega
  have ht2 : 1 ≤ roundT r s.term ∧ roundT r s.term ≤ 1 + ((i + 1 : Nat) : Int) := by
    have := g.t; rw [roundT]; omega
  have hn4 : (bump s.incs (pick r.b 8)).length = 4 := by rw [bump_len, g.n4]
  have hrng := bump_rng (k := pick r.b 8) g.rng g.n4 pb.1
  have hcur : ∀ e ∈ s.l, ∀ node x, e.inc node = some x → ∃ n : Nat, node = n ∧ n < (bump s.incs (pick r.b 8)).length ∧ x ≤ (bump s.incs (pick r.b 8)).getD n 0 := by
    intro e he node x hx
    obtain ⟨n, h1, h2, h3⟩ := g.cur e he node x hx
    refine ⟨n, h1, by rw [bump_len]; exact h2, Int.le_trans h3 (bump_get _ _ _ ?_)⟩
    exact (g.rng _ (by rw [getD_of h2]; exact List.getElem_mem _)).2
  rw [gstep]
  by_cases hN : (gnext p i r s).2 = true
  · rw [if_pos hN]
    obtain ⟨e, he⟩ : ∃ e, e = (gnext p i r s).1 := ⟨_, rfl⟩
    have hn : nextT s.l (roundT r s.term) ((i : Int) + 1) (roundA r) (bump s.incs (pick r.b 8)) (roundP r p) = (e, true) := by
      show gnext p i r s = _
      rw [he, ← hN]
    rw [← he]
    obtain ⟨n1, n2, n3, n4, n5, n6⟩ := next_right hn
    have hlast : ∀ {last}, s.l.getLast? = some last → s.l.getD (s.l.length - 1) dent = last := by
      intro last hl
      rw [List.getLast?_eq_getElem?] at hl
      rw [List.getD_eq_getElem?_getD, hl]; rfl
    have hinc : ∀ node x, e.inc node = some x → ∃ n : Nat, node = n ∧ n < (bump s.incs (pick r.b 8)).length ∧ x = (bump s.incs (pick r.b 8)).getD n 0 := by
      intro node x hx
      rcases next_cases hn with ⟨h1, _⟩ | ⟨h1, _⟩
      · have : (withMsgs (memE (roundT r s.term) ((i : Int) + 1) (roundA r) (bump s.incs (pick r.b 8))) []).inc node = some x := by rw [h1] at hx; exact hx
        exact inc_memE this
      · rw [h1] at hx; exact inc_memE hx
    refine ⟨logRight_snoc n1 n2 n3 n6, by simp; have := g.len; omega, ?_, ht2, hn4, hrng, ?_, ?_, ?_, ?_⟩
    · intro x hx
      rcases List.mem_append.1 hx with hx | hx
      · exact g.fit x hx
      · simp at hx; subst hx
        rcases next_cases hn with ⟨h1, _⟩ | ⟨h1, _⟩
        · rw [h1]; exact memE_fit _ _ _ _
        · rw [h1]
          refine ⟨(memE_fit (roundT r s.term) ((i : Int) + 1) (roundA r) (bump s.incs (pick r.b 8))).1, ?_⟩
          refine Nat.le_trans (sortL_le _) (Nat.le_trans (freshGo_len _ _ _ _) ?_)
          rw [roundP_len]; exact hp
    · intro k hk
      have hk : k < s.l.length + 1 := by simpa using hk
      by_cases hkl : k < s.l.length
      · have e1 : (s.l ++ [e]).getD k dent = s.l.getD k dent := by rw [List.getD_eq_getElem?_getD, List.getD_eq_getElem?_getD, List.getElem?_append_left hkl]
        have e2 : (s.l ++ [e]).getD (k - 1) dent = s.l.getD (k - 1) dent := by rw [List.getD_eq_getElem?_getD, List.getD_eq_getElem?_getD, List.getElem?_append_left (by omega)]
        rw [isFirst, e1, e2]
        exact g.firsts k hkl
      · have hk' : k = s.l.length := by omega
        subst hk'
        have e1 : (s.l ++ [e]).getD s.l.length dent = e := by rw [List.getD_eq_getElem?_getD, List.getElem?_append_right (Nat.le_refl _)]; simp
        rw [isFirst, e1]
        rcases next_cases hn with ⟨h1, h2⟩ | ⟨h1, h2, last, h3, h4, h5⟩
        · have hm : e.msgs = [] := by rw [h1]; rfl
          refine ⟨fun _ => hm, fun _ => ?_⟩
          rcases h2 with h2 | ⟨last, h3, h4⟩
          · left; rw [h2]; rfl
          · right
            have hpos : 0 < s.l.length := by
              rcases Nat.eq_zero_or_pos s.l.length with h0 | h0
              · rw [List.eq_nil_of_length_eq_zero h0] at h3; cases h3
              · exact h0
            have e2 : (s.l ++ [e]).getD (s.l.length - 1) dent = last := by
              rw [← hlast h3, List.getD_eq_getElem?_getD, List.getD_eq_getElem?_getD, List.getElem?_append_left (by omega)]
            rw [e2]
            rcases h4 with h4 | h4
            · left; rw [n4]; omega
            · exact .inr h4
        · have hpos : 0 < s.l.length := by
            rcases Nat.eq_zero_or_pos s.l.length with h0 | h0
            · rw [List.eq_nil_of_length_eq_zero h0] at h3; cases h3
            · exact h0
          have e2 : (s.l ++ [e]).getD (s.l.length - 1) dent = last := by
            rw [← hlast h3, List.getD_eq_getElem?_getD, List.getD_eq_getElem?_getD, List.getElem?_append_left (by omega)]
          rw [e2]
          constructor
          · rintro (h6 | h6 | h6)
            · omega
            · exact absurd (h4.trans n4.symm) h6
            · rw [h5] at h6; cases h6
          · intro h6
            exfalso
            have hs : small (roundT r s.term) = true ∧ small ((i : Int) + 1) = true := ⟨small_of (by omega) (by omega), small_of (by omega) (by omega)⟩
            have hperm := (fresh_right (l := s.l) (alive := roundA r) (incs := bump s.incs (pick r.b 8)) (p := roundP r p) hs.1 hs.2).2
            rw [h1] at h6
            have h6 : sortL (freshGo s.l (memE (roundT r s.term) ((i : Int) + 1) (roundA r) (bump s.incs (pick r.b 8))) [] (roundP r p)) = [] := h6
            rw [h6] at hperm
            exact h2 hperm.nil_eq.symm
    · rw [List.flatMap_append, List.pairwise_append]
      have hsing : [e].flatMap Ent.msgs = e.msgs := by simp
      rw [hsing]
      refine ⟨g.seqs, ?_, ?_⟩
      · rcases next_cases hn with ⟨h1, _⟩ | ⟨h1, h2, _⟩
        · rw [h1]; exact List.Pairwise.nil
        · have hs : small (roundT r s.term) = true ∧ small ((i : Int) + 1) = true := ⟨small_of (by omega) (by omega), small_of (by omega) (by omega)⟩
          have hperm := (fresh_right (l := s.l) (alive := roundA r) (incs := bump s.incs (pick r.b 8)) (p := roundP r p) hs.1 hs.2).2
          have hnd : (sends e.msgs).Nodup := by
            rw [h1]
            exact (hperm.map Msg.sender).nodup_iff.2 (freshGo_nodup s.l (memE (roundT r s.term) ((i : Int) + 1) (roundA r) (bump s.incs (pick r.b 8))) (roundP r p) [])
          have := List.pairwise_map.1 hnd
          exact this.imp fun hne he => absurd he hne
      · intro a ha b hb h3 h4
        rcases next_cases hn with ⟨h1, _⟩ | ⟨h1, h2, _⟩
        · rw [h1] at hb; cases hb
        · have hs : small (roundT r s.term) = true ∧ small ((i : Int) + 1) = true := ⟨small_of (by omega) (by omega), small_of (by omega) (by omega)⟩
          have hperm := (fresh_right (l := s.l) (alive := roundA r) (incs := bump s.incs (pick r.b 8)) (p := roundP r p) hs.1 hs.2).2
          rw [h1] at hb
          have hb := (freshGo_mem _ _ _ _ _ (hperm.mem_iff.1 hb)).2.2.2.1
          rw [seenL, msgsL_all n1, seenS_eq] at hb
          have := seenF_mem (s := 0) ha h3 h4
          omega
    · rw [List.pairwise_append]
      refine ⟨g.mono, List.pairwise_singleton _ _, fun a ha b hb node x y hx hy => ?_⟩
      simp at hb; subst hb
      obtain ⟨n, h1, h2, h3⟩ := hcur a ha node x hx
      obtain ⟨n', h1', h2', h3'⟩ := hinc node y hy
      have : n = n' := by omega
      subst this
      rw [h3']; exact h3
    · intro x hx node y hy
      rcases List.mem_append.1 hx with hx | hx
      · exact hcur x hx node y hy
      · simp at hx; subst hx
        obtain ⟨n, h1, h2, h3⟩ := hinc node y hy
        exact ⟨n, h1, h2, Int.le_of_eq h3⟩
  · rw [if_neg hN]
    exact ⟨g.right, by have := g.len; show s.l.length ≤ i + 1; omega, g.fit, ht2, hn4, hrng, g.firsts, g.seqs, g.mono, hcur⟩
end Go.Proofs.YtfnhcinnlfklbaaDoor

set_option linter.unusedVariables false
set_option linter.unusedSimpArgs false
set_option maxRecDepth 100000
namespace Go.Proofs.YtfnhcinnlfklbaaDoor
open Go Go.Proofs.YtfnhcinnlfklbaaDoor.Abs

theorem gst_ok (rounds : List R4) (p : List Msg) (hp : p.length ≤ 1000) : ∀ i, i ≤ 25 → GI (gst rounds p i) i
  | 0, _ => GI.zero
  | i + 1, h => GI.step (gst_ok rounds p hp i (by omega)) p _ (by omega) hp
theorem GI.Fit {s : GS} {i : Nat} (g : GI s i) (hi : i ≤ 25) : Fit s.l := ⟨by have := g.len; omega, g.fit⟩
theorem put_next {l : List Ent} {t p a : Int} {incs : List Int} {q : List Msg} {e : Ent} (h : nextT l t p a incs q = (e, true)) : putT l l.length (lastT l) [e] = (l ++ [e], (l.length : Int) + 1, 0) := by
  obtain ⟨n1, n2, n3, n4, n5, n6⟩ := next_right h
  have e0 : [e].getD 0 dent = e := rfl
  have hT : hasT l l.length (lastT l) = true := by
    have hb : termB l l.length = true := termB_iff.2 ⟨by omega, by omega⟩
    rw [hasT, hb, Bool.true_and, decide_eq_true_eq, termV, if_pos hb, lastT]
    rcases Nat.eq_zero_or_pos l.length with h0 | h0
    · rw [List.eq_nil_of_length_eq_zero h0]; rfl
    · rw [if_neg (by omega)]
      have hl : l.getLast? = some (l[l.length - 1]'(by omega)) := by rw [List.getLast?_eq_getElem?, List.getElem?_eq_getElem (by omega)]
      rw [hl]
      simp only
      have : ((l.length : Nat) : Int).toNat - 1 < l.length := by omega
      rw [getD_of this]
      congr 1
  have hT2 : hasT l ((l.length : Int) + 1) e.term = false := by
    have hb : termB l ((l.length : Int) + 1) = false := by
      rw [Bool.eq_false_iff]; intro hc; rw [termB_iff] at hc; omega
    rw [hasT, hb, Bool.false_and]
  have htk : l.take ((l.length : Nat) : Int).toNat = l := by rw [Int.toNat_natCast, List.take_length]
  rw [putT, e0, if_neg (by rw [n1, n3]; simp), if_neg (by rw [hT]; simp), if_neg (by simp), if_neg (by rw [hT2]; simp), if_neg (by omega), htk, if_neg (by rw [logRight_snoc n1 n2 n3 n6]; simp)]
set_option maxHeartbeats 4000000 in
theorem grown_ok (rounds : List R4) (raw : List R6) (hr : ∀ r ∈ rounds, r.ok) (hm : ∀ r ∈ raw, r.ok) (hrl : rounds.length ≤ 9223372036854775807) (hml : raw.length ≤ 9223372036854775807) : M 9 [Rs4 rounds, Rs raw] (.tup [Es (grownL rounds (pendL raw)), .bool true]) := by
  have h4 := Rl4_length rounds
  refine gb9 [(20, 2)] [] rfl rfl fun hb => ?_
  have hq := pendL_len raw
  refine ⟨Nat, fun i => ⟨[(0, Rs4 rounds), (1, Rs raw), (6, Es (gst rounds (pendL raw) i).l), (7, .msl 800000 1 0 4), (8, .int (gst rounds (pendL raw) i).term), (9, .int i)], ⟨[(800000, .arr 1 (Il (gst rounds (pendL raw) i).incs) true)], [], 700000, 0⟩⟩, fun i => i ≤ min rounds.length 25, fun i => min rounds.length 25 - i, 0, Nat.zero_le _, ?_, ?_⟩
  · exact ⟨⟨rfl, rfl⟩, ⟨L.le_refl _, L.le_refl _, L.le_nil 5, ⟨rfl, rfl, rfl, rfl⟩, L.le_refl _, L.le_refl _, trivial⟩, ⟨⟨rfl, ⟨[], rfl⟩, fun _ => ⟨rfl, rfl⟩⟩, trivial⟩, rfl, rfl⟩
  rintro i hi _
  have hi : i ≤ min rounds.length 25 := hi
  have hi25 := Nat.le_trans hi (Nat.min_le_right _ _)
  have inc : IntKind.i64.wrap ((i : Int) + 1) = ((i + 1 : Nat) : Int) := by rw [wrap64 (by omega) (by omega)]; simp
  have hg := gst_ok rounds (pendL raw) (by omega) i hi25
  refine ⟨fun hc => ?_, fun hc => ?_⟩
  · have hc : i < rounds.length ∧ i < 25 := by
      rw [cond_and, h4] at hc
      simp only [Bool.and_eq_true, decide_eq_true_eq] at hc
      omega
    obtain ⟨r, hre⟩ : ∃ r, r = rounds[i]'hc.1 := ⟨_, rfl⟩
    have hrk : (Rl4 rounds)[i]? = some r.L := by rw [Rl4_get, List.getElem?_eq_getElem hc.1, hre]; rfl
    have hok : r.ok := hre ▸ hr _ (List.getElem_mem hc.1)
    have hgd : rounds.getD i r40 = r := by rw [getD_of hc.1, hre]
    have hstep : gst rounds (pendL raw) (i + 1) = gstep (pendL raw) i r (gst rounds (pendL raw) i) := by rw [gst, hgd]
    obtain ⟨s, hs⟩ : ∃ s, s = gst rounds (pendL raw) i := ⟨_, rfl⟩
    rw [← hs] at hg hstep ⊢
    refine ⟨r.L, ⟨i, rfl, hrk⟩, ?_⟩
    refine ⟨1, ⟨rfl, by decide⟩, ?_⟩
    refine ⟨_, pick18_ok r.b 8 hok.2.1 (by omega), ?_⟩
    have pb := pick_range (c := r.b) (n := 8) (by omega)
    have pc := pick_range (c := r.c) (n := 5) (by omega)
    have htd : 0 ≤ (pick r.c 5).tdiv 4 ∧ (pick r.c 5).tdiv 4 ≤ 1 := by rw [Int.tdiv_eq_ediv_of_nonneg pc.1]; omega
    have hgt := hg.t
    have wT : IntKind.i64.wrap (s.term + IntKind.i64.wrap ((pick r.c 5).tdiv 4)) = roundT r s.term := by
      rw [wrap64 (x := (pick r.c 5).tdiv 4) (by omega) (by omega), wrap64 (by omega) (by omega)]; rfl
    obtain ⟨incs', hin'⟩ : ∃ x, x = bump s.incs (pick r.b 8) := ⟨_, rfl⟩
    obtain ⟨p', hp'⟩ : ∃ x, x = roundP r (pendL raw) := ⟨_, rfl⟩
    have hpl' : p'.length ≤ 8 := by rw [hp', roundP_len]; exact hq
    have hn4 : incs'.length = 4 := by rw [hin', bump_len, hg.n4]
    obtain ⟨N', hN'⟩ : ∃ x, x = gnext (pendL raw) i r s := ⟨_, rfl⟩
    have hi4 := Il_length incs'
    have hN : ∀ C P A, C = Il incs' → P = Ml p' → A = roundA r → M 20 [Es s.l, .int (IntKind.i64.wrap (s.term + IntKind.i64.wrap ((pick r.c 5).tdiv 4))), .int (IntKind.i64.wrap ((i : Int) + 1)), .int A, .d (.l (.sl 1 ((C.drop 0).take 4))), .d (.l (.sl 7 P))] (nextV N') := by
      rintro _ _ _ rfl rfl rfl
      rw [wT, wrap64 (x := (i : Int) + 1) (by omega) (by omega), List.drop_zero, List.take_of_length_le (by omega), hN', gnext, ← hin', ← hp']
      exact next_ok s.l (hg.Fit hi25) _ _ _ _ _ (by omega)
    have hfit := hg.Fit hi25
    have hst : gst rounds (pendL raw) (i + 1) = ⟨if N'.2 = true then s.l ++ [N'.1] else s.l, incs', roundT r s.term⟩ := by rw [hstep, gstep, ← hN', ← hin']
    have hlt : i < min rounds.length 25 := Nat.lt_min.2 hc
    refine ⟨fun hk => ?_, fun hk => ?_⟩
    focus
      have hk4 : pick r.b 8 < 4 := by simpa using hk
      obtain ⟨j, hj⟩ : ∃ j : Nat, pick r.b 8 = j := ⟨_, (Int.toNat_of_nonneg pb.1).symm⟩
      have hj4 : j < 4 := by omega
      have hjl : j < s.incs.length := by rw [hg.n4]; exact hj4
      have hx := hg.rng _ (List.getElem_mem hjl)
      refine ⟨j, ⟨hj, hj4⟩, ?_⟩
      refine ⟨[L.int s.incs[j]], by rw [Nat.zero_add, Il_get, List.getElem?_eq_getElem hjl]; rfl, ?_⟩
      refine ⟨j, ⟨hj, hj4⟩, ?_⟩
      refine ⟨by rw [Nat.zero_add, Il_length, hg.n4]; exact hj4, ?_⟩
      have hB : (Il s.incs).set (0 + j) [L.int (min (IntKind.i64.wrap (s.incs[j] + 1)) 3)] = Il incs' := by
        rw [Nat.zero_add, hin', bump, if_pos hk4, hj, Int.toNat_natCast, getD_of hjl, wrap64 (by omega) (by omega), Il, Il, List.map_set]
    rotate_left
    focus
      have hk4 : ¬ pick r.b 8 < 4 := by simpa using hk
      have hB : Il s.incs = Il incs' := by rw [hin', bump, if_neg hk4]
    rotate_left
    all_goals
      refine ⟨2, ⟨rfl, by decide⟩, _, pick18_ok r.c 5 hok.2.2.1 (by omega), ⟨rfl, by decide⟩, ?_⟩
      refine ⟨_, pend_ok raw hm hml, ?_⟩
      refine ⟨fun h0 => ?_, fun h0 => ?_⟩
      focus
        have h0 : 0 < (pendL raw).length := by
          have : 0 < (Ml (pendL raw)).length := by simpa using h0
          rw [Ml_length] at this; exact this
        have h0' : pendL raw ≠ [] := List.length_pos_iff.1 h0
        have hml0 := Ml_length (pendL raw)
        have pd := pick_range (c := r.d) (n := ((pendL raw).length : Int)) (by omega)
        have hpd : M 18 [.int r.d, .int ((Ml (pendL raw)).length : Nat)] (.int (pick r.d ((pendL raw).length : Int))) := by rw [hml0]; exact pick18_ok r.d _ hok.2.2.2 (by omega)
        refine ⟨3, ⟨rfl, by decide⟩, _, hpd, ?_⟩
        refine ⟨(pick r.d ((pendL raw).length : Int)).toNat, ⟨by omega, by omega⟩, ?_⟩
        refine ⟨by show (0 + ((Ml (pendL raw)).drop _).length) * 64 ≤ _; rw [List.length_drop]; omega, ?_⟩
        refine ⟨(pick r.d ((pendL raw).length : Int)).toNat, ⟨by omega, by omega⟩, ?_⟩
        refine ⟨by show ((([] : List (List L)) ++ (Ml (pendL raw)).drop _).length + ((Ml (pendL raw)).take _).length) * 64 ≤ _; rw [List.nil_append, List.length_drop, List.length_take]; omega, ?_⟩
        refine ⟨rfl, ?_⟩
        have hP : ([] ++ (Ml (pendL raw)).drop (pick r.d ((pendL raw).length : Int)).toNat) ++ (Ml (pendL raw)).take (pick r.d ((pendL raw).length : Int)).toNat = Ml p' := by
          rw [List.nil_append, hp', roundP, if_neg h0', Ml_drop, Ml_take, Ml_app]
      rotate_left
      focus
        have h0 : pendL raw = [] := by
          have : ¬ 0 < (Ml (pendL raw)).length := by simpa using h0
          rw [Ml_length] at this
          exact List.eq_nil_of_length_eq_zero (by omega)
        have hP : Ml (pendL raw) = Ml p' := by rw [hp', roundP, if_pos h0]
      rotate_left
      all_goals
        refine ⟨0, ⟨rfl, by decide⟩, _, pick18_ok r.a 3 hok.1 (by omega), ?_⟩
        refine ⟨fun h1 => ?_, fun h1 => ?_⟩
        focus
          have h1 : pick r.a 3 = 0 := by simpa using h1
          refine ⟨0, ⟨rfl, by decide⟩, _, pick18_ok r.a 16 hok.1 (by omega), ?_⟩
          have hA : pick r.a 16 = roundA r := by rw [roundA, if_pos h1]
        rotate_left
        focus
          have h1 : ¬ pick r.a 3 = 0 := by simpa using h1
          have hA : (15 : Int) = roundA r := by rw [roundA, if_neg h1]
        rotate_left
        all_goals
          have hBl := congrArg List.length hB
          rw [hi4, hn4] at hBl
          refine ⟨⟨Nat.le_of_eq hBl.symm, by rw [hB, List.drop_zero, List.length_take, hi4, hn4]; decide, by show (((_ : List (List L)).drop 0).take 4).length * 8 ≤ _; rw [hB, List.drop_zero, List.length_take, hi4, hn4]; decide⟩, ?_⟩
          refine ⟨_, hN _ _ _ hB hP hA, ?_⟩
          refine ⟨fun hz => ?_, fun hz => ?_⟩
          focus
            have hz : ¬ N'.2 = true := by
              cases hq : N'.2 with
              | true => exfalso; revert hz; rw [hq]; decide
              | false => simp
            refine ⟨i + 1, hlt, by show min rounds.length 25 - (i + 1) < min rounds.length 25 - i; omega, ?_⟩
            have e1 : (gst rounds (pendL raw) (i + 1)).l = s.l := by rw [hst]; exact if_neg hz
            have hBe := hB.trans (congrArg Il (show incs' = (gst rounds (pendL raw) (i + 1)).incs by rw [hst]))
            have e3 : roundT r s.term = (gst rounds (pendL raw) (i + 1)).term := by rw [hst]
            exact ⟨⟨L.le_refl _, L.le_refl _, L.le_of_eq (by rw [e1]), ⟨rfl, rfl, rfl, rfl⟩, L.le_of_eq (congrArg L.int (wT.trans e3)), L.le_of_eq (congrArg L.int inc), trivial⟩, ⟨⟨rfl, ⟨[], hBe.trans (List.append_nil _).symm⟩, fun _ => ⟨rfl, hBe⟩⟩, trivial⟩, rfl, rfl⟩
          have hz : N'.2 = true := by
            cases hq : N'.2 with
            | true => rfl
            | false => exfalso; revert hz; rw [hq]; decide
          have hnx : nextT s.l (roundT r s.term) ((i : Int) + 1) (roundA r) (bump s.incs (pick r.b 8)) (roundP r (pendL raw)) = (N'.1, true) := by
            show gnext (pendL raw) i r s = _
            rw [← hN', ← hz]
          have hel := El_length s.l
          have hNfit : Fit [N'.1] := by
            have g2 := gst_ok rounds (pendL raw) (by omega) (i + 1) (by omega)
            rw [hst] at g2
            have g3 := g2.fit N'.1 (by simp [hz])
            exact ⟨by simp, fun e he => by simp at he; subst he; exact g3⟩
          have hput : M 24 [Es s.l, .int ((El s.l).length : Nat), .int (lastT s.l), Es [N'.1]] (.tup [Es (s.l ++ [N'.1]), .int ((s.l.length : Int) + 1), .int 0]) := by
            have := put_ok s.l [N'.1] s.l.length (lastT s.l) hfit hNfit ⟨by have := hfit.1; omega, by have := hfit.1; omega⟩
            rw [put_next hnx] at this
            rw [hel]; exact this
          refine ⟨_, termOf_ok s.l, ?_⟩
          refine ⟨_, hput, ?_⟩
          refine ⟨rfl, ?_⟩
          have hl400 := hfit.1
          have hack : cond ((0 : Int) != 0) true (((s.l.length : Int) + 1) != IntKind.i64.wrap (((El s.l).length : Int) + 1)) = false := by
            rw [hel, wrap64 (by omega) (by omega)]; simp
          refine ⟨fun hc2 => absurd (hack.symm.trans hc2) (by decide), fun _ => ?_⟩
          refine ⟨i + 1, hlt, by show min rounds.length 25 - (i + 1) < min rounds.length 25 - i; omega, ?_⟩
          have e1 : (gst rounds (pendL raw) (i + 1)).l = s.l ++ [N'.1] := by rw [hst]; exact if_pos hz
          have hBe := hB.trans (congrArg Il (show incs' = (gst rounds (pendL raw) (i + 1)).incs by rw [hst]))
          have e3 : roundT r s.term = (gst rounds (pendL raw) (i + 1)).term := by rw [hst]
          exact ⟨⟨L.le_refl _, L.le_refl _, L.le_of_eq (by rw [e1]), ⟨rfl, rfl, rfl, rfl⟩, L.le_of_eq (congrArg L.int (wT.trans e3)), L.le_of_eq (congrArg L.int inc), trivial⟩, ⟨⟨rfl, ⟨[], hBe.trans (List.append_nil _).symm⟩, fun _ => ⟨rfl, hBe⟩⟩, trivial⟩, rfl, rfl⟩
  · have hge : i = min rounds.length 25 := by
      have : ¬ (i < rounds.length ∧ i < 25) := by
        rintro ⟨q1, q2⟩
        rw [cond_and, h4] at hc
        have e1 : ((i : Int) < (rounds.length : Int)) := by omega
        have e2 : ((i : Int) < 25) := by omega
        simp [e1, e2] at hc
      omega
    refine ⟨⟨⟨L.le_of_eq ?_, L.le_refl _, trivial⟩, trivial⟩, trivial, rfl, rfl⟩
    rw [grownL, hge]
end Go.Proofs.YtfnhcinnlfklbaaDoor

set_option linter.unusedVariables false
set_option linter.unusedSimpArgs false
set_option maxRecDepth 100000
namespace Go.Proofs.YtfnhcinnlfklbaaDoor
open Go Go.Proofs.YtfnhcinnlfklbaaDoor.Abs

theorem isFirst_dec {l : List Ent} {k : Nat} (h : k < l.length) {X : Bool} (hX : cond (cond (cond ((k : Int) == 0) true ((l.getD (k - 1) dent).term != l[k].term)) true ((l.getD (k - 1) dent).mem != l[k].mem)) true (!decide ((l.getD (k - 1) dent).incs = l[k].incs)) = X) : X = true ↔ isFirst l k := by
  subst hX
  rw [isFirst, getD_of h, cond_or, cond_or, cond_or, alike]
  simp only [Bool.or_eq_true, beq_iff_eq, bne_iff_ne, ne_eq, Bool.not_eq_true', decide_eq_false_iff_not, Bool.and_eq_false_iff]
  constructor
  · rintro (((h1 | h1) | h1) | h1)
    · left; omega
    · exact .inr (.inl h1)
    · exact .inr (.inr (.inl h1))
    · exact .inr (.inr (.inr h1))
  · rintro (h1 | h1 | h1 | h1)
    · exact .inl (.inl (.inl (by omega)))
    · exact .inl (.inl (.inr h1))
    · exact .inl (.inr h1)
    · exact .inr h1
theorem msg_in {l : List Ent} (h : logRight l = true) {k : Nat} (hk : k < l.length) {j : Nat} (hj : j < l[k].msgs.length) : l[k].inc (l[k].msgs[j]).sender = some (l[k].msgs[j]).inc := by
  have h1 := (logRight_iff.1 h).2.1 l[k] (List.getElem_mem hk)
  rw [Ent.right, Bool.and_eq_true, List.all_eq_true] at h1
  have h2 := h1.2 j (List.mem_range.2 hj)
  rw [msgAt, List.getElem?_eq_getElem hj] at h2
  simp only [Bool.and_eq_true] at h2
  have h3 := h2.1
  rw [incIs] at h3
  cases hi : l[k].inc (l[k].msgs[j]).sender with
  | none => rw [hi] at h3; cases h3
  | some x => rw [hi] at h3; simp only [beq_iff_eq] at h3; rw [h3]
set_option maxHeartbeats 8000000 in
theorem grows_law (rounds : List R4) (raw : List R6) (hr : ∀ r ∈ rounds, r.ok) (hm : ∀ r ∈ raw, r.ok) (hrl : rounds.length ≤ 9223372036854775807) (hml : raw.length ≤ 9223372036854775807) : M 3 [Rs4 rounds, Rs raw] (.bool true) := by
  refine go3 rfl rfl fun hb => ?_
  refine ⟨_, awake_ok, ?_⟩
  have hgr := grown_ok rounds raw hr hm hrl hml
  have hq := pendL_len raw
  have hG := gst_ok rounds (pendL raw) (by omega) (min rounds.length 25) (Nat.min_le_right _ _)
  have hr1 := hG.right
  have hf := hG.Fit (Nat.min_le_right _ _)
  have hfi := hG.firsts
  have hsq := hG.seqs
  have hl25 : (grownL rounds (pendL raw)).length ≤ 25 := by have := hG.len; rw [grownL]; omega
  change logRight (grownL rounds (pendL raw)) = true at hr1
  change Fit (grownL rounds (pendL raw)) at hf
  change ∀ k, k < (grownL rounds (pendL raw)).length → (isFirst (grownL rounds (pendL raw)) k ↔ ((grownL rounds (pendL raw)).getD k dent).msgs = []) at hfi
  change ((grownL rounds (pendL raw)).flatMap Ent.msgs).Pairwise (fun a b => a.sender = b.sender → a.inc = b.inc → a.seq < b.seq) at hsq
  revert hgr hr1 hf hfi hsq hl25
  generalize grownL rounds (pendL raw) = l
  intro hgr hl25 hr1 hf hfi hsq
  have hel := El_length l
  refine ⟨_, hgr, ?_⟩
  refine ⟨_, fun _ => lright'_ok l hf, ?_⟩
  refine ⟨fun h => ?_, fun _ => ?_⟩
  · exfalso
    have h : cond (!true) true (!logRight l) = true := h
    rw [hr1] at h
    cases h
  obtain ⟨ms, hms⟩ : ∃ ms, ms = msgsL l 0 l.length := ⟨_, rfl⟩
  have hmla : ms.length ≤ 400000 := by rw [hms]; exact msgsL_len hf _ _
  have hmm := Ml_length ms
  have hmo : M 11 [Es l, .int 0, .int ((El l).length : Nat)] (Ms ms) := by rw [hel, hms]; exact msgs_ok l hf 0 l.length (by omega) (by omega)
  rw [← msgsL_all hr1, ← hms, List.pairwise_iff_getElem] at hsq
  refine ⟨_, hmo, ?_⟩
  refine ⟨Nat, fun i => ⟨[(5, .bool true), (6, Es l), (8, Ms ms), (9, .int i)], ⟨[], [], 900000, 0⟩⟩, fun i => i ≤ ms.length, fun i => ms.length - i, 0, Nat.zero_le _, ?_, ?_⟩
  · exact ⟨⟨L.le_refl _, L.le_refl _, L.le_refl _, L.le_refl _, trivial⟩, trivial, rfl, rfl⟩
  rintro i hi _
  have hi : i ≤ ms.length := hi
  have inci : IntKind.i64.wrap ((i : Int) + 1) = ((i + 1 : Nat) : Int) := by rw [wrap64 (by omega) (by omega)]; simp
  refine ⟨fun hc => ?_, fun hc => ?_⟩
  · have hlt : i < ms.length := by simpa [hmm] using hc
    have hgi : (Ml ms)[i]? = some ms[i].L := by rw [Ml_get, List.getElem?_eq_getElem hlt]; rfl
    refine ⟨Nat, fun k => ⟨[(5, .bool true), (6, Es l), (8, Ms ms), (9, .int i), (10, .int k)], ⟨[], [], 900000, 0⟩⟩, fun k => k ≤ i, fun k => i - k, 0, Nat.zero_le _, ?_, ?_⟩
    · exact ⟨⟨L.le_refl _, L.le_refl _, L.le_refl _, L.le_refl _, L.le_refl _, trivial⟩, trivial, rfl, rfl⟩
    rintro k hk _
    have hk : k ≤ i := hk
    have inck : IntKind.i64.wrap ((k : Int) + 1) = ((k + 1 : Nat) : Int) := by rw [wrap64 (by omega) (by omega)]; simp
    refine ⟨fun hc2 => ?_, fun hc2 => ?_⟩
    · have hlk : k < i := by simpa using hc2
      have hkl : k < ms.length := by omega
      have hgk : (Ml ms)[k]? = some ms[k].L := by rw [Ml_get, List.getElem?_eq_getElem hkl]; rfl
      have hpair := hsq k i hkl hlt hlk
      refine ⟨ms[k].L, ⟨k, rfl, hgk⟩, ms[i].L, ⟨i, rfl, hgi⟩, ?_⟩
      refine ⟨ms[k].L, fun _ => ⟨k, rfl, hgk⟩, ms[i].L, fun _ => ⟨i, rfl, hgi⟩, ?_⟩
      refine ⟨ms[k].L, fun _ => ⟨k, rfl, hgk⟩, ms[i].L, fun _ => ⟨i, rfl, hgi⟩, ?_⟩
      refine ⟨rfl, ?_⟩
      refine ⟨fun h => ?_, fun _ => ?_⟩
      · exfalso
        have h : cond (cond (ms[k].sender == ms[i].sender) (ms[k].inc == ms[i].inc) false) (decide (ms[k].seq ≥ ms[i].seq)) false = true := h
        rw [cond_and, cond_and] at h
        simp only [Bool.and_eq_true, beq_iff_eq, decide_eq_true_eq] at h
        have := hpair h.1.1 h.1.2
        omega
      · refine ⟨k + 1, hlk, by show i - (k + 1) < i - k; omega, ?_⟩
        exact ⟨⟨L.le_refl _, L.le_refl _, L.le_refl _, L.le_refl _, L.le_of_eq (congrArg L.int inck), trivial⟩, trivial, rfl, rfl⟩
    · refine ⟨i + 1, hlt, by show ms.length - (i + 1) < ms.length - i; omega, ?_⟩
      exact ⟨⟨L.le_refl _, L.le_refl _, L.le_refl _, L.le_of_eq (congrArg L.int inci), trivial⟩, trivial, rfl, rfl⟩
  refine ⟨Nat, fun k => ⟨[(5, .bool true), (6, Es l), (11, .int k)], ⟨[], [], 900000, 0⟩⟩, fun k => k ≤ l.length, fun k => l.length - k, 0, Nat.zero_le _, ?_, ?_⟩
  · exact ⟨⟨L.le_refl _, L.le_refl _, L.le_refl _, trivial⟩, trivial, rfl, rfl⟩
  rintro k hk _
  have hk : k ≤ l.length := hk
  have inck : IntKind.i64.wrap ((k : Int) + 1) = ((k + 1 : Nat) : Int) := by rw [wrap64 (by omega) (by omega)]; simp
  refine ⟨fun hc2 => ?_, fun hc2 => ?_⟩
  · have hlt : k < l.length := by simpa [hel] using hc2
    have hgk : (El l)[k]? = some l[k].L := by rw [El_get, List.getElem?_eq_getElem hlt]; rfl
    obtain ⟨p, hp⟩ : ∃ p, p = l.getD (k - 1) dent := ⟨_, rfl⟩
    have hgp : 0 < k → (El l)[k - 1]? = some p.L := fun h => by rw [El_get, List.getElem?_eq_getElem (by omega), hp, getD_of (by omega)]; rfl
    have hw : 0 < k → IntKind.i64.wrap ((k : Int) - 1) = ((k - 1 : Nat) : Int) := fun h => by rw [wrap64 (by omega) (by omega)]; omega
    have hk0 : ∀ {c : Bool}, cond ((k : Int) == 0) true c = false → 0 < k := fun h => by
      rcases Nat.eq_zero_or_pos k with h0 | h0
      · subst h0; cases h
      · exact h0
    refine ⟨p.L, fun g => ⟨k - 1, hw (by have : ¬ (k : Int) = 0 := by simpa using g
                                         omega), hgp (by have : ¬ (k : Int) = 0 := by simpa using g
                                                         omega)⟩, l[k].L, fun _ => ⟨k, rfl, hgk⟩, ?_⟩
    refine ⟨p.L, fun g => ⟨k - 1, hw (hk0 g), hgp (hk0 g)⟩, l[k].L, fun _ => ⟨k, rfl, hgk⟩, ?_⟩
    have hk1 : ∀ {c d : Bool}, cond (cond ((k : Int) == 0) true c) true d = false → 0 < k := fun h => by
      rcases Nat.eq_zero_or_pos k with h0 | h0
      · subst h0; cases h
      · exact h0
    refine ⟨p.L, fun g => ⟨k - 1, hw (hk1 g), hgp (hk1 g)⟩, l[k].L, fun _ => ⟨k, rfl, hgk⟩, ?_⟩
    have hpf : p.incs.length ≤ 1000000 := by
      rw [hp, List.getD_eq_getElem?_getD]
      cases hq : l[k - 1]? with
      | none => exact Nat.zero_le _
      | some e => exact Nat.le_trans (hf.2 e (List.mem_of_getElem? hq)).1 (by decide)
    refine ⟨_, fun _ => ints_ok p.incs l[k].incs hpf, ?_⟩
    refine ⟨rfl, ?_⟩
    refine ⟨l[k].L, ⟨k, rfl, hgk⟩, ?_⟩
    have hmk := Ml_length l[k].msgs
    have hfk := hfi k hlt
    rw [getD_of hlt] at hfk
    have hX := isFirst_dec hlt (X := _) rfl
    rw [← hp, hfk] at hX
    have hne : (!((cond (cond (cond ((k : Int) == 0) true (p.term != l[k].term)) true (p.mem != l[k].mem)) true (!decide (p.incs = l[k].incs))) == (((Ml l[k].msgs).length : Int) == 0))) = false := by
      rw [Bool.not_eq_false', beq_iff_eq, Bool.eq_iff_iff, hX, hmk]
      constructor
      · intro h; rw [h]; rfl
      · intro h
        have : (l[k].msgs.length : Int) = 0 := by simpa using h
        exact List.eq_nil_of_length_eq_zero (by omega)
    refine ⟨fun h => ?_, fun _ => ?_⟩
    · exact absurd (h.symm.trans hne) (by decide)
    have hfm := (hf.2 _ (List.getElem_mem hlt))
    refine ⟨Nat, fun j => ⟨[(5, .bool true), (6, Es l), (11, .int k), (13, .int j)], ⟨[], [], 900000, 0⟩⟩, fun j => j ≤ l[k].msgs.length, fun j => l[k].msgs.length - j, 0, Nat.zero_le _, ?_, ?_⟩
    · exact ⟨⟨L.le_refl _, L.le_refl _, L.le_refl _, L.le_refl _, trivial⟩, trivial, rfl, rfl⟩
    rintro j hj _
    have hj : j ≤ l[k].msgs.length := hj
    have hfm2 := hfm.2
    have incj : IntKind.i64.wrap ((j : Int) + 1) = ((j + 1 : Nat) : Int) := by rw [wrap64 (by omega) (by omega)]; simp
    refine ⟨l[k].L, ⟨k, rfl, hgk⟩, ?_⟩
    refine ⟨fun hc3 => ?_, fun hc3 => ?_⟩
    · have hlj : j < l[k].msgs.length := by simpa [hmk] using hc3
      have hgj : (Ml l[k].msgs)[j]? = some (l[k].msgs[j]).L := by rw [Ml_get, List.getElem?_eq_getElem hlj]; rfl
      have hin := msg_in hr1 hlt hlj
      have hinc : M 13 [l[k].V, .int (l[k].msgs[j]).sender] (.tup [.int (l[k].msgs[j]).inc, .bool true]) := by
        have := einc'_ok l[k] (l[k].msgs[j]).sender (Nat.le_trans hfm.1 (by decide))
        rw [incR, hin] at this
        exact this
      refine ⟨l[k].L, ⟨k, rfl, hgk⟩, l[k].L, ⟨k, rfl, hgk⟩, (l[k].msgs[j]).L, ⟨j, rfl, hgj⟩, ?_⟩
      refine ⟨_, hinc, ?_⟩
      refine ⟨rfl, ?_⟩
      refine ⟨l[k].L, fun _ => ⟨k, rfl, hgk⟩, (l[k].msgs[j]).L, fun _ => ⟨j, rfl, hgj⟩, ?_⟩
      have hz : cond (!true) true ((l[k].msgs[j]).inc != (l[k].msgs[j]).inc) = false := by simp
      refine ⟨fun h => absurd (h.symm.trans hz) (by decide), fun _ => ?_⟩
      refine ⟨j + 1, hlj, by show l[k].msgs.length - (j + 1) < l[k].msgs.length - j; omega, ?_⟩
      exact ⟨⟨L.le_refl _, L.le_refl _, L.le_refl _, L.le_of_eq (congrArg L.int incj), trivial⟩, trivial, rfl, rfl⟩
    · refine ⟨k + 1, hlt, by show l.length - (k + 1) < l.length - k; omega, ?_⟩
      exact ⟨⟨L.le_refl _, L.le_refl _, L.le_of_eq (congrArg L.int inck), trivial⟩, trivial, rfl, rfl⟩
  · refine ⟨_, fun _ => views_ok l hf, ?_⟩
    refine ⟨⟨L.le_of_eq (congrArg L.bool ?_), trivial⟩, trivial, rfl, rfl⟩
    show decide (((viewsN l : Nat) : Int) ≤ ((El l).length : Nat)) = true
    have : viewsN l ≤ l.length := by
      rw [viewsN, someL_right hr1]
      have := List.length_filter_le (first l) (List.range l.length)
      rw [List.length_range] at this
      exact this
    rw [hel]
    simpa using this
end Go.Proofs.YtfnhcinnlfklbaaDoor

set_option linter.unusedVariables false
set_option linter.unusedSimpArgs false
set_option maxRecDepth 100000
namespace Go.Proofs.YtfnhcinnlfklbaaDoor
open Go Go.Proofs.YtfnhcinnlfklbaaDoor.Abs

/-- the greatest of a node's times, in the first entries -/
def lastN (l : List Ent) (node : Int) : Nat → Int
  | 0 => 0
  | i + 1 => match (l.getD i dent).inc node with
    | some x => if lastN l node i < x then x else lastN l node i
    | none => lastN l node i
theorem lastN_le (l : List Ent) (node : Int) : ∀ (i j : Nat) (y : Int), j < i → (l.getD j dent).inc node = some y → y ≤ lastN l node i
  | 0, j, y, h, _ => absurd h (Nat.not_lt_zero j)
  | i + 1, j, y, h, hy => by
    by_cases e : j = i
    · subst e
      rw [lastN, hy]
      simp only
      split <;> omega
    · have := lastN_le l node i j y (by omega) hy
      rw [lastN]
      split
      · split <;> omega
      · exact this
theorem lastN_is (l : List Ent) (node : Int) : ∀ i, lastN l node i = 0 ∨ ∃ j, j < i ∧ (l.getD j dent).inc node = some (lastN l node i)
  | 0 => .inl rfl
  | i + 1 => by
    rw [lastN]
    have ih := lastN_is l node i
    have step : lastN l node i = 0 ∨ ∃ j, j < i + 1 ∧ (l.getD j dent).inc node = some (lastN l node i) := by
      rcases ih with h | ⟨j, h1, h2⟩
      · exact .inl h
      · exact .inr ⟨j, by omega, h2⟩
    cases hx : (l.getD i dent).inc node with
    | none => exact step
    | some x =>
      simp only
      split
      · exact .inr ⟨i, by omega, hx⟩
      · exact step
theorem inc_pos {e : Ent} (h : e.right = true) {node x : Int} (hx : e.inc node = some x) : 1 ≤ x := by
  rw [Ent.right, Bool.and_eq_true] at h
  obtain ⟨_, _, _, _, _, hs⟩ := base_iff.1 h.1
  rw [Ent.inc] at hx
  split at hx
  · cases hf : (listB e.mem).findIdx? (· == node) with
    | none => rw [hf] at hx; cases hx
    | some i =>
      rw [hf] at hx
      have := hs x (List.mem_of_getElem? hx)
      simp only [small, Bool.and_eq_true, decide_eq_true_eq] at this
      exact this.1
  · cases hx
structure Good (l : List Ent) : Prop where
  right : logRight l = true
  fit : Fit l
  firsts : ∀ k, k < l.length → (isFirst l k ↔ (l.getD k dent).msgs = [])
  mono : l.Pairwise fun a b => ∀ node x y, a.inc node = some x → b.inc node = some y → x ≤ y
theorem Good.last {l : List Ent} (g : Good l) {node x : Int} {i : Nat} (hi : i < l.length) (hx : l[i].inc node = some x) : lastN l node i ≤ x := by
  have h1 := inc_pos ((logRight_iff.1 g.right).2.1 l[i] (List.getElem_mem hi)) hx
  rcases lastN_is l node i with h | ⟨j, h2, h3⟩
  · omega
  · have := List.pairwise_iff_getElem.1 g.mono j i (by omega) hi h2
    rw [getD_of (by omega)] at h3
    exact this node _ _ h3 hx
theorem Good.new {l : List Ent} (g : Good l) {node x : Int} {i : Nat} (hi : i < l.length) (hx : l[i].inc node = some x) (hl : lastN l node i < x) :
    joinedN l node x = ((i : Int) + 1) ∧ joinedN (l.take i) node x = 0 ∧ seenL (l.take (i + 1)) node x = 0 := by
  have hno : ∀ j (hj : j < i), isInc node x (l[j]'(by omega)) = false := by
    intro j hj
    rw [isInc]
    cases hy : (l[j]'(by omega)).inc node with
    | none => rfl
    | some y =>
      have := lastN_le l node i j y hj (by rw [getD_of (by omega)]; exact hy)
      have : ¬ y = x := by omega
      simpa using this
  refine ⟨?_, ?_, ?_⟩
  · rw [joinedN, someL_right g.right, findN_some hi hno (by rw [isInc, hx]; simp)]
    omega
  · rw [joinedN, someL_right (logRight_take g.right i), findN_none]
    · rfl
    · intro j hj
      have hj' : j < i := by simp at hj; omega
      rw [List.getElem_take]
      exact hno j hj'
  · rw [seenL, msgsL_all (logRight_take g.right (i + 1)), seenS_eq]
    rcases seenF_is node x ((l.take (i + 1)).flatMap Ent.msgs) 0 with h | ⟨m, hm, h1, h2, _⟩
    · exact h
    · exfalso
      obtain ⟨e, he, hme⟩ := List.mem_flatMap.1 hm
      obtain ⟨j, hj, rfl⟩ := List.getElem_of_mem he
      have hjl : j < i + 1 := by simp at hj; omega
      rw [List.getElem_take] at hme
      obtain ⟨q, hq, rfl⟩ := List.getElem_of_mem hme
      have hin := msg_in g.right (by omega : j < l.length) hq
      rw [h1, h2] at hin
      by_cases hji : j = i
      · subst hji
        have hf := g.firsts j hi
        rw [getD_of hi] at hf
        have : l[j].msgs = [] := by
          refine hf.1 ?_
          rw [isFirst]
          rcases Nat.eq_zero_or_pos j with h0 | h0
          · exact .inl h0
          · right; right
            rw [getD_of hi]
            cases ha : alike (l.getD (j - 1) dent) l[j] with
            | false => rfl
            | true =>
              exfalso
              have := lastN_le l node j (j - 1) x (by omega) (by rw [inc_alike ha]; exact hin)
              omega
        rw [this] at hq
        exact absurd hq (Nat.not_lt_zero q)
      · have := lastN_le l node i j x (by omega) (by rw [getD_of (by omega)]; exact hin)
        omega
theorem grownL_good (rounds : List R4) (raw : List R6) : Good (grownL rounds (pendL raw)) ∧ (grownL rounds (pendL raw)).length ≤ 25 := by
  have hq := pendL_len raw
  have hG := gst_ok rounds (pendL raw) (by omega) (min rounds.length 25) (Nat.min_le_right _ _)
  exact ⟨⟨hG.right, hG.Fit (Nat.min_le_right _ _), hG.firsts, hG.mono⟩, by have := hG.len; rw [grownL]; omega⟩
set_option maxHeartbeats 8000000 in
theorem marks_law (rounds : List R4) (raw : List R6) (hr : ∀ r ∈ rounds, r.ok) (hm : ∀ r ∈ raw, r.ok) (hrl : rounds.length ≤ 9223372036854775807) (hml : raw.length ≤ 9223372036854775807) : M 4 [Rs4 rounds, Rs raw] (.bool true) := by
  refine go4 rfl rfl fun hb => ?_
  refine ⟨_, awake_ok, ?_⟩
  have hgr := grown_ok rounds raw hr hm hrl hml
  obtain ⟨hg, hl25⟩ := grownL_good rounds raw
  revert hgr hg hl25
  generalize grownL rounds (pendL raw) = l
  intro hgr hg hl25
  have hel := El_length l
  have hf := hg.fit
  refine ⟨_, hgr, ?_⟩
  refine ⟨fun h => absurd (show (!true) = true from h) (by decide), fun _ => ?_⟩
  refine ⟨Nat, fun n => ⟨[(5, .bool true), (6, Es l), (8, .int n)], ⟨[], [], 900000, 0⟩⟩, fun n => n ≤ 4, fun n => 4 - n, 0, Nat.zero_le _, ?_, ?_⟩
  · exact ⟨⟨L.le_refl _, L.le_refl _, L.le_refl _, trivial⟩, trivial, rfl, rfl⟩
  rintro n hn _
  have hn : n ≤ 4 := hn
  have incn : IntKind.i64.wrap ((n : Int) + 1) = ((n + 1 : Nat) : Int) := by rw [wrap64 (by omega) (by omega)]; simp
  refine ⟨fun hc => ?_, fun hc => ?_⟩
  · have hn4 : n < 4 := by
      have : (n : Int) < 4 := by simpa using hc
      omega
    refine ⟨Nat, fun i => ⟨[(5, .bool true), (6, Es l), (8, .int n), (9, .int (lastN l n i)), (10, .int i)], ⟨[], [], 900000, 0⟩⟩, fun i => i ≤ l.length, fun i => l.length - i, 0, Nat.zero_le _, ?_, ?_⟩
    · exact ⟨⟨L.le_refl _, L.le_refl _, L.le_refl _, L.le_refl _, L.le_refl _, trivial⟩, trivial, rfl, rfl⟩
    rintro i hi _
    have hi : i ≤ l.length := hi
    have inci : IntKind.i64.wrap ((i : Int) + 1) = ((i + 1 : Nat) : Int) := by rw [wrap64 (by omega) (by omega)]; simp
    refine ⟨fun hc2 => ?_, fun hc2 => ?_⟩
    · have hlt : i < l.length := by simpa [hel] using hc2
      have hgi : (El l)[i]? = some l[i].L := by rw [El_get, List.getElem?_eq_getElem hlt]; rfl
      have hfi := hf.2 _ (List.getElem_mem hlt)
      refine ⟨l[i].L, ⟨i, rfl, hgi⟩, ?_⟩
      refine ⟨_, einc'_ok l[i] n (Nat.le_trans hfi.1 (by decide)), ?_⟩
      have hnl : cond (l[i].inc n).isSome (decide ((l[i].inc n).getD 0 < lastN l n i)) false = false := by
        cases hx : l[i].inc n with
        | none => rfl
        | some x =>
          have := hg.last hlt hx
          simp only [Option.isSome_some, Option.getD_some, cond_true, decide_eq_false_iff_not]
          omega
      refine ⟨fun h => absurd (h.symm.trans hnl) (by decide), fun _ => ?_⟩
      refine ⟨fun h => ?_, fun h => ?_⟩
      focus
        have h : cond (l[i].inc n).isSome (decide ((l[i].inc n).getD 0 > lastN l n i)) false = true := h
        obtain ⟨x, hx, hlx⟩ : ∃ x, l[i].inc n = some x ∧ lastN l n i < x := by
          cases hx : l[i].inc n with
          | none => rw [hx] at h; cases h
          | some x =>
            rw [hx] at h
            simp only [Option.isSome_some, Option.getD_some, cond_true, decide_eq_true_eq] at h
            exact ⟨x, rfl, h⟩
        obtain ⟨g1, g2, g3⟩ := hg.new hlt hx hlx
        have hxe : (l[i].inc n).getD 0 = x := by rw [hx]; rfl
        have j1 : M 15 [Es l, .int n, .int ((l[i].inc n).getD 0)] (.int ((i : Int) + 1)) := by rw [hxe, ← g1]; exact joined_ok l hf n x
        have j2 : M 15 [.d (.l (.sl 5 ((El l).take i))), .int n, .int ((l[i].inc n).getD 0)] (.int 0) := by rw [hxe, El_take, ← g2]; exact joined_ok _ (hf.take i) n x
        have j3 : M 16 [.d (.l (.sl 5 ((El l).take (i + 1)))), .int n, .int ((l[i].inc n).getD 0)] (.int 0) := by rw [hxe, El_take, ← g3]; exact seen_ok _ (hf.take (i + 1)) n x
        refine ⟨_, j1, ?_⟩
        refine ⟨i, fun _ => ⟨rfl, by rw [hel]; omega⟩, ?_⟩
        refine ⟨_, fun _ => j2, ?_⟩
        refine ⟨i + 1, fun _ => ⟨inci, by rw [hel]; omega⟩, ?_⟩
        refine ⟨_, fun _ => j3, ?_⟩
        have hz : cond (cond (((i : Int) + 1) != IntKind.i64.wrap ((i : Int) + 1)) true ((0 : Int) != 0)) true ((0 : Int) != 0) = false := by rw [inci]; simp
        refine ⟨fun h => absurd (h.symm.trans hz) (by decide), fun _ => ?_⟩
        have hla : (l[i].inc n).getD 0 = lastN l n (i + 1) := by rw [lastN, getD_of hlt, hx]; simp only; rw [if_pos hlx]; rfl
      rotate_left
      focus
        have h : cond (l[i].inc n).isSome (decide ((l[i].inc n).getD 0 > lastN l n i)) false = false := h
        have hla : lastN l n i = lastN l n (i + 1) := by
          rw [lastN, getD_of hlt]
          cases hx : l[i].inc n with
          | none => rfl
          | some x =>
            rw [hx] at h
            simp only [Option.isSome_some, Option.getD_some, cond_true, decide_eq_false_iff_not] at h
            simp only
            rw [if_neg h]
      rotate_left
      all_goals
        have hmk := Ml_length l[i].msgs
        have hfm2 := hfi.2
        refine ⟨Nat, fun j => ⟨[(5, .bool true), (6, Es l), (8, .int n), (9, .int (lastN l n (i + 1))), (10, .int i), (11, .int ((l[i].inc n).getD 0)), (12, .bool (l[i].inc n).isSome), (13, .int j)], ⟨[], [], 900000, 0⟩⟩, fun j => j ≤ l[i].msgs.length, fun j => l[i].msgs.length - j, 0, Nat.zero_le _, ?_, ?_⟩
        focus exact ⟨⟨L.le_refl _, L.le_refl _, L.le_refl _, L.le_of_eq (congrArg L.int hla), L.le_refl _, L.le_refl _, L.le_refl _, L.le_refl _, trivial⟩, trivial, rfl, rfl⟩
        rintro j hj _
        have hj : j ≤ l[i].msgs.length := hj
        have incj : IntKind.i64.wrap ((j : Int) + 1) = ((j + 1 : Nat) : Int) := by rw [wrap64 (by omega) (by omega)]; simp
        refine ⟨l[i].L, ⟨i, rfl, hgi⟩, ?_⟩
        refine ⟨fun hc3 => ?_, fun hc3 => ?_⟩
        · have hlj : j < l[i].msgs.length := by simpa [hmk] using hc3
          have hgj : (Ml l[i].msgs)[j]? = some (l[i].msgs[j]).L := by rw [Ml_get, List.getElem?_eq_getElem hlj]; rfl
          have hin := msg_in hg.right hlt hlj
          refine ⟨l[i].L, ⟨i, rfl, hgi⟩, (l[i].msgs[j]).L, ⟨j, rfl, hgj⟩, ?_⟩
          have hz : cond ((l[i].msgs[j]).sender == (n : Int)) (cond (!(l[i].inc n).isSome) true ((l[i].msgs[j]).inc != (l[i].inc n).getD 0)) false = false := by
            by_cases hs : (l[i].msgs[j]).sender = (n : Int)
            · rw [hs] at hin
              rw [hin]; simp
            · have : ((l[i].msgs[j]).sender == (n : Int)) = false := by simpa using hs
              rw [this]; rfl
          refine ⟨fun h => absurd (h.symm.trans hz) (by decide), fun _ => ?_⟩
          refine ⟨j + 1, hlj, by show l[i].msgs.length - (j + 1) < l[i].msgs.length - j; omega, ?_⟩
          exact ⟨⟨L.le_refl _, L.le_refl _, L.le_refl _, L.le_refl _, L.le_refl _, L.le_refl _, L.le_refl _, L.le_of_eq (congrArg L.int incj), trivial⟩, trivial, rfl, rfl⟩
        · refine ⟨i + 1, hlt, by show l.length - (i + 1) < l.length - i; omega, ?_⟩
          exact ⟨⟨L.le_refl _, L.le_refl _, L.le_refl _, L.le_refl _, L.le_of_eq (congrArg L.int inci), trivial⟩, trivial, rfl, rfl⟩
    · refine ⟨n + 1, hn4, by show 4 - (n + 1) < 4 - n; omega, ?_⟩
      exact ⟨⟨L.le_refl _, L.le_refl _, L.le_of_eq (congrArg L.int incn), trivial⟩, trivial, rfl, rfl⟩
  · exact ⟨⟨L.le_refl _, trivial⟩, trivial, rfl, rfl⟩
end Go.Proofs.YtfnhcinnlfklbaaDoor

