/-
  Layer 4: the laws MsgOrder and MsgTwice.
-/
import Derived.Test.YtokomdenoegkgaaDoorOU04
set_option linter.unusedVariables false
set_option linter.unusedSimpArgs false
set_option maxRecDepth 100000
namespace Go.Proofs.YtokomdenoegkgaaDoor
open Go Go.Proofs.YtokomdenoegkgaaDoor.Abs

/-- messages with numbers of their own -/
def nmA (raw : List R6) (i : Nat) : Msg := { msA raw ⟨#[]⟩ i with number := ((i + 1 : Nat) : Int) }
def nmL (raw : List R6) (n : Nat) : List Msg := (List.range n).map (nmA raw)
theorem nmL_succ (raw : List R6) (n : Nat) : nmL raw (n + 1) = nmL raw n ++ [nmA raw n] := by simp [nmL, List.range_succ]
theorem nmL_length (raw : List R6) (n : Nat) : (nmL raw n).length = n := by simp [nmL]
theorem nmL_within (raw : List R6) (n : Nat) : ∀ x ∈ nmL raw n, within x.n x.ext = true := by
  intro x hx
  simp only [nmL, List.mem_map] at hx
  obtain ⟨i, _, rfl⟩ := hx
  exact msg_within (raw.getD i r0) ⟨#[]⟩
theorem nmL_nodup (raw : List R6) (n : Nat) : (nums (nmL raw n)).Nodup := by
  have : nums (nmL raw n) = (List.range n).map fun i => ((i + 1 : Nat) : Int) := by simp [nums, nmL, nmA]
  rw [this]
  refine List.Pairwise.map _ (fun a b h => ?_) (List.nodup_range (n := n))
  intro e
  exact h (by omega)
/-- what may be sorted, and is the same however it stood -/
structure Fine (l : List Msg) : Prop where
  w : ∀ x ∈ l, within x.n x.ext = true
  nd : (nums l).Nodup
theorem Fine.perm {l k : List Msg} (h : Fine l) (hp : k.Perm l) : Fine k := ⟨fun x hx => h.w x (hp.mem_iff.1 hx), (hp.map Msg.number).nodup_iff.2 h.nd⟩
theorem Fine.sub {l k : List Msg} (h : Fine l) (hs : k.Sublist l) : Fine k := ⟨fun x hx => h.w x (hs.subset hx), h.nd.sublist (hs.map _)⟩
theorem Fine.sort {l : List Msg} (h : Fine l) : Srt (sortL l) ∧ (sortL l).Perm l := by
  have := sort_fold l [] List.Pairwise.nil (by simpa using h.w) (by simpa using h.nd)
  simpa [sortL] using this
theorem Fine.same {l k : List Msg} (h : Fine l) (hp : k.Perm l) : sortL k = sortL l := by
  obtain ⟨a1, a2⟩ := h.sort
  obtain ⟨b1, b2⟩ := (h.perm hp).sort
  exact srt_perm b1 a1 (b2.trans (hp.trans a2.symm))
theorem nmFine (raw : List R6) (n : Nat) : Fine (nmL raw n) := ⟨nmL_within raw n, nmL_nodup raw n⟩

set_option maxHeartbeats 4000000 in
theorem order_law (raw : List R6) (at' : Int) (hr : ∀ r ∈ raw, r.ok) (ha : InR at') (hlen : raw.length ≤ 9223372036854775807) : M 6 [Rs raw, .int at'] (.bool true) := by
  have hml := Rl_length raw
  have hget : ∀ k (h : k < raw.length), raw.getD k r0 = raw[k] := fun k h => by simp [List.getD_eq_getElem?_getD, h]
  refine go6 rfl rfl fun hb => ?_
  refine ⟨_, awake_ok, ?_⟩
  refine ⟨Nat, fun i => ⟨[(0, Rs raw), (1, .int at'), (5, .bool true), (6, .own 950000 7 (Ml (nmL raw i))), (7, .int i)], ⟨[], [950000], 900000, 0⟩⟩, fun i => i ≤ raw.length ∧ i ≤ 10, fun i => 10 - i, 0, ⟨Nat.zero_le _, Nat.zero_le _⟩, ?_, ?_⟩
  · exact ⟨⟨L.le_refl _, L.le_refl _, L.le_refl _, rfl, L.le_refl _, trivial⟩, trivial, rfl, rfl⟩
  rintro i ⟨hi, hi8⟩ _
  have hms := Ml_length (nmL raw i)
  have hnl := nmL_length raw i
  have hwi : IntKind.i64.wrap ((i : Int) + 1) = ((i + 1 : Nat) : Int) := by rw [wrap64 (by omega) (by omega)]; rfl
  refine ⟨fun hc => ?_, fun hc => ?_⟩
  · have hc : i < raw.length ∧ (i : Int) < 10 := by
      rw [cond_and] at hc
      simpa [hml] using hc
    have hc : i < raw.length ∧ i < 10 := ⟨hc.1, by omega⟩
    have hmo := msg_ok raw[i] (hr _ (List.getElem_mem hc.1)) ⟨#[]⟩
    have hma : msA raw ⟨#[]⟩ i = raw[i].msg ⟨#[]⟩ := by rw [msA, hget i hc.1]
    rw [← hma] at hmo
    refine ⟨raw[i].L, ⟨i, rfl, by simp [Rl_get, hc.1]⟩, ?_⟩
    refine ⟨_, hmo, ?_⟩
    refine ⟨by show ((Ml (nmL raw i)).length + 1) * 64 ≤ _; omega, ?_⟩
    refine ⟨i + 1, ⟨hc.1, hc.2⟩, by show 10 - (i + 1) < 10 - i; omega, ?_⟩
    refine ⟨⟨L.le_refl _, L.le_refl _, L.le_refl _, ⟨rfl, L.le_of_eq (congrArg (L.sl 7) ?_)⟩, L.le_of_eq (congrArg L.int hwi), trivial⟩, trivial, rfl, rfl⟩
    rw [nmL_succ, ← Ml_app]
    show Ml (nmL raw i) ++ [[L.bool (msA raw ⟨#[]⟩ i).ext, L.int (msA raw ⟨#[]⟩ i).n, L.int (msA raw ⟨#[]⟩ i).sender, L.int (msA raw ⟨#[]⟩ i).inc, L.int (msA raw ⟨#[]⟩ i).seq, L.int (IntKind.i64.wrap ((i : Int) + 1)), L.str (msA raw ⟨#[]⟩ i).data]] = _
    rw [hwi]; rfl
  · obtain ⟨l, hl⟩ : ∃ l, l = nmL raw i := ⟨_, rfl⟩
    have hF : Fine l := by rw [hl]; exact nmFine raw i
    rw [← hl] at hms hnl
    rw [← hl]
    have hwl : IntKind.i64.wrap (((Ml l).length : Int) + 1) = ((l.length + 1 : Nat) : Int) := by rw [hms, wrap64 (by omega) (by omega)]; rfl
    have hpr := pick_range (c := at') (n := ((l.length + 1 : Nat) : Int)) (by omega)
    have hpk := pick_ok at' ((l.length + 1 : Nat) : Int) ha (by omega)
    rw [← hwl] at hpk
    refine ⟨_, hpk, ?_⟩
    rw [hwl]
    obtain ⟨k, hk⟩ : ∃ k : Nat, pick at' ((l.length + 1 : Nat) : Int) = (k : Int) := ⟨(pick at' ((l.length + 1 : Nat) : Int)).toNat, by omega⟩
    have hkl : k ≤ l.length := by omega
    refine ⟨_, _, sort_ok l (by omega), ?_⟩
    refine ⟨k, ⟨hk, by omega⟩, ?_⟩
    have b1 : (([] : List (List L)).length + ((Ml l).drop k).length) * 64 ≤ 140737488355328 := by rw [List.length_drop]; simp only [List.length_nil]; omega
    have b2 : ((([] : List (List L)) ++ (Ml l).drop k).length + ((Ml l).take k).length) * 64 ≤ 140737488355328 := by rw [List.nil_append, List.length_take, List.length_drop]; omega
    refine ⟨b1, ?_⟩
    refine ⟨k, ⟨hk, by omega⟩, ?_⟩
    refine ⟨b2, ?_⟩
    have hs2 := sort_ok (l.drop k ++ l.take k) (by rw [List.length_append, List.length_drop, List.length_take]; omega)
    have hperm : (l.drop k ++ l.take k).Perm l := by
      have := List.perm_append_comm (l₁ := l.drop k) (l₂ := l.take k)
      rwa [List.take_append_drop] at this
    rw [hF.same hperm] at hs2
    have hargs : Ml (l.drop k ++ l.take k) = ([] : List (List L)) ++ (Ml l).drop k ++ (Ml l).take k := by rw [List.nil_append, Ml_drop, Ml_take, Ml_app]
    rw [Ms, hargs] at hs2
    refine ⟨_, _, hs2, ?_⟩
    refine ⟨rfl, ?_⟩
    obtain ⟨hsrt, hsp⟩ := hF.sort
    obtain ⟨a, hA⟩ : ∃ a, a = sortL l := ⟨_, rfl⟩
    rw [← hA] at hsrt hsp
    have hal : a.length = l.length := hsp.length_eq
    have hma := Ml_length a
    rw [← hA]
    refine ⟨_, fun _ => same_refl a, ?_⟩
    refine ⟨fun h => ?_, fun _ => ?_⟩
    · exfalso
      have h : cond (!(((Ml a).length : Int) == ((Ml l).length : Int))) true (!true) = true := h
      rw [hma, hms, hal] at h
      simp at h
    refine ⟨Nat, fun p => ⟨[(5, .bool true), (10, Ms a), (12, .int p)], ⟨[], [], 850000, 0⟩⟩, fun p => p ≤ a.length, fun p => a.length - p, 0, Nat.zero_le _, ?_, ?_⟩
    · exact ⟨⟨L.le_refl _, L.le_refl _, L.le_refl _, trivial⟩, trivial, rfl, rfl⟩
    rintro p hp _
    have hp : p ≤ a.length := hp
    refine ⟨fun hc => ?_, fun hc => ?_⟩
    · have hpl : p < a.length := by
        have : (p : Int) < ((Ml a).length : Int) := by simpa using hc
        omega
      refine ⟨Nat, fun q => ⟨[(5, .bool true), (10, Ms a), (12, .int p), (13, .int q)], ⟨[], [], 800000, 0⟩⟩, fun q => q ≤ p, fun q => p - q, 0, Nat.zero_le _, ?_, ?_⟩
      · exact ⟨⟨L.le_refl _, L.le_refl _, L.le_refl _, L.le_refl _, trivial⟩, trivial, rfl, rfl⟩
      rintro q hq _
      have hq : q ≤ p := hq
      refine ⟨fun hc => ?_, fun hc => ?_⟩
      · have hqp : q < p := by
          have : (q : Int) < (p : Int) := by simpa using hc
          omega
        have hless : a[q].less a[p] = true := (List.pairwise_iff_getElem.1 hsrt) q p (by omega) hpl hqp
        have hnot : a[p].less a[q] = false := less_asymm hless
        have hne : a[p].same a[q] = false := by
          cases hs : a[p].same a[q] with
          | false => rfl
          | true =>
            have := (Msg.same_iff _ _).1 hs
            rw [this, less_irrefl] at hless
            cases hless
        have hgq : (Ml a)[q]? = some a[q].L := by rw [Ml_get, List.getElem?_eq_getElem (by omega)]; rfl
        have hgp : (Ml a)[p]? = some a[p].L := by rw [Ml_get, List.getElem?_eq_getElem hpl]; rfl
        have hl1 := less_ok a[q] a[p]
        have hl2 := less_ok a[p] a[q]
        rw [hless] at hl1
        rw [hnot] at hl2
        refine ⟨a[q].L, ⟨q, rfl, hgq⟩, ?_⟩
        refine ⟨a[p].L, ⟨p, rfl, hgp⟩, ?_⟩
        refine ⟨_, hl1, ?_⟩
        refine ⟨a[p].L, fun _ => ⟨p, rfl, hgp⟩, ?_⟩
        refine ⟨a[q].L, fun _ => ⟨q, rfl, hgq⟩, ?_⟩
        refine ⟨_, fun _ => hl2, ?_⟩
        refine ⟨a[p].L, fun _ => ⟨p, rfl, hgp⟩, ?_⟩
        refine ⟨a[q].L, fun _ => ⟨q, rfl, hgq⟩, ?_⟩
        refine ⟨rfl, ?_⟩
        refine ⟨fun h => ?_, fun _ => ?_⟩
        · exfalso
          have h : cond (cond (!true) true false) true (a[p].same a[q]) = true := h
          rw [hne] at h
          exact absurd h (by decide)
        · refine ⟨q + 1, by omega, by show p - (q + 1) < p - q; omega, ?_⟩
          refine ⟨⟨L.le_refl _, L.le_refl _, L.le_refl _, L.le_of_eq (congrArg L.int ?_), trivial⟩, trivial, rfl, rfl⟩
          rw [wrap64 (by omega) (by omega)]; rfl
      · refine ⟨p + 1, by omega, by show a.length - (p + 1) < a.length - p; omega, ?_⟩
        refine ⟨⟨L.le_refl _, L.le_refl _, L.le_of_eq (congrArg L.int ?_), trivial⟩, trivial, rfl, rfl⟩
        rw [wrap64 (by omega) (by omega)]; rfl
    · exact ⟨⟨L.le_refl _, trivial⟩, trivial, rfl, rfl⟩
end Go.Proofs.YtokomdenoegkgaaDoor
