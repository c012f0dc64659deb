/-
  Layer 16: lists put together; the program's Put.
-/
import Derived.Test.YtelbkabgkcogpaaGreatDoorOP4
import Derived.Test.YtelbkabgkcogpaaGreatDoorOP3
import Derived.Shelf.Sort.Plain
import Derived.Shelf.Slices.In.SortNone
import Derived.Test.YtelbkabgkcogpaaGreatDoorTie
import Derived.Test.YtelbkabgkcogpaaGreatDoorCards
import Derived.LaidMore
import Derived.OpenShut
import Derived.Stop.Joined
import Derived.Test.YtelbkabgkcogpaaGreatDoorOP1
import Derived.Test.YtelbkabgkcogpaaGreatDoorOP2
set_option linter.unusedVariables false
set_option linter.unusedSimpArgs false
set_option maxRecDepth 100000
namespace Go.Proofs.YtelbkabgkcogpaaGreatDoor
open Go Go.Proofs.YtelbkabgkcogpaaGreatDoor.Abs
abbrev zent : List L := [L.int 0, L.int 0, L.int 0, L.nil, L.nil]
theorem grow0_ok : M 59 [.d (.l .nil), .int 0] (.d (.l .nil)) := by
  refine go59 rfl rfl fun hb => ?_
  refine ⟨fun h => absurd h (by decide), fun _ => ?_⟩
  refine ⟨fun h => absurd h (by decide), fun _ => ?_⟩
  exact ⟨⟨L.le_refl _, trivial⟩, trivial, rfl, rfl⟩
theorem grow_ok (n : Nat) (h0 : 0 < n) (hn : n ≤ 1000000) : MM 59 [] [.d (.l .nil), .int n] [(100, .arr 5 (List.replicate n zent) false)] (.msl 100 5 0 0) := by
  refine gb59 [(20, 2), (22, 2)] [] rfl rfl fun hb => ?_
  have w0 : IntKind.i64.wrap ((0 : Int) - 0) = 0 := by decide
  have w1 : IntKind.i64.wrap ((n : Int) - IntKind.i64.wrap ((0 : Int) - 0)) = n := by rw [w0, Int.sub_zero, wrap64 (by omega) (by omega)]
  refine ⟨fun h => ?_, fun _ => ?_⟩
  · exfalso
    have : (n : Int) < 0 := by simpa using h
    omega
  refine ⟨fun _ => ?_, fun h => ?_⟩
  · refine ⟨rfl, ?_⟩
    refine ⟨n, ⟨w1, h0, by show n * 72 ≤ _; omega⟩, ?_⟩
    refine ⟨0, ⟨rfl, Nat.zero_le _⟩, ?_⟩
    exact ⟨⟨rfl, rfl⟩, ⟨⟨rfl, rfl, rfl, rfl⟩, trivial⟩, ⟨⟨rfl, ⟨[], (List.append_nil _).symm⟩, nofun⟩, trivial⟩, rfl, rfl⟩
  · exfalso
    have h : decide (IntKind.i64.wrap ((n : Int) - IntKind.i64.wrap ((0 : Int) - 0)) > 0) = false := h
    rw [w1] at h
    simp at h
    omega
abbrev Ess (ls : List (List Ent)) : V := .d (.l (.sl 1 (ls.map fun l => [L.sl 5 (El l)])))
theorem flat_take (ls : List (List Ent)) (k : Nat) (h : k < ls.length) : (ls.take (k + 1)).flatten = (ls.take k).flatten ++ ls[k] := by
  rw [List.take_succ_eq_append_getElem h, List.flatten_append]; simp
theorem flat_le (ls : List (List Ent)) (k : Nat) : (ls.take k).flatten.length ≤ ls.flatten.length := by
  have : ls.flatten = (ls.take k).flatten ++ (ls.drop k).flatten := by rw [← List.flatten_append, List.take_append_drop]
  rw [this, List.length_append]; omega
set_option maxHeartbeats 2000000 in
theorem concat_ok (ls : List (List Ent)) (h : ls.flatten.length ≤ 100000) (hl : ls.length ≤ 1000) : M 32 [Ess ls] (Es ls.flatten) := by
  have hll : (ls.map fun l => [L.sl 5 (El l)]).length = ls.length := by simp
  have hget : ∀ k (hk : k < ls.length), (ls.map fun l => [L.sl 5 (El l)])[k]? = some [L.sl 5 (El ls[k])] := fun k hk => by simp [hk]
  have hfin := El_length ls.flatten
  refine go32 rfl rfl fun hb => ?_
  refine ⟨Nat, fun k => ⟨[(0, Ess ls), (3, .int (ls.take k).flatten.length), (9, Ess ls), (10, .int ls.length), (11, .int k)], ⟨[], [], 900000, 0⟩⟩, fun k => k ≤ ls.length, fun k => ls.length - k, 0, Nat.zero_le _, ?_, ?_⟩
  · exact ⟨⟨L.le_refl _, L.le_refl _, L.le_refl _, L.le_of_eq (by rw [hll]), L.le_refl _, trivial⟩, trivial, rfl, rfl⟩
  rintro k hk _
  have hk : k ≤ ls.length := hk
  have inc : IntKind.i64.wrap ((k : Int) + 1) = ((k + 1 : Nat) : Int) := by rw [wrap64 (by omega) (by omega)]; simp
  have hle := flat_le ls k
  refine ⟨fun hc => ?_, fun hc => ?_⟩
  · have hlt : k < ls.length := by simpa using hc
    have hel := El_length ls[k]
    have hsu := congrArg List.length (flat_take ls k hlt)
    rw [List.length_append] at hsu
    have hle2 := flat_le ls (k + 1)
    have w1 : IntKind.i64.wrap (((ls.take k).flatten.length : Int) + ((El ls[k]).length : Int)) = ((ls.take (k + 1)).flatten.length : Nat) := by rw [hel, wrap64 (by omega) (by omega)]; omega
    refine ⟨_, ⟨k, rfl, hget k hlt⟩, ?_⟩
    refine ⟨fun h => ?_, fun _ => ?_⟩
    · exfalso
      have h : decide (IntKind.i64.wrap (((ls.take k).flatten.length : Int) + ((El ls[k]).length : Int)) < 0) = true := h
      rw [w1] at h
      simp at h
      omega
    refine ⟨k + 1, hlt, by show ls.length - (k + 1) < ls.length - k; omega, ?_⟩
    exact ⟨⟨L.le_refl _, L.le_of_eq (congrArg L.int w1), L.le_refl _, L.le_refl _, L.le_of_eq (congrArg L.int inc), trivial⟩, trivial, rfl, rfl⟩
  have hge : k = ls.length := by
    have : ¬ k < ls.length := by simpa using hc
    omega
  have hall : ls.take k = ls := by rw [hge, List.take_length]
  obtain ⟨n, hn⟩ : ∃ n, n = ls.flatten.length := ⟨_, rfl⟩
  rcases Nat.eq_zero_or_pos n with h0 | h0
  · have hz : M 59 [.d (.l .nil), .int ((ls.take k).flatten.length : Nat)] (.d (.l .nil)) := by rw [hall, ← hn, h0]; exact grow0_ok
    refine ⟨_, _, hz, ?_⟩
    refine ⟨Nat, fun i => ⟨[(6, .own 950000 5 (El (ls.take i).flatten)), (25, Ess ls), (26, .int ls.length), (27, .int i)], ⟨[], [950000], 900000, 0⟩⟩, fun i => i ≤ ls.length, fun i => ls.length - i, 0, Nat.zero_le _, ?_, ?_⟩
    · exact ⟨⟨rfl, L.le_refl _, L.le_of_eq (by rw [hll]), L.le_refl _, trivial⟩, trivial, rfl, rfl⟩
    rintro i hi _
    have hi : i ≤ ls.length := hi
    have inci : IntKind.i64.wrap ((i : Int) + 1) = ((i + 1 : Nat) : Int) := by rw [wrap64 (by omega) (by omega)]; simp
    have hm := El_length (ls.take i).flatten
    have hmn := flat_le ls i
    refine ⟨fun hc2 => ?_, fun hc2 => ?_⟩
    · have hlt : i < ls.length := by simpa using hc2
      have hel := El_length ls[i]
      have hft := flat_take ls i hlt
      have hsu := congrArg List.length hft
      rw [List.length_append] at hsu
      have hle2 := flat_le ls (i + 1)
      refine ⟨_, ⟨i, rfl, hget i hlt⟩, ?_⟩
      refine ⟨by show ((El (ls.take i).flatten).length + (El ls[i]).length) * 72 ≤ _; omega, ?_⟩
      refine ⟨i + 1, hlt, by show ls.length - (i + 1) < ls.length - i; omega, ?_⟩
      refine ⟨⟨⟨rfl, L.le_of_eq (congrArg (L.sl 5) ?_)⟩, L.le_refl _, L.le_refl _, L.le_of_eq (congrArg L.int inci), trivial⟩, trivial, rfl, rfl⟩
      rw [hft, ← El_app]
    · have hie : ls.take i = ls := by
        have : ¬ i < ls.length := by simpa using hc2
        exact List.take_of_length_le (by omega)
      refine ⟨⟨L.le_of_eq (congrArg (L.sl 5) ?_), trivial⟩, trivial, rfl, rfl⟩
      rw [hie]
  · have hz : MM 59 [] [.d (.l .nil), .int ((ls.take k).flatten.length : Nat)] [(100, .arr 5 (List.replicate n zent) false)] (.msl 100 5 0 0) := by rw [hall, ← hn]; exact grow_ok n h0 (by omega)
    refine ⟨_, _, hz, ?_⟩
    refine ⟨Nat, fun i => ⟨[(6, .msl 800000 5 0 (ls.take i).flatten.length), (25, Ess ls), (26, .int ls.length), (27, .int i)], ⟨[(800000, .arr 5 (El (ls.take i).flatten ++ List.replicate (n - (ls.take i).flatten.length) zent) false)], [], 700000, 0⟩⟩, fun i => i ≤ ls.length, fun i => ls.length - i, 0, Nat.zero_le _, ?_, ?_⟩
    · exact ⟨⟨rfl, rfl⟩, ⟨⟨rfl, rfl, rfl, rfl⟩, L.le_refl _, L.le_of_eq (by rw [hll]), L.le_refl _, trivial⟩, ⟨⟨rfl, ⟨[], (List.append_nil _).symm⟩, nofun⟩, trivial⟩, rfl, rfl⟩
    rintro i hi _
    have hi : i ≤ ls.length := hi
    have inci : IntKind.i64.wrap ((i : Int) + 1) = ((i + 1 : Nat) : Int) := by rw [wrap64 (by omega) (by omega)]; simp
    have hm := El_length (ls.take i).flatten
    have hmn := flat_le ls i
    refine ⟨fun hc2 => ?_, fun hc2 => ?_⟩
    · have hlt : i < ls.length := by simpa using hc2
      have hel := El_length ls[i]
      have hft := flat_take ls i hlt
      have hsu := congrArg List.length hft
      rw [List.length_append] at hsu
      have hle2 := flat_le ls (i + 1)
      refine ⟨_, ⟨i, rfl, hget i hlt⟩, ?_⟩
      refine ⟨trivial, .inl ⟨?_, ?_⟩⟩
      · rw [List.length_append, List.length_replicate]; omega
      refine ⟨i + 1, hlt, by show ls.length - (i + 1) < ls.length - i; omega, ?_⟩
      have hbx : (El (ls.take i).flatten ++ List.replicate (n - (ls.take i).flatten.length) zent).take (0 + (ls.take i).flatten.length) ++ El ls[i] ++ (El (ls.take i).flatten ++ List.replicate (n - (ls.take i).flatten.length) zent).drop (0 + (ls.take i).flatten.length + (El ls[i]).length) = El (ls.take (i + 1)).flatten ++ List.replicate (n - (ls.take (i + 1)).flatten.length) zent := by
        have e1 : (El (ls.take i).flatten ++ List.replicate (n - (ls.take i).flatten.length) zent).take (0 + (ls.take i).flatten.length) = El (ls.take i).flatten := by rw [List.take_append_of_le_length (by omega), List.take_of_length_le (by omega)]
        have e2 : (El (ls.take i).flatten ++ List.replicate (n - (ls.take i).flatten.length) zent).drop (0 + (ls.take i).flatten.length + (El ls[i]).length) = List.replicate (n - (ls.take (i + 1)).flatten.length) zent := by
          rw [List.drop_append, List.drop_eq_nil_of_le (by omega), List.nil_append, List.drop_replicate]
          congr 1; omega
        rw [e1, e2, hft, ← El_app]
      exact ⟨⟨⟨rfl, rfl, rfl, show (ls.take i).flatten.length + (El ls[i]).length = (ls.take (i + 1)).flatten.length by omega⟩, L.le_refl _, L.le_refl _, L.le_of_eq (congrArg L.int inci), trivial⟩, ⟨⟨rfl, ⟨[], hbx.trans (List.append_nil _).symm⟩, nofun⟩, trivial⟩, rfl, rfl⟩
    · have hie : ls.take i = ls := by
        have : ¬ i < ls.length := by simpa using hc2
        exact List.take_of_length_le (by omega)
      rw [hie] at hm
      refine ⟨⟨⟨_, ⟨rfl, _, rfl⟩, ?_, ?_⟩, trivial⟩, trivial, rfl, rfl⟩
      · show 0 + (ls.take i).flatten.length ≤ (El (ls.take i).flatten ++ List.replicate (n - (ls.take i).flatten.length) zent).length
        rw [List.length_append, hie, hm]; omega
      · refine L.le_of_eq (congrArg (L.sl 5) ?_)
        show ((El (ls.take i).flatten ++ List.replicate (n - (ls.take i).flatten.length) zent).drop 0).take (ls.take i).flatten.length = El ls.flatten
        rw [hie, List.drop_zero, List.take_append_of_le_length (by omega), List.take_of_length_le (by omega)]
set_option maxHeartbeats 4000000 in
theorem pput_ok (l es : List Ent) (prev term : Int) (hf : Fit l) (hfe : Fit es) (hp : InR prev) : M 14 [Es l, .int prev, .int term, Es es] (putV (putT l prev term es)) := by
  have hel := El_length l
  have hee := El_length es
  have h400 := hf.1
  obtain ⟨e0, he0⟩ : ∃ e0, e0 = es.getD 0 dent := ⟨_, rfl⟩
  have he0f : FitE e0 := by
    cases es with
    | nil => subst he0; exact ⟨Nat.zero_le _, Nat.zero_le _⟩
    | cons a r =>
      have : e0 = a := he0
      rw [this]; exact hfe.2 a (by simp)
  have hget : 0 < es.length → (El es)[0]? = some e0.L := by
    intro h
    cases es with
    | nil => simp at h
    | cons a r =>
      have : e0 = a := he0
      rw [this]; rfl
  obtain ⟨R, hR⟩ : ∃ R, R = putT l prev term es := ⟨_, rfl⟩
  rw [← hR]
  refine go14 rfl rfl fun hb => ?_
  refine ⟨_, lright_ok l hf, ?_⟩
  refine ⟨_, fun _ => contE_ok es hfe, ?_⟩
  have hbad : ∀ X, cond (cond (!logRight l) true (decide (((El es).length : Int) > 1))) true (es.any fun e => !e.right) = X → (X = true ↔ (logRight l = false ∨ 1 < es.length ∨ (es.length = 1 ∧ e0.right = false))) := by
    rintro _ rfl
    rw [hee, cond_or, cond_or]
    simp only [Bool.or_eq_true, Bool.not_eq_true', decide_eq_true_eq, or_assoc]
    match es, he0 with
    | [], _ => simp
    | [a], h =>
      have : e0 = a := h
      subst this
      simp
    | a :: b :: r, _ => simp; omega
  rw [putT, ← he0] at hR
  refine ⟨fun h => ?_, fun h => ?_⟩
  · rw [if_pos ((hbad _ h).1 rfl)] at hR
    subst hR
    refine ⟨_, pown_ok l hf, ?_⟩
    exact ⟨⟨⟨L.le_refl _, L.le_refl _, L.le_refl _, trivial⟩, trivial⟩, trivial, rfl, rfl⟩
  have h1 : ¬ (logRight l = false ∨ 1 < es.length ∨ (es.length = 1 ∧ e0.right = false)) := fun hc => by
    have := (hbad _ h).2 hc
    cases this
  rw [if_neg h1] at hR
  refine ⟨_, pterm_ok l prev, ?_⟩
  have hmis : ∀ X, cond (!termB l prev) true (termV l prev != term) = X → hasT l prev term = !X := by
    rintro _ rfl
    rw [hasT, cond_or]
    cases termB l prev <;> simp [bne]
    rw [Bool.eq_iff_iff]; simp
  refine ⟨fun h => ?_, fun h => ?_⟩
  · rw [if_pos (show hasT l prev term = false from hmis _ h)] at hR
    subst hR
    refine ⟨_, pown_ok l hf, ?_⟩
    exact ⟨⟨⟨L.le_refl _, L.le_refl _, L.le_refl _, trivial⟩, trivial⟩, trivial, rfl, rfl⟩
  have h2 : hasT l prev term = true := hmis _ h
  rw [if_neg (by rw [h2]; simp)] at hR
  refine ⟨fun h => ?_, fun h => ?_⟩
  · have h3 : es = [] := by
      have : (es.length : Int) = 0 := by simpa [hee] using h
      exact List.eq_nil_of_length_eq_zero (by omega)
    rw [if_pos h3] at hR
    subst hR
    refine ⟨_, pown_ok l hf, ?_⟩
    exact ⟨⟨⟨L.le_refl _, L.le_refl _, L.le_refl _, trivial⟩, trivial⟩, trivial, rfl, rfl⟩
  have h3 : es ≠ [] := by
    rintro rfl
    exact absurd h (by decide)
  rw [if_neg h3] at hR
  have h2' := h2
  rw [hasT, Bool.and_eq_true, termB_iff] at h2'
  obtain ⟨⟨hp0, hpl⟩, _⟩ := h2'
  have hpos := List.length_pos_iff.2 h3
  have hes : es = [e0] := by
    cases es with
    | nil => exact absurd rfl h3
    | cons a r =>
      have h4 : e0 = a := he0
      have : r = [] := by
        cases r with
        | nil => rfl
        | cons _ _ => exfalso; apply h1; right; left; simp
      rw [this, h4]
  have hw : IntKind.i64.wrap (prev + 1) = prev + 1 := wrap64 (by omega) (by omega)
  have hlr : logRight l = true := by
    cases h : logRight l with
    | true => rfl
    | false => exact absurd (.inl h) h1
  have h300 : l.length ≤ 300 := (logRight_iff.1 hlr).1
  have hterm2 : M 8 [Es l, .int (IntKind.i64.wrap (prev + 1))] (.tup [.int (termV l (prev + 1)), .bool (termB l (prev + 1))]) := by rw [hw]; exact pterm_ok l _
  refine ⟨_, hterm2, ?_⟩
  refine ⟨e0.L, fun g1 => ⟨0, rfl, hget hpos⟩, ?_⟩
  have hnx : ∀ X, cond (termB l (prev + 1)) (termV l (prev + 1) == e0.term) false = X → hasT l (prev + 1) e0.term = X := by
    rintro _ rfl
    rw [hasT, cond_and]
    cases termB l (prev + 1) <;> simp
    rw [Bool.eq_iff_iff]; simp
  refine ⟨fun h => ?_, fun h => ?_⟩
  · rw [if_pos (hnx _ h)] at hR
    subst hR
    refine ⟨_, pown_ok l hf, ?_⟩
    exact ⟨⟨⟨L.le_refl _, L.le_of_eq (congrArg L.int hw), L.le_refl _, trivial⟩, trivial⟩, trivial, rfl, rfl⟩
  rw [if_neg (by rw [hnx _ h]; simp)] at hR
  have hfit := fit_cons hf prev.toNat (by omega) he0f
  rw [← hes] at hfit
  refine ⟨prev.toNat, ⟨by omega, by rw [hel]; omega⟩, ?_⟩
  have hcc : M 32 [.d (.l (.sl 1 [[L.sl 5 ((El l).take prev.toNat)], [L.sl 5 (El es)]]))] (Es (l.take prev.toNat ++ es)) := by
    have := concat_ok [l.take prev.toNat, es] (by have := hfit.1; simpa using Nat.le_trans this (by decide)) (by simp)
    rw [El_take]
    have e : [l.take prev.toNat, es].flatten = l.take prev.toNat ++ es := by simp
    rw [e] at this
    exact this
  refine ⟨_, hcc, ?_⟩
  refine ⟨_, pown_ok _ hfit, ?_⟩
  refine ⟨fun h => ?_, fun h => ?_⟩
  · have h4 : prev = 300 := by simpa using h
    rw [if_pos (by omega)] at hR
    subst hR
    refine ⟨_, pown_ok l hf, ?_⟩
    exact ⟨⟨⟨L.le_refl _, L.le_refl _, L.le_refl _, trivial⟩, trivial⟩, trivial, rfl, rfl⟩
  have h4 : ¬ prev = 300 := by simpa using h
  rw [if_neg (by omega)] at hR
  refine ⟨_, lright_ok _ hfit, ?_⟩
  refine ⟨fun h => ?_, fun h => ?_⟩
  · have h5 : logRight (l.take prev.toNat ++ es) = false := by simpa using h
    rw [if_pos h5] at hR
    subst hR
    refine ⟨_, pown_ok l hf, ?_⟩
    exact ⟨⟨⟨L.le_refl _, L.le_refl _, L.le_refl _, trivial⟩, trivial⟩, trivial, rfl, rfl⟩
  · have h5 : ¬ logRight (l.take prev.toNat ++ es) = false := by simpa using h
    rw [if_neg h5] at hR
    subst hR
    exact ⟨⟨⟨L.le_refl _, L.le_of_eq (congrArg L.int hw), L.le_refl _, trivial⟩, trivial⟩, trivial, rfl, rfl⟩
end Go.Proofs.YtelbkabgkcogpaaGreatDoor

set_option linter.unusedVariables false
set_option linter.unusedSimpArgs false
namespace Go.Proofs.YtelbkabgkcogpaaGreatDoor.Abs
open Go

variable {P : Program} {E : Env} {w : World} {g : G}

/-- a world that has more in it -/
theorem more_ok {w' : World} {bxF : Nat → Option Box} {tk : Nat → Bool} {fr : Nat → Prop} {st : Nat} (hH : HOk E w g bxF tk fr st) (hJ : ∀ i w g, E.J i w g) (h1 : w'.os = w.os) (h2 : w'.tape = w.tape) (h3 : w'.output = w.output) (h4 : w.heap.size ≤ w'.heap.size)
    (h5 : ∀ b, b < w.heap.size → w'.heap[b]? = w.heap[b]?) : HOk E w' g bxF tk fr st ∧ EvX w g w' g := by
  have hb : ∀ b o v, w.cell? ⟨b, o, none⟩ = some v → b < w.heap.size := by
    intro b o v h
    refine Nat.lt_of_not_le fun hle => ?_
    rw [World.cell?, Array.getElem?_eq_none hle] at h
    cases h
  have hc : ∀ b o v, Cst w g b o v → Cst w' g b o v := fun b o v ⟨k1, k2⟩ => ⟨by rw [cell_heap (h5 b (hb b o v k1))]; exact k1, k2⟩
  have hs : ∀ b x, w.shape? b = some x → w'.shape? b = some x := by
    intro b x h
    have : b < w.heap.size := by
      refine Nat.lt_of_not_le fun hle => ?_
      rw [World.shape?, Array.getElem?_eq_none hle] at h
      cases h
    rw [shape_heap (h5 b this)]; exact h
  have hp : Pres w g tk w' g tk := ⟨hc, fun _ _ h => h, hs, fun _ h => h, fun k _ k2 => ⟨k2, fun b m hb => ⟨h5 b (hH.size b _ m hb), rfl⟩⟩⟩
  refine ⟨⟨?_, ?_, hH.toks, hH.tkown, hH.bxown, ?_, ?_, hJ _ _ _⟩, ?_⟩
  · intro id B hB
    exact RepBox.keep hp (hH.bx id B hB) fun b k1 k2 => ⟨h5 b (hH.size b _ _ k2), k2⟩
  · intro id b h
    have := hH.ids id b h
    exact ⟨this.1, by omega⟩
  · intro b u m h
    have := hH.size b u m h
    omega
  · intro b cs h
    obtain ⟨⟨e, f, k1⟩, k2⟩ := hH.gl b cs h
    have hlt : b < w.heap.size := (Array.getElem?_eq_some_iff.1 k1).1
    exact ⟨⟨e, f, (h5 b hlt).trans k1⟩, k2⟩
  · exact ⟨h1, h2, h3, h4, hc, hs, fun _ _ _ h => h, fun b k1 k2 => ⟨h5 b k1, k2⟩, fun b u k k1 k2 => ⟨h5 b (hH.size b u k k1), k1⟩, fun b u k k1 k2 => k1⟩

theorem flat_one (l : List Int) : (l.map fun z => [L.int z]).flatten = l.map fun z => L.int z := by
  induction l with
  | nil => rfl
  | cons a l ih => simp [ih]
open Go.Proofs Go.RowKit Go.Shelf Go.Sort in
theorem sortI_meets {ρ : Go.Shelf.Ren} (Ly : Lays.n189 P ρ) {gl : List (Nat × Array Value)} {f : FuncId} (hf : ρ.f 189 = f) (hcall : Callable P f) (l : List Int) (h0 : 0 < l.length) (hb : l.length ≤ 1000000000) (fl : Bool) :
    MeetsB P gl f [(N0, .arr 1 (l.map fun z => [L.int z]) fl)] [.msl N0 1 0 l.length] [(N0, .arr 1 ((l.mergeSort fun x y => decide (x ≤ y)).map fun z => [L.int z]) fl)] (.tup []) := by
  obtain ⟨ys, hys⟩ : ∃ ys, ys = l.mergeSort fun x y => decide (x ≤ y) := ⟨_, rfl⟩
  have hyl : ys.length = l.length := by rw [hys, List.length_mergeSort]
  rw [← hys]
  refine ⟨hcall, List.nodup_nil, fun n w g vals hd hH hs ha => ?_⟩
  obtain ⟨b, c, e, hA⟩ := arr_in (id := N0) (s := 1) (l := l.map fun z => [L.int z]) (f := fl) hH rfl
  have hs1 : vals.size = 1 := hs
  obtain ⟨u, rfl⟩ : ∃ u, vals = #[u] := by
    obtain ⟨l'⟩ := vals
    match l', hs1 with
    | [u], _ => exact ⟨u, rfl⟩
  have hu := ha 0 _ u rfl rfl
  obtain ⟨cap, o, rfl, q1, q2, q3, q4⟩ := arr_msl hA hu
  have ho : o = 0 := by rw [q3 (by omega)]
  subst ho
  have hcs : c.size = cap := by omega
  have hrep : ∀ j (hj : j < l.length), c[j]? = some (.int .i64 l[j]) := by
    intro j hj
    obtain ⟨u, k1, k2⟩ := hA.rep j (L.int l[j]) (by rw [flat_one]; simp [hj])
    cases k2
    exact k1
  have hbl : b < w.heap.size := (Array.getElem?_eq_some_iff.1 hA.hh).1
  have hHo : Go.Sort.Holds (Value.int .i64) w b 0 l.toArray := by
    intro j hj
    have hj : j < l.length := by simpa using hj
    refine ⟨?_, ?_⟩
    · rw [cell_in hA.hh, Nat.zero_add, hrep j hj]
      simp [hj]
    · simp [World.frozen?, hA.hh]
  have hcalls := Any.slices_Sort_int Ly b 0 cap l w hHo hbl (by omega)
  rw [hf] at hcalls
  refine (callsIn_wide (n := n)).2 (hcalls.mono ?_)
  rintro e2 w' ⟨rfl, q, os, rfl⟩
  rw [← hys]
  obtain ⟨c', hc'⟩ : ∃ c' : Array Value, c' = putCells (Value.int .i64) 0 ys.toArray c := ⟨_, rfl⟩
  have hsz' : c'.size = c.size := by rw [hc']; simp [putCells]
  have hget : ∀ j : Nat, j < l.length → c'[j]? = some (.int .i64 (ys.getD j 0)) := by
    intro j hj
    have hjc : j < c.size := by omega
    rw [hc']
    have hjy : j < ys.length := by omega
    simp [putCells, hjc, hjy]
  have hget2 : ∀ (j : Nat) (v : Value), c'[j]? = some v → v.oneCell' = true := by
    intro j v hv
    by_cases hj : j < l.length
    · rw [hget j hj] at hv; cases hv; rfl
    · have hjc : j < c.size := by have := (Array.getElem?_eq_some_iff.1 hv).1; omega
      have : c'[j]? = c[j]? := by
        rw [hc']
        have hjy : ¬ j < ys.length := by omega
        simp [putCells, hjc, hjy]
      rw [this] at hv
      exact hA.one j v hv
  have hyf : ∀ (j : Nat) (x : L), (ys.map fun z => [L.int z]).flatten[j]? = some x → ∃ u, c'[j]? = some u ∧ ∀ w g, RepL w g x u := by
    intro j x hx
    rw [flat_one, List.getElem?_map, Option.map_eq_some_iff] at hx
    obtain ⟨z, hz, rfl⟩ := hx
    have hjy := (List.getElem?_eq_some_iff.1 hz).1
    refine ⟨_, hget j (by omega), fun w g => ?_⟩
    have : ys.getD j 0 = z := by rw [List.getD_eq_getElem?_getD, hz]; rfl
    rw [this]
    exact .lit _ rfl
  have hbox : ∀ {tk' : Nat → Bool} {w2 : World}, w2.heap[b]? = some (.cells c' e (0, 0)) → RepBox w2 g tk' N0 (.arr 1 (ys.map fun z => [L.int z]) fl) := fun hh =>
    ⟨b, c', e, hA.ρ, hA.own, hh, ⟨by simp; omega, fun hfl => by have := hA.full hfl; simp at this ⊢; omega⟩, by simp, fun j x hx => let ⟨u, k1, k2⟩ := hyf j x hx; ⟨u, k1, k2 _ _⟩, hget2⟩
  obtain ⟨hH1, hev1, _⟩ := boxUpd (B' := .arr 1 (ys.map fun z => [L.int z]) fl) (nid := 0) hH hA.ρ hA.own hA.hh hsz' fun hp => hbox (setRow_heap w b c c' e (0, 0) hA.hh)
  have hput : ∀ k : Nat, (putRow (Value.int .i64) (Sort.ahead w q) b 0 ys.toArray).heap[k]? = (w.setRow b c').heap[k]? := by
    intro k
    simp only [putRow, mapBlock, Sort.ahead, Array.getElem?_modify]
    by_cases hk : b = k
    · subst hk
      rw [if_pos rfl, setRow_heap w b c c' e (0, 0) hA.hh, hA.hh]
      simp [onCells, hc']
    · rw [if_neg hk, setRow_other w b k c' (fun h => hk h.symm)]
  have hsz2 : (putRow (Value.int .i64) (Sort.ahead w q) b 0 ys.toArray).heap.size = (w.setRow b c').heap.size := by rw [size_putRow, size_setRow]; rfl
  obtain ⟨hH2, hev2⟩ := more_ok (w' := grow (putRow (Value.int .i64) (Sort.ahead w q) b 0 ys.toArray) os) hH1 (fun _ _ _ => trivial) rfl rfl rfl (by simp [grow, hsz2]) (fun k hk => by
    simp only [grow]
    rw [Array.getElem?_append_left (by omega), hput])
  refine ⟨_, g, rfl, .tup [] #[] rfl (by simp), ⟨?_, fun id b h => ⟨fun h => h, (hH2.ids id b h).2⟩, fun k _ h => h, hH2.tkown, hH2.bxown, hH2.size, hH2.gl, trivial⟩, hev1.trans hev2⟩
  intro id B hB
  have hid : id = N0 ∧ B = .arr 1 (ys.map fun z => [L.int z]) fl := by
    rw [look_cons] at hB
    split at hB
    · rename_i h; cases hB; exact ⟨h.symm, rfl⟩
    · simp [look] at hB
  obtain ⟨rfl, rfl⟩ := hid
  refine hbox ?_
  simp only [grow]
  have hb2 : b < (putRow (Value.int .i64) (Sort.ahead w q) b 0 ys.toArray).heap.size := by rw [size_putRow]; exact hbl
  rw [Array.getElem?_append_left hb2, hput, setRow_heap w b c c' e (0, 0) hA.hh]
open Go.Proofs Go.RowKit Go.Shelf Go.Sort in
theorem sortI_none {ρ : Go.Shelf.Ren} (Ly : Lays.n189 P ρ) {gl : List (Nat × Array Value)} {f : FuncId} (hf : ρ.f 189 = f) (hcall : Callable P f) : MeetsB P gl f [] [.d (.l .nil)] [] (.tup []) := by
  refine ⟨hcall, List.nodup_nil, fun n w g vals hd hH hs ha => ?_⟩
  have hs1 : vals.size = 1 := hs
  obtain ⟨u, rfl⟩ : ∃ u, vals = #[u] := by
    obtain ⟨l'⟩ := vals
    match l', hs1 with
    | [u], _ => exact ⟨u, rfl⟩
  have hu := ha 0 _ u rfl rfl
  cases hu.lit_inv
  have hcalls := Any.slices_Sort_int_none Ly none 0 w
  rw [hf] at hcalls
  refine (callsIn_wide (n := n)).2 (hcalls.mono ?_)
  rintro e2 w' ⟨rfl, rfl⟩
  exact ⟨_, g, rfl, .tup [] #[] rfl (by simp), ⟨fun id B hB => by simp [look] at hB, fun id b h => ⟨fun h => h, (hH.ids id b h).2⟩, fun k _ h => h, hH.tkown, hH.bxown, hH.size, hH.gl, trivial⟩, EvX.refl _ _⟩
end Go.Proofs.YtelbkabgkcogpaaGreatDoor.Abs

set_option linter.unusedVariables false
set_option linter.unusedSimpArgs false
set_option maxRecDepth 100000
namespace Go.Proofs.YtelbkabgkcogpaaGreatDoor
open Go Go.Proofs.YtelbkabgkcogpaaGreatDoor.Abs
def sortRen : Go.Shelf.Ren :=
  {
    f := fun x =>
      match x with
      | 189 => 45
      | 125 => 74
      | 257 => 73
      | 128 => 95
      | 129 => 96
      | 294 => 86
      | 295 => 87
      | 296 => 88
      | 297 => 89
      | 298 => 90
      | 299 => 91
      | 216 => 92
      | 300 => 93
      | 301 => 94
      | 328 => 102
      | 329 => 103
      | 330 => 104
      | 331 => 105
      | 332 => 106
      | 215 => 107
      | 343 => 110
      | n => n,
    t := fun x =>
      match x with
      | 28 => 24
      | 3 => 3
      | 46 => 89
      | 0 => 0
      | 51 => 104
      | 53 => 106
      | 4 => 4
      | 183 => 98
      | 182 => 97
      | 131 => 37
      | 5 => 5
      | 9 => 9
      | 218 => 109
      | 222 => 113
      | 228 => 115
      | 229 => 116
      | n => n,
    g := fun x =>
      x }
open Go.Proofs Go.Shelf in
theorem sortLays : Lays.n189 Tryz.prog sortRen :=
  { mixed := Eq.refl true, f125 := Eq.trans Tryz.func74 (congrArg some (Eq.refl (Body.n125 sortRen))),
    f128 := Eq.trans Tryz.func95 (congrArg some (Eq.refl (Body.n128 sortRen))),
    f129 := Eq.trans Tryz.func96 (congrArg some (Eq.refl (Body.n129 sortRen))),
    f189 := Eq.trans Tryz.func45 (congrArg some (Eq.refl (Body.n189 sortRen))),
    f215 := Eq.trans Tryz.func107 (congrArg some (Eq.refl (Body.n215 sortRen))),
    f216 := Eq.trans Tryz.func92 (congrArg some (Eq.refl (Body.n216 sortRen))),
    f257 := Eq.trans Tryz.func73 (congrArg some (Eq.refl (Body.n257 sortRen))),
    f294 := Eq.trans Tryz.func86 (congrArg some (Eq.refl (Body.n294 sortRen))),
    f295 := Eq.trans Tryz.func87 (congrArg some (Eq.refl (Body.n295 sortRen))),
    f296 := Eq.trans Tryz.func88 (congrArg some (Eq.refl (Body.n296 sortRen))),
    f297 := Eq.trans Tryz.func89 (congrArg some (Eq.refl (Body.n297 sortRen))),
    f298 := Eq.trans Tryz.func90 (congrArg some (Eq.refl (Body.n298 sortRen))),
    f299 := Eq.trans Tryz.func91 (congrArg some (Eq.refl (Body.n299 sortRen))),
    f300 := Eq.trans Tryz.func93 (congrArg some (Eq.refl (Body.n300 sortRen))),
    f301 := Eq.trans Tryz.func94 (congrArg some (Eq.refl (Body.n301 sortRen))),
    f328 := Eq.trans Tryz.func102 (congrArg some (Eq.refl (Body.n328 sortRen))),
    f329 := Eq.trans Tryz.func103 (congrArg some (Eq.refl (Body.n329 sortRen))),
    f330 := Eq.trans Tryz.func104 (congrArg some (Eq.refl (Body.n330 sortRen))),
    f331 := Eq.trans Tryz.func105 (congrArg some (Eq.refl (Body.n331 sortRen))),
    f332 := Eq.trans Tryz.func106 (congrArg some (Eq.refl (Body.n332 sortRen))),
    f343 := Eq.trans Tryz.func110 (congrArg some (Eq.refl (Body.n343 sortRen))), t0 := Tryz.underlying0,
    a0 := Tryz.isAgg0, z0 := Tryz.sizeOf0, v0 := Tryz.zeroValue0, t3 := Tryz.underlying3, a3 := Tryz.isAgg3,
    z3 := Tryz.sizeOf3, v3 := Tryz.zeroValue3, t4 := Tryz.underlying4, a4 := Tryz.isAgg4, z4 := Tryz.sizeOf4,
    v4 := Tryz.zeroValue4, t5 := Tryz.underlying5, a5 := Tryz.isAgg5, z5 := Tryz.sizeOf5, v5 := Tryz.zeroValue5,
    t9 := Tryz.underlying9, a9 := Tryz.isAgg9, z9 := Tryz.sizeOf9, v9 := Tryz.zeroValue9, t28 := Tryz.underlying24,
    a28 := Tryz.isAgg24, z28 := Tryz.sizeOf24, v28 := Tryz.zeroValue24, t46 := Tryz.underlying89, a46 := Tryz.isAgg89,
    z46 := Tryz.sizeOf89, v46 := Tryz.zeroValue89, t51 := Tryz.underlying104, a51 := Tryz.isAgg104, z51 := Tryz.sizeOf104,
    v51 := Tryz.zeroValue104, t53 := Tryz.underlying106, a53 := Tryz.isAgg106, z53 := Tryz.sizeOf106,
    v53 := Tryz.zeroValue106, t131 := Tryz.underlying37, a131 := Tryz.isAgg37, z131 := Tryz.sizeOf37,
    v131 := Tryz.zeroValue37, t182 := Tryz.underlying97, a182 := Tryz.isAgg97, z182 := Tryz.sizeOf97,
    v182 := Tryz.zeroValue97, t183 := Tryz.underlying98, a183 := Tryz.isAgg98, z183 := Tryz.sizeOf98,
    v183 := Tryz.zeroValue98, t218 := Tryz.underlying109, a218 := Tryz.isAgg109, z218 := Tryz.sizeOf109,
    v218 := Tryz.zeroValue109, t222 := Tryz.underlying113, a222 := Tryz.isAgg113, z222 := Tryz.sizeOf113,
    v222 := Tryz.zeroValue113, t228 := Tryz.underlying115, a228 := Tryz.isAgg115, z228 := Tryz.sizeOf115,
    v228 := Tryz.zeroValue115, t229 := Tryz.underlying116, a229 := Tryz.isAgg116, z229 := Tryz.sizeOf116,
    v229 := Tryz.zeroValue116 }

def sortI (l : List Int) : List Int := l.mergeSort fun x y => decide (x ≤ y)
theorem sortI_ok (l : List Int) (h0 : 0 < l.length) (hl : l.length ≤ 1000000) (f : Bool) : MM 45 [(1000000, .arr 1 (Il l) f)] [.msl 1000000 1 0 l.length] [(1000000, .arr 1 (Il (sortI l)) f)] (.tup []) :=
  sortI_meets sortLays rfl ⟨_, Tryz.func45, by decide, rfl⟩ l h0 (by omega) f
theorem sortI0_ok : M 45 [.d (.l .nil)] (.tup []) := sortI_none sortLays rfl ⟨_, Tryz.func45, by decide, rfl⟩

/-! numbers, one by one -/
abbrev iC (l : List Int) : List L := [.sl 1 (Il l)]
abbrev valF (l : List Int) : V := .fn (.func 46) [] [.ep (iC l) 0]
theorem values_ok (l : List Int) : M 26 [Is l] (valF l) := by
  refine go26 rfl rfl fun hb => ?_
  exact ⟨⟨⟨rfl, ⟨rfl, rfl⟩, trivial, ⟨.inr ⟨_, rfl, rfl, _, rfl, rfl⟩, trivial⟩⟩, trivial⟩, trivial, rfl, rfl⟩
def valZ (l : List Int) : List (List D) := l.map fun z => [D.int z]
theorem valZ_len (l : List Int) : (valZ l).length = l.length := by simp [valZ]
theorem valZ_one (l : List Int) : ∀ ds ∈ valZ l, ds.length = 1 := by
  intro ds h
  obtain ⟨z, _, rfl⟩ := List.mem_map.1 h
  rfl
theorem valZ_get {l : List Int} {i : Nat} {ds : List D} (h : (valZ l)[i]? = some ds) : ∃ hi : i < l.length, ds = [D.int l[i]] := by
  rw [valZ, List.getElem?_map, Option.map_eq_some_iff] at h
  obtain ⟨z, hz, rfl⟩ := h
  obtain ⟨hi, rfl⟩ := List.getElem?_eq_some_iff.1 hz
  exact ⟨hi, rfl⟩
theorem values_it (l : List Int) (hl : l.length ≤ 1000000) : N 46 [.ep (iC l) 0] (valZ l) := by
  have hil := Il_length l
  refine it46 rfl fun y hb => ?_
  refine ⟨Nat, fun k => ⟨[(0, .fn (.yield y) [] []), (5, Is l), (6, .int l.length), (7, .int k)], ⟨[], [], 900000, k + 1⟩⟩, fun k => k ≤ l.length, fun k => l.length - k, 0, Nat.zero_le _, ?_, ?_⟩
  · exact ⟨⟨⟨rfl, ⟨rfl, rfl⟩, trivial, trivial⟩, L.le_refl _, L.le_of_eq (congrArg L.int (by rw [hil])), L.le_refl _, trivial⟩, trivial, rfl, rfl⟩
  rintro k hk _
  have hk : k ≤ l.length := hk
  refine ⟨fun hc => ?_, fun hc => ?_⟩
  · have hlt : k < l.length := by simpa using hc
    have inc : IntKind.i64.wrap ((k : Int) + 1) = ((k + 1 : Nat) : Int) := by rw [wrap64 (by omega) (by omega)]; simp
    refine ⟨[L.int l[k]], ⟨k, rfl, by rw [Il_get, List.getElem?_eq_getElem hlt]; rfl⟩, ?_⟩
    refine ⟨⟨rfl, ?_⟩, ?_, ?_⟩
    · show (valZ l)[k]? = _
      rw [valZ, List.getElem?_map, List.getElem?_eq_getElem hlt]; rfl
    · refine ⟨fun h2 => absurd h2 (by decide), fun _ => ?_⟩
      refine ⟨k + 1, hlt, by show l.length - (k + 1) < l.length - k; omega, ?_⟩
      exact ⟨⟨⟨rfl, ⟨rfl, rfl⟩, trivial, trivial⟩, L.le_refl _, L.le_refl _, L.le_of_eq (congrArg L.int inc), trivial⟩, trivial, rfl, rfl⟩
    · exact ⟨fun _ => .inl rfl, fun h2 => absurd h2 (by decide)⟩
  · have hge : k = l.length := by
      have : ¬ k < l.length := by simpa using hc
      omega
    refine .inr ?_
    show k + 1 = (valZ l).length + 1
    rw [hge, valZ_len]
theorem seq0_ok : M 72 [.d (.l .nil), valF []] (.d (.l .nil)) := by
  refine go72 rfl rfl fun hb => ?_
  refine ⟨valZ [], [(2, .ref 999999 0)], fun i => ⟨[(999999, .cells [.d (.l .nil)])], [], 900000, 0⟩, values_it [] (by decide), valZ_one [], rfl, ?_, ?_, ?_⟩
  · exact ⟨⟨⟨rfl, rfl⟩, trivial⟩, ⟨⟨L.le_refl _, trivial⟩, trivial⟩, rfl, rfl⟩
  · intro i ds hz
    obtain ⟨hi, _⟩ := valZ_get hz
    exact absurd hi (Nat.not_lt_zero i)
  · intro _
    exact ⟨⟨L.le_refl _, trivial⟩, trivial, rfl, rfl⟩
def seqH (l : List Int) : Nat → H
  | 0 => ⟨[(999999, .cells [.d (.l .nil)])], [], 900000, 0⟩
  | i + 1 => ⟨[(999999, .cells [.msl 800000 1 0 (i + 1)]), (800000, .arr 1 (Il (l.take (i + 1))) false)], [], 700000, 0⟩
theorem seq_ok (l : List Int) (h0 : 0 < l.length) (hl : l.length ≤ 1000000) : MM 72 [] [.d (.l .nil), valF l] [(100, .arr 1 (Il l) false)] (.msl 100 1 0 l.length) := by
  refine gb72 [(11, 2)] [] rfl rfl fun hb => ?_
  refine ⟨valZ l, [(2, .ref 999999 0)], seqH l, values_it l hl, valZ_one l, rfl, ?_, ?_, ?_⟩
  · exact ⟨⟨⟨rfl, rfl⟩, trivial⟩, ⟨⟨L.le_refl _, trivial⟩, trivial⟩, rfl, rfl⟩
  · intro i ds hz
    obtain ⟨hi, rfl⟩ := valZ_get hz
    cases i with
    | zero =>
      refine ⟨⟨[(7, .int l[0]), (2, .ref 999999 0)], ⟨[(999999, .cells [.d (.l .nil)])], [], 900000, 0⟩⟩, ?_, fun hbd => ?_⟩
      · exact ⟨⟨L.le_refl _, ⟨rfl, rfl⟩, trivial⟩, ⟨⟨L.le_refl _, trivial⟩, trivial⟩, rfl, rfl⟩
      · refine ⟨⟨trivial, Nat.zero_lt_one, by show 1 * 8 ≤ _; decide⟩, ?_⟩
        refine ⟨⟨rfl, rfl⟩, ?_⟩
        refine ⟨⟨⟨rfl, rfl⟩, trivial⟩, ⟨⟨⟨rfl, rfl, rfl, rfl⟩, trivial⟩, ⟨rfl, ⟨[], ?_⟩, nofun⟩, trivial⟩, rfl, rfl⟩
        rw [List.append_nil, List.take_succ_eq_append_getElem hi]; rfl
    | succ i =>
      refine ⟨⟨[(7, .int l[i + 1]), (2, .ref 999999 0)], ⟨[(999999, .cells [.msl 800000 1 0 (i + 1)]), (800000, .arr 1 (Il (l.take (i + 1))) false)], [], 700000, 0⟩⟩, ?_, fun hbd => ?_⟩
      · exact ⟨⟨L.le_refl _, ⟨rfl, rfl⟩, trivial⟩, ⟨⟨⟨rfl, rfl, rfl, rfl⟩, trivial⟩, ⟨rfl, ⟨[], (List.append_nil _).symm⟩, nofun⟩, trivial⟩, rfl, rfl⟩
      · have htl : (Il (l.take (i + 1))).length = i + 1 := by rw [Il_length, List.length_take]; omega
        refine ⟨trivial, .inr (.inr ⟨⟨rfl, by rw [htl]; exact Nat.le_refl _, by show ((i + 1) + 1) * 8 ≤ _; omega⟩, ?_⟩)⟩
        refine ⟨⟨rfl, rfl⟩, ?_⟩
        refine ⟨⟨⟨rfl, rfl⟩, trivial⟩, ⟨⟨⟨rfl, rfl, rfl, rfl⟩, trivial⟩, ⟨rfl, ⟨[], ?_⟩, nofun⟩, trivial⟩, rfl, rfl⟩
        rw [List.append_nil, List.take_succ_eq_append_getElem hi, ← Il_app, List.take_of_length_le (Nat.le_of_eq htl)]; rfl
  · intro _
    obtain ⟨m, hm⟩ : ∃ m, l.length = m + 1 := ⟨l.length - 1, by omega⟩
    rw [valZ_len, hm]
    refine ⟨⟨rfl, rfl⟩, ?_⟩
    refine ⟨⟨⟨rfl, rfl, rfl, rfl⟩, trivial⟩, ⟨⟨rfl, ⟨[], ?_⟩, nofun⟩, trivial⟩, rfl, rfl⟩
    rw [List.append_nil, ← hm, List.take_length]
theorem collect0_ok : M 44 [valF []] (.d (.l .nil)) := by
  refine go44 rfl rfl fun hb => ?_
  refine ⟨_, _, seq0_ok, ?_⟩
  exact ⟨⟨L.le_refl _, trivial⟩, trivial, rfl, rfl⟩
theorem collect_ok (l : List Int) (h0 : 0 < l.length) (hl : l.length ≤ 1000000) : MM 44 [] [valF l] [(100, .arr 1 (Il l) false)] (.msl 100 1 0 l.length) := by
  refine gb44 [] [] rfl rfl fun hb => ?_
  refine ⟨_, _, seq_ok l h0 hl, ?_⟩
  refine ⟨⟨rfl, rfl⟩, ?_⟩
  exact ⟨⟨⟨rfl, rfl, rfl, rfl⟩, trivial⟩, ⟨⟨rfl, ⟨[], (List.append_nil _).symm⟩, nofun⟩, trivial⟩, rfl, rfl⟩
theorem sorted0_ok : M 25 [valF []] (.d (.l .nil)) := by
  refine go25 rfl rfl fun hb => ?_
  refine ⟨_, _, collect0_ok, ?_⟩
  refine ⟨_, _, sortI0_ok, ?_⟩
  exact ⟨⟨L.le_refl _, trivial⟩, trivial, rfl, rfl⟩
theorem sorted_ok (l : List Int) (h0 : 0 < l.length) (hl : l.length ≤ 1000000) : MM 25 [] [valF l] [(100, .arr 1 (Il (sortI l)) false)] (.msl 100 1 0 l.length) := by
  refine gb25 [] [] rfl rfl fun hb => ?_
  refine ⟨_, _, collect_ok l h0 hl, ?_⟩
  refine ⟨_, _, sortI_ok l h0 hl false, ?_⟩
  refine ⟨⟨rfl, rfl⟩, ?_⟩
  exact ⟨⟨⟨rfl, rfl, rfl, rfl⟩, trivial⟩, ⟨⟨rfl, ⟨[], (List.append_nil _).symm⟩, nofun⟩, trivial⟩, rfl, rfl⟩
end Go.Proofs.YtelbkabgkcogpaaGreatDoor

set_option linter.unusedVariables false
set_option linter.unusedSimpArgs false
set_option maxRecDepth 100000
namespace Go.Proofs.YtelbkabgkcogpaaGreatDoor
open Go Go.Proofs.YtelbkabgkcogpaaGreatDoor.Abs
/-- the numbers of the entries of a term, from behind -/
def ofN (l : List Ent) (term : Int) : Nat → List Nat
  | 0 => []
  | n + 1 => if (l.getD n dent).term = term then (n + 1) :: ofN l term n else ofN l term n
theorem ofN_split (l : List Ent) (term : Int) (k : Nat) : ∀ n, k ≤ n → ∃ p, ofN l term n = p ++ ofN l term k
  | 0, h => by
    obtain rfl : k = 0 := by omega
    exact ⟨[], rfl⟩
  | n + 1, h => by
    rcases Nat.lt_or_eq_of_le h with h1 | h1
    · obtain ⟨p, hp⟩ := ofN_split l term k n (by omega)
      rw [ofN, hp]
      split
      · exact ⟨(n + 1) :: p, rfl⟩
      · exact ⟨p, rfl⟩
    · subst h1; exact ⟨[], rfl⟩
abbrev ofC (l : List Ent) (term : Int) : List V := [.ep [.sl 5 (El l)] 0, .ep [.int term] 0]
theorem of_ok (l : List Ent) (term : Int) : M 27 [Es l, .int term] (.fn (.func 47) [] (ofC l term)) := by
  refine go27 rfl rfl fun hb => ?_
  exact ⟨⟨⟨rfl, ⟨rfl, rfl⟩, trivial, ⟨.inr ⟨_, rfl, rfl, _, rfl, rfl⟩, .inr ⟨_, rfl, rfl, _, rfl, rfl⟩, trivial⟩⟩, trivial⟩, trivial, rfl, rfl⟩
def ofZ (l : List Ent) (term : Int) (n : Nat) : List (List D) := (ofN l term n).map fun k => [D.int (k : Nat)]
theorem of_it (l : List Ent) (term : Int) (hl : l.length ≤ 1000000) : N 47 (ofC l term) (ofZ l term l.length) := by
  have hel := El_length l
  have w0 : IntKind.i64.wrap ((l.length : Int) - 1) = (l.length : Int) - 1 := wrap64 (by omega) (by omega)
  refine it47 rfl fun y hb => ?_
  refine ⟨Nat, fun k => ⟨[(0, .fn (.yield y) [] []), (1, .ep [.sl 5 (El l)] 0), (2, .ep [.int term] 0), (4, .int ((k : Int) - 1))], ⟨[], [], 900000, (ofN l term l.length).length - (ofN l term k).length + 1⟩⟩, fun k => k ≤ l.length, fun k => k, l.length, Nat.le_refl _, ?_, ?_⟩
  · exact ⟨⟨⟨rfl, ⟨rfl, rfl⟩, trivial, trivial⟩, .inl rfl, .inl rfl, L.le_of_eq (congrArg L.int (by rw [hel, w0])), trivial⟩, trivial, by show 1 = _ - _ + 1; rw [Nat.sub_self], rfl⟩
  rintro k hk _
  have hk : k ≤ l.length := hk
  refine ⟨fun hc => ?_, fun hc => ?_⟩
  · have hk0 : 0 < k := by have := of_decide_eq_true hc; omega
    obtain ⟨j, rfl⟩ : ∃ j, k = j + 1 := ⟨k - 1, by omega⟩
    have hj : j < l.length := by omega
    obtain ⟨p, hp⟩ := ofN_split l term (j + 1) l.length hk
    have ej : ((j + 1 : Nat) : Int) - 1 = j := by omega
    have w1 : IntKind.i64.wrap (((j + 1 : Nat) : Int) - 1 + 1) = ((j + 1 : Nat) : Int) := by rw [wrap64 (by omega) (by omega)]; omega
    have w2 : IntKind.i64.wrap (((j + 1 : Nat) : Int) - 1 - 1) = (j : Int) - 1 := by rw [wrap64 (by omega) (by omega)]; omega
    refine ⟨l[j].L, ⟨j, ej, by rw [El_get, List.getElem?_eq_getElem hj]; rfl⟩, ?_⟩
    refine ⟨⟨rfl, by kernel_rfl⟩, fun h => ⟨⟨rfl, ?_⟩, ?_, ?_⟩, fun h => ?_⟩
    · have ht : l[j].term = term := eq_of_beq h
      rw [hp, List.length_append, Nat.add_sub_cancel, ofZ, List.getElem?_map, hp, List.getElem?_append_right (Nat.le_refl _), Nat.sub_self, w1, ofN, List.getD_eq_getElem?_getD, List.getElem?_eq_getElem hj, Option.getD_some, if_pos ht]
      rfl
    · refine ⟨rfl, fun h2 => ?_, fun h2 => ?_⟩
      · rw [h] at h2; exact absurd h2 (by decide)
      · have ht : l[j].term = term := eq_of_beq h
        refine ⟨j, by show j ≤ _; omega, Nat.lt_succ_self j, ?_⟩
        refine ⟨⟨⟨rfl, ⟨rfl, rfl⟩, trivial, trivial⟩, .inl rfl, .inl rfl, L.le_of_eq (congrArg L.int w2), trivial⟩, trivial, ?_, rfl⟩
        show (ofN l term l.length).length - (ofN l term (j + 1)).length + 1 + 1 = (ofN l term l.length).length - (ofN l term j).length + 1
        have e1 : (ofN l term (j + 1)).length = (ofN l term j).length + 1 := by
          rw [ofN, List.getD_eq_getElem?_getD, List.getElem?_eq_getElem hj, Option.getD_some, if_pos ht]; rfl
        have e2 := congrArg List.length hp
        rw [List.length_append] at e2
        omega
    · refine ⟨rfl, fun h2 => .inl rfl, fun h2 => ?_⟩
      rw [h] at h2; exact absurd h2 (by decide)
    · have hb : (l[j].term == term) = false := by simpa using h
      refine ⟨rfl, fun h2 => ?_, fun h2 => ?_⟩
      · rw [hb] at h2; exact absurd h2 (by decide)
      · have ht : ¬ l[j].term = term := by simpa using h
        refine ⟨j, by show j ≤ _; omega, Nat.lt_succ_self j, ?_⟩
        refine ⟨⟨⟨rfl, ⟨rfl, rfl⟩, trivial, trivial⟩, .inl rfl, .inl rfl, L.le_of_eq (congrArg L.int w2), trivial⟩, trivial, ?_, rfl⟩
        show (ofN l term l.length).length - (ofN l term (j + 1)).length + 1 = (ofN l term l.length).length - (ofN l term j).length + 1
        have e1 : ofN l term (j + 1) = ofN l term j := by
          rw [ofN, List.getD_eq_getElem?_getD, List.getElem?_eq_getElem hj, Option.getD_some, if_neg ht]
        rw [e1]
  · have hk0 : k = 0 := by have := of_decide_eq_false hc; omega
    subst hk0
    refine .inr ?_
    show (ofN l term l.length).length - 0 + 1 = ((ofN l term l.length).map _).length + 1
    rw [List.length_map, Nat.sub_zero]
end Go.Proofs.YtelbkabgkcogpaaGreatDoor

set_option linter.unusedVariables false
set_option linter.unusedSimpArgs false
set_option maxRecDepth 100000
namespace Go.Proofs.YtelbkabgkcogpaaGreatDoor
open Go Go.Proofs.YtelbkabgkcogpaaGreatDoor.Abs
def majP (acks : List Int) (k : Nat) : Bool := decide (acks.length < 2 * cnt acks k)
theorem agreed_find (l : List Ent) (term : Int) (acks : List Int) : ∀ n, agreedN l term acks n = ((ofN l term n).find? (majP acks)).getD 0
  | 0 => rfl
  | n + 1 => by
    have e : okN l term acks (n + 1) = (decide ((l.getD n dent).term = term) && majP acks (n + 1)) := rfl
    rw [agreedN, ofN, agreed_find l term acks n, e]
    by_cases h1 : (l.getD n dent).term = term
    · rw [if_pos h1, List.find?_cons]
      cases h2 : majP acks (n + 1) with
      | true => rw [if_pos (by simpa using h1)]; rfl
      | false => rw [if_neg (by simp)]
    · rw [if_neg h1, if_neg (by rw [Bool.and_eq_true, decide_eq_true_eq]; exact fun hc => h1 hc.1)]
theorem sortI_perm (l : List Int) : (sortI l).Perm l := List.mergeSort_perm l _
theorem sortI_len (l : List Int) : (sortI l).length = l.length := (sortI_perm l).length_eq
theorem sortI_pw (l : List Int) : (sortI l).Pairwise (· ≤ ·) := by
  have := List.pairwise_mergeSort (le := fun x y : Int => decide (x ≤ y)) (fun a b c h1 h2 => by simp at *; omega) (fun a b => by simp; omega) l
  exact this.imp (fun h => by simpa using h)
theorem agreed0_ok (l : List Ent) (term : Int) : M 12 [Es l, .int term, Is []] (.int 0) := by
  refine go12 rfl rfl fun hb => ?_
  refine ⟨_, values_ok [], ?_⟩
  refine ⟨_, _, sorted0_ok, ?_⟩
  refine ⟨fun _ => ?_, fun h => absurd h (by decide)⟩
  exact ⟨⟨L.le_refl _, trivial⟩, trivial, rfl, rfl⟩
theorem agreedC_ok (l : List Ent) (term : Int) (acks : List Int) (hl : l.length ≤ 1000000) (h0 : 0 < acks.length) (ha : acks.length ≤ 1000000) : M 12 [Es l, .int term, Is acks] (.int (agreedL l term acks)) := by
  have w1 : IntKind.i64.wrap ((acks.length : Int) - 1) = ((acks.length - 1 : Nat) : Int) := by rw [wrap64 (by omega) (by omega)]; omega
  obtain ⟨q, hq⟩ : ∃ q, q = (acks.length - 1) / 2 := ⟨_, rfl⟩
  have hsl := sortI_len acks
  have hql : q < (sortI acks).length := by omega
  refine go12 rfl rfl fun hb => ?_
  refine ⟨_, values_ok acks, ?_⟩
  refine ⟨_, _, sorted_ok acks h0 ha, ?_⟩
  refine ⟨fun h => ?_, fun _ => ?_⟩
  · exfalso
    have : (acks.length : Int) = 0 := eq_of_beq h
    omega
  refine ⟨⟨rfl, by decide⟩, q, ⟨?_, by omega⟩, ?_⟩
  · rw [w1]
    show IntKind.i64.wrap (((acks.length - 1 : Nat) : Int).tdiv ((2 : Nat) : Int)) = _
    rw [← Int.ofNat_tdiv, wrap64 (by omega) (by omega), hq]
  obtain ⟨most, hmost⟩ : ∃ most, most = (sortI acks)[q] := ⟨_, rfl⟩
  have hmaj : ∀ k : Nat, decide ((k : Int) ≤ most) = majP acks k := by
    intro k
    have h1 := cnt_sorted (sortI_pw acks) (by omega) k
    have e : (sortI acks)[((sortI acks).length - 1) / 2]'(by omega) = most := by rw [hmost]; congr 1; rw [hsl, hq]
    rw [e, cnt_perm (sortI_perm acks), hsl] at h1
    rw [majP]
    exact decide_eq_decide.2 h1
  refine ⟨[L.int most], by show (Il (sortI acks))[0 + q]? = _; rw [Nat.zero_add, Il_get, List.getElem?_eq_getElem hql, hmost]; rfl, ?_⟩
  refine ⟨_, of_ok l term, ?_⟩
  obtain ⟨ns, hns⟩ : ∃ ns, ns = ofN l term l.length := ⟨_, rfl⟩
  obtain ⟨F, hF⟩ : ∃ F, F = ns.findIdx (majP acks) := ⟨_, rfl⟩
  have hag : agreedL l term acks = (ns.find? (majP acks)).getD 0 := by rw [agreedL, agreed_find, hns]
  obtain ⟨bad, hbad⟩ : ∃ bad : Nat → List (List L), bad = fun i => if i ≤ F then Il (sortI acks) else List.replicate (2 ^ 63) [] := ⟨_, rfl⟩
  have hgood : ∀ i, i ≤ F → bad i = Il (sortI acks) := fun i h => by rw [hbad]; exact if_pos h
  have hbadF : ∀ i, (bad i).length ≤ 2 ^ 63 - 1 → i ≤ F := by
    intro i h
    rcases Nat.lt_or_ge F i with h1 | h1
    · have e : bad i = List.replicate (2 ^ 63) [] := by rw [hbad]; exact if_neg (by omega)
      rw [e, List.length_replicate] at h
      omega
    · exact h1
  refine ⟨ofZ l term l.length, [(6, .ref 999999 0), (8, .ref 999997 0)], fun i => ⟨[(999999, .cells [.int 0]), (999997, .cells [.int most]), (999998, .arr 1 (bad i) false)], [], 900000, 0⟩, of_it l term hl, ?_, rfl, ?_, ?_, ?_⟩
  · intro ds h
    obtain ⟨k, _, rfl⟩ := List.mem_map.1 h
    rfl
  · refine ⟨⟨⟨rfl, rfl⟩, ⟨rfl, rfl⟩, trivial⟩, ⟨⟨L.le_refl _, trivial⟩, ⟨L.le_refl _, trivial⟩, ⟨rfl, ⟨[], ?_⟩, nofun⟩, trivial⟩, rfl, rfl⟩
    show Il (sortI acks) = bad 0 ++ []
    rw [hgood 0 (Nat.zero_le _), List.append_nil]
  · intro i ds hz
    rw [ofZ, List.getElem?_map, Option.map_eq_some_iff, ← hns] at hz
    obtain ⟨n, hn, rfl⟩ := hz
    obtain ⟨hi, hni⟩ := List.getElem?_eq_some_iff.1 hn
    refine ⟨⟨[(26, .int (n : Nat)), (6, .ref 999999 0), (8, .ref 999997 0)], ⟨[(999999, .cells [.int 0]), (999997, .cells [.int most]), (999998, .arr 1 (bad i) false)], [], 900000, 0⟩⟩, ?_, fun hbd => ?_⟩
    · exact ⟨⟨L.le_refl _, ⟨rfl, rfl⟩, ⟨rfl, rfl⟩, trivial⟩, ⟨⟨L.le_refl _, trivial⟩, ⟨L.le_refl _, trivial⟩, ⟨rfl, ⟨[], (List.append_nil _).symm⟩, nofun⟩, trivial⟩, rfl, rfl⟩
    · have hiF : i ≤ F := hbadF i (hbd.2 999998 _ rfl)
      refine ⟨fun h => ?_, fun h => ?_⟩
      · have hp : majP acks n = true := by rw [← hmaj]; exact h
        have hsome : ns.find? (majP acks) = some n := by
          rw [List.find?_eq_some_iff_getElem]
          refine ⟨hp, i, hi, hni, fun j hj => ?_⟩
          have := List.not_of_lt_findIdx (p := majP acks) (xs := ns) (i := j) (by omega)
          simpa using this
        refine ⟨⟨[(6, .ref 999999 0)], ⟨[(999999, .cells [.int (n : Nat)])], [], 900000, 0⟩⟩, ?_, rfl, ?_⟩
        · exact ⟨⟨⟨rfl, rfl⟩, trivial⟩, ⟨⟨L.le_refl _, trivial⟩, trivial⟩, rfl, rfl⟩
        · rw [hag, hsome]
          exact ⟨⟨L.le_refl _, trivial⟩, trivial, rfl, rfl⟩
      · have hp : majP acks n = false := by rw [← hmaj]; exact h
        have hi1 : i + 1 ≤ F := by
          rcases Nat.lt_or_eq_of_le hiF with h1 | h1
          · exact h1
          · exfalso
            have hlt : ns.findIdx (majP acks) < ns.length := by omega
            have h2 := List.findIdx_getElem (w := hlt)
            have e : ns[ns.findIdx (majP acks)] = n := by rw [← hni]; congr 1; omega
            rw [e, hp] at h2
            cases h2
        refine ⟨⟨⟨rfl, rfl⟩, ⟨rfl, rfl⟩, trivial⟩, ⟨⟨L.le_refl _, trivial⟩, ⟨L.le_refl _, trivial⟩, ⟨rfl, ⟨[], ?_⟩, nofun⟩, trivial⟩, rfl, rfl⟩
        rw [hgood i hiF, hgood (i + 1) hi1, List.append_nil]
  · intro hbd
    have hiF : ns.length ≤ F := by
      have := hbadF _ (hbd.2 999998 _ rfl)
      rwa [ofZ, List.length_map, ← hns] at this
    have hnone : ns.find? (majP acks) = none := by
      rw [List.find?_eq_none]
      intro x hx hc
      have := List.findIdx_lt_length_of_exists ⟨x, hx, hc⟩
      omega
    rw [hag, hnone]
    exact ⟨⟨L.le_refl _, trivial⟩, trivial, rfl, rfl⟩
theorem agreed_ok (l : List Ent) (term : Int) (acks : List Int) (hl : l.length ≤ 1000000) (ha : acks.length ≤ 1000000) : M 12 [Es l, .int term, Is acks] (.int (agreedL l term acks)) := by
  cases acks with
  | nil => rw [agreedL_nil]; exact agreed0_ok l term
  | cons a acks => exact agreedC_ok l term (a :: acks) hl (Nat.succ_pos _) ha
end Go.Proofs.YtelbkabgkcogpaaGreatDoor

set_option linter.unusedVariables false
set_option linter.unusedSimpArgs false
set_option maxRecDepth 100000
namespace Go.Proofs.YtelbkabgkcogpaaGreatDoor
open Go Go.Proofs.YtelbkabgkcogpaaGreatDoor.Abs
theorem le_sl {s : Nat} {l l' : List (List L)} (h1 : l.length = l'.length) (h2 : ∀ y ∈ l', y.length = s) (h3 : leLs l.flatten l'.flatten) : L.le (.sl s l) (.sl s l') := fun w g val h => by
  obtain ⟨e, hle⟩ := leLs_spec h3
  cases h with
  | sl s l a cap b off f ha hn hl hb hs hc hr =>
    have key : ∀ (j : Nat) (x : L), l'.flatten[j]? = some x → ∃ y, l.flatten[j]? = some y ∧ L.le y x := by
      intro j x hx
      have hj : j < l'.flatten.length := (List.getElem?_eq_some_iff.1 hx).1
      have hj2 : j < l.flatten.length := by omega
      exact ⟨_, List.getElem?_eq_getElem hj2, hle j _ _ (List.getElem?_eq_getElem hj2) hx⟩
    rw [h1]
    refine .sl s l' a cap b off f (fun h => ha fun h0 => h ?_) hn (by omega) (by omega) h2 ?_ ?_
    · subst h0; exact List.length_eq_zero_iff.1 h1.symm
    · intro j x hx
      obtain ⟨y, hy, _⟩ := key j x hx
      exact hc j y hy
    · intro j x hx
      obtain ⟨y, hy, hl⟩ := key j x hx
      exact hl w g _ (hr j y hy)
abbrev nilE (a b : Int) : List L := [L.int a, L.int b, L.int 0, L.nil, L.nil]
theorem le_one (a b : Int) : L.le (.sl 5 [nilE a b]) (.sl 5 (El [⟨a, b, 0, [], []⟩])) :=
  le_sl rfl (by simp [El]) ⟨L.le_refl _, L.le_refl _, L.le_refl _, L.le_nil 1, L.le_nil 7, trivial⟩
abbrev ga : Ent := ⟨1, 1, 0, [], []⟩
abbrev gb : Ent := ⟨2, 2, 0, [], []⟩
abbrev gc : Ent := ⟨2, 3, 0, [], []⟩
theorem aw1 : putT [] 0 0 [ga] = ([ga], 1, 0) := by rfl
theorem aw2 : putT [ga] 1 1 [gb] = ([ga, gb], 2, 0) := by rfl
theorem aw3 : putT [ga, gb] 2 2 [gc] = ([ga, gb, gc], 3, 0) := by rfl
theorem aw4 : putT [ga, gb] 3 2 [] = ([ga, gb], 0, 41) := by rfl
theorem aw5 : putT [ga, gb] 0 0 [gb] = ([gb], 1, 0) := by rfl
theorem aw6 : termV [ga, gb, gc] 2 = 2 ∧ termB [ga, gb, gc] 2 = true := ⟨rfl, rfl⟩
theorem aw7 : agreedL [ga, gb, gc] 2 [3, 2, 1] = 2 := by rfl
theorem aw8 : agreedL [ga, gb, gc] 1 [3, 2, 1] = 1 := by rfl
theorem aw9 : commonL [ga, gb, gc] [ga, gb] = 2 := by rfl
theorem aw10 : coversB [ga, gb] 2 2 = true := by rfl
theorem aw11 : coversB [ga, gb] 1 2 = false := by rfl
theorem aw12 : logRight [ga, gb, gc] = true := by rfl
theorem gfit : Fit [ga, gb, gc] := ⟨by decide, by simp [FitE]⟩
theorem gfit2 : Fit [ga, gb] := ⟨by decide, by simp [FitE]⟩
theorem gfit1 (e : Ent) (h : FitE e) : Fit [e] := ⟨by show 1 ≤ _; decide, by simpa using h⟩
theorem gfit0 : Fit [] := ⟨by decide, by simp⟩
theorem fga : Fit [ga] := gfit1 _ (by simp [FitE])
theorem fgb : Fit [gb] := gfit1 _ (by simp [FitE])
theorem fgc : Fit [gc] := gfit1 _ (by simp [FitE])
abbrev oneE (a b : Int) : V := .d (.l (.sl 5 [nilE a b]))
theorem put1_ok : M 14 [.d (.l .nil), .int 0, .int 0, oneE 1 1] (putV ([ga], 1, 0)) := by
  have h := pput_ok [] [ga] 0 0 gfit0 fga (by decide)
  rw [aw1] at h
  exact h.le ⟨leA.l (L.le_nil 5), leA.refl _, leA.refl _, leA.l (le_one 1 1), trivial⟩
theorem put2_ok : M 14 [Es [ga], .int 1, .int 1, oneE 2 2] (putV ([ga, gb], 2, 0)) := by
  have h := pput_ok [ga] [gb] 1 1 fga fgb (by decide)
  rw [aw2] at h
  exact h.le ⟨leA.refl _, leA.refl _, leA.refl _, leA.l (le_one 2 2), trivial⟩
theorem put3_ok : M 14 [Es [ga, gb], .int 2, .int 2, oneE 2 3] (putV ([ga, gb, gc], 3, 0)) := by
  have h := pput_ok [ga, gb] [gc] 2 2 gfit2 fgc (by decide)
  rw [aw3] at h
  exact h.le ⟨leA.refl _, leA.refl _, leA.refl _, leA.l (le_one 2 3), trivial⟩
theorem put4_ok : M 14 [Es [ga, gb], .int 3, .int 2, .d (.l .nil)] (putV ([ga, gb], 0, 41)) := by
  have h := pput_ok [ga, gb] [] 3 2 gfit2 gfit0 (by decide)
  rw [aw4] at h
  exact h.le ⟨leA.refl _, leA.refl _, leA.refl _, leA.l (L.le_nil 5), trivial⟩
theorem put5_ok : M 14 [Es [ga, gb], .int 0, .int 0, oneE 2 2] (putV ([gb], 1, 0)) := by
  have h := pput_ok [ga, gb] [gb] 0 0 gfit2 fgb (by decide)
  rw [aw5] at h
  exact h.le ⟨leA.refl _, leA.refl _, leA.refl _, leA.l (le_one 2 2), trivial⟩
set_option maxHeartbeats 2000000 in
theorem awake_ok : M 4 [] (.bool true) := by
  refine go4 rfl rfl fun hb => ?_
  refine ⟨_, put1_ok, ?_⟩
  refine ⟨_, put2_ok, ?_⟩
  refine ⟨_, put3_ok, ?_⟩
  refine ⟨_, put4_ok, ?_⟩
  refine ⟨_, put5_ok, ?_⟩
  have h6 := pterm_ok [ga, gb, gc] 2
  rw [aw6.1, aw6.2] at h6
  refine ⟨_, h6, ?_⟩
  have h7 := agreed_ok [ga, gb, gc] 2 [3, 2, 1] (by decide) (by decide)
  rw [aw7] at h7
  refine ⟨_, fun _ => h7, ?_⟩
  have h8 := agreed_ok [ga, gb, gc] 1 [3, 2, 1] (by decide) (by decide)
  rw [aw8] at h8
  refine ⟨_, fun _ => h8, ?_⟩
  have h9 := common_ok [ga, gb, gc] [ga, gb] gfit
  rw [aw9] at h9
  refine ⟨_, fun _ => h9, ?_⟩
  have h10 := covers_ok [ga, gb] 2 2
  rw [aw10] at h10
  refine ⟨_, fun _ => h10, ?_⟩
  have h11 := covers_ok [ga, gb] 1 2
  rw [aw11] at h11
  refine ⟨_, fun _ => h11, ?_⟩
  have h12 := lright_ok [ga, gb, gc] gfit
  rw [aw12] at h12
  refine ⟨_, fun _ => h12, ?_⟩
  refine ⟨⟨L.le_of_eq (congrArg L.bool ?_), trivial⟩, trivial, rfl, rfl⟩
  rfl
end Go.Proofs.YtelbkabgkcogpaaGreatDoor

set_option linter.unusedVariables false
set_option linter.unusedSimpArgs false
set_option maxRecDepth 100000
namespace Go.Proofs.YtelbkabgkcogpaaGreatDoor
open Go Go.Proofs.YtelbkabgkcogpaaGreatDoor.Abs
theorem small'_ok (n : Int) : M 84 [.int n] (.bool (small n)) := by
  refine go84 rfl rfl fun hb => ?_
  refine ⟨⟨L.le_of_eq ?_, trivial⟩, trivial, rfl, rfl⟩
  by_cases h : 1 ≤ n <;> simp [h, small]
theorem right'_ok (m : Msg) : M 63 [m.V] (.bool m.right) := by
  refine go63 rfl rfl fun hb => ?_
  refine ⟨_, idRight'_ok m.ext m.n, ?_⟩
  refine ⟨_, fun _ => small'_ok m.inc, ?_⟩
  refine ⟨_, fun _ => small'_ok m.seq, ?_⟩
  refine ⟨_, fun _ => small'_ok m.number, ?_⟩
  refine ⟨⟨L.le_of_eq ?_, trivial⟩, trivial, rfl, rfl⟩
  have : decide (m.sender ≤ 15) = decide (m.sender < 16) := decide_eq_decide.2 (by omega)
  simp only [cond_and, Msg.right, Bool.and_assoc, ge_iff_le, this]
theorem small6_ok (n : Int) : M 60 [.int n] (.bool (small n)) := by
  refine go60 rfl rfl fun hb => ?_
  refine ⟨⟨L.le_of_eq ?_, trivial⟩, trivial, rfl, rfl⟩
  by_cases h : 1 ≤ n <;> simp [h, small]
theorem count'_ok (v : Int) : M 61 [.int v] (.int (listN v).length) := by
  refine go61 rfl rfl fun hb => ?_
  refine ⟨_, list'_ok v, ?_⟩
  exact ⟨⟨L.le_of_eq (by rw [Il_length, listB_len]), trivial⟩, trivial, rfl, rfl⟩
theorem einc'_ok (e : Ent) (node : Int) (hi : e.incs.length ≤ 1000000) : M 62 [e.V, .int node] (incR e node) := by
  have hl16 := listN_len e.mem
  have hlb := listB_len e.mem
  have hil := Il_length e.incs
  have hil2 := Il_length (listB e.mem)
  refine go62 rfl rfl fun hb => ?_
  refine ⟨_, list'_ok e.mem, ?_⟩
  refine ⟨fun h => ?_, fun h => ?_⟩
  · have hn : e.inc node = none := by
      refine inc_none (.inr fun he => ?_)
      have h : (!(((Il (listB e.mem)).length : Int) == ((Il e.incs).length : Int))) = true := h
      rw [hil, hil2, he] at h
      simp at h
    rw [incR, hn]
    exact ⟨⟨⟨L.le_refl _, L.le_refl _, trivial⟩, trivial⟩, trivial, rfl, rfl⟩
  have hl : (listB e.mem).length = e.incs.length := by
    have h : (!(((Il (listB e.mem)).length : Int) == ((Il e.incs).length : Int))) = false := h
    rw [hil, hil2] at h
    have : ((listB e.mem).length : Int) = (e.incs.length : Int) := by simpa using h
    omega
  refine ⟨Nat, fun k => ⟨[(1, .int node), (2, .ref 999999 0), (6, Is (listB e.mem)), (7, .int k)], ⟨[(999999, .cells e.C)], [], 900000, 0⟩⟩, fun k => k ≤ (listB e.mem).length ∧ ∀ j (hj : j < k), ∀ h : j < (listB e.mem).length, ((listB e.mem)[j] == node) = false, fun k => (listB e.mem).length - k, 0, ⟨Nat.zero_le _, fun j hj => absurd hj (Nat.not_lt_zero j)⟩, ?_, ?_⟩
  · exact ⟨⟨L.le_refl _, ⟨rfl, rfl⟩, L.le_refl _, L.le_refl _, trivial⟩, ⟨⟨L.le_refl _, L.le_refl _, L.le_refl _, L.le_refl _, L.le_refl _, trivial⟩, trivial⟩, rfl, rfl⟩
  rintro k ⟨hk, hs⟩ _
  refine ⟨fun hc => ?_, fun hc => ?_⟩
  · have hlt : k < (listB e.mem).length := by simpa [hil2] using hc
    have hlt2 : k < e.incs.length := by omega
    refine ⟨[L.int (listB e.mem)[k]], ⟨k, rfl, by simp [Il_get, hlt]⟩, ?_⟩
    refine ⟨fun he => ?_, fun he => ?_⟩
    · refine ⟨[L.int e.incs[k]], ⟨k, rfl, by simp [Il_get, hlt2]⟩, ?_⟩
      obtain ⟨_, hx⟩ := inc_some (findN_some hlt (fun j hj => hs j hj (by omega)) he) hl
      rw [incR, hx]
      exact ⟨⟨⟨L.le_refl _, L.le_refl _, trivial⟩, trivial⟩, trivial, rfl, rfl⟩
    · refine ⟨k + 1, ⟨hlt, fun j hj h => ?_⟩, by show (listB e.mem).length - (k + 1) < (listB e.mem).length - k; omega, ?_⟩
      · by_cases e1 : j = k
        · subst e1; exact he
        · exact hs j (by omega) h
      · refine ⟨⟨L.le_refl _, ⟨rfl, rfl⟩, L.le_refl _, L.le_of_eq (congrArg L.int ?_), trivial⟩, ⟨⟨L.le_refl _, L.le_refl _, L.le_refl _, L.le_refl _, L.le_refl _, trivial⟩, trivial⟩, rfl, rfl⟩
        rw [wrap64 (by omega) (by omega)]; simp
  · have hge : (listB e.mem).length ≤ k := by
      have : ¬ ((k : Int) < (listB e.mem).length) := by simpa [hil2] using hc
      omega
    have hn : e.inc node = none := inc_none (.inl (by rw [findN_none fun j hj => hs j (by omega) hj]; decide))
    rw [incR, hn]
    exact ⟨⟨⟨L.le_refl _, L.le_refl _, trivial⟩, trivial⟩, trivial, rfl, rfl⟩
set_option maxHeartbeats 1000000 in
theorem eright'_ok (e : Ent) (hi : e.incs.length ≤ 1000000) (hm : e.msgs.length ≤ 1000000) : M 34 [e.V] (.bool e.right) := by
  have hl16 := listN_len e.mem
  have hil := Il_length e.incs
  have hml := Ml_length e.msgs
  refine go34 rfl rfl fun hb => ?_
  refine ⟨_, small6_ok e.term, ?_⟩
  refine ⟨_, fun _ => small6_ok e.epoch, ?_⟩
  refine ⟨_, fun _ => count'_ok e.mem, ?_⟩
  refine ⟨rfl, ?_⟩
  have hbase : ∀ X, cond (cond (cond (cond (!small e.term) true (!small e.epoch)) true (decide (e.mem < 0))) true (decide (e.mem > 65535))) true (!(((Il e.incs).length : Int) == ((listN e.mem).length : Int))) = X → e.base = (!X && e.incs.all small) := by
    rintro _ rfl
    rw [hil, Ent.base]
    have e1 : (((e.incs.length : Int) == ((listN e.mem).length : Int))) = decide (e.incs.length = (listN e.mem).length) := by rw [Bool.eq_iff_iff]; simp; omega
    have e2 : decide (e.mem < 0) = !decide (0 ≤ e.mem) := by rw [Bool.eq_iff_iff]; simp
    have e3 : decide (e.mem > 65535) = !decide (e.mem < 65536) := by rw [Bool.eq_iff_iff]; simp; omega
    rw [e1, e2, e3]
    cases small e.term <;> cases small e.epoch <;> cases decide (0 ≤ e.mem) <;> cases decide (e.mem < 65536) <;> cases decide (e.incs.length = (listN e.mem).length) <;> cases e.incs.all small <;> rfl
  refine ⟨fun h => ?_, fun h => ?_⟩
  · refine ⟨⟨L.le_of_eq (congrArg L.bool ?_), trivial⟩, trivial, rfl, rfl⟩
    have h2 := hbase true h
    rw [Ent.right, h2]; rfl
  have hbase2 : e.base = e.incs.all small := by
    have h2 := hbase false h
    rw [h2]; simp
  have hC : ∀ {fz : Fz}, leVs fz e.C e.C := ⟨L.le_refl _, L.le_refl _, L.le_refl _, L.le_refl _, L.le_refl _, trivial⟩
  refine ⟨Nat, fun k => ⟨[(1, .ref 999999 0), (3, .int k)], ⟨[(999999, .cells e.C)], [], 900000, 0⟩⟩, fun k => k ≤ e.incs.length ∧ ∀ j (h : j < e.incs.length), j < k → small e.incs[j] = true, fun k => e.incs.length - k, 0, ⟨Nat.zero_le _, fun j h hj => absurd hj (Nat.not_lt_zero j)⟩, ?_, ?_⟩
  · exact ⟨⟨⟨rfl, rfl⟩, L.le_refl _, trivial⟩, ⟨hC, trivial⟩, rfl, rfl⟩
  rintro k ⟨hk, hs⟩ _
  refine ⟨fun hc => ?_, fun hc => ?_⟩
  · have hlt : k < e.incs.length := by simpa [hil] using hc
    refine ⟨[L.int e.incs[k]], ⟨k, rfl, by simp [Il_get, hlt]⟩, ?_⟩
    refine ⟨_, small6_ok e.incs[k], ?_⟩
    refine ⟨fun hq => ?_, fun hq => ?_⟩
    · refine ⟨⟨L.le_of_eq (congrArg L.bool ?_), trivial⟩, trivial, rfl, rfl⟩
      have hq : small e.incs[k] = false := by simpa using hq
      have : e.incs.all small = false := List.all_eq_false.2 ⟨_, List.getElem_mem hlt, by simp [hq]⟩
      rw [Ent.right, hbase2, this]; rfl
    · have hq : small e.incs[k] = true := by simpa using hq
      refine ⟨k + 1, ⟨hlt, fun j h hj => ?_⟩, by show e.incs.length - (k + 1) < e.incs.length - k; omega, ?_⟩
      · by_cases e1 : j = k
        · subst e1; exact hq
        · exact hs j h (by omega)
      · refine ⟨⟨⟨rfl, rfl⟩, L.le_of_eq (congrArg L.int ?_), trivial⟩, ⟨hC, trivial⟩, rfl, rfl⟩
        rw [wrap64 (by omega) (by omega)]; simp
  have hge : e.incs.length ≤ k := by
    have : ¬ ((k : Int) < e.incs.length) := by simpa [hil] using hc
    omega
  have hbs : e.base = true := by
    rw [hbase2, List.all_eq_true]
    intro x hx
    obtain ⟨j, hj, rfl⟩ := List.getElem_of_mem hx
    exact hs j hj (by omega)
  refine ⟨Nat, fun k => ⟨[(1, .ref 999999 0), (4, .int k)], ⟨[(999999, .cells e.C)], [], 850000, 0⟩⟩, fun k => k ≤ e.msgs.length ∧ ∀ j, j < k → msgAt e j = true, fun k => e.msgs.length - k, 0, ⟨Nat.zero_le _, fun j hj => absurd hj (Nat.not_lt_zero j)⟩, ?_, ?_⟩
  · exact ⟨⟨⟨rfl, rfl⟩, L.le_refl _, trivial⟩, ⟨hC, trivial⟩, rfl, rfl⟩
  rintro k ⟨hk, hs⟩ _
  refine ⟨fun hc => ?_, fun hc => ?_⟩
  · have hlt : k < e.msgs.length := by simpa [hml] using hc
    obtain ⟨m, hmk⟩ : ∃ m, m = e.msgs[k] := ⟨_, rfl⟩
    have hat := msgAt_not hlt
    rw [← hmk] at hat
    refine ⟨m.L, ⟨k, rfl, by rw [Ml_get, List.getElem?_eq_getElem hlt, hmk]; rfl⟩, ?_⟩
    refine ⟨_, einc'_ok e m.sender hi, ?_⟩
    refine ⟨_, right'_ok m, ?_⟩
    have hw1 : 0 < k → IntKind.i64.wrap ((k : Int) - 1) = ((k - 1 : Nat) : Int) := fun h => by rw [wrap64 (by omega) (by omega)]; omega
    refine ⟨(e.msgs.getD (k - 1) dmsg).L, fun g1 g2 => ⟨k - 1, hw1 (by simpa using g2), ?_⟩, ?_⟩
    · have g2 : 0 < k := by simpa using g2
      have : k - 1 < e.msgs.length := by omega
      simp [Ml_get, this, List.getD_eq_getElem?_getD]
    refine ⟨_, fun _ _ => less'_ok (e.msgs.getD (k - 1) dmsg) m, ?_⟩
    refine ⟨rfl, ?_⟩
    have hiff : ∀ X, cond (cond (cond (!m.right) true (!(e.inc m.sender).isSome)) true (!((e.inc m.sender).getD 0 == m.inc))) true (cond (decide ((k : Int) > 0)) (!(e.msgs.getD (k - 1) dmsg).less m) false) = X → msgAt e k = (!X && !((e.msgs.take k).any fun x => x.sender == m.sender)) := by
      rintro _ rfl
      rw [hat, incIs]
      cases hin : e.inc m.sender with
      | none => simp
      | some x =>
        have e1 : decide ((k : Int) > 0) = !decide (k = 0) := by rw [Bool.eq_iff_iff]; simp; omega
        rw [e1]
        simp only [Option.isSome_some, Option.getD_some]
        cases (x == m.inc) <;> cases m.right <;> cases ((e.msgs.take k).any fun x => x.sender == m.sender) <;> cases decide (k = 0) <;> cases (e.msgs.getD (k - 1) dmsg).less m <;> rfl
    refine ⟨fun h => ?_, fun h => ?_⟩
    · refine ⟨⟨L.le_of_eq (congrArg L.bool ?_), trivial⟩, trivial, rfl, rfl⟩
      have h2 := hiff true h
      exact (right_false hlt (by rw [h2]; rfl)).symm
    have hiff2 : msgAt e k = !((e.msgs.take k).any fun x => x.sender == m.sender) := by
      have h2 := hiff false h
      rw [h2]; simp
    refine ⟨Nat, fun j => ⟨[(1, .ref 999999 0), (4, .int k), (5, .ref 849999 0), (8, .int j)], ⟨[(999999, .cells e.C), (849999, .cells [.bool m.ext, .int m.n, .int m.sender, .int m.inc, .int m.seq, .int m.number, .str m.data])], [], 800000, 0⟩⟩, fun j => j ≤ k ∧ ∀ i (hi : i < e.msgs.length), i < j → ¬ e.msgs[i].sender = m.sender, fun j => k - j, 0, ⟨Nat.zero_le _, fun i hi hj => absurd hj (Nat.not_lt_zero i)⟩, ?_, ?_⟩
    · exact ⟨⟨⟨rfl, rfl⟩, L.le_refl _, ⟨rfl, rfl⟩, L.le_refl _, trivial⟩, ⟨hC, ⟨L.le_refl _, L.le_refl _, L.le_refl _, L.le_refl _, L.le_refl _, L.le_refl _, L.le_refl _, trivial⟩, trivial⟩, rfl, rfl⟩
    rintro j ⟨hj, hsj⟩ _
    refine ⟨fun hc => ?_, fun hc => ?_⟩
    · have hjk : j < k := by
        have : (j : Int) < (k : Int) := by simpa using hc
        omega
      have hjl : j < e.msgs.length := by omega
      refine ⟨e.msgs[j].L, ⟨j, rfl, by rw [Ml_get, List.getElem?_eq_getElem hjl]; rfl⟩, ?_⟩
      refine ⟨rfl, ?_⟩
      refine ⟨fun hq => ?_, fun hq => ?_⟩
      · have hq : e.msgs[j].sender = m.sender := by simpa using hq
        refine ⟨⟨L.le_of_eq (congrArg L.bool ?_), trivial⟩, trivial, rfl, rfl⟩
        refine (right_false hlt ?_).symm
        rw [hiff2]
        have : ((e.msgs.take k).any fun x => x.sender == m.sender) = true := List.any_eq_true.2 ⟨e.msgs[j], by
          have : e.msgs[j] = (e.msgs.take k)[j]'(by simp; omega) := by rw [List.getElem_take]
          rw [this]; exact List.getElem_mem _, by simp [hq]⟩
        rw [this]; rfl
      · have hq : ¬ e.msgs[j].sender = m.sender := by simpa using hq
        refine ⟨j + 1, ⟨hjk, fun i hi hij => ?_⟩, by show k - (j + 1) < k - j; omega, ?_⟩
        · by_cases e1 : i = j
          · subst e1; exact hq
          · exact hsj i hi (by omega)
        · refine ⟨⟨⟨rfl, rfl⟩, L.le_refl _, ⟨rfl, rfl⟩, L.le_of_eq (congrArg L.int ?_), trivial⟩, ⟨hC, ⟨L.le_refl _, L.le_refl _, L.le_refl _, L.le_refl _, L.le_refl _, L.le_refl _, L.le_refl _, trivial⟩, trivial⟩, rfl, rfl⟩
          rw [wrap64 (by omega) (by omega)]; simp
    · have hjk : k ≤ j := by
        have : ¬ ((j : Int) < (k : Int)) := by simpa using hc
        omega
      have hok : msgAt e k = true := by
        rw [hiff2]
        cases ha : ((e.msgs.take k).any fun x => x.sender == m.sender) with
        | false => rfl
        | true =>
          obtain ⟨i, hi1, hi2, hi3⟩ := nodup_any ha
          exact absurd hi3 (hsj i hi1 (by omega))
      refine ⟨k + 1, ⟨hlt, fun j hj => ?_⟩, by show e.msgs.length - (k + 1) < e.msgs.length - k; omega, ?_⟩
      · by_cases e1 : j = k
        · subst e1; exact hok
        · exact hs j (by omega)
      · refine ⟨⟨⟨rfl, rfl⟩, L.le_of_eq (congrArg L.int ?_), trivial⟩, ⟨hC, trivial⟩, rfl, rfl⟩
        rw [wrap64 (by omega) (by omega)]; simp
  · have hge : e.msgs.length ≤ k := by
      have : ¬ ((k : Int) < e.msgs.length) := by simpa [hml] using hc
      omega
    refine ⟨⟨L.le_of_eq (congrArg L.bool ?_), trivial⟩, trivial, rfl, rfl⟩
    exact (right_true hbs fun j hj => hs j (by omega)).symm
set_option maxHeartbeats 1000000 in
theorem lright'_ok (l : List Ent) (hf : Fit l) : M 18 [Es l] (.bool (logRight l)) := by
  have hel := El_length l
  obtain ⟨hl, hfe⟩ := hf
  refine go18 rfl rfl fun hb => ?_
  refine ⟨fun h => ?_, fun h => ?_⟩
  · have h : ¬ l.length ≤ 300 := by
      have : (l.length : Int) > 300 := by simpa [hel] using h
      omega
    refine ⟨⟨L.le_of_eq (congrArg L.bool ?_), trivial⟩, trivial, rfl, rfl⟩
    rw [logRight, decide_eq_false h]; rfl
  have h300 : l.length ≤ 300 := by
    have : ¬ (l.length : Int) > 300 := by simpa [hel] using h
    omega
  refine ⟨Nat, fun k => ⟨[(0, Es l), (3, .int k)], ⟨[], [], 900000, 0⟩⟩, fun k => k ≤ l.length ∧ ∀ j, j < k → entAt l j = true, fun k => l.length - k, 0, ⟨Nat.zero_le _, fun j hj => absurd hj (Nat.not_lt_zero j)⟩, ?_, ?_⟩
  · exact ⟨⟨L.le_refl _, L.le_refl _, trivial⟩, trivial, rfl, rfl⟩
  rintro k ⟨hk, hs⟩ _
  refine ⟨fun hc => ?_, fun hc => ?_⟩
  · have hlt : k < l.length := by simpa [hel] using hc
    obtain ⟨e, he⟩ : ∃ e, e = l[k] := ⟨_, rfl⟩
    obtain ⟨p, hp⟩ : ∃ p, p = l.getD (k - 1) dent := ⟨_, rfl⟩
    have hat := entAt_not hlt
    rw [← he, ← hp] at hat
    have hfit := hfe l[k] (List.getElem_mem hlt)
    rw [← he] at hfit
    have hek : (El l)[k]? = some e.L := by rw [El_get, List.getElem?_eq_getElem hlt, he]; rfl
    refine ⟨e.L, ⟨k, rfl, hek⟩, ?_⟩
    refine ⟨_, eright'_ok e (Nat.le_trans hfit.1 (by decide)) (Nat.le_trans hfit.2 (by decide)), ?_⟩
    have hw1 : 0 < k → IntKind.i64.wrap ((k : Int) - 1) = ((k - 1 : Nat) : Int) := fun h => by rw [wrap64 (by omega) (by omega)]; omega
    have hpl : 0 < k → (El l)[k - 1]? = some p.L := fun h => by
      have : k - 1 < l.length := by omega
      rw [hp, El_get, List.getElem?_eq_getElem this]
      simp [List.getD_eq_getElem?_getD, this]
    refine ⟨e.L, fun g1 g2 => ⟨k, rfl, hek⟩, ?_⟩
    refine ⟨p.L, fun g1 g2 => ⟨k - 1, hw1 (by simpa using g2), hpl (by simpa using g2)⟩, ?_⟩
    refine ⟨e.L, fun g1 g2 => ⟨k, rfl, hek⟩, ?_⟩
    refine ⟨p.L, fun g1 g2 => ?_, ?_⟩
    · have hk0 : 0 < k := by
        rcases Nat.eq_zero_or_pos k with h0 | h0
        · subst h0; simp [gdC] at g1
        · exact h0
      exact ⟨k - 1, hw1 hk0, hpl hk0⟩
    refine ⟨rfl, ?_⟩
    have hiff : ∀ X, cond (!e.right) true (cond (decide ((k : Int) > 0)) (cond (decide (e.term < p.term)) true (decide (e.epoch ≤ p.epoch))) false) = X → entAt l k = !X := by
      rintro _ rfl
      rw [hat]
      have e1 : decide ((k : Int) > 0) = !decide (k = 0) := by rw [Bool.eq_iff_iff]; simp; omega
      have e2 : decide (e.term < p.term) = !decide (p.term ≤ e.term) := by rw [Bool.eq_iff_iff]; simp
      have e3 : decide (e.epoch ≤ p.epoch) = !decide (p.epoch < e.epoch) := by rw [Bool.eq_iff_iff]; simp
      rw [e1, e2, e3]
      cases e.right <;> cases decide (k = 0) <;> cases decide (p.term ≤ e.term) <;> cases decide (p.epoch < e.epoch) <;> rfl
    refine ⟨fun h => ?_, fun h => ?_⟩
    · refine ⟨⟨L.le_of_eq (congrArg L.bool ?_), trivial⟩, trivial, rfl, rfl⟩
      exact (log_false hlt (hiff true h)).symm
    · have hok : entAt l k = true := hiff false h
      refine ⟨k + 1, ⟨hlt, fun j hj => ?_⟩, by show l.length - (k + 1) < l.length - k; omega, ?_⟩
      · by_cases e1 : j = k
        · subst e1; exact hok
        · exact hs j (by omega)
      · refine ⟨⟨L.le_refl _, L.le_of_eq (congrArg L.int ?_), trivial⟩, trivial, rfl, rfl⟩
        rw [wrap64 (by omega) (by omega)]; simp
  · have hge : l.length ≤ k := by
      have : ¬ ((k : Int) < l.length) := by simpa [hel] using hc
      omega
    refine ⟨⟨L.le_of_eq (congrArg L.bool ?_), trivial⟩, trivial, rfl, rfl⟩
    rw [log_all fun j hj => hs j (by omega), decide_eq_true h300]
theorem term_ok (l : List Ent) (n : Int) : M 9 [Es l, .int n] (termR l n) := by
  have hel := El_length l
  refine go9 rfl (by rw [termR_toks]; rfl) fun hb => ?_
  have hx400 : (l.length : Int) ≤ 9223372036854775807 := by
    have : Lb (L.sl 5 (El l)) := hb.1 0 _ rfl
    have := this.1
    omega
  refine ⟨fun h => ?_, fun h => ?_⟩
  · have h : n < 0 ∨ l.length < n := by
      rw [cond_or] at h
      simpa [hel] using h
    rw [termR, if_pos h]
    exact ⟨⟨⟨L.le_refl _, L.le_refl _, trivial⟩, trivial⟩, trivial, rfl, rfl⟩
  · have h : ¬ (n < 0 ∨ l.length < n) := by
      rw [cond_or] at h
      simpa [hel] using h
    rw [termR, if_neg h]
    refine ⟨fun h0 => ?_, fun h0 => ?_⟩
    · have h0 : n = 0 := by simpa using h0
      rw [if_pos h0]
      exact ⟨⟨⟨L.le_refl _, L.le_refl _, trivial⟩, trivial⟩, trivial, rfl, rfl⟩
    · have h0 : ¬ n = 0 := by simpa using h0
      rw [if_neg h0]
      have hlt : n.toNat - 1 < l.length := by omega
      refine ⟨(l[n.toNat - 1]).L, ⟨n.toNat - 1, ?_, by rw [El_get, List.getElem?_eq_getElem hlt]; rfl⟩, ?_⟩
      · rw [wrap64 (by omega) (by omega)]; omega
      have : l.getD (n.toNat - 1) dent = l[n.toNat - 1] := by simp [List.getD_eq_getElem?_getD, hlt]
      rw [this]
      exact ⟨⟨⟨L.le_refl _, L.le_refl _, trivial⟩, trivial⟩, trivial, rfl, rfl⟩
theorem own_ok (e : Ent) (he : FitE e) : M 35 [e.V] e.V := by
  have h1 := Il_length e.incs
  have h2 := Ml_length e.msgs
  have he1 := he.1
  have he2 := he.2
  refine go35 rfl rfl fun hb => ?_
  refine ⟨by show (0 + (Il e.incs).length) * 8 ≤ _; omega, ?_⟩
  refine ⟨by show (0 + (Ml e.msgs).length) * 64 ≤ _; omega, ?_⟩
  exact ⟨⟨⟨L.le_refl _, L.le_refl _, L.le_refl _, L.le_refl _, L.le_refl _, trivial⟩, trivial⟩, trivial, rfl, rfl⟩
theorem owns_ok (l : List Ent) (hf : Fit l) : M 33 [Es l] (.own 5 5 (El l)) := by
  have hel := El_length l
  have h400 := hf.1
  refine go33 rfl rfl fun hb => ?_
  refine ⟨Nat, fun k => ⟨[(0, Es l), (3, .own 950000 5 (El (l.take k))), (4, .int k)], ⟨[], [950000], 900000, 0⟩⟩, fun k => k ≤ l.length, fun k => l.length - k, 0, Nat.zero_le _, ?_, ?_⟩
  · exact ⟨⟨L.le_refl _, rfl, L.le_refl _, trivial⟩, trivial, rfl, rfl⟩
  rintro k hk _
  have hk : k ≤ l.length := hk
  have inc : IntKind.i64.wrap ((k : Int) + 1) = ((k + 1 : Nat) : Int) := by rw [wrap64 (by omega) (by omega)]; simp
  refine ⟨fun hc => ?_, fun hc => ?_⟩
  · have hlt : k < l.length := by simpa [hel] using hc
    refine ⟨l[k].L, ⟨k, rfl, by rw [El_get, List.getElem?_eq_getElem hlt]; rfl⟩, ?_⟩
    refine ⟨_, own_ok l[k] (hf.2 _ (List.getElem_mem hlt)), ?_⟩
    refine ⟨by show ((El (l.take k)).length + 1) * 72 ≤ _; rw [El_length, List.length_take]; omega, ?_⟩
    refine ⟨k + 1, hlt, by show l.length - (k + 1) < l.length - k; omega, ?_⟩
    refine ⟨⟨L.le_refl _, ⟨rfl, L.le_of_eq (congrArg (L.sl 5) ?_)⟩, L.le_of_eq (congrArg L.int inc), trivial⟩, trivial, rfl, rfl⟩
    rw [List.take_succ_eq_append_getElem hlt, ← El_app]; rfl
  · have hge : k = l.length := by
      have : ¬ k < l.length := by simpa [hel] using hc
      omega
    have e : l.take k = l := by rw [hge, List.take_length]
    refine ⟨⟨⟨rfl, L.le_of_eq (congrArg (L.sl 5) ?_)⟩, trivial⟩, trivial, rfl, rfl⟩
    rw [e]
theorem term'_ok (l : List Ent) (n : Int) : M 9 [Es l, .int n] (.tup [.int (termV l n), .bool (termB l n)]) := termR_eq l n ▸ term_ok l n
set_option maxHeartbeats 2000000 in
theorem put_ok (l es : List Ent) (prev term : Int) (hf : Fit l) (hfe : Fit es) (hp : InR prev) : M 15 [Es l, .int prev, .int term, Es es] (putV (putT l prev term es)) := by
  have hel := El_length l
  have hee := El_length es
  have h400 := hf.1
  obtain ⟨e0, he0⟩ : ∃ e0, e0 = es.getD 0 dent := ⟨_, rfl⟩
  have he0f : FitE e0 := by
    cases es with
    | nil => subst he0; exact ⟨Nat.zero_le _, Nat.zero_le _⟩
    | cons a r =>
      have : e0 = a := he0
      rw [this]; exact hfe.2 a (by simp)
  have hget : 0 < es.length → (El es)[0]? = some e0.L := by
    intro h
    cases es with
    | nil => simp at h
    | cons a r =>
      have : e0 = a := he0
      rw [this]; rfl
  refine go15 rfl rfl fun hb => ?_
  refine ⟨_, owns_ok l hf, ?_⟩
  refine ⟨_, lright'_ok l hf, ?_⟩
  refine ⟨e0.L, fun g1 g2 => ⟨0, rfl, hget ?_⟩, ?_⟩
  · have : (es.length : Int) = 1 := by simpa [hee] using g2
    omega
  refine ⟨_, fun g1 g2 => eright'_ok e0 (Nat.le_trans he0f.1 (by decide)) (Nat.le_trans he0f.2 (by decide)), ?_⟩
  have hbad : ∀ X, cond (cond (!logRight l) true (decide (((El es).length : Int) > 1))) true (cond (((El es).length : Int) == 1) (!e0.right) false) = X → (X = true ↔ (logRight l = false ∨ 1 < es.length ∨ (es.length = 1 ∧ e0.right = false))) := by
    rintro _ rfl
    rw [hee, cond_or, cond_or, cond_and]
    simp only [Bool.or_eq_true, Bool.and_eq_true, Bool.not_eq_true', decide_eq_true_eq, beq_iff_eq, or_assoc]
    constructor
    · rintro (h | h | ⟨h1, h2⟩)
      · exact .inl h
      · exact .inr (.inl (by omega))
      · exact .inr (.inr ⟨by omega, h2⟩)
    · rintro (h | h | ⟨h1, h2⟩)
      · exact .inl h
      · exact .inr (.inl (by omega))
      · exact .inr (.inr ⟨by omega, h2⟩)
  refine ⟨fun h => ?_, fun h => ?_⟩
  · have h1 := (hbad _ h).1 rfl
    rw [putT, ← he0, if_pos h1]
    exact ⟨⟨⟨L.le_refl _, L.le_refl _, L.le_refl _, trivial⟩, trivial⟩, trivial, rfl, rfl⟩
  have h1 : ¬ (logRight l = false ∨ 1 < es.length ∨ (es.length = 1 ∧ e0.right = false)) := fun hc => by
    have := (hbad _ h).2 hc
    cases this
  rw [putT, ← he0, if_neg h1]
  refine ⟨_, term'_ok l prev, ?_⟩
  have hmis : ∀ X, cond (!termB l prev) true (termV l prev != term) = X → hasT l prev term = !X := by
    rintro _ rfl
    rw [hasT, cond_or]
    cases termB l prev <;> simp [bne]
    rw [Bool.eq_iff_iff]; simp
  refine ⟨fun h => ?_, fun h => ?_⟩
  · rw [if_pos (show hasT l prev term = false from hmis _ h)]
    exact ⟨⟨⟨L.le_refl _, L.le_refl _, L.le_refl _, trivial⟩, trivial⟩, trivial, rfl, rfl⟩
  have h2 : hasT l prev term = true := hmis _ h
  rw [if_neg (by rw [h2]; simp)]
  refine ⟨fun h => ?_, fun h => ?_⟩
  · have h3 : es = [] := by
      have : (es.length : Int) = 0 := by simpa [hee] using h
      exact List.eq_nil_of_length_eq_zero (by omega)
    rw [if_pos h3]
    exact ⟨⟨⟨L.le_refl _, L.le_refl _, L.le_refl _, trivial⟩, trivial⟩, trivial, rfl, rfl⟩
  have h3 : es ≠ [] := by
    rintro rfl
    exact absurd h (by decide)
  rw [if_neg h3]
  have h2' := h2
  rw [hasT, Bool.and_eq_true, termB_iff] at h2'
  obtain ⟨⟨hp0, hpl⟩, _⟩ := h2'
  have hpos := List.length_pos_iff.2 h3
  have hes : es = [e0] := by
    cases es with
    | nil => exact absurd rfl h3
    | cons a r =>
      have h4 : e0 = a := he0
      have : r = [] := by
        cases r with
        | nil => rfl
        | cons _ _ => exfalso; apply h1; right; left; simp
      rw [this, h4]
  have hw : IntKind.i64.wrap (prev + 1) = prev + 1 := wrap64 (by omega) (by omega)
  refine ⟨_, term'_ok l _, ?_⟩
  rw [hw]
  refine ⟨e0.L, fun g1 => ⟨0, rfl, hget hpos⟩, ?_⟩
  have hnx : ∀ X, cond (termB l (prev + 1)) (termV l (prev + 1) == e0.term) false = X → hasT l (prev + 1) e0.term = X := by
    rintro _ rfl
    rw [hasT, cond_and]
    cases termB l (prev + 1) <;> simp
    rw [Bool.eq_iff_iff]; simp
  refine ⟨fun h => ?_, fun h => ?_⟩
  · rw [if_pos (hnx _ h)]
    exact ⟨⟨⟨L.le_refl _, L.le_of_eq (congrArg L.int hw), L.le_refl _, trivial⟩, trivial⟩, trivial, rfl, rfl⟩
  rw [if_neg (by rw [hnx _ h]; simp)]
  refine ⟨fun h => ?_, fun h => ?_⟩
  · have h4 : 300 ≤ prev := by simpa using h
    rw [if_pos h4]
    exact ⟨⟨⟨L.le_refl _, L.le_refl _, L.le_refl _, trivial⟩, trivial⟩, trivial, rfl, rfl⟩
  have h4 : ¬ 300 ≤ prev := by simpa using h
  rw [if_neg h4]
  have hfit := fit_cons hf prev.toNat (by omega) he0f
  refine ⟨prev.toNat, ⟨by omega, by rw [hel]; omega⟩, ?_⟩
  rw [El_take]
  refine ⟨_, owns_ok (l.take prev.toNat) (hf.take _), ?_⟩
  refine ⟨e0.L, ⟨0, rfl, hget hpos⟩, ?_⟩
  refine ⟨_, own_ok e0 he0f, ?_⟩
  refine ⟨by show ((El (l.take prev.toNat)).length + 1) * 72 ≤ _; rw [El_length, List.length_take]; omega, ?_⟩
  refine ⟨rfl, ?_⟩
  have happ : El (l.take prev.toNat) ++ [e0.L] = El (l.take prev.toNat ++ es) := by rw [← El_app, hes]; rfl
  rw [← hes] at hfit
  have hcall : M 18 [.d (.l (.sl 5 (El (l.take prev.toNat) ++ [e0.L])))] (.bool (logRight (l.take prev.toNat ++ es))) := by
    rw [happ]
    exact lright'_ok _ hfit
  refine ⟨_, hcall, ?_⟩
  refine ⟨fun h => ?_, fun h => ?_⟩
  · have h5 : logRight (l.take prev.toNat ++ es) = false := by simpa using h
    rw [if_pos h5]
    exact ⟨⟨⟨L.le_refl _, L.le_refl _, L.le_refl _, trivial⟩, trivial⟩, trivial, rfl, rfl⟩
  · have h5 : ¬ logRight (l.take prev.toNat ++ es) = false := by simpa using h
    rw [if_neg h5]
    exact ⟨⟨⟨L.le_of_eq (by rw [← happ]; rfl), L.le_of_eq (congrArg L.int hw), L.le_refl _, trivial⟩, trivial⟩, trivial, rfl, rfl⟩
abbrev pC (p : List Msg) : List L := [.sl 7 (Ml p)]
abbrev lC (l : List Ent) : List L := [.sl 5 (El l)]
def metGo (l : List Ent) (e : Ent) : List Int → List Msg → List Int
  | met, [] => met
  | met, m :: ms => if okF l e met m then metGo l e (insI met m.sender) ms else metGo l e met ms
theorem freshGo_app (l : List Ent) (e : Ent) : ∀ (a b : List Msg) (met : List Int), freshGo l e met (a ++ b) = freshGo l e met a ++ freshGo l e (metGo l e met a) b
  | [], b, met => rfl
  | m :: a, b, met => by
    rw [List.cons_append, freshGo, freshGo, metGo]
    split
    · rw [freshGo_app l e a b]; rfl
    · rw [freshGo_app l e a b]
theorem metGo_app (l : List Ent) (e : Ent) : ∀ (a b : List Msg) (met : List Int), metGo l e met (a ++ b) = metGo l e (metGo l e met a) b
  | [], b, met => rfl
  | m :: a, b, met => by
    rw [List.cons_append, metGo, metGo]
    split
    · rw [metGo_app l e a b]
    · rw [metGo_app l e a b]
def fm (l : List Ent) (e : Ent) (p : List Msg) (k : Nat) : List Int := metGo l e [] (p.take k)
def fo (l : List Ent) (e : Ent) (p : List Msg) (k : Nat) : List Msg := freshGo l e [] (p.take k)
theorem fo_succ (l : List Ent) (e : Ent) (p : List Msg) (k : Nat) (h : k < p.length) : fo l e p (k + 1) = fo l e p k ++ if okF l e (fm l e p k) p[k] then [p[k]] else [] := by
  rw [fo, List.take_succ_eq_append_getElem h, freshGo_app]
  rfl
theorem fm_succ (l : List Ent) (e : Ent) (p : List Msg) (k : Nat) (h : k < p.length) : fm l e p (k + 1) = if okF l e (fm l e p k) p[k] then insI (fm l e p k) p[k].sender else fm l e p k := by
  rw [fm, List.take_succ_eq_append_getElem h, metGo_app]
  rfl
theorem fo_get (l : List Ent) (e : Ent) (p : List Msg) (k : Nat) (h : k < p.length) (hok : okF l e (fm l e p k) p[k] = true) : (freshGo l e [] p)[(fo l e p k).length]? = some p[k] := by
  have e1 : freshGo l e [] p = fo l e p k ++ freshGo l e (fm l e p k) (p.drop k) := by rw [fo, fm, ← freshGo_app, List.take_append_drop]
  rw [e1, List.getElem?_append_right (Nat.le_refl _), Nat.sub_self, List.drop_eq_getElem_cons h, freshGo, if_pos hok]
  rfl
theorem fo_len (l : List Ent) (e : Ent) (p : List Msg) : (fo l e p p.length) = freshGo l e [] p := by rw [fo, List.take_length]
theorem freshGo_len (l : List Ent) (e : Ent) : ∀ (ms : List Msg) (met : List Int), (freshGo l e met ms).length ≤ ms.length
  | [], met => Nat.le_refl _
  | m :: a, met => by
    rw [freshGo]
    split
    · have := freshGo_len l e a (insI met m.sender); simp; omega
    · have := freshGo_len l e a met; simp; omega
def freshZ (l : List Ent) (e : Ent) (p : List Msg) : List (List D) := (freshGo l e [] p).map fun m => [D.agg m.L]
theorem memE_fit (term epoch alive : Int) (incs : List Int) : FitE (memE term epoch alive incs) := by
  have h1 := List.length_filter_le (fun n => decide (n < incs.length) && small (incs.getD n 0)) (listN alive)
  have h2 := listN_len alive
  refine ⟨?_, Nat.zero_le _⟩
  show ((memN alive incs).map _).length ≤ 1000
  rw [List.length_map, memN]
  omega
def nextV (r : Ent × Bool) : V := .tup [r.1.V, .bool r.2]
theorem freshZ_one {l : List Ent} {e : Ent} {p : List Msg} : ∀ ds ∈ freshZ l e p, ds.length = 1 := by
  intro ds h
  obtain ⟨m, _, rfl⟩ := List.mem_map.1 h
  rfl
theorem freshZ_get {l : List Ent} {e : Ent} {p : List Msg} {i : Nat} {ds : List D} (h : (freshZ l e p)[i]? = some ds) : ∃ m, (freshGo l e [] p)[i]? = some m ∧ ds = [D.agg m.L] := by
  rw [freshZ, List.getElem?_map] at h
  cases hm : (freshGo l e [] p)[i]? with
  | none => rw [hm] at h; cases h
  | some m => rw [hm] at h; cases h; exact ⟨m, rfl, rfl⟩
end Go.Proofs.YtelbkabgkcogpaaGreatDoor

set_option linter.unusedVariables false
set_option linter.unusedSimpArgs false
set_option maxRecDepth 100000
namespace Go.Proofs.YtelbkabgkcogpaaGreatDoor
open Go Go.Proofs.YtelbkabgkcogpaaGreatDoor.Abs

theorem rcovers_ok (l : List Ent) (last t : Int) : M 11 [Es l, .int last, .int t] (.bool (coversB l last t)) := by
  have hel := El_length l
  refine go11 rfl rfl fun hb => ?_
  have ht : M 9 [Es l, .int ((El l).length : Nat)] (.tup [.int (termV l l.length), .bool (termB l l.length)]) := by rw [hel]; exact term'_ok l _
  refine ⟨_, ht, ?_⟩
  refine ⟨⟨L.le_of_eq (congrArg L.bool ?_), trivial⟩, trivial, rfl, rfl⟩
  show cond (decide (t > termV l l.length)) true (cond (t == termV l l.length) (decide (last ≥ ((El l).length : Nat))) false) = _
  rw [coversB, cond_or, cond_and, hel]
  by_cases h : t = termV l l.length
  · rw [decide_eq_true h, h]; simp
  · rw [decide_eq_false h, beq_eq_false_iff_ne.2 h]
theorem cnt_succ (a : List Int) (i : Nat) (h : i < a.length) (n : Int) : cnt (a.take (i + 1)) n = cnt (a.take i) n + if n ≤ a[i] then 1 else 0 := by
  rw [List.take_succ_eq_append_getElem h, cnt, List.countP_append, cnt]
  congr 1
  by_cases h1 : n ≤ a[i] <;> simp [h1]
set_option maxHeartbeats 4000000 in
theorem ragreed_ok (l : List Ent) (t : Int) (X : List Int) (hl : l.length ≤ 1000000) (hX : X.length ≤ 1000000) : M 13 [Es l, .int t, Is X] (.int (agreedL l t X)) := by
  have hel := El_length l
  have hXL := Il_length X
  refine go13 rfl rfl fun hb => ?_
  refine ⟨Nat, fun j => ⟨[(0, Es l), (1, .int t), (2, Is X), (7, .int (agreedN l t X j : Nat)), (8, .int ((j + 1 : Nat) : Int))], ⟨[], [], 900000, 0⟩⟩, fun j => j ≤ l.length, fun j => l.length - j, 0, Nat.zero_le _, ?_, ?_⟩
  · exact ⟨⟨L.le_refl _, L.le_refl _, L.le_refl _, L.le_refl _, L.le_refl _, trivial⟩, trivial, rfl, rfl⟩
  rintro j hj _
  have hj : j ≤ l.length := hj
  refine ⟨fun hc => ?_, fun hc => ?_⟩
  · have hjl : j < l.length := by
      rw [decide_eq_true_eq, hel] at hc
      omega
    refine ⟨Nat, fun i => ⟨[(0, Es l), (1, .int t), (2, Is X), (7, .int (agreedN l t X j : Nat)), (8, .int ((j + 1 : Nat) : Int)), (9, .int (cnt (X.take i) ((j + 1 : Nat) : Int) : Nat)), (10, .int (i : Nat))], ⟨[], [], 900000, 0⟩⟩, fun i => i ≤ X.length, fun i => X.length - i, 0, Nat.zero_le _, ?_, ?_⟩
    · exact ⟨⟨L.le_refl _, L.le_refl _, L.le_refl _, L.le_refl _, L.le_refl _, L.le_refl _, L.le_refl _, trivial⟩, trivial, rfl, rfl⟩
    rintro i hi _
    have hi : i ≤ X.length := hi
    refine ⟨fun hc2 => ?_, fun hc2 => ?_⟩
    · have hiX : i < X.length := by
        rw [decide_eq_true_eq, hXL] at hc2
        omega
      have hXi : (Il X)[i]? = some [L.int X[i]] := by rw [Il_get, List.getElem?_eq_getElem hiX]; rfl
      refine ⟨[L.int X[i]], ⟨i, rfl, hXi⟩, ?_⟩
      have hcs := cnt_succ X i hiX ((j + 1 : Nat) : Int)
      have hcl := cnt_le (X.take i) ((j + 1 : Nat) : Int)
      rw [List.length_take] at hcl
      have inc : IntKind.i64.wrap ((i : Int) + 1) = ((i + 1 : Nat) : Int) := by rw [wrap64 (by omega) (by omega)]; simp
      refine ⟨fun h => ?_, fun h => ?_⟩
      · refine ⟨i + 1, by show i + 1 ≤ X.length; omega, by show X.length - (i + 1) < X.length - i; omega, ?_⟩
        refine ⟨⟨L.le_refl _, L.le_refl _, L.le_refl _, L.le_refl _, L.le_refl _, L.le_of_eq (congrArg L.int ?_), L.le_of_eq (congrArg L.int inc), trivial⟩, trivial, rfl, rfl⟩
        rw [decide_eq_true_eq] at h
        rw [hcs, if_pos (by omega), wrap64 (by omega) (by omega)]; simp
      · refine ⟨i + 1, by show i + 1 ≤ X.length; omega, by show X.length - (i + 1) < X.length - i; omega, ?_⟩
        refine ⟨⟨L.le_refl _, L.le_refl _, L.le_refl _, L.le_refl _, L.le_refl _, L.le_of_eq (congrArg L.int ?_), L.le_of_eq (congrArg L.int inc), trivial⟩, trivial, rfl, rfl⟩
        rw [decide_eq_false_iff_not] at h
        rw [hcs, if_neg (by omega)]; simp
    · have hiX : i = X.length := by
        rw [decide_eq_false_iff_not, hXL] at hc2
        omega
      subst hiX
      have hcl := cnt_le X ((j + 1 : Nat) : Int)
      have w4 : IntKind.i64.wrap (((j + 1 : Nat) : Int) - 1) = (j : Int) := by rw [wrap64 (by omega) (by omega)]; omega
      have hlj : (El l)[j]? = some l[j].L := by rw [El_get, List.getElem?_eq_getElem hjl]; rfl
      refine ⟨l[j].L, ⟨j, w4, hlj⟩, ?_⟩
      have hb : cond (l[j].term == t) (decide (IntKind.i64.wrap (2 * ((cnt (X.take X.length) ((j + 1 : Nat) : Int) : Nat) : Int)) > ((Il X).length : Nat))) false = okN l t X (j + 1) := by
        rw [List.take_length, okN, cond_and, wrap64 (by omega) (by omega), hXL, Nat.add_sub_cancel, getD_of hjl]
        refine congr (congrArg and ?_) (decide_eq_decide.2 ⟨fun h => by omega, fun h => by omega⟩)
        rw [Bool.eq_iff_iff]; simp
      have inc : IntKind.i64.wrap (((j + 1 : Nat) : Int) + 1) = ((j + 1 + 1 : Nat) : Int) := by rw [wrap64 (by omega) (by omega)]; simp
      refine ⟨fun h => ?_, fun h => ?_⟩
      · have h2 := hb.symm.trans h
        refine ⟨j + 1, hjl, by show l.length - (j + 1) < l.length - j; omega, ?_⟩
        refine ⟨⟨L.le_refl _, L.le_refl _, L.le_refl _, L.le_of_eq (congrArg L.int ?_), L.le_of_eq (congrArg L.int inc), trivial⟩, trivial, rfl, rfl⟩
        rw [agreedN, if_pos h2]
      · have h2 := hb.symm.trans h
        refine ⟨j + 1, hjl, by show l.length - (j + 1) < l.length - j; omega, ?_⟩
        refine ⟨⟨L.le_refl _, L.le_refl _, L.le_refl _, L.le_of_eq (congrArg L.int ?_), L.le_of_eq (congrArg L.int inc), trivial⟩, trivial, rfl, rfl⟩
        rw [agreedN, if_neg (by rw [h2]; exact Bool.false_ne_true)]
  · have hjl : j = l.length := by
      rw [decide_eq_false_iff_not, hel] at hc
      omega
    subst hjl
    exact ⟨⟨L.le_refl _, trivial⟩, trivial, rfl, rfl⟩
set_option maxHeartbeats 4000000 in
theorem rcommon_ok (a b : List Ent) (ha : Fit a) : M 20 [Es a, Es b] (.int (commonL a b)) := by
  have hea := El_length a
  have heb := El_length b
  have h400 := ha.1
  refine go20 rfl rfl fun hb => ?_
  refine ⟨Nat, fun k => ⟨[(0, Es a), (1, Es b), (5, .int k)], ⟨[], [], 900000, 0⟩⟩, fun k => k ≤ a.length ∧ k ≤ b.length ∧ a.take k = b.take k, fun k => a.length - k, 0, ⟨Nat.zero_le _, Nat.zero_le _, rfl⟩, ?_, ?_⟩
  · exact ⟨⟨L.le_refl _, L.le_refl _, L.le_refl _, trivial⟩, trivial, rfl, rfl⟩
  rintro k ⟨hk1, hk2, hs⟩ _
  have hgd : (bif decide ((k : Int) < ((El a).length : Nat)) then decide ((k : Int) < ((El b).length : Nat)) else false) = true → k < a.length ∧ k < b.length := by
    intro g
    rw [cond_and, Bool.and_eq_true, decide_eq_true_eq, decide_eq_true_eq, hea, heb] at g
    omega
  have hgA : k < a.length ∧ k < b.length → (El a)[k]? = some (a.getD k dent).L := fun g => by rw [El_get, List.getElem?_eq_getElem g.1, getD_of g.1]; rfl
  have hgB : k < a.length ∧ k < b.length → (El b)[k]? = some (b.getD k dent).L := fun g => by rw [El_get, List.getElem?_eq_getElem g.2, getD_of g.2]; rfl
  have hgF : k < a.length ∧ k < b.length → FitE (a.getD k dent) := fun g => by rw [getD_of g.1]; exact ha.2 _ (List.getElem_mem g.1)
  refine ⟨(a.getD k dent).L, fun g => ⟨k, rfl, hgA (hgd g)⟩, (b.getD k dent).L, fun g => ⟨k, rfl, hgB (hgd g)⟩, ?_⟩
  refine ⟨_, fun g => esame_ok (a.getD k dent) (b.getD k dent) (hgF (hgd g)), ?_⟩
  refine ⟨rfl, ?_⟩
  refine ⟨fun h => ?_, fun h => ?_⟩
  · have h : cond (cond (decide ((k : Int) < ((El a).length : Nat))) (decide ((k : Int) < ((El b).length : Nat))) false) ((a.getD k dent).same (b.getD k dent)) false = true := h
    rw [cond_and, Bool.and_eq_true] at h
    have hlt := hgd h.1
    have he := Ent.same_iff.1 h.2
    rw [getD_of hlt.1, getD_of hlt.2] at he
    refine ⟨k + 1, ⟨hlt.1, hlt.2, ?_⟩, by show a.length - (k + 1) < a.length - k; omega, ?_⟩
    · rw [List.take_succ_eq_append_getElem hlt.1, List.take_succ_eq_append_getElem hlt.2, hs, he]
    · refine ⟨⟨L.le_refl _, L.le_refl _, L.le_of_eq (congrArg L.int ?_), trivial⟩, trivial, rfl, rfl⟩
      rw [wrap64 (by omega) (by omega)]; simp
  · have h : cond (cond (decide ((k : Int) < ((El a).length : Nat))) (decide ((k : Int) < ((El b).length : Nat))) false) ((a.getD k dent).same (b.getD k dent)) false = false := h
    refine ⟨⟨L.le_of_eq (congrArg L.int ?_), trivial⟩, trivial, rfl, rfl⟩
    rw [commonL_eq hk1 hk2 hs fun p q hc => ?_]
    rw [cond_and, cond_and, hea, heb, decide_eq_true (show (k : Int) < a.length by omega), decide_eq_true (show (k : Int) < b.length by omega), getD_of p, getD_of q, Ent.same_iff.2 hc] at h
    cases h
end Go.Proofs.YtelbkabgkcogpaaGreatDoor

set_option linter.unusedVariables false
set_option linter.unusedSimpArgs false
set_option maxRecDepth 100000
namespace Go.Proofs.YtelbkabgkcogpaaGreatDoor
open Go Go.Proofs.YtelbkabgkcogpaaGreatDoor.Abs
theorem entMsgs_len (mem : Int) (incs : List Int) (raw : List R6) : (entMsgs mem incs raw).length ≤ 16 := by
  have := listN_len mem
  simp [entMsgs]; omega
theorem sortL_le (l : List Msg) : (sortL l).length ≤ l.length := by
  have := sortL_len l l.length
  rw [List.take_length] at this
  omega
theorem logE_fit (raw : List R3) (msgs : List R6) (i : Nat) : FitE (logE raw msgs i) := by
  constructor
  · show (entIncs _ _).length ≤ 1000
    rw [entIncs_len]
    have := listN_len (pick (pick (raw.getD i r30).b 16) 65536)
    exact Nat.le_trans this (by decide)
  · exact Nat.le_trans (sortL_le _) (Nat.le_trans (entMsgs_len _ _ _) (by decide))
theorem logL_fit (raw : List R3) (msgs : List R6) : Fit (logL raw msgs) :=
  ⟨by rw [logL, logN_length]; omega, fun e he => by
    obtain ⟨i, _, rfl⟩ := List.mem_map.1 he
    exact logE_fit raw msgs i⟩
set_option maxHeartbeats 4000000 in
theorem logL_len (raw : List R3) (msgs : List R6) : (logL raw msgs).length ≤ 12 := by rw [logL, logN_length]; exact Nat.min_le_right _ _
theorem log1_ok (raw : List R3) (hr : ∀ r ∈ raw, r.ok) (hrl : raw.length ≤ 9223372036854775807) : ∃ l, M 5 [Rs3 raw, .d (.l .nil)] (Es l) ∧ Fit l ∧ logRight l = true ∧ l.length ≤ 12 := by
  refine ⟨logL raw [], ?_, logL_fit raw [], logL_right raw [], logL_len raw []⟩
  exact (log_ok raw [] hr (by simp) hrl (by decide)).le ⟨leA.refl _, leA.l (L.le_nil 6), trivial⟩
theorem termV_pos {l : List Ent} (h : logRight l = true) (k : Nat) : 0 ≤ termV l k := by
  rw [termV]
  split
  · rename_i hb
    rw [termB_nat] at hb
    split
    · exact Int.le_refl _
    · rename_i h0
      have hk : k - 1 < l.length := by omega
      rw [Int.toNat_natCast, getD_of hk]
      have h1 := (logRight_iff.1 h).2.1 l[k - 1] (List.getElem_mem hk)
      rw [Ent.right, Bool.and_eq_true, Ent.base] at h1
      simp only [small, Bool.and_eq_true, decide_eq_true_eq] at h1
      omega
  · exact Int.le_refl _
theorem termV_mono {l : List Ent} (h : logRight l = true) {j k : Nat} (hjk : j ≤ k) (hk : k ≤ l.length) : termV l j ≤ termV l k := by
  rcases Nat.eq_zero_or_pos j with h0 | h0
  · subst h0
    have e : termV l ((0 : Nat) : Int) = 0 := by rw [termV, if_pos (termB_nat.2 (Nat.zero_le _))]; rfl
    rw [e]; exact termV_pos h k
  · rw [termV, termV, if_pos (termB_nat.2 (by omega)), if_pos (termB_nat.2 hk), if_neg (by omega), if_neg (by omega), Int.toNat_natCast, Int.toNat_natCast, getD_of (by omega), getD_of (by omega)]
    rcases Nat.lt_or_eq_of_le hjk with h1 | h1
    · exact (List.pairwise_iff_getElem.1 (logRight_iff.1 h).2.2 (j - 1) (k - 1) (by omega) (by omega) (by omega)).1
    · subst h1; exact Int.le_refl _
theorem covers_or (a b : List Ent) : coversB a b.length (termV b b.length) = true ∨ coversB b a.length (termV a a.length) = true := by
  rw [coversB, coversB]
  simp only [Bool.or_eq_true, Bool.and_eq_true, decide_eq_true_eq]
  omega
theorem covers_self (a : List Ent) : coversB a a.length (termV a a.length) = true := by
  rw [coversB, Bool.or_eq_true, Bool.and_eq_true, decide_eq_true_eq, decide_eq_true_eq, decide_eq_true_eq]
  exact .inr ⟨rfl, Int.le_refl _⟩
theorem covers_take {a : List Ent} (h : logRight a = true) {k : Nat} (hk : k ≤ a.length) : coversB (a.take k) a.length (termV a a.length) = true := by
  have h1 := termV_mono h hk (Nat.le_refl _)
  have h2 := termV_take hk []
  have h3 : (a.take k).length = k := by simp; omega
  rw [List.append_nil] at h2
  rw [coversB, h3, h2]
  simp only [Bool.or_eq_true, Bool.and_eq_true, decide_eq_true_eq]
  omega
theorem put_behind {l es : List Ent} (h : logRight l = true) (he : ∀ e ∈ es, e.right = true) (h1 : es.length ≤ 1) {prev term : Int} (ht : hasT l prev term = false) : putT l prev term es = (l, 0, 41) := by
  rw [putT, if_neg ?_, if_pos ht]
  rw [h]
  rintro (h2 | h2 | ⟨h2, h3⟩)
  · cases h2
  · omega
  · cases es with
    | nil => cases h2
    | cons e es => rw [show (e :: es).getD 0 dent = e from rfl, he e (by simp)] at h3; cases h3
theorem put_none {l : List Ent} (h : logRight l = true) {k : Nat} (hk : k ≤ l.length) : putT l k (termV l k) [] = (l, (k : Int), 0) := by
  have ht : hasT l k (termV l k) = true := by rw [hasT, termB_nat.2 hk]; simp
  rw [putT, if_neg ?_, if_neg (by rw [ht]; simp), if_pos rfl]
  rw [h]
  rintro (h2 | h2 | ⟨h2, h3⟩)
  · cases h2
  · cases h2
  · cases h2
theorem termV_top {l : List Ent} (h : logRight l = true) (k : Nat) : termV l k ≤ 65535 := by
  rw [termV]
  split
  · rename_i hb
    rw [termB_nat] at hb
    split
    · decide
    · rename_i h0
      have hk : k - 1 < l.length := by omega
      rw [Int.toNat_natCast, getD_of hk]
      have h1 := (logRight_iff.1 h).2.1 l[k - 1] (List.getElem_mem hk)
      rw [Ent.right, Bool.and_eq_true, Ent.base] at h1
      simp only [small, Bool.and_eq_true, decide_eq_true_eq] at h1
      omega
  · decide
theorem ent_facts (e0 : R3) (he0 : e0.ok) : ∃ e : Ent, M 7 [.d (.agg [L.int (pick e0.a 6), L.int (pick e0.b 40), L.int e0.c]), .d (.l .nil), .d (.l .nil)] e.V ∧ e.right = true ∧ FitE e := by
  have p6 := pick_range (c := e0.a) (n := 6) (by omega)
  have p40 := pick_range (c := e0.b) (n := 40) (by omega)
  have hi6 : InR (pick e0.a 6) := by constructor <;> omega
  have hi40 : InR (pick e0.b 40) := by constructor <;> omega
  have p1 := pick_range (c := pick e0.a 6) (n := 65535) (by omega)
  have p2 := pick_range (c := pick e0.b 40) (n := 65535) (by omega)
  obtain ⟨e, he⟩ : ∃ e, e = entL ⟨pick e0.a 6, pick e0.b 40, e0.c⟩ [] [] := ⟨_, rfl⟩
  refine ⟨e, ?_, ?_, ?_⟩
  · rw [he]
    exact (entry_ok ⟨pick e0.a 6, pick e0.b 40, e0.c⟩ [] [] ⟨hi6, hi40, he0.2.2⟩ (by simp) (by simp) (by decide) (by decide)).le ⟨leA.refl _, leA.l (L.le_nil 1), leA.l (L.le_nil 6), trivial⟩
  · have h := entL_right (n := ⟨pick e0.a 6, pick e0.b 40, e0.c⟩) (incs := []) (raw := []) (by decide) (t := e.term) (p := e.epoch) ?_ ?_
    · rw [← he] at h; exact h
    · rw [he]; exact small_of (by show 1 ≤ 1 + pick (pick e0.a 6) 65535; omega) (by show 1 + pick (pick e0.a 6) 65535 ≤ 65535; omega)
    · rw [he]; exact small_of (by show 1 ≤ 1 + pick (pick e0.b 40) 65535; omega) (by show 1 + pick (pick e0.b 40) 65535 ≤ 65535; omega)
  · rw [he]
    constructor
    · show (entIncs _ _).length ≤ 1000
      rw [entIncs_len]
      exact Nat.le_trans (listN_len _) (by decide)
    · exact Nat.le_trans (sortL_le _) (Nat.le_trans (entMsgs_len _ _ _) (by decide))
theorem commonL_ge {a b : List Ent} {k : Nat} (h1 : k ≤ a.length) (h2 : k ≤ b.length) (h : a.take k = b.take k) : k ≤ commonL a b := by
  rcases Nat.lt_or_ge (commonL a b) k with h3 | h3
  · exfalso
    refine commonL_next a b (by omega) (by omega) ?_
    have := congrArg (fun l => l[commonL a b]?) h
    simp only [List.getElem?_take, if_pos h3] at this
    rw [List.getElem?_eq_getElem (by omega), List.getElem?_eq_getElem (by omega)] at this
    exact Option.some.inj this
  · exact h3
theorem log2_ok (raw : List R3) (msgs : List R6) (hr : ∀ r ∈ raw, r.ok) (hm : ∀ r ∈ msgs, r.ok) (hrl : raw.length ≤ 9223372036854775807) (hml : msgs.length ≤ 9223372036854775807) : ∃ l, M 5 [Rs3 raw, Rs msgs] (Es l) ∧ Fit l ∧ logRight l = true ∧ l.length ≤ 12 :=
  ⟨logL raw msgs, log_ok raw msgs hr hm hrl hml, logL_fit raw msgs, logL_right raw msgs, logL_len raw msgs⟩
end Go.Proofs.YtelbkabgkcogpaaGreatDoor

set_option linter.unusedVariables false
set_option linter.unusedSimpArgs false
set_option maxRecDepth 100000
namespace Go.Proofs.YtelbkabgkcogpaaGreatDoor
open Go Go.Proofs.YtelbkabgkcogpaaGreatDoor.Abs

theorem putT_fit {l es : List Ent} (hl : Fit l) (he : Fit es) (h2 : es.length ≤ 2) (prev term : Int) : Fit (putT l prev term es).1 := by
  unfold putT
  repeat' split
  all_goals first | exact hl | skip
  rename_i h1 h3 h4 h5 h6 h7
  refine ⟨?_, fun x hx => ?_⟩
  · rw [List.length_append, List.length_take]; omega
  · rcases List.mem_append.1 hx with hx | hx
    · exact hl.2 x (List.mem_of_mem_take hx)
    · exact he.2 x hx
def yL (ys : List (List Ent)) : List (List L) := ys.map fun y => [L.sl 5 (El y)]
theorem yL_get (ys : List (List Ent)) (i : Nat) (h : i < ys.length) : (yL ys)[i]? = some [L.sl 5 (El ys[i])] := by
  rw [yL, List.getElem?_map, List.getElem?_eq_getElem h]; rfl
theorem yL_length (ys : List (List Ent)) : (yL ys).length = ys.length := by simp [yL]
def pL (ps : List (Int × Int)) : List (List L) := ps.map fun p => [L.int p.1, L.int p.2]
theorem pL_get (ps : List (Int × Int)) (i : Nat) (h : i < ps.length) : (pL ps)[i]? = some [L.int ps[i].1, L.int ps[i].2] := by
  rw [pL, List.getElem?_map, List.getElem?_eq_getElem h]; rfl
theorem pL_length (ps : List (Int × Int)) : (pL ps).length = ps.length := by simp [pL]
theorem tell_ent (e0 : R3) (he0 : e0.ok) : ∃ e : Ent, M 7 [.d (.agg [L.int (pick e0.a 6), L.int (pick e0.b 30), L.int e0.c]), .d (.l .nil), .d (.l .nil)] e.V ∧ FitE e := by
  have p6 := pick_range (c := e0.a) (n := 6) (by omega)
  have p40 := pick_range (c := e0.b) (n := 30) (by omega)
  have hi6 : InR (pick e0.a 6) := by constructor <;> omega
  have hi40 : InR (pick e0.b 30) := by constructor <;> omega
  obtain ⟨e, he⟩ : ∃ e, e = entL ⟨pick e0.a 6, pick e0.b 30, e0.c⟩ [] [] := ⟨_, rfl⟩
  refine ⟨e, ?_, ?_⟩
  · rw [he]
    exact (entry_ok ⟨pick e0.a 6, pick e0.b 30, e0.c⟩ [] [] ⟨hi6, hi40, he0.2.2⟩ (by simp) (by simp) (by decide) (by decide)).le ⟨leA.refl _, leA.l (L.le_nil 1), leA.l (L.le_nil 6), trivial⟩
  · rw [he]
    constructor
    · show (entIncs _ _).length ≤ 1000
      rw [entIncs_len]
      exact Nat.le_trans (listN_len _) (by decide)
    · exact Nat.le_trans (sortL_le _) (Nat.le_trans (entMsgs_len _ _ _) (by decide))
abbrev cellsE (e : Ent) : Box := .cells [.d (.l (.int e.term)), .d (.l (.int e.epoch)), .d (.l (.int e.mem)), .d (.l (.sl 1 (Il e.incs))), .d (.l (.sl 7 (Ml e.msgs)))]
def tellI1 (prev term : Int) (od : Ent) (l : List Ent) (k : Nat) (e : Ent) (X : List Int) (ys : List (List Ent)) (i : Nat) : ASt :=
  ⟨[(5, .int prev), (6, .int term), (10, .ref 999999 0), (17, .bool true), (18, Es l), (19, .int (k : Nat)), (21, .ref 998589 0), (22, Is X), (89, .d (.l (.sl 1 (yL ys)))), (90, .int (2 : Nat)), (91, .int (i : Nat))], ⟨[(999999, cellsE od), (998589, cellsE e)], [], 900000, 0⟩⟩
def tellI2 (prev term : Int) (od : Ent) (l : List Ent) (k : Nat) (e : Ent) (X : List Int) (ys : List (List Ent)) (i : Nat) (y : List Ent) (ps : List (Int × Int)) (j : Nat) : ASt :=
  ⟨[(5, .int prev), (6, .int term), (10, .ref 999999 0), (17, .bool true), (18, Es l), (19, .int (k : Nat)), (21, .ref 998589 0), (22, Is X), (89, .d (.l (.sl 1 (yL ys)))), (90, .int (2 : Nat)), (91, .int (i : Nat)), (24, Es y), (105, .d (.l (.sl 2 (pL ps)))), (106, .int (3 : Nat)), (107, .int (j : Nat))], ⟨[(999999, cellsE od), (998589, cellsE e)], [], 800000, 0⟩⟩
def tellI3 (prev term : Int) (od : Ent) (l : List Ent) (k : Nat) (e : Ent) (X : List Int) (ys : List (List Ent)) (i : Nat) (y : List Ent) (ps : List (Int × Int)) (j : Nat) (p : Int × Int) (u : Int) (ws : List (List Ent)) (a : Nat) : ASt :=
  ⟨[(5, .int prev), (6, .int term), (10, .ref 999999 0), (17, .bool true), (18, Es l), (19, .int (k : Nat)), (21, .ref 998589 0), (22, Is X), (89, .d (.l (.sl 1 (yL ys)))), (90, .int (2 : Nat)), (91, .int (i : Nat)), (24, Es y), (105, .d (.l (.sl 2 (pL ps)))), (106, .int (3 : Nat)), (107, .int (j : Nat)), (26, .ref 799999 0), (29, .int u), (168, .d (.l (.sl 1 (yL ws)))), (169, .int (4 : Nat)), (170, .int (a : Nat))], ⟨[(999999, cellsE od), (998589, cellsE e), (799999, .cells [.d (.l (.int p.1)), .d (.l (.int p.2))])], [], 700000, 0⟩⟩
def tellI4 (prev term : Int) (od : Ent) (l : List Ent) (k : Nat) (e : Ent) (X : List Int) (ys : List (List Ent)) (i : Nat) (y : List Ent) (ps : List (Int × Int)) (j : Nat) (p : Int × Int) (u : Int) (ws : List (List Ent)) (a : Nat) (w : List Ent) (b : Nat) : ASt :=
  ⟨[(5, .int prev), (6, .int term), (10, .ref 999999 0), (17, .bool true), (18, Es l), (19, .int (k : Nat)), (21, .ref 998589 0), (22, Is X), (89, .d (.l (.sl 1 (yL ys)))), (90, .int (2 : Nat)), (91, .int (i : Nat)), (24, Es y), (105, .d (.l (.sl 2 (pL ps)))), (106, .int (3 : Nat)), (107, .int (j : Nat)), (26, .ref 799999 0), (29, .int u), (168, .d (.l (.sl 1 (yL ws)))), (169, .int (4 : Nat)), (170, .int (a : Nat)), (32, Es w), (177, Is [p.2, u]), (178, .int (2 : Nat)), (179, .int (b : Nat))], ⟨[(999999, cellsE od), (998589, cellsE e), (799999, .cells [.d (.l (.int p.1)), .d (.l (.int p.2))])], [], 600000, 0⟩⟩
def Code.at' : Code → List Nat → Code
  | c, [] => c
  | .seq a _, 0 :: p => Code.at' a p
  | .seq _ b, _ :: p => Code.at' b p
  | .cond _ a _, 0 :: p => Code.at' a p
  | .cond _ _ b, _ :: p => Code.at' b p
  | .block _ c, _ :: p => Code.at' c p
  | .loop c, _ :: p => Code.at' c p
  | .rangeFunc _ _ a _, 0 :: p => Code.at' a p
  | .rangeFunc _ _ _ b, _ :: p => Code.at' b p
  | c, _ => c
theorem W_seq {T : List (Nat × TI)} {M : MeetsT} {N : ItT} {yl : Nat} {ys : List (List D)} {nt : Nat} {keep : List Nat} {a b : Code} {top : Bool} {fz : List Nat} {Q : Exit → ASt → Prop} {s : ASt}
    (h : Code.W T M N yl ys nt keep a top fz (fun e s' => match e with | .normal => Code.W T M N yl ys nt keep b top fz Q s' | e => Q e s') s) : Code.W T M N yl ys nt keep (.seq a b) top fz Q s := h
theorem W_reg0 {T : List (Nat × TI)} {M : MeetsT} {N : ItT} {yl : Nat} {ys : List (List D)} {nt : Nat} {keep : List Nat} {id : Nat} {ops : Array Oper} {top : Bool} {fz : List Nat} {Q : Exit → ASt → Prop} {tm : Tm} {hh : H} (hk : isIn keep (1000000 + id) = false)
    (h : Wops T M fz yl ys nt ops.toList keep ops.toList tm [] hh fun s' => Q .normal s') : Code.W T M N yl ys nt keep (.region id ops false) top fz Q ⟨tm, hh⟩ := by
  simp only [Code.W, hk]; exact h
abbrev W3 (c : Code) (Q : Exit → ASt → Prop) (s : ASt) : Prop := Code.W tys (cfg []) N 0 [] Tryz.f3.ntmps keep3 c true [] Q s
def endS (s : ASt) (t : Nat) (v : V) : ASt := ⟨(t, v) :: s.tm, s.h⟩
set_option maxHeartbeats 400000 in
theorem tell4 (c : Code) (hcode : c = Code.at' (Tryz.f3.body.getD .skip) [1, 1, 1, 1, 1, 1, 1, 1, 0, 1, 0, 0, 1, 1, 0, 0, 1, 0, 1, 0, 0, 1, 1, 0, 0, 1, 1, 1, 1, 1, 0, 0, 1, 1, 0, 0, 1, 1]) (Q : Exit → ASt → Prop) (s : ASt) (prev term : Int) (od : Ent) (l : List Ent) (k : Nat) (e : Ent) (X : List Int) (ys : List (List Ent)) (i : Nat) (y : List Ent) (ps : List (Int × Int)) (j : Nat) (p : Int × Int) (u : Int) (ws : List (List Ent)) (a : Nat) (w : List Ent)
    (hfy : Fit y) (hww : Fit w ∧ w.length ≤ 2) (hpin : InR p.1) (hle : ASt.le s (tellI4 prev term od l k e X ys i y ps j p u ws a w 0))
    (hQ : ∀ b : Nat, b ≤ 2 → Q .normal (endS (tellI4 prev term od l k e X ys i y ps j p u ws a w b) 180 (.bool (decide ((b : Int) < ((2 : Nat) : Int)))))) :
    W3 c Q s := by
  subst hcode
  refine ⟨Nat, tellI4 prev term od l k e X ys i y ps j p u ws a w, fun b => b ≤ 2, fun b => 2 - b, 0, Nat.zero_le _, hle, ?_⟩
  rintro b hcb _
  have hcb : b ≤ 2 := hcb
  refine ⟨fun hc => ?_, fun hc => ?_⟩
  rotate_left
  · exact hQ b hcb
  have hb2 : b < 2 := by
    have hc : decide ((b : Int) < ((2 : Nat) : Int)) = true := hc
    rw [decide_eq_true_eq] at hc
    omega
  obtain ⟨q, hq⟩ : ∃ q, q = [p.2, u][b] := ⟨_, rfl⟩
  refine ⟨[L.int q], ⟨b, rfl, by rw [hq, Il_get, List.getElem?_eq_getElem (show b < [p.2, u].length from hb2)]; rfl⟩, ?_⟩
  refine ⟨0, ⟨rfl, by decide⟩, ?_⟩
  have hput := pput_ok y w p.1 q hfy hww.1 hpin
  have hput2 := put_ok y w p.1 q hfy hww.1 hpin
  have hfr := putT_fit hfy hww.1 hww.2 p.1 q
  obtain ⟨R, hR⟩ : ∃ R, R = putT y p.1 q w := ⟨_, rfl⟩
  rw [← hR] at hput hput2 hfr
  refine ⟨_, hput, ?_⟩
  refine ⟨0, ⟨rfl, by decide⟩, ?_⟩
  refine ⟨_, hput2, ?_⟩
  have hall : M 16 [Es R.1, Es R.1] (.bool true) := by
    have h := all_ok R.1 R.1 hfr
    rw [decide_eq_true rfl] at h; exact h
  refine ⟨_, hall, ?_⟩
  refine ⟨fun h => ?_, fun _ => ?_⟩
  · exfalso
    simp at h
  have inc : IntKind.i64.wrap ((b : Int) + 1) = ((b + 1 : Nat) : Int) := by rw [wrap64 (by omega) (by omega)]; simp
  refine ⟨b + 1, hb2, by show 2 - (b + 1) < 2 - b; omega, ?_⟩
  exact ⟨⟨L.le_refl _, L.le_refl _, ⟨rfl, rfl⟩, L.le_refl _, L.le_refl _, L.le_refl _, ⟨rfl, rfl⟩, L.le_refl _, L.le_refl _, L.le_refl _, L.le_refl _, L.le_refl _, L.le_refl _, L.le_refl _, L.le_refl _, ⟨rfl, rfl⟩, L.le_refl _, L.le_refl _, L.le_refl _, L.le_refl _, L.le_refl _, L.le_refl _, L.le_refl _, L.le_of_eq (congrArg L.int inc), trivial⟩, ⟨⟨L.le_refl _, L.le_refl _, L.le_refl _, L.le_refl _, L.le_refl _, trivial⟩, ⟨L.le_refl _, L.le_refl _, L.le_refl _, L.le_refl _, L.le_refl _, trivial⟩, ⟨L.le_refl _, L.le_refl _, trivial⟩, trivial⟩, rfl, rfl⟩
set_option maxHeartbeats 400000 in
theorem tell3 (c : Code) (hcode : c = Code.at' (Tryz.f3.body.getD .skip) [1, 1, 1, 1, 1, 1, 1, 1, 0, 1, 0, 0, 1, 1, 0, 0, 1, 0, 1, 0, 0, 1, 1, 0, 0, 1, 1, 1, 1, 1]) (Q : Exit → ASt → Prop) (s : ASt) (prev term : Int) (od : Ent) (l : List Ent) (k : Nat) (e : Ent) (X : List Int) (ys : List (List Ent)) (i : Nat) (y : List Ent) (ps : List (Int × Int)) (j : Nat) (p : Int × Int) (u : Int) (ws : List (List Ent))
    (hfy : Fit y) (hwl : ws.length = 4) (hwf : ∀ w ∈ ws, Fit w ∧ w.length ≤ 2) (hpin : InR p.1) (hle : ASt.le s (tellI3 prev term od l k e X ys i y ps j p u ws 0))
    (hQ : ∀ a : Nat, a ≤ 4 → Q .normal (endS (tellI3 prev term od l k e X ys i y ps j p u ws a) 171 (.bool (decide ((a : Int) < ((4 : Nat) : Int)))))) :
    W3 c Q s := by
  subst hcode
  refine ⟨Nat, tellI3 prev term od l k e X ys i y ps j p u ws, fun a => a ≤ 4, fun a => 4 - a, 0, Nat.zero_le _, hle, ?_⟩
  rintro a hca _
  have hca : a ≤ 4 := hca
  refine ⟨fun hc => ?_, fun hc => ?_⟩
  rotate_left
  · exact hQ a hca
  have ha4 : a < 4 := by
    have hc : decide ((a : Int) < ((4 : Nat) : Int)) = true := hc
    rw [decide_eq_true_eq] at hc
    omega
  have haw : a < ws.length := by omega
  obtain ⟨w, hw⟩ : ∃ w, w = ws[a] := ⟨_, rfl⟩
  have hww : Fit w ∧ w.length ≤ 2 := by rw [hw]; exact hwf _ (List.getElem_mem haw)
  refine ⟨[L.sl 5 (El w)], ⟨a, rfl, by rw [hw]; exact yL_get ws a haw⟩, ?_⟩
  refine ⟨1, ⟨rfl, by decide⟩, ?_⟩
  change Code.W tys (cfg []) N 0 [] Tryz.f3.ntmps keep3 _ true [] _ _
  refine tell4 _ ?_ _ _ prev term od l k e X ys i y ps j p u ws a w hfy hww hpin ?_ ?_
  · kernel_rfl
  · exact ⟨⟨L.le_refl _, L.le_refl _, ⟨rfl, rfl⟩, L.le_refl _, L.le_refl _, L.le_refl _, ⟨rfl, rfl⟩, L.le_refl _, L.le_refl _, L.le_refl _, L.le_refl _, L.le_refl _, L.le_refl _, L.le_refl _, L.le_refl _, ⟨rfl, rfl⟩, L.le_refl _, L.le_refl _, L.le_refl _, L.le_refl _, L.le_refl _, L.le_refl _, L.le_refl _, L.le_refl _, trivial⟩, ⟨⟨L.le_refl _, L.le_refl _, L.le_refl _, L.le_refl _, L.le_refl _, trivial⟩, ⟨L.le_refl _, L.le_refl _, L.le_refl _, L.le_refl _, L.le_refl _, trivial⟩, ⟨L.le_refl _, L.le_refl _, trivial⟩, trivial⟩, rfl, rfl⟩
  rintro b hcb
  have inc : IntKind.i64.wrap ((a : Int) + 1) = ((a + 1 : Nat) : Int) := by rw [wrap64 (by omega) (by omega)]; simp
  refine ⟨a + 1, ha4, by show 4 - (a + 1) < 4 - a; omega, ?_⟩
  exact ⟨⟨L.le_refl _, L.le_refl _, ⟨rfl, rfl⟩, L.le_refl _, L.le_refl _, L.le_refl _, ⟨rfl, rfl⟩, L.le_refl _, L.le_refl _, L.le_refl _, L.le_refl _, L.le_refl _, L.le_refl _, L.le_refl _, L.le_refl _, ⟨rfl, rfl⟩, L.le_refl _, L.le_refl _, L.le_refl _, L.le_of_eq (congrArg L.int inc), trivial⟩, ⟨⟨L.le_refl _, L.le_refl _, L.le_refl _, L.le_refl _, L.le_refl _, trivial⟩, ⟨L.le_refl _, L.le_refl _, L.le_refl _, L.le_refl _, L.le_refl _, trivial⟩, ⟨L.le_refl _, L.le_refl _, trivial⟩, trivial⟩, rfl, rfl⟩
set_option maxHeartbeats 1600000 in
theorem tell2 (c : Code) (hcode : c = Code.at' (Tryz.f3.body.getD .skip) [1, 1, 1, 1, 1, 1, 1, 1, 0, 1, 0, 0, 1, 1, 0, 0, 1, 0, 1]) (Q : Exit → ASt → Prop) (s : ASt) (prev term : Int) (od : Ent) (l : List Ent) (k : Nat) (e : Ent) (X : List Int) (ys : List (List Ent)) (i : Nat) (y : List Ent) (ps : List (Int × Int))
    (hfy : Fit y) (hfe : FitE e) (hod : FitE od) (hXl : X.length ≤ 20) (hpl : ps.length = 3) (hpr : ∀ p ∈ ps, InR p.1) (hle : ASt.le s (tellI2 prev term od l k e X ys i y ps 0))
    (hQ : ∀ j : Nat, j ≤ 3 → Q .normal (endS (tellI2 prev term od l k e X ys i y ps j) 108 (.bool (decide ((j : Int) < ((3 : Nat) : Int)))))) :
    W3 c Q s := by
  subst hcode
  refine ⟨Nat, tellI2 prev term od l k e X ys i y ps, fun j => j ≤ 3, fun j => 3 - j, 0, Nat.zero_le _, hle, ?_⟩
  rintro j hj _
  have hj : j ≤ 3 := hj
  refine ⟨fun hc => ?_, fun hc => ?_⟩
  rotate_left
  · exact hQ j hj
  have hj3 : j < 3 := by
    have hc : decide ((j : Int) < ((3 : Nat) : Int)) = true := hc
    rw [decide_eq_true_eq] at hc
    omega
  have hjp : j < ps.length := by omega
  obtain ⟨p, hpj⟩ : ∃ p, p = ps[j] := ⟨_, rfl⟩
  have hpin : InR p.1 := by rw [hpj]; exact hpr _ (List.getElem_mem hjp)
  refine ⟨[L.int p.1, L.int p.2], ⟨j, rfl, by rw [hpj]; exact pL_get ps j hjp⟩, ?_⟩
  refine ⟨0, ⟨rfl, by decide⟩, ?_⟩
  obtain ⟨u, hu⟩ : ∃ u, u = termV y p.1 := ⟨_, rfl⟩
  have c1 : M 8 [Es y, .int p.1] (.tup [.int u, .bool (termB y p.1)]) := by rw [hu]; exact pterm_ok y p.1
  have c2 : M 9 [Es y, .int p.1] (.tup [.int u, .bool (termB y p.1)]) := by rw [hu]; exact term'_ok y p.1
  refine ⟨_, c1, ?_⟩
  refine ⟨0, ⟨rfl, by decide⟩, ?_⟩
  refine ⟨_, c2, ?_⟩
  refine ⟨0, fun _ => ⟨rfl, by decide⟩, ?_⟩
  refine ⟨1, fun _ => ⟨rfl, by decide⟩, ?_⟩
  refine ⟨_, fun _ => covers_ok y p.1 p.2, ?_⟩
  refine ⟨0, fun _ => ⟨rfl, by decide⟩, ?_⟩
  refine ⟨1, fun _ => ⟨rfl, by decide⟩, ?_⟩
  refine ⟨_, fun _ => rcovers_ok y p.1 p.2, ?_⟩
  refine ⟨1, fun _ => ⟨rfl, by decide⟩, ?_⟩
  have hyl4 : y.length ≤ 1000000 := Nat.le_trans hfy.1 (by decide)
  refine ⟨_, fun _ => agreed_ok y p.2 X hyl4 (by omega), ?_⟩
  refine ⟨1, fun _ => ⟨rfl, by decide⟩, ?_⟩
  refine ⟨_, fun _ => ragreed_ok y p.2 X hyl4 (by omega), ?_⟩
  refine ⟨rfl, ?_⟩
  refine ⟨fun h => ?_, fun _ => ?_⟩
  · exfalso
    simp at h
  obtain ⟨ws, hws⟩ : ∃ ws : List (List Ent), ws = [[], [e], [od], [e, e]] := ⟨_, rfl⟩
  have hwl : ws.length = 4 := by rw [hws]; rfl
  have hwf : ∀ w ∈ ws, Fit w ∧ w.length ≤ 2 := by
    intro w hw
    rw [hws] at hw
    simp at hw
    rcases hw with rfl | rfl | rfl | rfl
    · exact ⟨⟨by decide, by simp⟩, by decide⟩
    · exact ⟨gfit1 e hfe, Nat.le_succ 1⟩
    · exact ⟨gfit1 od hod, Nat.le_succ 1⟩
    · exact ⟨⟨by show 2 ≤ 400; decide, by simpa using hfe⟩, Nat.le_refl 2⟩
  change Code.W tys (cfg []) N 0 [] Tryz.f3.ntmps keep3 _ true [] _ _
  refine W_seq ?_
  refine W_reg0 ?_ ?_
  · rfl
  change Code.W tys (cfg []) N 0 [] Tryz.f3.ntmps keep3 _ true [] _ _
  refine tell3 _ ?_ _ _ prev term od l k e X ys i y ps j p u ws hfy hwl hwf hpin ?_ ?_
  · kernel_rfl
  · refine ⟨⟨L.le_refl _, L.le_refl _, ⟨rfl, rfl⟩, L.le_refl _, L.le_refl _, L.le_refl _, ⟨rfl, rfl⟩, L.le_refl _, L.le_refl _, L.le_refl _, L.le_refl _, L.le_refl _, L.le_refl _, L.le_refl _, L.le_refl _, ⟨rfl, rfl⟩, L.le_refl _, ?_, L.le_refl _, L.le_refl _, trivial⟩, ⟨⟨L.le_refl _, L.le_refl _, L.le_refl _, L.le_refl _, L.le_refl _, trivial⟩, ⟨L.le_refl _, L.le_refl _, L.le_refl _, L.le_refl _, L.le_refl _, trivial⟩, ⟨L.le_refl _, L.le_refl _, trivial⟩, trivial⟩, rfl, rfl⟩
    rw [hws]
    refine le_sl rfl ?_ ?_
    · intro y hy
      simp [yL] at hy
      rcases hy with rfl | rfl | rfl | rfl <;> rfl
    · exact ⟨L.le_nil 5, L.le_refl _, L.le_refl _, L.le_refl _, trivial⟩
  rintro a hca
  have inc : IntKind.i64.wrap ((j : Int) + 1) = ((j + 1 : Nat) : Int) := by rw [wrap64 (by omega) (by omega)]; simp
  refine ⟨j + 1, hj3, by show 3 - (j + 1) < 3 - j; omega, ?_⟩
  exact ⟨⟨L.le_refl _, L.le_refl _, ⟨rfl, rfl⟩, L.le_refl _, L.le_refl _, L.le_refl _, ⟨rfl, rfl⟩, L.le_refl _, L.le_refl _, L.le_refl _, L.le_refl _, L.le_refl _, L.le_refl _, L.le_refl _, L.le_of_eq (congrArg L.int inc), trivial⟩, ⟨⟨L.le_refl _, L.le_refl _, L.le_refl _, L.le_refl _, L.le_refl _, trivial⟩, ⟨L.le_refl _, L.le_refl _, L.le_refl _, L.le_refl _, L.le_refl _, trivial⟩, trivial⟩, rfl, rfl⟩
set_option maxHeartbeats 1600000 in
theorem tells_law (ra : List R3) (ms : List R6) (od : Ent) (c : Int) (n : R3) (prev term : Int) (acks : List Int) (hra : ∀ r ∈ ra, r.ok) (hms : ∀ r ∈ ms, r.ok) (hla : ra.length ≤ 9223372036854775807) (hlm : ms.length ≤ 9223372036854775807) (hc : InR c) (hn : n.ok) (hp : InR prev) (ht : InR term) (hak : acks.length ≤ 9223372036854775807) (hoi : od.incs.length ≤ 9223372036854775807) (hom : od.msgs.length ≤ 9223372036854775807) : M 3 [Rs3 ra, Rs ms, .d (.agg od.L), .int c, .d (.agg n.L), .int prev, .int term, Is acks] (.bool true) := by
  refine go3 rfl rfl fun hb => ?_
  refine ⟨_, awake_ok, ?_⟩
  have hil := Il_length od.incs
  have hml : (Ml od.msgs).length = od.msgs.length := by simp [Ml]
  refine ⟨fun _ => ⟨⟨L.le_refl _, trivial⟩, trivial, rfl, rfl⟩, fun h => ?_⟩
  have hod : FitE od := by
    have h : cond (decide (((Ml od.msgs).length : Int) > 10)) true (decide (((Il od.incs).length : Int) > 20)) = false := h
    rw [cond_or, Bool.or_eq_false_iff, decide_eq_false_iff_not, decide_eq_false_iff_not, hil, hml] at h
    exact ⟨by omega, by omega⟩
  obtain ⟨l, ha, hf, hr1, hal⟩ := log2_ok ra ms hra hms hla hlm
  refine ⟨_, _, ha, ?_⟩
  have hel := El_length l
  have w2 : IntKind.i64.wrap (((El l).length : Int) + 1) = ((l.length + 1 : Nat) : Int) := by rw [hel, wrap64 (by omega) (by omega)]; omega
  have hpk := pick_range (c := c) (n := ((l.length + 1 : Nat) : Int)) (by omega)
  obtain ⟨k, hk⟩ : ∃ k : Nat, pick c ((l.length + 1 : Nat) : Int) = k := ⟨(pick c ((l.length + 1 : Nat) : Int)).toNat, by omega⟩
  have hka : k ≤ l.length := by omega
  have hpick : M 6 [.int c, .int (IntKind.i64.wrap (((El l).length : Int) + 1))] (.int (k : Nat)) := by
    rw [w2, ← hk]; exact pick33_ok c _ hc (by omega)
  refine ⟨_, hpick, ?_⟩
  obtain ⟨z, hz⟩ : ∃ z, z = l.take k ++ [od] ++ l.drop k := ⟨_, rfl⟩
  have hzl : z.length = l.length + 1 := by rw [hz]; simp; omega
  have hfz : Fit z := by
    refine ⟨by omega, fun x hx => ?_⟩
    rw [hz] at hx
    rcases List.mem_append.1 hx with hx | hx
    · rcases List.mem_append.1 hx with hx | hx
      · exact hf.2 x (List.mem_of_mem_take hx)
      · rw [List.mem_singleton.1 hx]; exact hod
    · exact hf.2 x (List.mem_of_mem_drop hx)
  have htk : ((El l).take k).length = k := by rw [List.length_take, hel]; omega
  have hdk : ((El l).drop k).length = l.length - k := by rw [List.length_drop, hel]
  refine ⟨k, ⟨rfl, by rw [hel]; omega⟩, ?_⟩
  refine ⟨by show (0 + ((El l).take k).length) * 72 ≤ _; rw [htk]; omega, ?_⟩
  refine ⟨by show (([] ++ (El l).take k).length + 1) * 72 ≤ _; rw [List.nil_append, htk]; omega, ?_⟩
  refine ⟨k, ⟨rfl, by rw [hel]; omega⟩, ?_⟩
  refine ⟨?_, ?_⟩
  · have e72 : ty27.bytes = 72 := rfl
    simp only [List.nil_append, List.length_append, htk, hdk, List.length_singleton, e72]
    omega
  refine ⟨rfl, ?_⟩
  obtain ⟨e, hent, hfe⟩ := tell_ent n hn
  refine ⟨0, ⟨rfl, by decide⟩, ?_⟩
  refine ⟨_, pick33_ok n.a 6 hn.1 (by decide), ?_⟩
  refine ⟨1, ⟨rfl, by decide⟩, ?_⟩
  refine ⟨_, pick33_ok n.b 30 hn.2.1 (by decide), ?_⟩
  refine ⟨2, ⟨rfl, by decide⟩, ?_⟩
  refine ⟨_, hent, ?_⟩
  refine ⟨rfl, ?_⟩
  have hxl := Il_length acks
  obtain ⟨m, hm⟩ : ∃ m : Nat, m = min acks.length 20 := ⟨_, rfl⟩
  refine ⟨m, ⟨?_, by rw [hxl]; omega⟩, ?_⟩
  · rw [hxl]; omega
  obtain ⟨X, hX⟩ : ∃ X, X = acks.take m := ⟨_, rfl⟩
  have hXl : X.length ≤ 20 := by rw [hX, List.length_take]; omega
  obtain ⟨ys, hys⟩ : ∃ ys, ys = [l, z] := ⟨_, rfl⟩
  have hyl : ys.length = 2 := by rw [hys]; rfl
  have hyf : ∀ y ∈ ys, Fit y := by
    intro y hy
    rw [hys] at hy
    simp at hy
    rcases hy with rfl | rfl
    · exact hf
    · exact hfz
  refine ⟨Nat, tellI1 prev term od l k e X ys, fun i => i ≤ 2, fun i => 2 - i, 0, Nat.zero_le _, ?_, ?_⟩
  · refine ⟨⟨L.le_refl _, L.le_refl _, ⟨rfl, rfl⟩, L.le_refl _, L.le_refl _, L.le_refl _, ⟨rfl, rfl⟩, L.le_of_eq (congrArg (L.sl 1) ?_), L.le_of_eq (congrArg (L.sl 1) ?_), L.le_refl _, L.le_refl _, trivial⟩, ⟨⟨L.le_refl _, L.le_refl _, L.le_refl _, L.le_refl _, L.le_refl _, trivial⟩, ⟨L.le_refl _, L.le_refl _, L.le_refl _, L.le_refl _, L.le_refl _, trivial⟩, trivial⟩, rfl, rfl⟩
    · rw [hX, Il, Il, List.map_take]
    · rw [hys, yL, hz]
      show _ = [[L.sl 5 (El l)], [L.sl 5 (El (l.take k ++ [od] ++ l.drop k))]]
      rw [← El_app, ← El_app, ← El_take, ← El_drop]; rfl
  rintro i hi _
  have hi : i ≤ 2 := hi
  refine ⟨fun hc => ?_, fun hc => ?_⟩
  rotate_left
  · exact ⟨⟨L.le_refl _, trivial⟩, trivial, rfl, rfl⟩
  have hi2 : i < 2 := by
    have hc : decide ((i : Int) < ((2 : Nat) : Int)) = true := hc
    rw [decide_eq_true_eq] at hc
    omega
  have hiy : i < ys.length := by omega
  refine ⟨[L.sl 5 (El ys[i])], ⟨i, rfl, yL_get ys i hiy⟩, ?_⟩
  obtain ⟨y, hy⟩ : ∃ y, y = ys[i] := ⟨_, rfl⟩
  have hfy : Fit y := by rw [hy]; exact hyf _ (List.getElem_mem hiy)
  rw [← hy]
  have h6 := pick_range (c := term) (n := 6) (by omega)
  have h14 := pick_range (c := prev) (n := 14) (by omega)
  refine ⟨_, pick33_ok term 6 ht (by decide), ?_⟩
  refine ⟨_, pick33_ok prev 14 hp (by decide), ?_⟩
  obtain ⟨ps, hps⟩ : ∃ ps : List (Int × Int), ps = [(prev, term), ((k : Nat), pick term 6), (pick prev 14, 1)] := ⟨_, rfl⟩
  have hpl : ps.length = 3 := by rw [hps]; rfl
  have hpr : ∀ p ∈ ps, InR p.1 := by
    intro p hp'
    rw [hps] at hp'
    simp at hp'
    rcases hp' with rfl | rfl | rfl
    · exact hp
    · constructor <;> omega
    · constructor <;> omega
  change Code.W tys (cfg []) N 0 [] Tryz.f3.ntmps keep3 _ true [] _ _
  refine tell2 _ ?_ _ _ prev term od l k e X ys i y ps hfy hfe hod hXl hpl hpr ?_ ?_
  · kernel_rfl
  · refine ⟨⟨L.le_refl _, L.le_refl _, ⟨rfl, rfl⟩, L.le_refl _, L.le_refl _, L.le_refl _, ⟨rfl, rfl⟩, L.le_refl _, L.le_refl _, L.le_refl _, L.le_refl _, L.le_refl _, L.le_of_eq (congrArg (L.sl 2) ?_), L.le_refl _, L.le_refl _, trivial⟩, ⟨⟨L.le_refl _, L.le_refl _, L.le_refl _, L.le_refl _, L.le_refl _, trivial⟩, ⟨L.le_refl _, L.le_refl _, L.le_refl _, L.le_refl _, L.le_refl _, trivial⟩, trivial⟩, rfl, rfl⟩
    rw [hps]; rfl
  rintro j hj
  have hcm := common_ok y l hfy
  have hcm2 := rcommon_ok y l hfy
  have htl : Fit (l.take k) := hf.take k
  have hct : M 19 [.d (.l (.sl 5 ((El l).take k))), Es y] (.int (commonL (l.take k) y)) := by rw [El_take]; exact common_ok (l.take k) y htl
  have hct2 : M 20 [.d (.l (.sl 5 ((El l).take k))), Es y] (.int (commonL (l.take k) y)) := by rw [El_take]; exact rcommon_ok (l.take k) y htl
  refine ⟨_, lright_ok y hfy, ?_⟩
  refine ⟨_, lright'_ok y hfy, ?_⟩
  refine ⟨_, fun _ => hcm, ?_⟩
  refine ⟨_, fun _ => hcm2, ?_⟩
  refine ⟨k, fun _ => ⟨rfl, by rw [hel]; exact hka⟩, ?_⟩
  refine ⟨_, fun _ => hct, ?_⟩
  refine ⟨k, fun _ => ⟨rfl, by rw [hel]; exact hka⟩, ?_⟩
  refine ⟨_, fun _ => hct2, ?_⟩
  refine ⟨rfl, ?_⟩
  refine ⟨fun h => ?_, fun _ => ?_⟩
  · exfalso
    simp at h
  have inc : IntKind.i64.wrap ((i : Int) + 1) = ((i + 1 : Nat) : Int) := by rw [wrap64 (by omega) (by omega)]; simp
  refine ⟨i + 1, hi2, by show 2 - (i + 1) < 2 - i; omega, ?_⟩
  exact ⟨⟨L.le_refl _, L.le_refl _, ⟨rfl, rfl⟩, L.le_refl _, L.le_refl _, L.le_refl _, ⟨rfl, rfl⟩, L.le_refl _, L.le_refl _, L.le_refl _, L.le_of_eq (congrArg L.int inc), trivial⟩, ⟨⟨L.le_refl _, L.le_refl _, L.le_refl _, L.le_refl _, L.le_refl _, trivial⟩, ⟨L.le_refl _, L.le_refl _, L.le_refl _, L.le_refl _, L.le_refl _, trivial⟩, trivial⟩, rfl, rfl⟩
end Go.Proofs.YtelbkabgkcogpaaGreatDoor

set_option linter.unusedVariables false
set_option maxRecDepth 100000
namespace Go.Proofs.YtelbkabgkcogpaaGreatDoor
open Go Go.Proofs.YtelbkabgkcogpaaGreatDoor.Abs Go.ChangeShapes Go.WideShapes Go.ChangeAt Go.RowKit
theorem laidOut : laidOutB Tryz.prog = true := by kernel_rfl
theorem own : ownKnob Tryz.prog.godebug = none := by kernel_rfl
abbrev laidL : List (String × DataW Unit) := [("omnibus/ident.greatest", Rows.laid_omnibus_ident_greatest)]
theorem gGr : Tryz.prog.globalNamed "omnibus/ident.greatest" = some 0 := by kernel_rfl
theorem door_met (os : Os) (args : Array Value) : laidMetH Tryz.prog laidL ((World.doorLaid Tryz.prog 400 os).forCall (fun _ _ => 0) ⟨#[], args, []⟩).memory :=
  laidMetH_of_parts3 (fuel := 8) (laidMet_of_run' 8 (by kernel_rfl) (by kernel_rfl)) (by kernel_rfl) (by kernel_rfl)
theorem gTy : ∃ t, (Tryz.prog.globals[0]?).map (·.type) = some t ∧ Tryz.prog.underlying t = some (.array 2 3) := by
  refine ⟨35, ?_, ?_⟩
  · kernel_rfl
  · kernel_rfl
theorem of_laid {W : World} (h : laidMetH Tryz.prog laidL W) : Foreign W g00 gl := by
  rw [MakeChecks.laidMetH_plain _ _ _ (by kernel_rfl)] at h
  obtain ⟨ps, ⟨g0, t0, cs0, f0, p0, q0, hg0, ht0, hv0, hd0, _, _⟩, _, _⟩ := h
  obtain rfl := Option.some.inj (gGr.symm.trans hg0)
  obtain ⟨t, e1, e2⟩ := gTy
  obtain rfl := Option.some.inj (e1.symm.trans ht0)
  obtain ⟨xs, m1, rfl, hx1, hlen, hn3, hel⟩ := DataW.trod_array e2 hd0
  have c3 : Tryz.prog.cellsOf 3 = 1 := by kernel_rfl
  have ct : Tryz.prog.cellsOf t = 2 := by
    have : (Tryz.prog.globals[0]?).map (fun g => Tryz.prog.cellsOf g.type) = some 2 := by kernel_rfl
    cases hg : Tryz.prog.globals[0]? with
    | none => rw [hg] at e1; cases e1
    | some g => rw [hg] at e1 this; cases e1; simpa using this
  rw [ct] at hlen
  have h0 := hel 0 (by decide)
  have h1 := hel 1 (by decide)
  simp only [Prod.mk.injEq, Rows.laid_omnibus_ident_greatest, DataW.agg.injEq] at hx1
  have hcs : cs0 = #[.int .i64 2047, .int .i64 536870911] := by
    obtain ⟨l⟩ := cs0
    match l, hlen with
    | [a, b], _ =>
      match xs, hn3, hx1, h0, h1 with
      | [x0, x1], _, hx1, h0, h1 =>
        rw [c3] at h0 h1
        simp only [List.map_cons, List.map_nil, List.cons.injEq] at hx1
        obtain ⟨k, e1, e2, _⟩ := DataW.trod_int Tryz.underlying3 (show DataW.trod _ Tryz.prog W 0 _ false m1 3 [a] = some x0 from h0)
        obtain ⟨k', e1', e2', _⟩ := DataW.trod_int Tryz.underlying3 (show DataW.trod _ Tryz.prog W 0 _ false m1 3 [b] = some x1 from h1)
        rw [e2] at hx1
        rw [e2'] at hx1
        have hk : k = 2047 := by simpa using hx1.1.1.symm
        have hk' : k' = 536870911 := by simpa using hx1.1.2.1.symm
        subst hk; subst hk'
        simp at e1 e1'
        subst e1; subst e1'
        rfl
  have hh : ∃ e f, W.heap[0]? = some (.cells #[.int .i64 2047, .int .i64 536870911] e f) := by
    simp only [World.var?, gGr, Option.bind_some] at hv0
    split at hv0
    · rename_i cs e f hh
      cases hv0
      rw [hcs] at hh
      exact ⟨e, f, hh⟩
    · cases hv0
  refine ⟨(fun _ _ _ h => nomatch h), (fun _ _ _ h => nomatch h), fun _ => rfl, fun _ h => h, fun b cs hb => ?_⟩
  simp only [Abs.look] at hb
  split at hb
  · rename_i e
    have := Nat.eq_of_beq_eq_true e
    subst this
    cases hb
    exact ⟨hh, rfl⟩
  · cases hb

theorem sh_int {n : Nat} {x : D} (h : ShD Tryz.prog n 3 x) : ∃ z, x = .l (.int z) ∧ InR z := by
  obtain ⟨z, e, h1, h2⟩ := ShD_int Tryz.underlying3 h
  exact ⟨z, e, h1, by have : z ≤ 9223372036854775807 := h2; omega⟩
theorem sh_int' (m : Nat) (ls : List L) (h : Sh Tryz.prog m 3 ls) : ∃ z : Int, ls = [.int z] ∧ InR z := by
  obtain ⟨z, e, h1, h2⟩ := Sh_int Tryz.underlying3 h
  exact ⟨z, e, h1, by have : z ≤ 9223372036854775807 := h2; omega⟩
theorem sh_r6' (m : Nat) (ls : List L) (h : Sh Tryz.prog m 56 ls) : ∃ r : R6, ls = r.L ∧ r.ok := by
  obtain ⟨p, q, rfl, h1, p2, q2, rfl, h2, p3, q3, rfl, h3, p4, q4, rfl, h4, p5, q5, rfl, h5, p6, q6, rfl, h6, h7⟩ := Sh_array Tryz.underlying56 h
  obtain ⟨a, rfl, ha⟩ := sh_int' _ _ h1
  obtain ⟨b, rfl, hb⟩ := sh_int' _ _ h2
  obtain ⟨c, rfl, hc⟩ := sh_int' _ _ h3
  obtain ⟨d, rfl, hd⟩ := sh_int' _ _ h4
  obtain ⟨e, rfl, he⟩ := sh_int' _ _ h5
  obtain ⟨f, rfl, hf⟩ := sh_int' _ _ h6
  cases h7
  exact ⟨⟨a, b, c, d, e, f⟩, rfl, ha, hb, hc, hd, he, hf⟩
theorem sh_r6s {n : Nat} {x : D} (h : ShD Tryz.prog n 23 x) : ∃ l : List R6, x = .l (.sl 6 (Rl l)) ∧ l.length ≤ 9223372036854775807 ∧ ∀ r ∈ l, r.ok := by
  obtain ⟨l, e, hb, hl⟩ := ShD_slice Tryz.underlying23 (c := 6) (by kernel_rfl) R6.L R6.ok sh_r6' h
  exact ⟨l, e, hb, hl⟩

theorem sh_r3' (m : Nat) (ls : List L) (h : Sh Tryz.prog m 28 ls) : ∃ r : R3, ls = r.L ∧ r.ok := by
  obtain ⟨p, q, rfl, h1, p2, q2, rfl, h2, p3, q3, rfl, h3, h7⟩ := Sh_array Tryz.underlying28 h
  obtain ⟨a, rfl, ha⟩ := sh_int' _ _ h1
  obtain ⟨b, rfl, hb⟩ := sh_int' _ _ h2
  obtain ⟨c, rfl, hc⟩ := sh_int' _ _ h3
  cases h7
  exact ⟨⟨a, b, c⟩, rfl, ha, hb, hc⟩
theorem sh_r3s {n : Nat} {x : D} (h : ShD Tryz.prog n 22 x) : ∃ l : List R3, x = .l (.sl 3 (Rl3 l)) ∧ l.length ≤ 9223372036854775807 ∧ ∀ r ∈ l, r.ok := by
  obtain ⟨l, e, hb, hl⟩ := ShD_slice Tryz.underlying22 (c := 3) (by kernel_rfl) R3.L R3.ok sh_r3' h
  exact ⟨l, e, hb, hl⟩
theorem sh_r6 {n : Nat} {x : D} (h : ShD Tryz.prog n 56 x) : ∃ r : R6, x = .agg r.L ∧ r.ok := by
  obtain ⟨ls, rfl, hs⟩ := ShD_row (by rw [isRowT_of Tryz.underlying56]; rfl) h
  obtain ⟨r, rfl, hr⟩ := sh_r6' _ _ hs
  exact ⟨r, rfl, hr⟩
theorem sh_msg' (k : Nat) (ls : List L) (h : Sh Tryz.prog k 54 ls) : ∃ m : Msg, ls = m.L ∧ True := by
  obtain ⟨p, q, rfl, h1, p2, q2, rfl, h2, p3, q3, rfl, h3, p4, q4, rfl, h4, p5, q5, rfl, h5, p6, q6, rfl, h6, h7⟩ := Sh_struct Tryz.underlying54 h
  obtain ⟨i1, j1, rfl, g1, i2, j2, rfl, g2, g3⟩ := Sh_struct Tryz.underlying52 h1
  obtain ⟨e, rfl⟩ := Sh_bool Tryz.underlying4 g1
  obtain ⟨n, rfl, _⟩ := sh_int' _ _ g2
  cases g3
  obtain ⟨b, rfl, hb⟩ := sh_int' _ _ h2
  obtain ⟨c, rfl, hc⟩ := sh_int' _ _ h3
  obtain ⟨d, rfl, hd⟩ := sh_int' _ _ h4
  obtain ⟨f, rfl, hf⟩ := sh_int' _ _ h5
  obtain ⟨s, rfl, hs⟩ := Sh_string Tryz.underlying9 h6
  cases h7
  exact ⟨⟨e, n, b, c, d, f, s⟩, rfl, trivial⟩
theorem sh_msg {n : Nat} {x : D} (h : ShD Tryz.prog n 54 x) : ∃ m : Msg, x = .agg m.L := by
  obtain ⟨ls, rfl, hs⟩ := ShD_row (by rw [isRowT_of Tryz.underlying54]; rfl) h
  obtain ⟨m, rfl, _⟩ := sh_msg' _ _ hs
  exact ⟨m, rfl⟩
theorem sh_msgs {n : Nat} {x : D} (h : ShD Tryz.prog n 25 x) : ∃ l : List Msg, x = .l (.sl 7 (Ml l)) ∧ l.length ≤ 9223372036854775807 := by
  obtain ⟨l, e, hb, hl⟩ := ShD_slice Tryz.underlying25 (c := 7) (by kernel_rfl) Msg.L (fun _ => True) sh_msg' h
  exact ⟨l, e, hb⟩
theorem sh_ints' (m : Nat) (ls : List L) (h : Sh Tryz.prog m 24 ls) : ∃ l : List Int, ls = [.sl 1 (Il l)] ∧ l.length ≤ 9223372036854775807 := by
  obtain ⟨l, e, hb, _⟩ := Sh_slice Tryz.underlying24 (c := 1) (by kernel_rfl) (fun z : Int => [.int z]) (fun z => InR z) sh_int' h
  exact ⟨l, e, hb⟩
theorem sh_ints {n : Nat} {x : D} (h : ShD Tryz.prog n 24 x) : ∃ l : List Int, x = .l (.sl 1 (Il l)) ∧ l.length ≤ 9223372036854775807 := by
  obtain ⟨l, e, hb, hl⟩ := ShD_slice Tryz.underlying24 (c := 1) (by kernel_rfl) (fun z : Int => [.int z]) (fun z => InR z) sh_int' h
  exact ⟨l, e, hb⟩
theorem sh_msgs' (m : Nat) (ls : List L) (h : Sh Tryz.prog m 25 ls) : ∃ l : List Msg, ls = [.sl 7 (Ml l)] ∧ l.length ≤ 9223372036854775807 := by
  obtain ⟨l, e, hb, _⟩ := Sh_slice Tryz.underlying25 (c := 7) (by kernel_rfl) Msg.L (fun _ => True) sh_msg' h
  exact ⟨l, e, hb⟩
theorem sh_ent {n : Nat} {x : D} (h : ShD Tryz.prog n 27 x) : ∃ e : Ent, x = .agg e.L ∧ e.incs.length ≤ 9223372036854775807 ∧ e.msgs.length ≤ 9223372036854775807 := by
  obtain ⟨ls, rfl, hs⟩ := ShD_row (by rw [isRowT_of Tryz.underlying27]; rfl) h
  obtain ⟨p, q, rfl, h1, p2, q2, rfl, h2, p3, q3, rfl, h3, p4, q4, rfl, h4, p5, q5, rfl, h5, h7⟩ := Sh_struct Tryz.underlying27 hs
  obtain ⟨a, rfl, _⟩ := sh_int' _ _ h1
  obtain ⟨b, rfl, _⟩ := sh_int' _ _ h2
  obtain ⟨c, rfl, _⟩ := sh_int' _ _ h3
  obtain ⟨i, rfl, hi⟩ := sh_ints' _ _ h4
  obtain ⟨m, rfl, hm⟩ := sh_msgs' _ _ h5
  cases h7
  exact ⟨⟨a, b, c, i, m⟩, rfl, hi, hm⟩
theorem sh_r3 {n : Nat} {x : D} (h : ShD Tryz.prog n 28 x) : ∃ r : R3, x = .agg r.L ∧ r.ok := by
  obtain ⟨ls, rfl, hs⟩ := ShD_row (by rw [isRowT_of Tryz.underlying28]; rfl) h
  obtain ⟨r, rfl, hr⟩ := sh_r3' _ _ hs
  exact ⟨r, rfl, hr⟩

end Go.Proofs.YtelbkabgkcogpaaGreatDoor

