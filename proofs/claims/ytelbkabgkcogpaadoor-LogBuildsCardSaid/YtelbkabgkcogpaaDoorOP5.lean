/-
  Layer 16: lists put together; the program's Put.
-/
import Derived.Test.YtelbkabgkcogpaaDoorOP4
import Derived.Test.YtelbkabgkcogpaaDoorOP3
import Derived.Shelf.Sort.Plain
import Derived.Shelf.Slices.In.SortNone
import Derived.Test.YtelbkabgkcogpaaDoorTie
import Derived.Test.YtelbkabgkcogpaaDoorCards
import Derived.LaidMore
import Derived.OpenShut
import Derived.Stop.Joined
import Derived.Test.YtelbkabgkcogpaaDoorOP1
import Derived.Test.YtelbkabgkcogpaaDoorOP2
set_option linter.unusedVariables false
set_option linter.unusedSimpArgs false
set_option maxRecDepth 100000
namespace Go.Proofs.YtelbkabgkcogpaaDoor
open Go Go.Proofs.YtelbkabgkcogpaaDoor.Abs

abbrev zent : List L := [L.int 0, L.int 0, L.int 0, L.nil, L.nil]
theorem grow0_ok : M 53 [.d (.l .nil), .int 0] (.d (.l .nil)) := by
  refine go53 rfl rfl fun hb => ?_
  refine ⟨fun h => absurd h (by decide), fun _ => ?_⟩
  refine ⟨fun h => absurd h (by decide), fun _ => ?_⟩
  exact ⟨⟨L.le_refl _, trivial⟩, trivial, rfl, rfl⟩
theorem grow_ok (n : Nat) (h0 : 0 < n) (hn : n ≤ 1000000) : MM 53 [] [.d (.l .nil), .int n] [(100, .arr 5 (List.replicate n zent) false)] (.msl 100 5 0 0) := by
  refine gb53 [(20, 2), (22, 2)] [] rfl rfl fun hb => ?_
  have w0 : IntKind.i64.wrap ((0 : Int) - 0) = 0 := by decide
  have w1 : IntKind.i64.wrap ((n : Int) - IntKind.i64.wrap ((0 : Int) - 0)) = n := by rw [w0, Int.sub_zero, wrap64 (by omega) (by omega)]
  refine ⟨fun h => ?_, fun _ => ?_⟩
  · exfalso
    have : (n : Int) < 0 := by simpa using h
    omega
  refine ⟨fun _ => ?_, fun h => ?_⟩
  · refine ⟨rfl, ?_⟩
    refine ⟨n, ⟨w1, h0, by show n * 72 ≤ _; omega⟩, ?_⟩
    refine ⟨0, ⟨rfl, Nat.zero_le _⟩, ?_⟩
    exact ⟨⟨rfl, rfl⟩, ⟨⟨rfl, rfl, rfl, rfl⟩, trivial⟩, ⟨⟨rfl, ⟨[], (List.append_nil _).symm⟩, nofun⟩, trivial⟩, rfl, rfl⟩
  · exfalso
    have h : decide (IntKind.i64.wrap ((n : Int) - IntKind.i64.wrap ((0 : Int) - 0)) > 0) = false := h
    rw [w1] at h
    simp at h
    omega
abbrev Ess (ls : List (List Ent)) : V := .d (.l (.sl 1 (ls.map fun l => [L.sl 5 (El l)])))
theorem flat_take (ls : List (List Ent)) (k : Nat) (h : k < ls.length) : (ls.take (k + 1)).flatten = (ls.take k).flatten ++ ls[k] := by
  rw [List.take_succ_eq_append_getElem h, List.flatten_append]; simp
theorem flat_le (ls : List (List Ent)) (k : Nat) : (ls.take k).flatten.length ≤ ls.flatten.length := by
  have : ls.flatten = (ls.take k).flatten ++ (ls.drop k).flatten := by rw [← List.flatten_append, List.take_append_drop]
  rw [this, List.length_append]; omega
set_option maxHeartbeats 2000000 in
theorem concat_ok (ls : List (List Ent)) (h : ls.flatten.length ≤ 100000) (hl : ls.length ≤ 1000) : M 29 [Ess ls] (Es ls.flatten) := by
  have hll : (ls.map fun l => [L.sl 5 (El l)]).length = ls.length := by simp
  have hget : ∀ k (hk : k < ls.length), (ls.map fun l => [L.sl 5 (El l)])[k]? = some [L.sl 5 (El ls[k])] := fun k hk => by simp [hk]
  have hfin := El_length ls.flatten
  refine go29 rfl rfl fun hb => ?_
  refine ⟨Nat, fun k => ⟨[(0, Ess ls), (3, .int (ls.take k).flatten.length), (9, Ess ls), (10, .int ls.length), (11, .int k)], ⟨[], [], 900000, 0⟩⟩, fun k => k ≤ ls.length, fun k => ls.length - k, 0, Nat.zero_le _, ?_, ?_⟩
  · exact ⟨⟨L.le_refl _, L.le_refl _, L.le_refl _, L.le_of_eq (by rw [hll]), L.le_refl _, trivial⟩, trivial, rfl, rfl⟩
  rintro k hk _
  have hk : k ≤ ls.length := hk
  have inc : IntKind.i64.wrap ((k : Int) + 1) = ((k + 1 : Nat) : Int) := by rw [wrap64 (by omega) (by omega)]; simp
  have hle := flat_le ls k
  refine ⟨fun hc => ?_, fun hc => ?_⟩
  · have hlt : k < ls.length := by simpa using hc
    have hel := El_length ls[k]
    have hsu := congrArg List.length (flat_take ls k hlt)
    rw [List.length_append] at hsu
    have hle2 := flat_le ls (k + 1)
    have w1 : IntKind.i64.wrap (((ls.take k).flatten.length : Int) + ((El ls[k]).length : Int)) = ((ls.take (k + 1)).flatten.length : Nat) := by rw [hel, wrap64 (by omega) (by omega)]; omega
    refine ⟨_, ⟨k, rfl, hget k hlt⟩, ?_⟩
    refine ⟨fun h => ?_, fun _ => ?_⟩
    · exfalso
      have h : decide (IntKind.i64.wrap (((ls.take k).flatten.length : Int) + ((El ls[k]).length : Int)) < 0) = true := h
      rw [w1] at h
      simp at h
      omega
    refine ⟨k + 1, hlt, by show ls.length - (k + 1) < ls.length - k; omega, ?_⟩
    exact ⟨⟨L.le_refl _, L.le_of_eq (congrArg L.int w1), L.le_refl _, L.le_refl _, L.le_of_eq (congrArg L.int inc), trivial⟩, trivial, rfl, rfl⟩
  have hge : k = ls.length := by
    have : ¬ k < ls.length := by simpa using hc
    omega
  have hall : ls.take k = ls := by rw [hge, List.take_length]
  obtain ⟨n, hn⟩ : ∃ n, n = ls.flatten.length := ⟨_, rfl⟩
  rcases Nat.eq_zero_or_pos n with h0 | h0
  · have hz : M 53 [.d (.l .nil), .int ((ls.take k).flatten.length : Nat)] (.d (.l .nil)) := by rw [hall, ← hn, h0]; exact grow0_ok
    refine ⟨_, _, hz, ?_⟩
    refine ⟨Nat, fun i => ⟨[(6, .own 950000 5 (El (ls.take i).flatten)), (25, Ess ls), (26, .int ls.length), (27, .int i)], ⟨[], [950000], 900000, 0⟩⟩, fun i => i ≤ ls.length, fun i => ls.length - i, 0, Nat.zero_le _, ?_, ?_⟩
    · exact ⟨⟨rfl, L.le_refl _, L.le_of_eq (by rw [hll]), L.le_refl _, trivial⟩, trivial, rfl, rfl⟩
    rintro i hi _
    have hi : i ≤ ls.length := hi
    have inci : IntKind.i64.wrap ((i : Int) + 1) = ((i + 1 : Nat) : Int) := by rw [wrap64 (by omega) (by omega)]; simp
    have hm := El_length (ls.take i).flatten
    have hmn := flat_le ls i
    refine ⟨fun hc2 => ?_, fun hc2 => ?_⟩
    · have hlt : i < ls.length := by simpa using hc2
      have hel := El_length ls[i]
      have hft := flat_take ls i hlt
      have hsu := congrArg List.length hft
      rw [List.length_append] at hsu
      have hle2 := flat_le ls (i + 1)
      refine ⟨_, ⟨i, rfl, hget i hlt⟩, ?_⟩
      refine ⟨by show ((El (ls.take i).flatten).length + (El ls[i]).length) * 72 ≤ _; omega, ?_⟩
      refine ⟨i + 1, hlt, by show ls.length - (i + 1) < ls.length - i; omega, ?_⟩
      refine ⟨⟨⟨rfl, L.le_of_eq (congrArg (L.sl 5) ?_)⟩, L.le_refl _, L.le_refl _, L.le_of_eq (congrArg L.int inci), trivial⟩, trivial, rfl, rfl⟩
      rw [hft, ← El_app]
    · have hie : ls.take i = ls := by
        have : ¬ i < ls.length := by simpa using hc2
        exact List.take_of_length_le (by omega)
      refine ⟨⟨L.le_of_eq (congrArg (L.sl 5) ?_), trivial⟩, trivial, rfl, rfl⟩
      rw [hie]
  · have hz : MM 53 [] [.d (.l .nil), .int ((ls.take k).flatten.length : Nat)] [(100, .arr 5 (List.replicate n zent) false)] (.msl 100 5 0 0) := by rw [hall, ← hn]; exact grow_ok n h0 (by omega)
    refine ⟨_, _, hz, ?_⟩
    refine ⟨Nat, fun i => ⟨[(6, .msl 800000 5 0 (ls.take i).flatten.length), (25, Ess ls), (26, .int ls.length), (27, .int i)], ⟨[(800000, .arr 5 (El (ls.take i).flatten ++ List.replicate (n - (ls.take i).flatten.length) zent) false)], [], 700000, 0⟩⟩, fun i => i ≤ ls.length, fun i => ls.length - i, 0, Nat.zero_le _, ?_, ?_⟩
    · exact ⟨⟨rfl, rfl⟩, ⟨⟨rfl, rfl, rfl, rfl⟩, L.le_refl _, L.le_of_eq (by rw [hll]), L.le_refl _, trivial⟩, ⟨⟨rfl, ⟨[], (List.append_nil _).symm⟩, nofun⟩, trivial⟩, rfl, rfl⟩
    rintro i hi _
    have hi : i ≤ ls.length := hi
    have inci : IntKind.i64.wrap ((i : Int) + 1) = ((i + 1 : Nat) : Int) := by rw [wrap64 (by omega) (by omega)]; simp
    have hm := El_length (ls.take i).flatten
    have hmn := flat_le ls i
    refine ⟨fun hc2 => ?_, fun hc2 => ?_⟩
    · have hlt : i < ls.length := by simpa using hc2
      have hel := El_length ls[i]
      have hft := flat_take ls i hlt
      have hsu := congrArg List.length hft
      rw [List.length_append] at hsu
      have hle2 := flat_le ls (i + 1)
      refine ⟨_, ⟨i, rfl, hget i hlt⟩, ?_⟩
      refine ⟨trivial, .inl ⟨?_, ?_⟩⟩
      · rw [List.length_append, List.length_replicate]; omega
      refine ⟨i + 1, hlt, by show ls.length - (i + 1) < ls.length - i; omega, ?_⟩
      have hbx : (El (ls.take i).flatten ++ List.replicate (n - (ls.take i).flatten.length) zent).take (0 + (ls.take i).flatten.length) ++ El ls[i] ++ (El (ls.take i).flatten ++ List.replicate (n - (ls.take i).flatten.length) zent).drop (0 + (ls.take i).flatten.length + (El ls[i]).length) = El (ls.take (i + 1)).flatten ++ List.replicate (n - (ls.take (i + 1)).flatten.length) zent := by
        have e1 : (El (ls.take i).flatten ++ List.replicate (n - (ls.take i).flatten.length) zent).take (0 + (ls.take i).flatten.length) = El (ls.take i).flatten := by rw [List.take_append_of_le_length (by omega), List.take_of_length_le (by omega)]
        have e2 : (El (ls.take i).flatten ++ List.replicate (n - (ls.take i).flatten.length) zent).drop (0 + (ls.take i).flatten.length + (El ls[i]).length) = List.replicate (n - (ls.take (i + 1)).flatten.length) zent := by
          rw [List.drop_append, List.drop_eq_nil_of_le (by omega), List.nil_append, List.drop_replicate]
          congr 1; omega
        rw [e1, e2, hft, ← El_app]
      exact ⟨⟨⟨rfl, rfl, rfl, show (ls.take i).flatten.length + (El ls[i]).length = (ls.take (i + 1)).flatten.length by omega⟩, L.le_refl _, L.le_refl _, L.le_of_eq (congrArg L.int inci), trivial⟩, ⟨⟨rfl, ⟨[], hbx.trans (List.append_nil _).symm⟩, nofun⟩, trivial⟩, rfl, rfl⟩
    · have hie : ls.take i = ls := by
        have : ¬ i < ls.length := by simpa using hc2
        exact List.take_of_length_le (by omega)
      rw [hie] at hm
      refine ⟨⟨⟨_, ⟨rfl, _, rfl⟩, ?_, ?_⟩, trivial⟩, trivial, rfl, rfl⟩
      · show 0 + (ls.take i).flatten.length ≤ (El (ls.take i).flatten ++ List.replicate (n - (ls.take i).flatten.length) zent).length
        rw [List.length_append, hie, hm]; omega
      · refine L.le_of_eq (congrArg (L.sl 5) ?_)
        show ((El (ls.take i).flatten ++ List.replicate (n - (ls.take i).flatten.length) zent).drop 0).take (ls.take i).flatten.length = El ls.flatten
        rw [hie, List.drop_zero, List.take_append_of_le_length (by omega), List.take_of_length_le (by omega)]
set_option maxHeartbeats 4000000 in
theorem pput_ok (l es : List Ent) (prev term : Int) (hf : Fit l) (hfe : Fit es) (hp : InR prev) : M 14 [Es l, .int prev, .int term, Es es] (putV (putT l prev term es)) := by
  have hel := El_length l
  have hee := El_length es
  have h400 := hf.1
  obtain ⟨e0, he0⟩ : ∃ e0, e0 = es.getD 0 dent := ⟨_, rfl⟩
  have he0f : FitE e0 := by
    cases es with
    | nil => subst he0; exact ⟨Nat.zero_le _, Nat.zero_le _⟩
    | cons a r =>
      have : e0 = a := he0
      rw [this]; exact hfe.2 a (by simp)
  have hget : 0 < es.length → (El es)[0]? = some e0.L := by
    intro h
    cases es with
    | nil => simp at h
    | cons a r =>
      have : e0 = a := he0
      rw [this]; rfl
  obtain ⟨R, hR⟩ : ∃ R, R = putT l prev term es := ⟨_, rfl⟩
  rw [← hR]
  refine go14 rfl rfl fun hb => ?_
  refine ⟨_, lright_ok l hf, ?_⟩
  refine ⟨_, fun _ => contE_ok es hfe, ?_⟩
  have hbad : ∀ X, cond (cond (!logRight l) true (decide (((El es).length : Int) > 1))) true (es.any fun e => !e.right) = X → (X = true ↔ (logRight l = false ∨ 1 < es.length ∨ (es.length = 1 ∧ e0.right = false))) := by
    rintro _ rfl
    rw [hee, cond_or, cond_or]
    simp only [Bool.or_eq_true, Bool.not_eq_true', decide_eq_true_eq, or_assoc]
    match es, he0 with
    | [], _ => simp
    | [a], h =>
      have : e0 = a := h
      subst this
      simp
    | a :: b :: r, _ => simp; omega
  rw [putT, ← he0] at hR
  refine ⟨fun h => ?_, fun h => ?_⟩
  · rw [if_pos ((hbad _ h).1 rfl)] at hR
    subst hR
    refine ⟨_, pown_ok l hf, ?_⟩
    exact ⟨⟨⟨L.le_refl _, L.le_refl _, L.le_refl _, trivial⟩, trivial⟩, trivial, rfl, rfl⟩
  have h1 : ¬ (logRight l = false ∨ 1 < es.length ∨ (es.length = 1 ∧ e0.right = false)) := fun hc => by
    have := (hbad _ h).2 hc
    cases this
  rw [if_neg h1] at hR
  refine ⟨_, pterm_ok l prev, ?_⟩
  have hmis : ∀ X, cond (!termB l prev) true (termV l prev != term) = X → hasT l prev term = !X := by
    rintro _ rfl
    rw [hasT, cond_or]
    cases termB l prev <;> simp [bne]
    rw [Bool.eq_iff_iff]; simp
  refine ⟨fun h => ?_, fun h => ?_⟩
  · rw [if_pos (show hasT l prev term = false from hmis _ h)] at hR
    subst hR
    refine ⟨_, pown_ok l hf, ?_⟩
    exact ⟨⟨⟨L.le_refl _, L.le_refl _, L.le_refl _, trivial⟩, trivial⟩, trivial, rfl, rfl⟩
  have h2 : hasT l prev term = true := hmis _ h
  rw [if_neg (by rw [h2]; simp)] at hR
  refine ⟨fun h => ?_, fun h => ?_⟩
  · have h3 : es = [] := by
      have : (es.length : Int) = 0 := by simpa [hee] using h
      exact List.eq_nil_of_length_eq_zero (by omega)
    rw [if_pos h3] at hR
    subst hR
    refine ⟨_, pown_ok l hf, ?_⟩
    exact ⟨⟨⟨L.le_refl _, L.le_refl _, L.le_refl _, trivial⟩, trivial⟩, trivial, rfl, rfl⟩
  have h3 : es ≠ [] := by
    rintro rfl
    exact absurd h (by decide)
  rw [if_neg h3] at hR
  have h2' := h2
  rw [hasT, Bool.and_eq_true, termB_iff] at h2'
  obtain ⟨⟨hp0, hpl⟩, _⟩ := h2'
  have hpos := List.length_pos_iff.2 h3
  have hes : es = [e0] := by
    cases es with
    | nil => exact absurd rfl h3
    | cons a r =>
      have h4 : e0 = a := he0
      have : r = [] := by
        cases r with
        | nil => rfl
        | cons _ _ => exfalso; apply h1; right; left; simp
      rw [this, h4]
  have hw : IntKind.i64.wrap (prev + 1) = prev + 1 := wrap64 (by omega) (by omega)
  have hlr : logRight l = true := by
    cases h : logRight l with
    | true => rfl
    | false => exact absurd (.inl h) h1
  have h300 : l.length ≤ 300 := (logRight_iff.1 hlr).1
  have hterm2 : M 13 [Es l, .int (IntKind.i64.wrap (prev + 1))] (.tup [.int (termV l (prev + 1)), .bool (termB l (prev + 1))]) := by rw [hw]; exact pterm_ok l _
  refine ⟨_, hterm2, ?_⟩
  refine ⟨e0.L, fun g1 => ⟨0, rfl, hget hpos⟩, ?_⟩
  have hnx : ∀ X, cond (termB l (prev + 1)) (termV l (prev + 1) == e0.term) false = X → hasT l (prev + 1) e0.term = X := by
    rintro _ rfl
    rw [hasT, cond_and]
    cases termB l (prev + 1) <;> simp
    rw [Bool.eq_iff_iff]; simp
  refine ⟨fun h => ?_, fun h => ?_⟩
  · rw [if_pos (hnx _ h)] at hR
    subst hR
    refine ⟨_, pown_ok l hf, ?_⟩
    exact ⟨⟨⟨L.le_refl _, L.le_of_eq (congrArg L.int hw), L.le_refl _, trivial⟩, trivial⟩, trivial, rfl, rfl⟩
  rw [if_neg (by rw [hnx _ h]; simp)] at hR
  have hfit := fit_cons hf prev.toNat (by omega) he0f
  rw [← hes] at hfit
  refine ⟨prev.toNat, ⟨by omega, by rw [hel]; omega⟩, ?_⟩
  have hcc : M 29 [.d (.l (.sl 1 [[L.sl 5 ((El l).take prev.toNat)], [L.sl 5 (El es)]]))] (Es (l.take prev.toNat ++ es)) := by
    have := concat_ok [l.take prev.toNat, es] (by have := hfit.1; simpa using Nat.le_trans this (by decide)) (by simp)
    rw [El_take]
    have e : [l.take prev.toNat, es].flatten = l.take prev.toNat ++ es := by simp
    rw [e] at this
    exact this
  refine ⟨_, hcc, ?_⟩
  refine ⟨_, pown_ok _ hfit, ?_⟩
  refine ⟨fun h => ?_, fun h => ?_⟩
  · have h4 : prev = 300 := by simpa using h
    rw [if_pos (by omega)] at hR
    subst hR
    refine ⟨_, pown_ok l hf, ?_⟩
    exact ⟨⟨⟨L.le_refl _, L.le_refl _, L.le_refl _, trivial⟩, trivial⟩, trivial, rfl, rfl⟩
  have h4 : ¬ prev = 300 := by simpa using h
  rw [if_neg (by omega)] at hR
  refine ⟨_, lright_ok _ hfit, ?_⟩
  refine ⟨fun h => ?_, fun h => ?_⟩
  · have h5 : logRight (l.take prev.toNat ++ es) = false := by simpa using h
    rw [if_pos h5] at hR
    subst hR
    refine ⟨_, pown_ok l hf, ?_⟩
    exact ⟨⟨⟨L.le_refl _, L.le_refl _, L.le_refl _, trivial⟩, trivial⟩, trivial, rfl, rfl⟩
  · have h5 : ¬ logRight (l.take prev.toNat ++ es) = false := by simpa using h
    rw [if_neg h5] at hR
    subst hR
    exact ⟨⟨⟨L.le_refl _, L.le_of_eq (congrArg L.int hw), L.le_refl _, trivial⟩, trivial⟩, trivial, rfl, rfl⟩
end Go.Proofs.YtelbkabgkcogpaaDoor

set_option linter.unusedVariables false
set_option linter.unusedSimpArgs false
namespace Go.Proofs.YtelbkabgkcogpaaDoor.Abs
open Go

variable {P : Program} {E : Env} {w : World} {g : G}

/-- a world that has more in it -/
theorem more_ok {w' : World} {bxF : Nat → Option Box} {tk : Nat → Bool} {fr : Nat → Prop} {st : Nat} (hH : HOk E w g bxF tk fr st) (hJ : ∀ i w g, E.J i w g) (h1 : w'.os = w.os) (h2 : w'.tape = w.tape) (h3 : w'.output = w.output) (h4 : w.heap.size ≤ w'.heap.size)
    (h5 : ∀ b, b < w.heap.size → w'.heap[b]? = w.heap[b]?) : HOk E w' g bxF tk fr st ∧ EvX w g w' g := by
  have hb : ∀ b o v, w.cell? ⟨b, o, none⟩ = some v → b < w.heap.size := by
    intro b o v h
    refine Nat.lt_of_not_le fun hle => ?_
    rw [World.cell?, Array.getElem?_eq_none hle] at h
    cases h
  have hc : ∀ b o v, Cst w g b o v → Cst w' g b o v := fun b o v ⟨k1, k2⟩ => ⟨by rw [cell_heap (h5 b (hb b o v k1))]; exact k1, k2⟩
  have hs : ∀ b x, w.shape? b = some x → w'.shape? b = some x := by
    intro b x h
    have : b < w.heap.size := by
      refine Nat.lt_of_not_le fun hle => ?_
      rw [World.shape?, Array.getElem?_eq_none hle] at h
      cases h
    rw [shape_heap (h5 b this)]; exact h
  have hp : Pres w g tk w' g tk := ⟨hc, fun _ _ h => h, hs, fun _ h => h, fun k _ k2 => ⟨k2, fun b m hb => ⟨h5 b (hH.size b _ m hb), rfl⟩⟩⟩
  refine ⟨⟨?_, ?_, hH.toks, hH.tkown, hH.bxown, ?_, ?_, hJ _ _ _⟩, ?_⟩
  · intro id B hB
    exact RepBox.keep hp (hH.bx id B hB) fun b k1 k2 => ⟨h5 b (hH.size b _ _ k2), k2⟩
  · intro id b h
    have := hH.ids id b h
    exact ⟨this.1, by omega⟩
  · intro b u m h
    have := hH.size b u m h
    omega
  · intro b cs h
    obtain ⟨⟨e, f, k1⟩, k2⟩ := hH.gl b cs h
    have hlt : b < w.heap.size := (Array.getElem?_eq_some_iff.1 k1).1
    exact ⟨⟨e, f, (h5 b hlt).trans k1⟩, k2⟩
  · exact ⟨h1, h2, h3, h4, hc, hs, fun _ _ _ h => h, fun b k1 k2 => ⟨h5 b k1, k2⟩, fun b u k k1 k2 => ⟨h5 b (hH.size b u k k1), k1⟩, fun b u k k1 k2 => k1⟩

theorem flat_one (l : List Int) : (l.map fun z => [L.int z]).flatten = l.map fun z => L.int z := by
  induction l with
  | nil => rfl
  | cons a l ih => simp [ih]
open Go.Proofs Go.RowKit Go.Shelf Go.Sort in
theorem sortI_meets {ρ : Go.Shelf.Ren} (Ly : Lays.n189 P ρ) {gl : List (Nat × Array Value)} {f : FuncId} (hf : ρ.f 189 = f) (hcall : Callable P f) (l : List Int) (h0 : 0 < l.length) (hb : l.length ≤ 1000000000) (fl : Bool) :
    MeetsB P gl f [(N0, .arr 1 (l.map fun z => [L.int z]) fl)] [.msl N0 1 0 l.length] [(N0, .arr 1 ((l.mergeSort fun x y => decide (x ≤ y)).map fun z => [L.int z]) fl)] (.tup []) := by
  obtain ⟨ys, hys⟩ : ∃ ys, ys = l.mergeSort fun x y => decide (x ≤ y) := ⟨_, rfl⟩
  have hyl : ys.length = l.length := by rw [hys, List.length_mergeSort]
  rw [← hys]
  refine ⟨hcall, List.nodup_nil, fun n w g vals hd hH hs ha => ?_⟩
  obtain ⟨b, c, e, hA⟩ := arr_in (id := N0) (s := 1) (l := l.map fun z => [L.int z]) (f := fl) hH rfl
  have hs1 : vals.size = 1 := hs
  obtain ⟨u, rfl⟩ : ∃ u, vals = #[u] := by
    obtain ⟨l'⟩ := vals
    match l', hs1 with
    | [u], _ => exact ⟨u, rfl⟩
  have hu := ha 0 _ u rfl rfl
  obtain ⟨cap, o, rfl, q1, q2, q3, q4⟩ := arr_msl hA hu
  have ho : o = 0 := by rw [q3 (by omega)]
  subst ho
  have hcs : c.size = cap := by omega
  have hrep : ∀ j (hj : j < l.length), c[j]? = some (.int .i64 l[j]) := by
    intro j hj
    obtain ⟨u, k1, k2⟩ := hA.rep j (L.int l[j]) (by rw [flat_one]; simp [hj])
    cases k2
    exact k1
  have hbl : b < w.heap.size := (Array.getElem?_eq_some_iff.1 hA.hh).1
  have hHo : Go.Sort.Holds (Value.int .i64) w b 0 l.toArray := by
    intro j hj
    have hj : j < l.length := by simpa using hj
    refine ⟨?_, ?_⟩
    · rw [cell_in hA.hh, Nat.zero_add, hrep j hj]
      simp [hj]
    · simp [World.frozen?, hA.hh]
  have hcalls := Any.slices_Sort_int Ly b 0 cap l w hHo hbl (by omega)
  rw [hf] at hcalls
  refine (callsIn_wide (n := n)).2 (hcalls.mono ?_)
  rintro e2 w' ⟨rfl, q, os, rfl⟩
  rw [← hys]
  obtain ⟨c', hc'⟩ : ∃ c' : Array Value, c' = putCells (Value.int .i64) 0 ys.toArray c := ⟨_, rfl⟩
  have hsz' : c'.size = c.size := by rw [hc']; simp [putCells]
  have hget : ∀ j : Nat, j < l.length → c'[j]? = some (.int .i64 (ys.getD j 0)) := by
    intro j hj
    have hjc : j < c.size := by omega
    rw [hc']
    have hjy : j < ys.length := by omega
    simp [putCells, hjc, hjy]
  have hget2 : ∀ (j : Nat) (v : Value), c'[j]? = some v → v.oneCell' = true := by
    intro j v hv
    by_cases hj : j < l.length
    · rw [hget j hj] at hv; cases hv; rfl
    · have hjc : j < c.size := by have := (Array.getElem?_eq_some_iff.1 hv).1; omega
      have : c'[j]? = c[j]? := by
        rw [hc']
        have hjy : ¬ j < ys.length := by omega
        simp [putCells, hjc, hjy]
      rw [this] at hv
      exact hA.one j v hv
  have hyf : ∀ (j : Nat) (x : L), (ys.map fun z => [L.int z]).flatten[j]? = some x → ∃ u, c'[j]? = some u ∧ ∀ w g, RepL w g x u := by
    intro j x hx
    rw [flat_one, List.getElem?_map, Option.map_eq_some_iff] at hx
    obtain ⟨z, hz, rfl⟩ := hx
    have hjy := (List.getElem?_eq_some_iff.1 hz).1
    refine ⟨_, hget j (by omega), fun w g => ?_⟩
    have : ys.getD j 0 = z := by rw [List.getD_eq_getElem?_getD, hz]; rfl
    rw [this]
    exact .lit _ rfl
  have hbox : ∀ {tk' : Nat → Bool} {w2 : World}, w2.heap[b]? = some (.cells c' e (0, 0)) → RepBox w2 g tk' N0 (.arr 1 (ys.map fun z => [L.int z]) fl) := fun hh =>
    ⟨b, c', e, hA.ρ, hA.own, hh, ⟨by simp; omega, fun hfl => by have := hA.full hfl; simp at this ⊢; omega⟩, by simp, fun j x hx => let ⟨u, k1, k2⟩ := hyf j x hx; ⟨u, k1, k2 _ _⟩, hget2⟩
  obtain ⟨hH1, hev1, _⟩ := boxUpd (B' := .arr 1 (ys.map fun z => [L.int z]) fl) (nid := 0) hH hA.ρ hA.own hA.hh hsz' fun hp => hbox (setRow_heap w b c c' e (0, 0) hA.hh)
  have hput : ∀ k : Nat, (putRow (Value.int .i64) (Sort.ahead w q) b 0 ys.toArray).heap[k]? = (w.setRow b c').heap[k]? := by
    intro k
    simp only [putRow, mapBlock, Sort.ahead, Array.getElem?_modify]
    by_cases hk : b = k
    · subst hk
      rw [if_pos rfl, setRow_heap w b c c' e (0, 0) hA.hh, hA.hh]
      simp [onCells, hc']
    · rw [if_neg hk, setRow_other w b k c' (fun h => hk h.symm)]
  have hsz2 : (putRow (Value.int .i64) (Sort.ahead w q) b 0 ys.toArray).heap.size = (w.setRow b c').heap.size := by rw [size_putRow, size_setRow]; rfl
  obtain ⟨hH2, hev2⟩ := more_ok (w' := grow (putRow (Value.int .i64) (Sort.ahead w q) b 0 ys.toArray) os) hH1 (fun _ _ _ => trivial) rfl rfl rfl (by simp [grow, hsz2]) (fun k hk => by
    simp only [grow]
    rw [Array.getElem?_append_left (by omega), hput])
  refine ⟨_, g, rfl, .tup [] #[] rfl (by simp), ⟨?_, fun id b h => ⟨fun h => h, (hH2.ids id b h).2⟩, fun k _ h => h, hH2.tkown, hH2.bxown, hH2.size, hH2.gl, trivial⟩, hev1.trans hev2⟩
  intro id B hB
  have hid : id = N0 ∧ B = .arr 1 (ys.map fun z => [L.int z]) fl := by
    rw [look_cons] at hB
    split at hB
    · rename_i h; cases hB; exact ⟨h.symm, rfl⟩
    · simp [look] at hB
  obtain ⟨rfl, rfl⟩ := hid
  refine hbox ?_
  simp only [grow]
  have hb2 : b < (putRow (Value.int .i64) (Sort.ahead w q) b 0 ys.toArray).heap.size := by rw [size_putRow]; exact hbl
  rw [Array.getElem?_append_left hb2, hput, setRow_heap w b c c' e (0, 0) hA.hh]
open Go.Proofs Go.RowKit Go.Shelf Go.Sort in
theorem sortI_none {ρ : Go.Shelf.Ren} (Ly : Lays.n189 P ρ) {gl : List (Nat × Array Value)} {f : FuncId} (hf : ρ.f 189 = f) (hcall : Callable P f) : MeetsB P gl f [] [.d (.l .nil)] [] (.tup []) := by
  refine ⟨hcall, List.nodup_nil, fun n w g vals hd hH hs ha => ?_⟩
  have hs1 : vals.size = 1 := hs
  obtain ⟨u, rfl⟩ : ∃ u, vals = #[u] := by
    obtain ⟨l'⟩ := vals
    match l', hs1 with
    | [u], _ => exact ⟨u, rfl⟩
  have hu := ha 0 _ u rfl rfl
  cases hu.lit_inv
  have hcalls := Any.slices_Sort_int_none Ly none 0 w
  rw [hf] at hcalls
  refine (callsIn_wide (n := n)).2 (hcalls.mono ?_)
  rintro e2 w' ⟨rfl, rfl⟩
  exact ⟨_, g, rfl, .tup [] #[] rfl (by simp), ⟨fun id B hB => by simp [look] at hB, fun id b h => ⟨fun h => h, (hH.ids id b h).2⟩, fun k _ h => h, hH.tkown, hH.bxown, hH.size, hH.gl, trivial⟩, EvX.refl _ _⟩
end Go.Proofs.YtelbkabgkcogpaaDoor.Abs

set_option linter.unusedVariables false
set_option linter.unusedSimpArgs false
set_option maxRecDepth 100000
namespace Go.Proofs.YtelbkabgkcogpaaDoor
open Go Go.Proofs.YtelbkabgkcogpaaDoor.Abs

def sortRen : Go.Shelf.Ren :=
  {
    f := fun x =>
      match x with
      | 189 => 57
      | 125 => 75
      | 257 => 74
      | 128 => 91
      | 129 => 92
      | 294 => 82
      | 295 => 83
      | 296 => 84
      | 297 => 85
      | 298 => 86
      | 299 => 87
      | 216 => 88
      | 300 => 89
      | 301 => 90
      | 328 => 96
      | 329 => 97
      | 330 => 98
      | 331 => 99
      | 332 => 100
      | 215 => 95
      | 343 => 101
      | n => n,
    t := fun x =>
      match x with
      | 28 => 29
      | 3 => 3
      | 46 => 92
      | 0 => 0
      | 51 => 105
      | 53 => 107
      | 4 => 4
      | 183 => 99
      | 182 => 98
      | 131 => 34
      | 5 => 5
      | 9 => 9
      | 218 => 108
      | 222 => 112
      | 228 => 115
      | 229 => 116
      | n => n,
    g := fun x =>
      x }
open Go.Proofs Go.Shelf in
theorem sortLays : Lays.n189 Tryd.prog sortRen :=
  { mixed := Eq.refl true, f125 := Eq.trans Tryd.func75 (congrArg some (Eq.refl (Body.n125 sortRen))),
    f128 := Eq.trans Tryd.func91 (congrArg some (Eq.refl (Body.n128 sortRen))),
    f129 := Eq.trans Tryd.func92 (congrArg some (Eq.refl (Body.n129 sortRen))),
    f189 := Eq.trans Tryd.func57 (congrArg some (Eq.refl (Body.n189 sortRen))),
    f215 := Eq.trans Tryd.func95 (congrArg some (Eq.refl (Body.n215 sortRen))),
    f216 := Eq.trans Tryd.func88 (congrArg some (Eq.refl (Body.n216 sortRen))),
    f257 := Eq.trans Tryd.func74 (congrArg some (Eq.refl (Body.n257 sortRen))),
    f294 := Eq.trans Tryd.func82 (congrArg some (Eq.refl (Body.n294 sortRen))),
    f295 := Eq.trans Tryd.func83 (congrArg some (Eq.refl (Body.n295 sortRen))),
    f296 := Eq.trans Tryd.func84 (congrArg some (Eq.refl (Body.n296 sortRen))),
    f297 := Eq.trans Tryd.func85 (congrArg some (Eq.refl (Body.n297 sortRen))),
    f298 := Eq.trans Tryd.func86 (congrArg some (Eq.refl (Body.n298 sortRen))),
    f299 := Eq.trans Tryd.func87 (congrArg some (Eq.refl (Body.n299 sortRen))),
    f300 := Eq.trans Tryd.func89 (congrArg some (Eq.refl (Body.n300 sortRen))),
    f301 := Eq.trans Tryd.func90 (congrArg some (Eq.refl (Body.n301 sortRen))),
    f328 := Eq.trans Tryd.func96 (congrArg some (Eq.refl (Body.n328 sortRen))),
    f329 := Eq.trans Tryd.func97 (congrArg some (Eq.refl (Body.n329 sortRen))),
    f330 := Eq.trans Tryd.func98 (congrArg some (Eq.refl (Body.n330 sortRen))),
    f331 := Eq.trans Tryd.func99 (congrArg some (Eq.refl (Body.n331 sortRen))),
    f332 := Eq.trans Tryd.func100 (congrArg some (Eq.refl (Body.n332 sortRen))),
    f343 := Eq.trans Tryd.func101 (congrArg some (Eq.refl (Body.n343 sortRen))), t0 := Tryd.underlying0,
    a0 := Tryd.isAgg0, z0 := Tryd.sizeOf0, v0 := Tryd.zeroValue0, t3 := Tryd.underlying3, a3 := Tryd.isAgg3,
    z3 := Tryd.sizeOf3, v3 := Tryd.zeroValue3, t4 := Tryd.underlying4, a4 := Tryd.isAgg4, z4 := Tryd.sizeOf4,
    v4 := Tryd.zeroValue4, t5 := Tryd.underlying5, a5 := Tryd.isAgg5, z5 := Tryd.sizeOf5, v5 := Tryd.zeroValue5,
    t9 := Tryd.underlying9, a9 := Tryd.isAgg9, z9 := Tryd.sizeOf9, v9 := Tryd.zeroValue9, t28 := Tryd.underlying29,
    a28 := Tryd.isAgg29, z28 := Tryd.sizeOf29, v28 := Tryd.zeroValue29, t46 := Tryd.underlying92, a46 := Tryd.isAgg92,
    z46 := Tryd.sizeOf92, v46 := Tryd.zeroValue92, t51 := Tryd.underlying105, a51 := Tryd.isAgg105, z51 := Tryd.sizeOf105,
    v51 := Tryd.zeroValue105, t53 := Tryd.underlying107, a53 := Tryd.isAgg107, z53 := Tryd.sizeOf107,
    v53 := Tryd.zeroValue107, t131 := Tryd.underlying34, a131 := Tryd.isAgg34, z131 := Tryd.sizeOf34,
    v131 := Tryd.zeroValue34, t182 := Tryd.underlying98, a182 := Tryd.isAgg98, z182 := Tryd.sizeOf98,
    v182 := Tryd.zeroValue98, t183 := Tryd.underlying99, a183 := Tryd.isAgg99, z183 := Tryd.sizeOf99,
    v183 := Tryd.zeroValue99, t218 := Tryd.underlying108, a218 := Tryd.isAgg108, z218 := Tryd.sizeOf108,
    v218 := Tryd.zeroValue108, t222 := Tryd.underlying112, a222 := Tryd.isAgg112, z222 := Tryd.sizeOf112,
    v222 := Tryd.zeroValue112, t228 := Tryd.underlying115, a228 := Tryd.isAgg115, z228 := Tryd.sizeOf115,
    v228 := Tryd.zeroValue115, t229 := Tryd.underlying116, a229 := Tryd.isAgg116, z229 := Tryd.sizeOf116,
    v229 := Tryd.zeroValue116 }

def sortI (l : List Int) : List Int := l.mergeSort fun x y => decide (x ≤ y)
theorem sortI_ok (l : List Int) (h0 : 0 < l.length) (hl : l.length ≤ 1000000) (f : Bool) : MM 57 [(1000000, .arr 1 (Il l) f)] [.msl 1000000 1 0 l.length] [(1000000, .arr 1 (Il (sortI l)) f)] (.tup []) :=
  sortI_meets sortLays rfl ⟨_, Tryd.func57, by decide, rfl⟩ l h0 (by omega) f
theorem sortI0_ok : M 57 [.d (.l .nil)] (.tup []) := sortI_none sortLays rfl ⟨_, Tryd.func57, by decide, rfl⟩

/-! numbers, one by one -/
abbrev iC (l : List Int) : List L := [.sl 1 (Il l)]
abbrev valF (l : List Int) : V := .fn (.func 58) [] [.ep (iC l) 0]
theorem values_ok (l : List Int) : M 35 [Is l] (valF l) := by
  refine go35 rfl rfl fun hb => ?_
  exact ⟨⟨⟨rfl, ⟨rfl, rfl⟩, trivial, ⟨.inr ⟨_, rfl, rfl, _, rfl, rfl⟩, trivial⟩⟩, trivial⟩, trivial, rfl, rfl⟩
def valZ (l : List Int) : List (List D) := l.map fun z => [D.int z]
theorem valZ_len (l : List Int) : (valZ l).length = l.length := by simp [valZ]
theorem valZ_one (l : List Int) : ∀ ds ∈ valZ l, ds.length = 1 := by
  intro ds h
  obtain ⟨z, _, rfl⟩ := List.mem_map.1 h
  rfl
theorem valZ_get {l : List Int} {i : Nat} {ds : List D} (h : (valZ l)[i]? = some ds) : ∃ hi : i < l.length, ds = [D.int l[i]] := by
  rw [valZ, List.getElem?_map, Option.map_eq_some_iff] at h
  obtain ⟨z, hz, rfl⟩ := h
  obtain ⟨hi, rfl⟩ := List.getElem?_eq_some_iff.1 hz
  exact ⟨hi, rfl⟩
theorem values_it (l : List Int) (hl : l.length ≤ 1000000) : N 58 [.ep (iC l) 0] (valZ l) := by
  have hil := Il_length l
  refine it58 rfl fun y hb => ?_
  refine ⟨Nat, fun k => ⟨[(0, .fn (.yield y) [] []), (5, Is l), (6, .int l.length), (7, .int k)], ⟨[], [], 900000, k + 1⟩⟩, fun k => k ≤ l.length, fun k => l.length - k, 0, Nat.zero_le _, ?_, ?_⟩
  · exact ⟨⟨⟨rfl, ⟨rfl, rfl⟩, trivial, trivial⟩, L.le_refl _, L.le_of_eq (congrArg L.int (by rw [hil])), L.le_refl _, trivial⟩, trivial, rfl, rfl⟩
  rintro k hk _
  have hk : k ≤ l.length := hk
  refine ⟨fun hc => ?_, fun hc => ?_⟩
  · have hlt : k < l.length := by simpa using hc
    have inc : IntKind.i64.wrap ((k : Int) + 1) = ((k + 1 : Nat) : Int) := by rw [wrap64 (by omega) (by omega)]; simp
    refine ⟨[L.int l[k]], ⟨k, rfl, by rw [Il_get, List.getElem?_eq_getElem hlt]; rfl⟩, ?_⟩
    refine ⟨⟨rfl, ?_⟩, ?_, ?_⟩
    · show (valZ l)[k]? = _
      rw [valZ, List.getElem?_map, List.getElem?_eq_getElem hlt]; rfl
    · refine ⟨fun h2 => absurd h2 (by decide), fun _ => ?_⟩
      refine ⟨k + 1, hlt, by show l.length - (k + 1) < l.length - k; omega, ?_⟩
      exact ⟨⟨⟨rfl, ⟨rfl, rfl⟩, trivial, trivial⟩, L.le_refl _, L.le_refl _, L.le_of_eq (congrArg L.int inc), trivial⟩, trivial, rfl, rfl⟩
    · exact ⟨fun _ => .inl rfl, fun h2 => absurd h2 (by decide)⟩
  · have hge : k = l.length := by
      have : ¬ k < l.length := by simpa using hc
      omega
    refine .inr ?_
    show k + 1 = (valZ l).length + 1
    rw [hge, valZ_len]
theorem seq0_ok : M 73 [.d (.l .nil), valF []] (.d (.l .nil)) := by
  refine go73 rfl rfl fun hb => ?_
  refine ⟨valZ [], [(2, .ref 999999 0)], fun i => ⟨[(999999, .cells [.d (.l .nil)])], [], 900000, 0⟩, values_it [] (by decide), valZ_one [], rfl, ?_, ?_, ?_⟩
  · exact ⟨⟨⟨rfl, rfl⟩, trivial⟩, ⟨⟨L.le_refl _, trivial⟩, trivial⟩, rfl, rfl⟩
  · intro i ds hz
    obtain ⟨hi, _⟩ := valZ_get hz
    exact absurd hi (Nat.not_lt_zero i)
  · intro _
    exact ⟨⟨L.le_refl _, trivial⟩, trivial, rfl, rfl⟩
def seqH (l : List Int) : Nat → H
  | 0 => ⟨[(999999, .cells [.d (.l .nil)])], [], 900000, 0⟩
  | i + 1 => ⟨[(999999, .cells [.msl 800000 1 0 (i + 1)]), (800000, .arr 1 (Il (l.take (i + 1))) false)], [], 700000, 0⟩
theorem seq_ok (l : List Int) (h0 : 0 < l.length) (hl : l.length ≤ 1000000) : MM 73 [] [.d (.l .nil), valF l] [(100, .arr 1 (Il l) false)] (.msl 100 1 0 l.length) := by
  refine gb73 [(11, 2)] [] rfl rfl fun hb => ?_
  refine ⟨valZ l, [(2, .ref 999999 0)], seqH l, values_it l hl, valZ_one l, rfl, ?_, ?_, ?_⟩
  · exact ⟨⟨⟨rfl, rfl⟩, trivial⟩, ⟨⟨L.le_refl _, trivial⟩, trivial⟩, rfl, rfl⟩
  · intro i ds hz
    obtain ⟨hi, rfl⟩ := valZ_get hz
    cases i with
    | zero =>
      refine ⟨⟨[(7, .int l[0]), (2, .ref 999999 0)], ⟨[(999999, .cells [.d (.l .nil)])], [], 900000, 0⟩⟩, ?_, fun hbd => ?_⟩
      · exact ⟨⟨L.le_refl _, ⟨rfl, rfl⟩, trivial⟩, ⟨⟨L.le_refl _, trivial⟩, trivial⟩, rfl, rfl⟩
      · refine ⟨⟨trivial, Nat.zero_lt_one, by show 1 * 8 ≤ _; decide⟩, ?_⟩
        refine ⟨⟨rfl, rfl⟩, ?_⟩
        refine ⟨⟨⟨rfl, rfl⟩, trivial⟩, ⟨⟨⟨rfl, rfl, rfl, rfl⟩, trivial⟩, ⟨rfl, ⟨[], ?_⟩, nofun⟩, trivial⟩, rfl, rfl⟩
        rw [List.append_nil, List.take_succ_eq_append_getElem hi]; rfl
    | succ i =>
      refine ⟨⟨[(7, .int l[i + 1]), (2, .ref 999999 0)], ⟨[(999999, .cells [.msl 800000 1 0 (i + 1)]), (800000, .arr 1 (Il (l.take (i + 1))) false)], [], 700000, 0⟩⟩, ?_, fun hbd => ?_⟩
      · exact ⟨⟨L.le_refl _, ⟨rfl, rfl⟩, trivial⟩, ⟨⟨⟨rfl, rfl, rfl, rfl⟩, trivial⟩, ⟨rfl, ⟨[], (List.append_nil _).symm⟩, nofun⟩, trivial⟩, rfl, rfl⟩
      · have htl : (Il (l.take (i + 1))).length = i + 1 := by rw [Il_length, List.length_take]; omega
        refine ⟨trivial, .inr (.inr ⟨⟨rfl, by rw [htl]; exact Nat.le_refl _, by show ((i + 1) + 1) * 8 ≤ _; omega⟩, ?_⟩)⟩
        refine ⟨⟨rfl, rfl⟩, ?_⟩
        refine ⟨⟨⟨rfl, rfl⟩, trivial⟩, ⟨⟨⟨rfl, rfl, rfl, rfl⟩, trivial⟩, ⟨rfl, ⟨[], ?_⟩, nofun⟩, trivial⟩, rfl, rfl⟩
        rw [List.append_nil, List.take_succ_eq_append_getElem hi, ← Il_app, List.take_of_length_le (Nat.le_of_eq htl)]; rfl
  · intro _
    obtain ⟨m, hm⟩ : ∃ m, l.length = m + 1 := ⟨l.length - 1, by omega⟩
    rw [valZ_len, hm]
    refine ⟨⟨rfl, rfl⟩, ?_⟩
    refine ⟨⟨⟨rfl, rfl, rfl, rfl⟩, trivial⟩, ⟨⟨rfl, ⟨[], ?_⟩, nofun⟩, trivial⟩, rfl, rfl⟩
    rw [List.append_nil, ← hm, List.take_length]
theorem collect0_ok : M 56 [valF []] (.d (.l .nil)) := by
  refine go56 rfl rfl fun hb => ?_
  refine ⟨_, _, seq0_ok, ?_⟩
  exact ⟨⟨L.le_refl _, trivial⟩, trivial, rfl, rfl⟩
theorem collect_ok (l : List Int) (h0 : 0 < l.length) (hl : l.length ≤ 1000000) : MM 56 [] [valF l] [(100, .arr 1 (Il l) false)] (.msl 100 1 0 l.length) := by
  refine gb56 [] [] rfl rfl fun hb => ?_
  refine ⟨_, _, seq_ok l h0 hl, ?_⟩
  refine ⟨⟨rfl, rfl⟩, ?_⟩
  exact ⟨⟨⟨rfl, rfl, rfl, rfl⟩, trivial⟩, ⟨⟨rfl, ⟨[], (List.append_nil _).symm⟩, nofun⟩, trivial⟩, rfl, rfl⟩
theorem sorted0_ok : M 34 [valF []] (.d (.l .nil)) := by
  refine go34 rfl rfl fun hb => ?_
  refine ⟨_, _, collect0_ok, ?_⟩
  refine ⟨_, _, sortI0_ok, ?_⟩
  exact ⟨⟨L.le_refl _, trivial⟩, trivial, rfl, rfl⟩
theorem sorted_ok (l : List Int) (h0 : 0 < l.length) (hl : l.length ≤ 1000000) : MM 34 [] [valF l] [(100, .arr 1 (Il (sortI l)) false)] (.msl 100 1 0 l.length) := by
  refine gb34 [] [] rfl rfl fun hb => ?_
  refine ⟨_, _, collect_ok l h0 hl, ?_⟩
  refine ⟨_, _, sortI_ok l h0 hl false, ?_⟩
  refine ⟨⟨rfl, rfl⟩, ?_⟩
  exact ⟨⟨⟨rfl, rfl, rfl, rfl⟩, trivial⟩, ⟨⟨rfl, ⟨[], (List.append_nil _).symm⟩, nofun⟩, trivial⟩, rfl, rfl⟩
end Go.Proofs.YtelbkabgkcogpaaDoor

set_option linter.unusedVariables false
set_option linter.unusedSimpArgs false
set_option maxRecDepth 100000
namespace Go.Proofs.YtelbkabgkcogpaaDoor
open Go Go.Proofs.YtelbkabgkcogpaaDoor.Abs

/-- the numbers of the entries of a term, from behind -/
def ofN (l : List Ent) (term : Int) : Nat → List Nat
  | 0 => []
  | n + 1 => if (l.getD n dent).term = term then (n + 1) :: ofN l term n else ofN l term n
theorem ofN_split (l : List Ent) (term : Int) (k : Nat) : ∀ n, k ≤ n → ∃ p, ofN l term n = p ++ ofN l term k
  | 0, h => by
    obtain rfl : k = 0 := by omega
    exact ⟨[], rfl⟩
  | n + 1, h => by
    rcases Nat.lt_or_eq_of_le h with h1 | h1
    · obtain ⟨p, hp⟩ := ofN_split l term k n (by omega)
      rw [ofN, hp]
      split
      · exact ⟨(n + 1) :: p, rfl⟩
      · exact ⟨p, rfl⟩
    · subst h1; exact ⟨[], rfl⟩
abbrev ofC (l : List Ent) (term : Int) : List V := [.ep [.sl 5 (El l)] 0, .ep [.int term] 0]
theorem of_ok (l : List Ent) (term : Int) : M 36 [Es l, .int term] (.fn (.func 59) [] (ofC l term)) := by
  refine go36 rfl rfl fun hb => ?_
  exact ⟨⟨⟨rfl, ⟨rfl, rfl⟩, trivial, ⟨.inr ⟨_, rfl, rfl, _, rfl, rfl⟩, .inr ⟨_, rfl, rfl, _, rfl, rfl⟩, trivial⟩⟩, trivial⟩, trivial, rfl, rfl⟩
def ofZ (l : List Ent) (term : Int) (n : Nat) : List (List D) := (ofN l term n).map fun k => [D.int (k : Nat)]
theorem of_it (l : List Ent) (term : Int) (hl : l.length ≤ 1000000) : N 59 (ofC l term) (ofZ l term l.length) := by
  have hel := El_length l
  have w0 : IntKind.i64.wrap ((l.length : Int) - 1) = (l.length : Int) - 1 := wrap64 (by omega) (by omega)
  refine it59 rfl fun y hb => ?_
  refine ⟨Nat, fun k => ⟨[(0, .fn (.yield y) [] []), (1, .ep [.sl 5 (El l)] 0), (2, .ep [.int term] 0), (4, .int ((k : Int) - 1))], ⟨[], [], 900000, (ofN l term l.length).length - (ofN l term k).length + 1⟩⟩, fun k => k ≤ l.length, fun k => k, l.length, Nat.le_refl _, ?_, ?_⟩
  · exact ⟨⟨⟨rfl, ⟨rfl, rfl⟩, trivial, trivial⟩, .inl rfl, .inl rfl, L.le_of_eq (congrArg L.int (by rw [hel, w0])), trivial⟩, trivial, by show 1 = _ - _ + 1; rw [Nat.sub_self], rfl⟩
  rintro k hk _
  have hk : k ≤ l.length := hk
  refine ⟨fun hc => ?_, fun hc => ?_⟩
  · have hk0 : 0 < k := by have := of_decide_eq_true hc; omega
    obtain ⟨j, rfl⟩ : ∃ j, k = j + 1 := ⟨k - 1, by omega⟩
    have hj : j < l.length := by omega
    obtain ⟨p, hp⟩ := ofN_split l term (j + 1) l.length hk
    have ej : ((j + 1 : Nat) : Int) - 1 = j := by omega
    have w1 : IntKind.i64.wrap (((j + 1 : Nat) : Int) - 1 + 1) = ((j + 1 : Nat) : Int) := by rw [wrap64 (by omega) (by omega)]; omega
    have w2 : IntKind.i64.wrap (((j + 1 : Nat) : Int) - 1 - 1) = (j : Int) - 1 := by rw [wrap64 (by omega) (by omega)]; omega
    refine ⟨l[j].L, ⟨j, ej, by rw [El_get, List.getElem?_eq_getElem hj]; rfl⟩, ?_⟩
    refine ⟨⟨rfl, by kernel_rfl⟩, fun h => ⟨⟨rfl, ?_⟩, ?_, ?_⟩, fun h => ?_⟩
    · have ht : l[j].term = term := eq_of_beq h
      rw [hp, List.length_append, Nat.add_sub_cancel, ofZ, List.getElem?_map, hp, List.getElem?_append_right (Nat.le_refl _), Nat.sub_self, w1, ofN, List.getD_eq_getElem?_getD, List.getElem?_eq_getElem hj, Option.getD_some, if_pos ht]
      rfl
    · refine ⟨rfl, fun h2 => ?_, fun h2 => ?_⟩
      · rw [h] at h2; exact absurd h2 (by decide)
      · have ht : l[j].term = term := eq_of_beq h
        refine ⟨j, by show j ≤ _; omega, Nat.lt_succ_self j, ?_⟩
        refine ⟨⟨⟨rfl, ⟨rfl, rfl⟩, trivial, trivial⟩, .inl rfl, .inl rfl, L.le_of_eq (congrArg L.int w2), trivial⟩, trivial, ?_, rfl⟩
        show (ofN l term l.length).length - (ofN l term (j + 1)).length + 1 + 1 = (ofN l term l.length).length - (ofN l term j).length + 1
        have e1 : (ofN l term (j + 1)).length = (ofN l term j).length + 1 := by
          rw [ofN, List.getD_eq_getElem?_getD, List.getElem?_eq_getElem hj, Option.getD_some, if_pos ht]; rfl
        have e2 := congrArg List.length hp
        rw [List.length_append] at e2
        omega
    · refine ⟨rfl, fun h2 => .inl rfl, fun h2 => ?_⟩
      rw [h] at h2; exact absurd h2 (by decide)
    · have hb : (l[j].term == term) = false := by simpa using h
      refine ⟨rfl, fun h2 => ?_, fun h2 => ?_⟩
      · rw [hb] at h2; exact absurd h2 (by decide)
      · have ht : ¬ l[j].term = term := by simpa using h
        refine ⟨j, by show j ≤ _; omega, Nat.lt_succ_self j, ?_⟩
        refine ⟨⟨⟨rfl, ⟨rfl, rfl⟩, trivial, trivial⟩, .inl rfl, .inl rfl, L.le_of_eq (congrArg L.int w2), trivial⟩, trivial, ?_, rfl⟩
        show (ofN l term l.length).length - (ofN l term (j + 1)).length + 1 = (ofN l term l.length).length - (ofN l term j).length + 1
        have e1 : ofN l term (j + 1) = ofN l term j := by
          rw [ofN, List.getD_eq_getElem?_getD, List.getElem?_eq_getElem hj, Option.getD_some, if_neg ht]
        rw [e1]
  · have hk0 : k = 0 := by have := of_decide_eq_false hc; omega
    subst hk0
    refine .inr ?_
    show (ofN l term l.length).length - 0 + 1 = ((ofN l term l.length).map _).length + 1
    rw [List.length_map, Nat.sub_zero]
end Go.Proofs.YtelbkabgkcogpaaDoor

set_option linter.unusedVariables false
set_option linter.unusedSimpArgs false
set_option maxRecDepth 100000
namespace Go.Proofs.YtelbkabgkcogpaaDoor
open Go Go.Proofs.YtelbkabgkcogpaaDoor.Abs

def majP (acks : List Int) (k : Nat) : Bool := decide (acks.length < 2 * cnt acks k)
theorem agreed_find (l : List Ent) (term : Int) (acks : List Int) : ∀ n, agreedN l term acks n = ((ofN l term n).find? (majP acks)).getD 0
  | 0 => rfl
  | n + 1 => by
    have e : okN l term acks (n + 1) = (decide ((l.getD n dent).term = term) && majP acks (n + 1)) := rfl
    rw [agreedN, ofN, agreed_find l term acks n, e]
    by_cases h1 : (l.getD n dent).term = term
    · rw [if_pos h1, List.find?_cons]
      cases h2 : majP acks (n + 1) with
      | true => rw [if_pos (by simpa using h1)]; rfl
      | false => rw [if_neg (by simp)]
    · rw [if_neg h1, if_neg (by rw [Bool.and_eq_true, decide_eq_true_eq]; exact fun hc => h1 hc.1)]
theorem sortI_perm (l : List Int) : (sortI l).Perm l := List.mergeSort_perm l _
theorem sortI_len (l : List Int) : (sortI l).length = l.length := (sortI_perm l).length_eq
theorem sortI_pw (l : List Int) : (sortI l).Pairwise (· ≤ ·) := by
  have := List.pairwise_mergeSort (le := fun x y : Int => decide (x ≤ y)) (fun a b c h1 h2 => by simp at *; omega) (fun a b => by simp; omega) l
  exact this.imp (fun h => by simpa using h)
theorem agreed0_ok (l : List Ent) (term : Int) : M 19 [Es l, .int term, Is []] (.int 0) := by
  refine go19 rfl rfl fun hb => ?_
  refine ⟨_, values_ok [], ?_⟩
  refine ⟨_, _, sorted0_ok, ?_⟩
  refine ⟨fun _ => ?_, fun h => absurd h (by decide)⟩
  exact ⟨⟨L.le_refl _, trivial⟩, trivial, rfl, rfl⟩
theorem agreedC_ok (l : List Ent) (term : Int) (acks : List Int) (hl : l.length ≤ 1000000) (h0 : 0 < acks.length) (ha : acks.length ≤ 1000000) : M 19 [Es l, .int term, Is acks] (.int (agreedL l term acks)) := by
  have w1 : IntKind.i64.wrap ((acks.length : Int) - 1) = ((acks.length - 1 : Nat) : Int) := by rw [wrap64 (by omega) (by omega)]; omega
  obtain ⟨q, hq⟩ : ∃ q, q = (acks.length - 1) / 2 := ⟨_, rfl⟩
  have hsl := sortI_len acks
  have hql : q < (sortI acks).length := by omega
  refine go19 rfl rfl fun hb => ?_
  refine ⟨_, values_ok acks, ?_⟩
  refine ⟨_, _, sorted_ok acks h0 ha, ?_⟩
  refine ⟨fun h => ?_, fun _ => ?_⟩
  · exfalso
    have : (acks.length : Int) = 0 := eq_of_beq h
    omega
  refine ⟨⟨rfl, by decide⟩, q, ⟨?_, by omega⟩, ?_⟩
  · rw [w1]
    show IntKind.i64.wrap (((acks.length - 1 : Nat) : Int).tdiv ((2 : Nat) : Int)) = _
    rw [← Int.ofNat_tdiv, wrap64 (by omega) (by omega), hq]
  obtain ⟨most, hmost⟩ : ∃ most, most = (sortI acks)[q] := ⟨_, rfl⟩
  have hmaj : ∀ k : Nat, decide ((k : Int) ≤ most) = majP acks k := by
    intro k
    have h1 := cnt_sorted (sortI_pw acks) (by omega) k
    have e : (sortI acks)[((sortI acks).length - 1) / 2]'(by omega) = most := by rw [hmost]; congr 1; rw [hsl, hq]
    rw [e, cnt_perm (sortI_perm acks), hsl] at h1
    rw [majP]
    exact decide_eq_decide.2 h1
  refine ⟨[L.int most], by show (Il (sortI acks))[0 + q]? = _; rw [Nat.zero_add, Il_get, List.getElem?_eq_getElem hql, hmost]; rfl, ?_⟩
  refine ⟨_, of_ok l term, ?_⟩
  obtain ⟨ns, hns⟩ : ∃ ns, ns = ofN l term l.length := ⟨_, rfl⟩
  obtain ⟨F, hF⟩ : ∃ F, F = ns.findIdx (majP acks) := ⟨_, rfl⟩
  have hag : agreedL l term acks = (ns.find? (majP acks)).getD 0 := by rw [agreedL, agreed_find, hns]
  obtain ⟨bad, hbad⟩ : ∃ bad : Nat → List (List L), bad = fun i => if i ≤ F then Il (sortI acks) else List.replicate (2 ^ 63) [] := ⟨_, rfl⟩
  have hgood : ∀ i, i ≤ F → bad i = Il (sortI acks) := fun i h => by rw [hbad]; exact if_pos h
  have hbadF : ∀ i, (bad i).length ≤ 2 ^ 63 - 1 → i ≤ F := by
    intro i h
    rcases Nat.lt_or_ge F i with h1 | h1
    · have e : bad i = List.replicate (2 ^ 63) [] := by rw [hbad]; exact if_neg (by omega)
      rw [e, List.length_replicate] at h
      omega
    · exact h1
  refine ⟨ofZ l term l.length, [(6, .ref 999999 0), (8, .ref 999997 0)], fun i => ⟨[(999999, .cells [.int 0]), (999997, .cells [.int most]), (999998, .arr 1 (bad i) false)], [], 900000, 0⟩, of_it l term hl, ?_, rfl, ?_, ?_, ?_⟩
  · intro ds h
    obtain ⟨k, _, rfl⟩ := List.mem_map.1 h
    rfl
  · refine ⟨⟨⟨rfl, rfl⟩, ⟨rfl, rfl⟩, trivial⟩, ⟨⟨L.le_refl _, trivial⟩, ⟨L.le_refl _, trivial⟩, ⟨rfl, ⟨[], ?_⟩, nofun⟩, trivial⟩, rfl, rfl⟩
    show Il (sortI acks) = bad 0 ++ []
    rw [hgood 0 (Nat.zero_le _), List.append_nil]
  · intro i ds hz
    rw [ofZ, List.getElem?_map, Option.map_eq_some_iff, ← hns] at hz
    obtain ⟨n, hn, rfl⟩ := hz
    obtain ⟨hi, hni⟩ := List.getElem?_eq_some_iff.1 hn
    refine ⟨⟨[(26, .int (n : Nat)), (6, .ref 999999 0), (8, .ref 999997 0)], ⟨[(999999, .cells [.int 0]), (999997, .cells [.int most]), (999998, .arr 1 (bad i) false)], [], 900000, 0⟩⟩, ?_, fun hbd => ?_⟩
    · exact ⟨⟨L.le_refl _, ⟨rfl, rfl⟩, ⟨rfl, rfl⟩, trivial⟩, ⟨⟨L.le_refl _, trivial⟩, ⟨L.le_refl _, trivial⟩, ⟨rfl, ⟨[], (List.append_nil _).symm⟩, nofun⟩, trivial⟩, rfl, rfl⟩
    · have hiF : i ≤ F := hbadF i (hbd.2 999998 _ rfl)
      refine ⟨fun h => ?_, fun h => ?_⟩
      · have hp : majP acks n = true := by rw [← hmaj]; exact h
        have hsome : ns.find? (majP acks) = some n := by
          rw [List.find?_eq_some_iff_getElem]
          refine ⟨hp, i, hi, hni, fun j hj => ?_⟩
          have := List.not_of_lt_findIdx (p := majP acks) (xs := ns) (i := j) (by omega)
          simpa using this
        refine ⟨⟨[(6, .ref 999999 0)], ⟨[(999999, .cells [.int (n : Nat)])], [], 900000, 0⟩⟩, ?_, rfl, ?_⟩
        · exact ⟨⟨⟨rfl, rfl⟩, trivial⟩, ⟨⟨L.le_refl _, trivial⟩, trivial⟩, rfl, rfl⟩
        · rw [hag, hsome]
          exact ⟨⟨L.le_refl _, trivial⟩, trivial, rfl, rfl⟩
      · have hp : majP acks n = false := by rw [← hmaj]; exact h
        have hi1 : i + 1 ≤ F := by
          rcases Nat.lt_or_eq_of_le hiF with h1 | h1
          · exact h1
          · exfalso
            have hlt : ns.findIdx (majP acks) < ns.length := by omega
            have h2 := List.findIdx_getElem (w := hlt)
            have e : ns[ns.findIdx (majP acks)] = n := by rw [← hni]; congr 1; omega
            rw [e, hp] at h2
            cases h2
        refine ⟨⟨⟨rfl, rfl⟩, ⟨rfl, rfl⟩, trivial⟩, ⟨⟨L.le_refl _, trivial⟩, ⟨L.le_refl _, trivial⟩, ⟨rfl, ⟨[], ?_⟩, nofun⟩, trivial⟩, rfl, rfl⟩
        rw [hgood i hiF, hgood (i + 1) hi1, List.append_nil]
  · intro hbd
    have hiF : ns.length ≤ F := by
      have := hbadF _ (hbd.2 999998 _ rfl)
      rwa [ofZ, List.length_map, ← hns] at this
    have hnone : ns.find? (majP acks) = none := by
      rw [List.find?_eq_none]
      intro x hx hc
      have := List.findIdx_lt_length_of_exists ⟨x, hx, hc⟩
      omega
    rw [hag, hnone]
    exact ⟨⟨L.le_refl _, trivial⟩, trivial, rfl, rfl⟩
theorem agreed_ok (l : List Ent) (term : Int) (acks : List Int) (hl : l.length ≤ 1000000) (ha : acks.length ≤ 1000000) : M 19 [Es l, .int term, Is acks] (.int (agreedL l term acks)) := by
  cases acks with
  | nil => rw [agreedL_nil]; exact agreed0_ok l term
  | cons a acks => exact agreedC_ok l term (a :: acks) hl (Nat.succ_pos _) ha
end Go.Proofs.YtelbkabgkcogpaaDoor

set_option linter.unusedVariables false
set_option linter.unusedSimpArgs false
set_option maxRecDepth 100000
namespace Go.Proofs.YtelbkabgkcogpaaDoor
open Go Go.Proofs.YtelbkabgkcogpaaDoor.Abs

theorem le_sl {s : Nat} {l l' : List (List L)} (h1 : l.length = l'.length) (h2 : ∀ y ∈ l', y.length = s) (h3 : leLs l.flatten l'.flatten) : L.le (.sl s l) (.sl s l') := fun w g val h => by
  obtain ⟨e, hle⟩ := leLs_spec h3
  cases h with
  | sl s l a cap b off f ha hn hl hb hs hc hr =>
    have key : ∀ (j : Nat) (x : L), l'.flatten[j]? = some x → ∃ y, l.flatten[j]? = some y ∧ L.le y x := by
      intro j x hx
      have hj : j < l'.flatten.length := (List.getElem?_eq_some_iff.1 hx).1
      have hj2 : j < l.flatten.length := by omega
      exact ⟨_, List.getElem?_eq_getElem hj2, hle j _ _ (List.getElem?_eq_getElem hj2) hx⟩
    rw [h1]
    refine .sl s l' a cap b off f (fun h => ha fun h0 => h ?_) hn (by omega) (by omega) h2 ?_ ?_
    · subst h0; exact List.length_eq_zero_iff.1 h1.symm
    · intro j x hx
      obtain ⟨y, hy, _⟩ := key j x hx
      exact hc j y hy
    · intro j x hx
      obtain ⟨y, hy, hl⟩ := key j x hx
      exact hl w g _ (hr j y hy)
abbrev nilE (a b : Int) : List L := [L.int a, L.int b, L.int 0, L.nil, L.nil]
theorem le_one (a b : Int) : L.le (.sl 5 [nilE a b]) (.sl 5 (El [⟨a, b, 0, [], []⟩])) :=
  le_sl rfl (by simp [El]) ⟨L.le_refl _, L.le_refl _, L.le_refl _, L.le_nil 1, L.le_nil 7, trivial⟩
abbrev ga : Ent := ⟨1, 1, 0, [], []⟩
abbrev gb : Ent := ⟨2, 2, 0, [], []⟩
abbrev gc : Ent := ⟨2, 3, 0, [], []⟩
theorem aw1 : putT [] 0 0 [ga] = ([ga], 1, 0) := by rfl
theorem aw2 : putT [ga] 1 1 [gb] = ([ga, gb], 2, 0) := by rfl
theorem aw3 : putT [ga, gb] 2 2 [gc] = ([ga, gb, gc], 3, 0) := by rfl
theorem aw4 : putT [ga, gb] 3 2 [] = ([ga, gb], 0, 41) := by rfl
theorem aw5 : putT [ga, gb] 0 0 [gb] = ([gb], 1, 0) := by rfl
theorem aw6 : termV [ga, gb, gc] 2 = 2 ∧ termB [ga, gb, gc] 2 = true := ⟨rfl, rfl⟩
theorem aw7 : agreedL [ga, gb, gc] 2 [3, 2, 1] = 2 := by rfl
theorem aw8 : agreedL [ga, gb, gc] 1 [3, 2, 1] = 1 := by rfl
theorem aw9 : commonL [ga, gb, gc] [ga, gb] = 2 := by rfl
theorem aw10 : coversB [ga, gb] 2 2 = true := by rfl
theorem aw11 : coversB [ga, gb] 1 2 = false := by rfl
theorem aw12 : logRight [ga, gb, gc] = true := by rfl
theorem gfit : Fit [ga, gb, gc] := ⟨by decide, by simp [FitE]⟩
theorem gfit2 : Fit [ga, gb] := ⟨by decide, by simp [FitE]⟩
theorem gfit1 (e : Ent) (h : FitE e) : Fit [e] := ⟨by show 1 ≤ _; decide, by simpa using h⟩
theorem gfit0 : Fit [] := ⟨by decide, by simp⟩
theorem fga : Fit [ga] := gfit1 _ (by simp [FitE])
theorem fgb : Fit [gb] := gfit1 _ (by simp [FitE])
theorem fgc : Fit [gc] := gfit1 _ (by simp [FitE])
abbrev oneE (a b : Int) : V := .d (.l (.sl 5 [nilE a b]))
theorem put1_ok : M 14 [.d (.l .nil), .int 0, .int 0, oneE 1 1] (putV ([ga], 1, 0)) := by
  have h := pput_ok [] [ga] 0 0 gfit0 fga (by decide)
  rw [aw1] at h
  exact h.le ⟨leA.l (L.le_nil 5), leA.refl _, leA.refl _, leA.l (le_one 1 1), trivial⟩
theorem put2_ok : M 14 [Es [ga], .int 1, .int 1, oneE 2 2] (putV ([ga, gb], 2, 0)) := by
  have h := pput_ok [ga] [gb] 1 1 fga fgb (by decide)
  rw [aw2] at h
  exact h.le ⟨leA.refl _, leA.refl _, leA.refl _, leA.l (le_one 2 2), trivial⟩
theorem put3_ok : M 14 [Es [ga, gb], .int 2, .int 2, oneE 2 3] (putV ([ga, gb, gc], 3, 0)) := by
  have h := pput_ok [ga, gb] [gc] 2 2 gfit2 fgc (by decide)
  rw [aw3] at h
  exact h.le ⟨leA.refl _, leA.refl _, leA.refl _, leA.l (le_one 2 3), trivial⟩
theorem put4_ok : M 14 [Es [ga, gb], .int 3, .int 2, .d (.l .nil)] (putV ([ga, gb], 0, 41)) := by
  have h := pput_ok [ga, gb] [] 3 2 gfit2 gfit0 (by decide)
  rw [aw4] at h
  exact h.le ⟨leA.refl _, leA.refl _, leA.refl _, leA.l (L.le_nil 5), trivial⟩
theorem put5_ok : M 14 [Es [ga, gb], .int 0, .int 0, oneE 2 2] (putV ([gb], 1, 0)) := by
  have h := pput_ok [ga, gb] [gb] 0 0 gfit2 fgb (by decide)
  rw [aw5] at h
  exact h.le ⟨leA.refl _, leA.refl _, leA.refl _, leA.l (le_one 2 2), trivial⟩
set_option maxHeartbeats 2000000 in
theorem awake_ok : M 9 [] (.bool true) := by
  refine go9 rfl rfl fun hb => ?_
  refine ⟨_, put1_ok, ?_⟩
  refine ⟨_, put2_ok, ?_⟩
  refine ⟨_, put3_ok, ?_⟩
  refine ⟨_, put4_ok, ?_⟩
  refine ⟨_, put5_ok, ?_⟩
  have h6 := pterm_ok [ga, gb, gc] 2
  rw [aw6.1, aw6.2] at h6
  refine ⟨_, h6, ?_⟩
  have h7 := agreed_ok [ga, gb, gc] 2 [3, 2, 1] (by decide) (by decide)
  rw [aw7] at h7
  refine ⟨_, fun _ => h7, ?_⟩
  have h8 := agreed_ok [ga, gb, gc] 1 [3, 2, 1] (by decide) (by decide)
  rw [aw8] at h8
  refine ⟨_, fun _ => h8, ?_⟩
  have h9 := common_ok [ga, gb, gc] [ga, gb] gfit
  rw [aw9] at h9
  refine ⟨_, fun _ => h9, ?_⟩
  have h10 := covers_ok [ga, gb] 2 2
  rw [aw10] at h10
  refine ⟨_, fun _ => h10, ?_⟩
  have h11 := covers_ok [ga, gb] 1 2
  rw [aw11] at h11
  refine ⟨_, fun _ => h11, ?_⟩
  have h12 := lright_ok [ga, gb, gc] gfit
  rw [aw12] at h12
  refine ⟨_, fun _ => h12, ?_⟩
  refine ⟨⟨L.le_of_eq (congrArg L.bool ?_), trivial⟩, trivial, rfl, rfl⟩
  rfl
end Go.Proofs.YtelbkabgkcogpaaDoor

set_option linter.unusedVariables false
set_option maxRecDepth 100000
namespace Go.Proofs.YtelbkabgkcogpaaDoor
open Go Go.Proofs.YtelbkabgkcogpaaDoor.Abs Go.ChangeShapes Go.WideShapes Go.ChangeAt Go.RowKit
theorem laidOut : laidOutB Tryd.prog = true := by kernel_rfl
theorem own : ownKnob Tryd.prog.godebug = none := by kernel_rfl
abbrev laidL : List (String × DataW Unit) := [("omnibus/ident.greatest", Rows.laid_omnibus_ident_greatest)]
theorem gGr : Tryd.prog.globalNamed "omnibus/ident.greatest" = some 0 := by kernel_rfl
theorem door_met (os : Os) (args : Array Value) : laidMetH Tryd.prog laidL ((World.doorLaid Tryd.prog 400 os).forCall (fun _ _ => 0) ⟨#[], args, []⟩).memory :=
  laidMetH_of_parts3 (fuel := 8) (laidMet_of_run' 8 (by kernel_rfl) (by kernel_rfl)) (by kernel_rfl) (by kernel_rfl)
theorem gTy : ∃ t, (Tryd.prog.globals[0]?).map (·.type) = some t ∧ Tryd.prog.underlying t = some (.array 2 3) := by
  refine ⟨114, ?_, ?_⟩
  · kernel_rfl
  · kernel_rfl
theorem of_laid {W : World} (h : laidMetH Tryd.prog laidL W) : Foreign W g00 gl := by
  rw [MakeChecks.laidMetH_plain _ _ _ (by kernel_rfl)] at h
  obtain ⟨ps, ⟨g0, t0, cs0, f0, p0, q0, hg0, ht0, hv0, hd0, _, _⟩, _, _⟩ := h
  obtain rfl := Option.some.inj (gGr.symm.trans hg0)
  obtain ⟨t, e1, e2⟩ := gTy
  obtain rfl := Option.some.inj (e1.symm.trans ht0)
  obtain ⟨xs, m1, rfl, hx1, hlen, hn3, hel⟩ := DataW.trod_array e2 hd0
  have c3 : Tryd.prog.cellsOf 3 = 1 := by kernel_rfl
  have ct : Tryd.prog.cellsOf t = 2 := by
    have : (Tryd.prog.globals[0]?).map (fun g => Tryd.prog.cellsOf g.type) = some 2 := by kernel_rfl
    cases hg : Tryd.prog.globals[0]? with
    | none => rw [hg] at e1; cases e1
    | some g => rw [hg] at e1 this; cases e1; simpa using this
  rw [ct] at hlen
  have h0 := hel 0 (by decide)
  have h1 := hel 1 (by decide)
  simp only [Prod.mk.injEq, Rows.laid_omnibus_ident_greatest, DataW.agg.injEq] at hx1
  have hcs : cs0 = #[.int .i64 2047, .int .i64 536870911] := by
    obtain ⟨l⟩ := cs0
    match l, hlen with
    | [a, b], _ =>
      match xs, hn3, hx1, h0, h1 with
      | [x0, x1], _, hx1, h0, h1 =>
        rw [c3] at h0 h1
        simp only [List.map_cons, List.map_nil, List.cons.injEq] at hx1
        obtain ⟨k, e1, e2, _⟩ := DataW.trod_int Tryd.underlying3 (show DataW.trod _ Tryd.prog W 0 _ false m1 3 [a] = some x0 from h0)
        obtain ⟨k', e1', e2', _⟩ := DataW.trod_int Tryd.underlying3 (show DataW.trod _ Tryd.prog W 0 _ false m1 3 [b] = some x1 from h1)
        rw [e2] at hx1
        rw [e2'] at hx1
        have hk : k = 2047 := by simpa using hx1.1.1.symm
        have hk' : k' = 536870911 := by simpa using hx1.1.2.1.symm
        subst hk; subst hk'
        simp at e1 e1'
        subst e1; subst e1'
        rfl
  have hh : ∃ e f, W.heap[0]? = some (.cells #[.int .i64 2047, .int .i64 536870911] e f) := by
    simp only [World.var?, gGr, Option.bind_some] at hv0
    split at hv0
    · rename_i cs e f hh
      cases hv0
      rw [hcs] at hh
      exact ⟨e, f, hh⟩
    · cases hv0
  refine ⟨(fun _ _ _ h => nomatch h), (fun _ _ _ h => nomatch h), fun _ => rfl, fun _ h => h, fun b cs hb => ?_⟩
  simp only [Abs.look] at hb
  split at hb
  · rename_i e
    have := Nat.eq_of_beq_eq_true e
    subst this
    cases hb
    exact ⟨hh, rfl⟩
  · cases hb

theorem sh_int {n : Nat} {x : D} (h : ShD Tryd.prog n 3 x) : ∃ z, x = .l (.int z) ∧ InR z := by
  obtain ⟨z, e, h1, h2⟩ := ShD_int Tryd.underlying3 h
  exact ⟨z, e, h1, by have : z ≤ 9223372036854775807 := h2; omega⟩
theorem sh_int' (m : Nat) (ls : List L) (h : Sh Tryd.prog m 3 ls) : ∃ z : Int, ls = [.int z] ∧ InR z := by
  obtain ⟨z, e, h1, h2⟩ := Sh_int Tryd.underlying3 h
  exact ⟨z, e, h1, by have : z ≤ 9223372036854775807 := h2; omega⟩
theorem sh_r6' (m : Nat) (ls : List L) (h : Sh Tryd.prog m 56 ls) : ∃ r : R6, ls = r.L ∧ r.ok := by
  obtain ⟨p, q, rfl, h1, p2, q2, rfl, h2, p3, q3, rfl, h3, p4, q4, rfl, h4, p5, q5, rfl, h5, p6, q6, rfl, h6, h7⟩ := Sh_array Tryd.underlying56 h
  obtain ⟨a, rfl, ha⟩ := sh_int' _ _ h1
  obtain ⟨b, rfl, hb⟩ := sh_int' _ _ h2
  obtain ⟨c, rfl, hc⟩ := sh_int' _ _ h3
  obtain ⟨d, rfl, hd⟩ := sh_int' _ _ h4
  obtain ⟨e, rfl, he⟩ := sh_int' _ _ h5
  obtain ⟨f, rfl, hf⟩ := sh_int' _ _ h6
  cases h7
  exact ⟨⟨a, b, c, d, e, f⟩, rfl, ha, hb, hc, hd, he, hf⟩
theorem sh_r6s {n : Nat} {x : D} (h : ShD Tryd.prog n 23 x) : ∃ l : List R6, x = .l (.sl 6 (Rl l)) ∧ l.length ≤ 9223372036854775807 ∧ ∀ r ∈ l, r.ok := by
  obtain ⟨l, e, hb, hl⟩ := ShD_slice Tryd.underlying23 (c := 6) (by kernel_rfl) R6.L R6.ok sh_r6' h
  exact ⟨l, e, hb, hl⟩

theorem sh_r3' (m : Nat) (ls : List L) (h : Sh Tryd.prog m 24 ls) : ∃ r : R3, ls = r.L ∧ r.ok := by
  obtain ⟨p, q, rfl, h1, p2, q2, rfl, h2, p3, q3, rfl, h3, h7⟩ := Sh_array Tryd.underlying24 h
  obtain ⟨a, rfl, ha⟩ := sh_int' _ _ h1
  obtain ⟨b, rfl, hb⟩ := sh_int' _ _ h2
  obtain ⟨c, rfl, hc⟩ := sh_int' _ _ h3
  cases h7
  exact ⟨⟨a, b, c⟩, rfl, ha, hb, hc⟩
theorem sh_r3s {n : Nat} {x : D} (h : ShD Tryd.prog n 22 x) : ∃ l : List R3, x = .l (.sl 3 (Rl3 l)) ∧ l.length ≤ 9223372036854775807 ∧ ∀ r ∈ l, r.ok := by
  obtain ⟨l, e, hb, hl⟩ := ShD_slice Tryd.underlying22 (c := 3) (by kernel_rfl) R3.L R3.ok sh_r3' h
  exact ⟨l, e, hb, hl⟩

end Go.Proofs.YtelbkabgkcogpaaDoor

set_option linter.unusedVariables false
set_option linter.unusedSimpArgs false
set_option maxRecDepth 100000
namespace Go.Proofs.YtelbkabgkcogpaaDoor
open Go Go.Proofs.YtelbkabgkcogpaaDoor.Abs

theorem entMsgs_len (mem : Int) (incs : List Int) (raw : List R6) : (entMsgs mem incs raw).length ≤ 16 := by
  have := listN_len mem
  simp [entMsgs]; omega
theorem sortL_le (l : List Msg) : (sortL l).length ≤ l.length := by
  have := sortL_len l l.length
  rw [List.take_length] at this
  omega
theorem logE_fit (raw : List R3) (msgs : List R6) (i : Nat) : FitE (logE raw msgs i) := by
  constructor
  · show (entIncs _ _).length ≤ 1000
    rw [entIncs_len]
    have := listN_len (pick (pick (raw.getD i r30).b 16) 65536)
    exact Nat.le_trans this (by decide)
  · exact Nat.le_trans (sortL_le _) (Nat.le_trans (entMsgs_len _ _ _) (by decide))
theorem logL_fit (raw : List R3) (msgs : List R6) : Fit (logL raw msgs) :=
  ⟨by rw [logL, logN_length]; omega, fun e he => by
    obtain ⟨i, _, rfl⟩ := List.mem_map.1 he
    exact logE_fit raw msgs i⟩
set_option maxHeartbeats 4000000 in
theorem logL_len (raw : List R3) (msgs : List R6) : (logL raw msgs).length ≤ 12 := by rw [logL, logN_length]; exact Nat.min_le_right _ _
theorem log1_ok (raw : List R3) (hr : ∀ r ∈ raw, r.ok) (hrl : raw.length ≤ 9223372036854775807) : ∃ l, M 10 [Rs3 raw, .d (.l .nil)] (Es l) ∧ Fit l ∧ logRight l = true ∧ l.length ≤ 12 := by
  refine ⟨logL raw [], ?_, logL_fit raw [], logL_right raw [], logL_len raw []⟩
  exact (log_ok raw [] hr (by simp) hrl (by decide)).le ⟨leA.refl _, leA.l (L.le_nil 6), trivial⟩
set_option maxHeartbeats 4000000 in
theorem common_law (ra rb : List R3) (c : Int) (hra : ∀ r ∈ ra, r.ok) (hrb : ∀ r ∈ rb, r.ok) (hla : ra.length ≤ 9223372036854775807) (hlb : rb.length ≤ 9223372036854775807) (hc : InR c) : M 8 [Rs3 ra, Rs3 rb, .int c] (.bool true) := by
  refine go8 rfl rfl fun hb => ?_
  refine ⟨_, awake_ok, ?_⟩
  obtain ⟨a, ha, hfa, hra1, hal⟩ := log1_ok ra hra hla
  obtain ⟨b, hbb, hfb, hrb1, hbl⟩ := log1_ok rb hrb hlb
  refine ⟨_, _, ha, ?_⟩
  refine ⟨_, _, hbb, ?_⟩
  have hea := El_length a
  have heb := El_length b
  have hcl := commonL_le a b
  obtain ⟨n, hn⟩ : ∃ n, n = commonL a b := ⟨_, rfl⟩
  have hco := common_ok a b hfa
  have hnext := commonL_next a b
  have htake := commonL_take a b
  rw [← hn] at hco hcl hnext htake
  refine ⟨_, hco, ?_⟩
  have w1 : IntKind.i64.wrap (((El a).length : Int) + 1) = ((a.length + 1 : Nat) : Int) := by rw [hea, wrap64 (by omega) (by omega)]; omega
  have hpk := pick_range (c := c) (n := ((a.length + 1 : Nat) : Int)) (by omega)
  obtain ⟨k, hk⟩ : ∃ k : Nat, pick c ((a.length + 1 : Nat) : Int) = k := ⟨(pick c ((a.length + 1 : Nat) : Int)).toNat, by omega⟩
  have hka : k ≤ a.length := by omega
  have hpick : M 11 [.int c, .int (IntKind.i64.wrap (((El a).length : Int) + 1))] (.int (k : Nat)) := by
    rw [w1, ← hk]; exact pick33_ok c _ hc (by omega)
  refine ⟨_, hpick, ?_⟩
  have hall : M 16 [.d (.l (.sl 5 ((El a).take n))), .d (.l (.sl 5 ((El b).take n)))] (.bool true) := by
    have h := all_ok (a.take n) (b.take n) (hfa.take n)
    rw [decide_eq_true htake] at h
    rw [El_take, El_take]; exact h
  have hgd : (bif decide ((n : Int) < ((El a).length : Nat)) then decide ((n : Int) < ((El b).length : Nat)) else false) = true → n < a.length ∧ n < b.length := by
    intro g
    rw [cond_and, Bool.and_eq_true, decide_eq_true_eq, decide_eq_true_eq, hea, heb] at g
    omega
  have hgA : n < a.length ∧ n < b.length → (El a)[n]? = some (a.getD n dent).L := fun g => by rw [El_get, List.getElem?_eq_getElem g.1, getD_of g.1]; rfl
  have hgB : n < a.length ∧ n < b.length → (El b)[n]? = some (b.getD n dent).L := fun g => by rw [El_get, List.getElem?_eq_getElem g.2, getD_of g.2]; rfl
  have hgF : n < a.length ∧ n < b.length → FitE (a.getD n dent) := fun g => by rw [getD_of g.1]; exact hfa.2 _ (List.getElem_mem g.1)
  refine ⟨n, fun _ => ⟨rfl, by rw [hea]; exact hcl.1⟩, n, fun _ => ⟨rfl, by rw [heb]; exact hcl.2⟩, ?_⟩
  refine ⟨_, fun _ => hall, ?_⟩
  refine ⟨(a.getD n dent).L, fun _ g => ⟨n, rfl, hgA (hgd g)⟩, (b.getD n dent).L, fun _ g => ⟨n, rfl, hgB (hgd g)⟩, ?_⟩
  refine ⟨_, fun _ g => esame_ok (a.getD n dent) (b.getD n dent) (hgF (hgd g)), ?_⟩
  refine ⟨rfl, ?_⟩
  refine ⟨fun h => ?_, fun _ => ?_⟩
  · exfalso
    have h : cond (cond (cond (cond (decide ((n : Int) < 0)) true (decide ((n : Int) > ((El a).length : Nat)))) true (decide ((n : Int) > ((El b).length : Nat)))) true (!true)) true (cond (cond (decide ((n : Int) < ((El a).length : Nat))) (decide ((n : Int) < ((El b).length : Nat))) false) ((a.getD n dent).same (b.getD n dent)) false) = true := h
    rw [cond_or, cond_or, cond_or, cond_or, cond_and, cond_and, hea, heb] at h
    simp only [Bool.or_eq_true, Bool.and_eq_true, decide_eq_true_eq, Bool.not_true, Bool.false_eq_true, or_false] at h
    rcases h with ((h | h) | h) | h
    · omega
    · omega
    · omega
    · have hna : n < a.length := by omega
      have hnb : n < b.length := by omega
      have h2 := Ent.same_iff.1 h.2
      rw [getD_of hna, getD_of hnb] at h2
      exact hnext hna hnb h2
  have hc1 : M 17 [Es a, .d (.l (.sl 5 ((El a).take k)))] (.int (k : Nat)) := by
    have h := common_ok a (a.take k) hfa
    rw [commonL_self_take a k hka] at h
    rw [El_take]; exact h
  have hc2 : M 17 [.d (.l (.sl 5 ((El a).take k))), Es b] (.int (min n k : Nat)) := by
    have h := common_ok (a.take k) b (hfa.take k)
    rw [commonL_take_left a b k hka, ← hn] at h
    rw [El_take]; exact h
  have hc3 : M 17 [.d (.l .nil), Es a] (.int 0) := by
    have h := common_ok [] a ⟨by decide, by simp⟩
    have e : commonL [] a = 0 := by cases a <;> rfl
    rw [e] at h
    exact h.le ⟨leA.l (L.le_nil 5), leA.refl _, trivial⟩
  refine ⟨k, fun _ => ⟨rfl, by rw [hea]; exact hka⟩, ?_⟩
  refine ⟨_, fun _ => hc1, ?_⟩
  refine ⟨k, fun _ => ⟨rfl, by rw [hea]; exact hka⟩, ?_⟩
  refine ⟨_, fun _ => hc2, ?_⟩
  refine ⟨_, fun _ => hc3, ?_⟩
  have e1 : ((k : Int) == (k : Int)) = true := by simp
  have e2 : (((min n k : Nat) : Int) == min (n : Int) (k : Int)) = true := by rw [beq_iff_eq]; omega
  refine ⟨⟨L.le_of_eq (congrArg L.bool ?_), trivial⟩, trivial, rfl, rfl⟩
  show cond (cond (cond true ((k : Int) == (k : Int)) false) (((min n k : Nat) : Int) == min (n : Int) (k : Int)) false) ((0 : Int) == 0) false = true
  rw [e1, e2]
  rfl
end Go.Proofs.YtelbkabgkcogpaaDoor

set_option linter.unusedVariables false
set_option linter.unusedSimpArgs false
set_option maxRecDepth 100000
namespace Go.Proofs.YtelbkabgkcogpaaDoor
open Go Go.Proofs.YtelbkabgkcogpaaDoor.Abs

theorem termV_pos {l : List Ent} (h : logRight l = true) (k : Nat) : 0 ≤ termV l k := by
  rw [termV]
  split
  · rename_i hb
    rw [termB_nat] at hb
    split
    · exact Int.le_refl _
    · rename_i h0
      have hk : k - 1 < l.length := by omega
      rw [Int.toNat_natCast, getD_of hk]
      have h1 := (logRight_iff.1 h).2.1 l[k - 1] (List.getElem_mem hk)
      rw [Ent.right, Bool.and_eq_true, Ent.base] at h1
      simp only [small, Bool.and_eq_true, decide_eq_true_eq] at h1
      omega
  · exact Int.le_refl _
theorem termV_mono {l : List Ent} (h : logRight l = true) {j k : Nat} (hjk : j ≤ k) (hk : k ≤ l.length) : termV l j ≤ termV l k := by
  rcases Nat.eq_zero_or_pos j with h0 | h0
  · subst h0
    have e : termV l ((0 : Nat) : Int) = 0 := by rw [termV, if_pos (termB_nat.2 (Nat.zero_le _))]; rfl
    rw [e]; exact termV_pos h k
  · rw [termV, termV, if_pos (termB_nat.2 (by omega)), if_pos (termB_nat.2 hk), if_neg (by omega), if_neg (by omega), Int.toNat_natCast, Int.toNat_natCast, getD_of (by omega), getD_of (by omega)]
    rcases Nat.lt_or_eq_of_le hjk with h1 | h1
    · exact (List.pairwise_iff_getElem.1 (logRight_iff.1 h).2.2 (j - 1) (k - 1) (by omega) (by omega) (by omega)).1
    · subst h1; exact Int.le_refl _
theorem covers_or (a b : List Ent) : coversB a b.length (termV b b.length) = true ∨ coversB b a.length (termV a a.length) = true := by
  rw [coversB, coversB]
  simp only [Bool.or_eq_true, Bool.and_eq_true, decide_eq_true_eq]
  omega
theorem covers_self (a : List Ent) : coversB a a.length (termV a a.length) = true := by
  rw [coversB, Bool.or_eq_true, Bool.and_eq_true, decide_eq_true_eq, decide_eq_true_eq, decide_eq_true_eq]
  exact .inr ⟨rfl, Int.le_refl _⟩
theorem covers_take {a : List Ent} (h : logRight a = true) {k : Nat} (hk : k ≤ a.length) : coversB (a.take k) a.length (termV a a.length) = true := by
  have h1 := termV_mono h hk (Nat.le_refl _)
  have h2 := termV_take hk []
  have h3 : (a.take k).length = k := by simp; omega
  rw [List.append_nil] at h2
  rw [coversB, h3, h2]
  simp only [Bool.or_eq_true, Bool.and_eq_true, decide_eq_true_eq]
  omega
set_option maxHeartbeats 4000000 in
theorem covers_law (ra rb : List R3) (c : Int) (hra : ∀ r ∈ ra, r.ok) (hrb : ∀ r ∈ rb, r.ok) (hla : ra.length ≤ 9223372036854775807) (hlb : rb.length ≤ 9223372036854775807) (hc : InR c) : M 5 [Rs3 ra, Rs3 rb, .int c] (.bool true) := by
  refine go5 rfl rfl fun hb => ?_
  refine ⟨_, awake_ok, ?_⟩
  obtain ⟨a, ha, hfa, hra1, hal⟩ := log1_ok ra hra hla
  obtain ⟨b, hbb, hfb, hrb1, hbl⟩ := log1_ok rb hrb hlb
  refine ⟨_, _, ha, ?_⟩
  refine ⟨_, _, hbb, ?_⟩
  have hea := El_length a
  have heb := El_length b
  have w1 : IntKind.i64.wrap (((El a).length : Int) + 1) = ((a.length + 1 : Nat) : Int) := by rw [hea, wrap64 (by omega) (by omega)]; omega
  have hpk := pick_range (c := c) (n := ((a.length + 1 : Nat) : Int)) (by omega)
  obtain ⟨k, hk⟩ : ∃ k : Nat, pick c ((a.length + 1 : Nat) : Int) = k := ⟨(pick c ((a.length + 1 : Nat) : Int)).toNat, by omega⟩
  have hka : k ≤ a.length := by omega
  have hpick : M 11 [.int c, .int (IntKind.i64.wrap (((El a).length : Int) + 1))] (.int (k : Nat)) := by
    rw [w1, ← hk]; exact pick33_ok c _ hc (by omega)
  refine ⟨_, hpick, ?_⟩
  obtain ⟨ta, hta⟩ : ∃ t, t = termV a a.length := ⟨_, rfl⟩
  obtain ⟨tb, htb⟩ : ∃ t, t = termV b b.length := ⟨_, rfl⟩
  have h1 : M 13 [Es a, .int ((El a).length : Nat)] (.tup [.int ta, .bool true]) := by
    have h := pterm_ok a a.length
    rw [termB_nat.2 (Nat.le_refl _), ← hta] at h
    rw [hea]; exact h
  have h2 : M 13 [Es b, .int ((El b).length : Nat)] (.tup [.int tb, .bool true]) := by
    have h := pterm_ok b b.length
    rw [termB_nat.2 (Nat.le_refl _), ← htb] at h
    rw [heb]; exact h
  refine ⟨_, h1, ?_⟩
  refine ⟨_, h2, ?_⟩
  have h3 : M 20 [Es a, .int ((El a).length : Nat), .int ta] (.bool true) := by
    have h := covers_ok a a.length ta
    rw [hta, covers_self, ← hta] at h
    rw [hea]; exact h
  have h4 : M 20 [.d (.l (.sl 5 ((El a).take k))), .int ((El a).length : Nat), .int ta] (.bool true) := by
    have h := covers_ok (a.take k) a.length ta
    rw [hta, covers_take hra1 hka, ← hta] at h
    rw [El_take, hea]; exact h
  obtain ⟨x, hx⟩ : ∃ x, x = coversB a b.length tb := ⟨_, rfl⟩
  obtain ⟨y, hy⟩ : ∃ y, y = coversB b a.length ta := ⟨_, rfl⟩
  have hxy : x = true ∨ y = true := by rw [hx, hy, hta, htb]; exact covers_or a b
  have h5 : M 20 [Es a, .int ((El b).length : Nat), .int tb] (.bool x) := by rw [heb, hx]; exact covers_ok a b.length tb
  have h6 : M 20 [Es b, .int ((El a).length : Nat), .int ta] (.bool y) := by rw [hea, hy]; exact covers_ok b a.length ta
  have hc1 : M 17 [Es a, .d (.l (.sl 5 ((El a).take k)))] (.int (k : Nat)) := by
    have h := common_ok a (a.take k) hfa
    rw [commonL_self_take a k hka] at h
    rw [El_take]; exact h
  obtain ⟨n, hn⟩ : ∃ n, n = commonL a b := ⟨_, rfl⟩
  have hc2 : M 17 [Es a, Es b] (.int (n : Nat)) := by rw [hn]; exact common_ok a b hfa
  have hc3 : M 17 [Es b, Es a] (.int (n : Nat)) := by rw [hn, commonL_comm]; exact common_ok b a hfb
  refine ⟨_, fun _ => h3, ?_⟩
  refine ⟨k, fun _ => ⟨rfl, by rw [hea]; exact hka⟩, ?_⟩
  refine ⟨_, fun _ => h4, ?_⟩
  refine ⟨_, fun _ => h5, ?_⟩
  refine ⟨_, fun _ _ => h6, ?_⟩
  refine ⟨k, fun _ => ⟨rfl, by rw [hea]; exact hka⟩, ?_⟩
  refine ⟨_, fun _ => hc1, ?_⟩
  refine ⟨_, fun _ => hc2, ?_⟩
  refine ⟨_, fun _ => hc3, ?_⟩
  have e1 : ((k : Int) == (k : Int)) = true := by simp
  have e2 : ((n : Int) == (n : Int)) = true := by simp
  refine ⟨⟨L.le_of_eq (congrArg L.bool ?_), trivial⟩, trivial, rfl, rfl⟩
  show cond (cond (cond true (cond x true y) false) ((k : Int) == (k : Int)) false) ((n : Int) == (n : Int)) false = true
  rw [e1, e2]
  rcases hxy with rfl | rfl
  · rfl
  · cases x <;> rfl
end Go.Proofs.YtelbkabgkcogpaaDoor

set_option linter.unusedVariables false
set_option linter.unusedSimpArgs false
set_option maxRecDepth 100000
namespace Go.Proofs.YtelbkabgkcogpaaDoor
open Go Go.Proofs.YtelbkabgkcogpaaDoor.Abs

theorem put_behind {l es : List Ent} (h : logRight l = true) (he : ∀ e ∈ es, e.right = true) (h1 : es.length ≤ 1) {prev term : Int} (ht : hasT l prev term = false) : putT l prev term es = (l, 0, 41) := by
  rw [putT, if_neg ?_, if_pos ht]
  rw [h]
  rintro (h2 | h2 | ⟨h2, h3⟩)
  · cases h2
  · omega
  · cases es with
    | nil => cases h2
    | cons e es => rw [show (e :: es).getD 0 dent = e from rfl, he e (by simp)] at h3; cases h3
theorem put_none {l : List Ent} (h : logRight l = true) {k : Nat} (hk : k ≤ l.length) : putT l k (termV l k) [] = (l, (k : Int), 0) := by
  have ht : hasT l k (termV l k) = true := by rw [hasT, termB_nat.2 hk]; simp
  rw [putT, if_neg ?_, if_neg (by rw [ht]; simp), if_pos rfl]
  rw [h]
  rintro (h2 | h2 | ⟨h2, h3⟩)
  · cases h2
  · cases h2
  · cases h2
theorem termV_top {l : List Ent} (h : logRight l = true) (k : Nat) : termV l k ≤ 65535 := by
  rw [termV]
  split
  · rename_i hb
    rw [termB_nat] at hb
    split
    · decide
    · rename_i h0
      have hk : k - 1 < l.length := by omega
      rw [Int.toNat_natCast, getD_of hk]
      have h1 := (logRight_iff.1 h).2.1 l[k - 1] (List.getElem_mem hk)
      rw [Ent.right, Bool.and_eq_true, Ent.base] at h1
      simp only [small, Bool.and_eq_true, decide_eq_true_eq] at h1
      omega
  · decide
set_option maxHeartbeats 4000000 in
theorem gaps_law (ra : List R3) (e0 : R3) (c d : Int) (hra : ∀ r ∈ ra, r.ok) (hla : ra.length ≤ 9223372036854775807) (he0 : e0.ok) (hc : InR c) (hd : InR d) : M 7 [Rs3 ra, .d (.agg e0.L), .int c, .int d] (.bool true) := by
  refine go7 rfl rfl fun hb => ?_
  refine ⟨_, awake_ok, ?_⟩
  obtain ⟨l, ha, hf, hr1, hal⟩ := log1_ok ra hra hla
  refine ⟨_, _, ha, ?_⟩
  have hel := El_length l
  have p6 := pick_range (c := e0.a) (n := 6) (by omega)
  have p40 := pick_range (c := e0.b) (n := 40) (by omega)
  refine ⟨0, ⟨rfl, by decide⟩, ?_⟩
  refine ⟨_, pick33_ok e0.a 6 he0.1 (by decide), ?_⟩
  refine ⟨1, ⟨rfl, by decide⟩, ?_⟩
  refine ⟨_, pick33_ok e0.b 40 he0.2.1 (by decide), ?_⟩
  refine ⟨2, ⟨rfl, by decide⟩, ?_⟩
  have hi6 : InR (pick e0.a 6) := by constructor <;> omega
  have hi40 : InR (pick e0.b 40) := by constructor <;> omega
  obtain ⟨e, he⟩ : ∃ e, e = entL ⟨pick e0.a 6, pick e0.b 40, e0.c⟩ [] [] := ⟨_, rfl⟩
  have hent : M 12 [.d (.agg [L.int (pick e0.a 6), L.int (pick e0.b 40), L.int e0.c]), .d (.l .nil), .d (.l .nil)] e.V := by
    rw [he]
    exact (entry_ok ⟨pick e0.a 6, pick e0.b 40, e0.c⟩ [] [] ⟨hi6, hi40, he0.2.2⟩ (by simp) (by simp) (by decide) (by decide)).le ⟨leA.refl _, leA.l (L.le_nil 1), leA.l (L.le_nil 6), trivial⟩
  refine ⟨_, hent, ?_⟩
  refine ⟨rfl, ?_⟩
  have p9 := pick_range (c := c) (n := 9) (by omega)
  refine ⟨_, pick33_ok c 9 hc (by decide), ?_⟩
  have w1 : IntKind.i64.wrap (IntKind.i64.wrap (((El l).length : Int) + 1) + pick c 9) = (l.length : Int) + 1 + pick c 9 := by
    rw [hel, wrap64 (x := (l.length : Int) + 1) (by omega) (by omega), wrap64 (by omega) (by omega)]
  have her : e.right = true := by
    have p1 := pick_range (c := pick e0.a 6) (n := 65535) (by omega)
    have p2 := pick_range (c := pick e0.b 40) (n := 65535) (by omega)
    have h := entL_right (n := ⟨pick e0.a 6, pick e0.b 40, e0.c⟩) (incs := []) (raw := []) (by decide) (t := e.term) (p := e.epoch) ?_ ?_
    · rw [← he] at h; exact h
    · rw [he]; exact small_of (by show 1 ≤ 1 + pick (pick e0.a 6) 65535; omega) (by show 1 + pick (pick e0.a 6) 65535 ≤ 65535; omega)
    · rw [he]; exact small_of (by show 1 ≤ 1 + pick (pick e0.b 40) 65535; omega) (by show 1 + pick (pick e0.b 40) 65535 ≤ 65535; omega)
  have hfe : FitE e := by
    rw [he]
    constructor
    · show (entIncs _ _).length ≤ 1000
      rw [entIncs_len]
      exact Nat.le_trans (listN_len _) (by decide)
    · exact Nat.le_trans (sortL_le _) (Nat.le_trans (entMsgs_len _ _ _) (by decide))
  have hfe1 : Fit [e] := gfit1 e hfe
  obtain ⟨g, hg⟩ : ∃ g, g = pick c 9 := ⟨_, rfl⟩
  rw [← hg] at w1 p9
  have hb1 : termB l ((l.length : Int) + 1 + g) = false := by
    cases h : termB l ((l.length : Int) + 1 + g) with
    | false => rfl
    | true => have := termB_iff.1 h; omega
  have hput1 : M 14 [Es l, .int (IntKind.i64.wrap (IntKind.i64.wrap (((El l).length : Int) + 1) + pick c 9)), .int 1, .d (.l (.sl 5 [e.L]))] (putV (l, 0, 41)) := by
    rw [← hg, w1]
    have h := pput_ok l [e] ((l.length : Int) + 1 + g) 1 hf hfe1 (by constructor <;> omega)
    rw [put_behind (es := [e]) (prev := (l.length : Int) + 1 + g) (term := 1) hr1 (by simpa using her) (Nat.le_refl 1) (by rw [hasT, hb1]; rfl)] at h
    exact h
  refine ⟨_, hput1, ?_⟩
  have ht1 : M 13 [Es l, .int (IntKind.i64.wrap (IntKind.i64.wrap (((El l).length : Int) + 1) + pick c 9))] (.tup [.int (termV l ((l.length : Int) + 1 + g)), .bool false]) := by
    rw [← hg, w1]
    have h := pterm_ok l ((l.length : Int) + 1 + g)
    rw [hb1] at h
    exact h
  refine ⟨_, ht1, ?_⟩
  have w2 : IntKind.i64.wrap (((El l).length : Int) + 1) = ((l.length + 1 : Nat) : Int) := by rw [hel, wrap64 (by omega) (by omega)]; omega
  have hpk := pick_range (c := c) (n := ((l.length + 1 : Nat) : Int)) (by omega)
  obtain ⟨k, hk⟩ : ∃ k : Nat, pick c ((l.length + 1 : Nat) : Int) = k := ⟨(pick c ((l.length + 1 : Nat) : Int)).toNat, by omega⟩
  have hka : k ≤ l.length := by omega
  have hpick : M 11 [.int c, .int (IntKind.i64.wrap (((El l).length : Int) + 1))] (.int (k : Nat)) := by
    rw [w2, ← hk]; exact pick33_ok c _ hc (by omega)
  refine ⟨_, hpick, ?_⟩
  obtain ⟨t, ht⟩ : ∃ t, t = termV l k := ⟨_, rfl⟩
  have htk : M 13 [Es l, .int (k : Nat)] (.tup [.int t, .bool true]) := by
    have h := pterm_ok l k
    rw [termB_nat.2 hka, ← ht] at h
    exact h
  refine ⟨_, htk, ?_⟩
  refine ⟨_, pick33_ok d 9 hd (by decide), ?_⟩
  have t0 : 0 ≤ t := by rw [ht]; exact termV_pos hr1 k
  have t1 : t ≤ 65535 := by rw [ht]; exact termV_top hr1 k
  have pd := pick_range (c := d) (n := 9) (by omega)
  have w3 : IntKind.i64.wrap (IntKind.i64.wrap (t + 1) + pick d 9) = t + 1 + pick d 9 := by
    rw [wrap64 (x := t + 1) (by omega) (by omega), wrap64 (by omega) (by omega)]
  have hput2 : M 14 [Es l, .int (k : Nat), .int (IntKind.i64.wrap (IntKind.i64.wrap (t + 1) + pick d 9)), .d (.l (.sl 5 [e.L]))] (putV (l, 0, 41)) := by
    rw [w3]
    have h := pput_ok l [e] (k : Nat) (t + 1 + pick d 9) hf hfe1 (by constructor <;> omega)
    rw [put_behind (es := [e]) (prev := ((k : Nat) : Int)) (term := t + 1 + pick d 9) hr1 (by simpa using her) (Nat.le_refl 1) (by rw [hasT, ← ht, decide_eq_false (by omega), Bool.and_false])] at h
    exact h
  refine ⟨_, hput2, ?_⟩
  refine ⟨rfl, ?_⟩
  have hput3 : M 14 [Es l, .int (k : Nat), .int t, .d (.l .nil)] (putV (l, (k : Int), 0)) := by
    have h := pput_ok l [] (k : Nat) t hf gfit0 (by constructor <;> omega)
    rw [ht, put_none hr1 hka, ← ht] at h
    exact h.le ⟨leA.refl _, leA.refl _, leA.refl _, leA.l (L.le_nil 5), trivial⟩
  refine ⟨_, hput3, ?_⟩
  have hall : M 16 [Es l, Es l] (.bool true) := by
    have h := all_ok l l hf
    rw [decide_eq_true rfl] at h
    exact h
  refine ⟨_, fun _ => hall, ?_⟩
  refine ⟨_, fun _ => hall, ?_⟩
  refine ⟨_, fun _ => hall, ?_⟩
  refine ⟨⟨L.le_of_eq (congrArg L.bool ?_), trivial⟩, trivial, rfl, rfl⟩
  have e1 : ((k : Int) == (k : Int)) = true := by simp
  simp
end Go.Proofs.YtelbkabgkcogpaaDoor

set_option linter.unusedVariables false
set_option linter.unusedSimpArgs false
set_option maxRecDepth 100000
namespace Go.Proofs.YtelbkabgkcogpaaDoor
open Go Go.Proofs.YtelbkabgkcogpaaDoor.Abs

theorem ent_facts (e0 : R3) (he0 : e0.ok) : ∃ e : Ent, M 12 [.d (.agg [L.int (pick e0.a 6), L.int (pick e0.b 40), L.int e0.c]), .d (.l .nil), .d (.l .nil)] e.V ∧ e.right = true ∧ FitE e := by
  have p6 := pick_range (c := e0.a) (n := 6) (by omega)
  have p40 := pick_range (c := e0.b) (n := 40) (by omega)
  have hi6 : InR (pick e0.a 6) := by constructor <;> omega
  have hi40 : InR (pick e0.b 40) := by constructor <;> omega
  have p1 := pick_range (c := pick e0.a 6) (n := 65535) (by omega)
  have p2 := pick_range (c := pick e0.b 40) (n := 65535) (by omega)
  obtain ⟨e, he⟩ : ∃ e, e = entL ⟨pick e0.a 6, pick e0.b 40, e0.c⟩ [] [] := ⟨_, rfl⟩
  refine ⟨e, ?_, ?_, ?_⟩
  · rw [he]
    exact (entry_ok ⟨pick e0.a 6, pick e0.b 40, e0.c⟩ [] [] ⟨hi6, hi40, he0.2.2⟩ (by simp) (by simp) (by decide) (by decide)).le ⟨leA.refl _, leA.l (L.le_nil 1), leA.l (L.le_nil 6), trivial⟩
  · have h := entL_right (n := ⟨pick e0.a 6, pick e0.b 40, e0.c⟩) (incs := []) (raw := []) (by decide) (t := e.term) (p := e.epoch) ?_ ?_
    · rw [← he] at h; exact h
    · rw [he]; exact small_of (by show 1 ≤ 1 + pick (pick e0.a 6) 65535; omega) (by show 1 + pick (pick e0.a 6) 65535 ≤ 65535; omega)
    · rw [he]; exact small_of (by show 1 ≤ 1 + pick (pick e0.b 40) 65535; omega) (by show 1 + pick (pick e0.b 40) 65535 ≤ 65535; omega)
  · rw [he]
    constructor
    · show (entIncs _ _).length ≤ 1000
      rw [entIncs_len]
      exact Nat.le_trans (listN_len _) (by decide)
    · exact Nat.le_trans (sortL_le _) (Nat.le_trans (entMsgs_len _ _ _) (by decide))
theorem commonL_ge {a b : List Ent} {k : Nat} (h1 : k ≤ a.length) (h2 : k ≤ b.length) (h : a.take k = b.take k) : k ≤ commonL a b := by
  rcases Nat.lt_or_ge (commonL a b) k with h3 | h3
  · exfalso
    refine commonL_next a b (by omega) (by omega) ?_
    have := congrArg (fun l => l[commonL a b]?) h
    simp only [List.getElem?_take, if_pos h3] at this
    rw [List.getElem?_eq_getElem (by omega), List.getElem?_eq_getElem (by omega)] at this
    exact Option.some.inj this
  · exact h3
theorem log2_ok (raw : List R3) (msgs : List R6) (hr : ∀ r ∈ raw, r.ok) (hm : ∀ r ∈ msgs, r.ok) (hrl : raw.length ≤ 9223372036854775807) (hml : msgs.length ≤ 9223372036854775807) : ∃ l, M 10 [Rs3 raw, Rs msgs] (Es l) ∧ Fit l ∧ logRight l = true ∧ l.length ≤ 12 :=
  ⟨logL raw msgs, log_ok raw msgs hr hm hrl hml, logL_fit raw msgs, logL_right raw msgs, logL_len raw msgs⟩
set_option maxHeartbeats 8000000 in
theorem puts_law (ra : List R3) (ms : List R6) (e0 : R3) (c : Int) (hra : ∀ r ∈ ra, r.ok) (hms : ∀ r ∈ ms, r.ok) (hla : ra.length ≤ 9223372036854775807) (hlm : ms.length ≤ 9223372036854775807) (he0 : e0.ok) (hc : InR c) : M 3 [Rs3 ra, Rs ms, .d (.agg e0.L), .int c] (.bool true) := by
  refine go3 rfl rfl fun hb => ?_
  refine ⟨_, awake_ok, ?_⟩
  obtain ⟨l, ha, hf, hr1, hal⟩ := log2_ok ra ms hra hms hla hlm
  refine ⟨_, _, ha, ?_⟩
  have hel := El_length l
  have w2 : IntKind.i64.wrap (((El l).length : Int) + 1) = ((l.length + 1 : Nat) : Int) := by rw [hel, wrap64 (by omega) (by omega)]; omega
  have hpk := pick_range (c := c) (n := ((l.length + 1 : Nat) : Int)) (by omega)
  obtain ⟨k, hk⟩ : ∃ k : Nat, pick c ((l.length + 1 : Nat) : Int) = k := ⟨(pick c ((l.length + 1 : Nat) : Int)).toNat, by omega⟩
  have hka : k ≤ l.length := by omega
  have hpick : M 11 [.int c, .int (IntKind.i64.wrap (((El l).length : Int) + 1))] (.int (k : Nat)) := by
    rw [w2, ← hk]; exact pick33_ok c _ hc (by omega)
  refine ⟨_, hpick, ?_⟩
  obtain ⟨e, hent, her, hfe⟩ := ent_facts e0 he0
  have hfe1 : Fit [e] := gfit1 e hfe
  refine ⟨0, ⟨rfl, by decide⟩, ?_⟩
  refine ⟨_, pick33_ok e0.a 6 he0.1 (by decide), ?_⟩
  refine ⟨1, ⟨rfl, by decide⟩, ?_⟩
  refine ⟨_, pick33_ok e0.b 40 he0.2.1 (by decide), ?_⟩
  refine ⟨2, ⟨rfl, by decide⟩, ?_⟩
  refine ⟨_, hent, ?_⟩
  refine ⟨rfl, ?_⟩
  obtain ⟨t, ht⟩ : ∃ t, t = termV l k := ⟨_, rfl⟩
  have htk : M 13 [Es l, .int (k : Nat)] (.tup [.int t, .bool true]) := by
    have h := pterm_ok l k
    rw [termB_nat.2 hka, ← ht] at h
    exact h
  refine ⟨_, htk, ?_⟩
  have hput := pput_ok l [e] (k : Nat) t hf hfe1 (by constructor <;> omega)
  have hall : M 16 [Es l, Es l] (.bool true) := by
    have h := all_ok l l hf
    rw [decide_eq_true rfl] at h
    exact h
  have hlr : M 15 [Es l] (.bool true) := by
    have h := lright_ok l hf
    rw [hr1] at h; exact h
  have w3 : IntKind.i64.wrap ((k : Int) + 1) = (k : Int) + 1 := wrap64 (by omega) (by omega)
  have hcases := put_cases hr1 (by omega) her hka
  rw [← ht] at hcases
  rcases hcases with ⟨⟨hkl, hte⟩, hP⟩ | ⟨hno, hbad, hP⟩ | ⟨hno, hgood, hP⟩
  all_goals rw [hP] at hput
  all_goals refine ⟨_, hput, ?_⟩
  all_goals refine ⟨_, fun _ => hlr, ?_⟩
  all_goals refine ⟨fun h => absurd h (by decide), fun _ => ?_⟩
  · refine ⟨fun h => absurd h Bool.false_ne_true, fun _ => ?_⟩
    have hput2 : M 14 [Es l, .int (k : Nat), .int t, .d (.l (.sl 5 [e.L]))] (putV (l, (k : Int) + 1, 0)) := hput
    refine ⟨_, hput2, ?_⟩
    have hcm : M 17 [Es l, Es l] (.int (l.length : Nat)) := by
      have h := common_ok l l hf
      have e1 := commonL_self_take l l.length (Nat.le_refl _)
      rw [List.take_length] at e1
      rw [e1] at h; exact h
    refine ⟨_, fun _ => hall, ?_⟩
    refine ⟨_, fun _ => hcm, ?_⟩
    refine ⟨_, fun _ => hlr, ?_⟩
    refine ⟨fun h => ?_, fun _ => ?_⟩
    · exfalso
      simp [w3, hel] at h
      omega
    refine ⟨l[k].L, fun _ => ⟨k, rfl, by rw [El_get, List.getElem?_eq_getElem hkl]; rfl⟩, ?_⟩
    refine ⟨rfl, ?_⟩
    refine ⟨fun _ => ?_, fun h => ?_⟩
    · refine ⟨_, fun _ => hall, ?_⟩
      exact ⟨⟨L.le_refl _, trivial⟩, trivial, rfl, rfl⟩
    · exfalso
      simp [hel, hte] at h
      omega
  · refine ⟨fun _ => ?_, fun h => absurd h.symm Bool.false_ne_true⟩
    refine ⟨_, fun _ => hall, ?_⟩
    exact ⟨⟨L.le_refl _, trivial⟩, trivial, rfl, rfl⟩
  · refine ⟨fun h => absurd h Bool.false_ne_true, fun _ => ?_⟩
    obtain ⟨N, hN⟩ : ∃ N, N = l.take k ++ [e] := ⟨_, rfl⟩
    have hNl : N.length = k + 1 := by rw [hN]; simp; omega
    have hfN : Fit N := by rw [hN]; exact fit_cons hf k (by omega) hfe
    have hNt : termV N k = t := by rw [hN, ht]; exact termV_take hka [e]
    have hNk : N[k]'(by omega) = e := by simp only [hN]; rw [List.getElem_append_right (by rw [List.length_take]; omega)]; simp
    have hNtake : N.take k = l.take k := by rw [hN, List.take_append_of_le_length (by simp; omega), List.take_take, Nat.min_self]
    rw [← hN] at hgood
    have hput2 : M 14 [Es N, .int (k : Nat), .int t, .d (.l (.sl 5 [e.L]))] (putV (N, (k : Int) + 1, 0)) := by
      have h := pput_ok N [e] (k : Nat) t hfN hfe1 (by constructor <;> omega)
      have h2 := put_cases hgood (by omega) her (k := k) (by omega)
      rw [hNt] at h2
      rcases h2 with ⟨_, hP⟩ | ⟨hno2, _, _⟩ | ⟨hno2, _, _⟩
      · rw [hP] at h; exact h
      · exact absurd ⟨by omega, by rw [hNk]⟩ hno2
      · exact absurd ⟨by omega, by rw [hNk]⟩ hno2
    have heN := El_length N
    simp only [← hN]
    refine ⟨_, hput2, ?_⟩
    have hallN : M 16 [Es N, Es N] (.bool true) := by
      have h := all_ok N N hfN
      rw [decide_eq_true rfl] at h
      exact h
    obtain ⟨m, hm⟩ : ∃ m, m = commonL N l := ⟨_, rfl⟩
    have hmk : k ≤ m := by rw [hm]; exact commonL_ge (by omega) hka hNtake
    have hcm : M 17 [Es N, Es l] (.int (m : Nat)) := by rw [hm]; exact common_ok N l hfN
    have hlrN : M 15 [Es N] (.bool true) := by
      have h := lright_ok N hfN
      rw [hgood] at h; exact h
    refine ⟨_, fun _ => hallN, ?_⟩
    refine ⟨_, fun _ => hcm, ?_⟩
    refine ⟨_, fun _ => hlrN, ?_⟩
    refine ⟨fun h => ?_, fun _ => ?_⟩
    · exfalso
      simp [w3, heN, hNl] at h
      omega
    have hgk : (decide ((k : Int) < ((El l).length : Nat))) = true → (El l)[k]? = some (l.getD k dent).L := fun g => by
      rw [hel, decide_eq_true_eq] at g
      have hkl : k < l.length := by omega
      rw [El_get, List.getElem?_eq_getElem hkl, getD_of hkl]; rfl
    refine ⟨(l.getD k dent).L, fun g => ⟨k, rfl, hgk g⟩, ?_⟩
    refine ⟨rfl, ?_⟩
    refine ⟨fun h => ?_, fun _ => ?_⟩
    · exfalso
      have h : cond (decide ((k : Int) < ((El l).length : Nat))) ((l.getD k dent).term == e.term) false = true := h
      rw [cond_and, Bool.and_eq_true, decide_eq_true_eq, beq_iff_eq, hel] at h
      have hkl : k < l.length := by omega
      rw [getD_of hkl] at h
      exact hno ⟨hkl, h.2⟩
    have hkN : k < N.length := by omega
    have hNg : (El N)[k]? = some e.L := by rw [El_get, List.getElem?_eq_getElem hkN, hNk]; rfl
    have hsame : M 18 [e.V, e.V] (.bool true) := by
      have h := esame_ok e e hfe
      rw [Ent.same_iff.2 rfl] at h
      exact h
    have hc4 : M 17 [.d (.l (.sl 5 ((El N).take k))), Es l] (.int (k : Nat)) := by
      have h := common_ok (l.take k) l (hf.take k)
      rw [commonL_comm, commonL_self_take l k hka] at h
      rw [El_take, hNtake]; exact h
    refine ⟨e.L, fun _ => ⟨k, rfl, hNg⟩, ?_⟩
    refine ⟨_, fun _ => hsame, ?_⟩
    refine ⟨k, fun _ => ⟨rfl, by rw [heN]; omega⟩, ?_⟩
    refine ⟨_, fun _ => hc4, ?_⟩
    refine ⟨rfl, ?_⟩
    refine ⟨⟨L.le_of_eq (congrArg L.bool ?_), trivial⟩, trivial, rfl, rfl⟩
    simp [w3, heN, hNl]
end Go.Proofs.YtelbkabgkcogpaaDoor

set_option linter.unusedVariables false
set_option linter.unusedSimpArgs false
set_option maxRecDepth 100000
namespace Go.Proofs.YtelbkabgkcogpaaDoor
open Go Go.Proofs.YtelbkabgkcogpaaDoor.Abs

theorem gw4 (mu : List (Nat × Nat)) (wk : List Nat) {ds : List V} {r : V} (hlen : Nat.ble ds.length Tryd.f4.ntmps = true) (hnd : nodupB (V.toks r) = true)
    (hW : Bd ⟨argTm 0 ds, ⟨[], [], 1000000, 0⟩⟩ → Code.W tys (cfg mu) N 0 [] Tryd.f4.ntmps (wk ++ keep4) (Tryd.f4.body.getD .skip) true [] (retQ tys Tryd.f4.results.toList [] r) ⟨argTm 0 ds, ⟨[], [], 1000000, 0⟩⟩) (ht : V.tokss ds = [] := by rfl) : M 4 ds r :=
  meetsB_of mix tysOk (mok _) (fun _ _ _ h => h) Tryd.func4 (by decide) rfl (wk ++ keep4) 1000000 [] rfl hlen hnd hW ht

/-- acknowledgements of raw numbers -/
def ackL (raw : List Int) (m : Int) (k : Nat) : List Int := (raw.take k).map fun c => pick c m
theorem ackL_len (raw : List Int) (m : Int) (k : Nat) (h : k ≤ raw.length) : (ackL raw m k).length = k := by simp [ackL]; omega
theorem ackL_succ (raw : List Int) (m : Int) (k : Nat) (h : k < raw.length) : ackL raw m (k + 1) = ackL raw m k ++ [pick raw[k] m] := by
  rw [ackL, ackL, List.take_succ_eq_append_getElem h, List.map_append]; rfl
theorem cnt_succ (a : List Int) (i : Nat) (h : i < a.length) (n : Int) : cnt (a.take (i + 1)) n = cnt (a.take i) n + if n ≤ a[i] then 1 else 0 := by
  rw [List.take_succ_eq_append_getElem h, cnt, List.countP_append, cnt]
  congr 1
  by_cases h1 : n ≤ a[i] <;> simp [h1]
set_option maxHeartbeats 8000000 in
theorem agrees_law (ra : List R3) (ak : List Int) (c2 c3 c4 : Int) (hra : ∀ r ∈ ra, r.ok) (hla : ra.length ≤ 9223372036854775807) (hak : ∀ c ∈ ak, InR c) (hlk : ak.length ≤ 9223372036854775807) (h2 : InR c2) (h3 : InR c3) (h4 : InR c4) : M 4 [Rs3 ra, Is ak, .int c2, .int c3, .int c4] (.bool true) := by
  refine gw4 [(134, 100)] [1000030] rfl rfl fun hb => ?_
  refine ⟨_, awake_ok, ?_⟩
  obtain ⟨l, ha, hf, hr1, hal⟩ := log1_ok ra hra hla
  refine ⟨_, _, ha, ?_⟩
  have hel := El_length l
  obtain ⟨m, hm⟩ : ∃ m : Int, m = (l.length : Int) + 2 := ⟨_, rfl⟩
  have w1 : IntKind.i64.wrap (((El l).length : Int) + 2) = m := by rw [hel, wrap64 (by omega) (by omega)]; omega
  refine ⟨Nat, fun k => ⟨[(1, Is ak), (2, .int c2), (3, .int c3), (4, .int c4), (11, .bool true), (12, Es l), (13, .own 950000 1 (Il (ackL ak m k))), (14, .int (k : Nat))], ⟨[], [950000], 900000, 0⟩⟩, fun k => k ≤ min ak.length 16, fun k => 16 - k, 0, Nat.zero_le _, ?_, ?_⟩
  · exact ⟨⟨L.le_refl _, L.le_refl _, L.le_refl _, L.le_refl _, L.le_refl _, L.le_refl _, rfl, L.le_refl _, trivial⟩, trivial, rfl, rfl⟩
  · intro k hk hb2
    have hlen : (Il ak).length = ak.length := Il_length ak
    refine ⟨fun hc => ?_, fun hc => ?_⟩
    · have hlt : k < ak.length ∧ k < 16 := by
        rw [cond_and, Bool.and_eq_true, decide_eq_true_eq, decide_eq_true_eq] at hc
        omega
      have hkr : (Il ak)[k]? = some [L.int ak[k]] := by rw [Il_get, List.getElem?_eq_getElem hlt.1]; rfl
      have hpk := pick_range (c := ak[k]) (n := m) (by omega)
      have hp : M 11 [.int ak[k], .int (IntKind.i64.wrap (((El l).length : Int) + 2))] (.int (pick ak[k] m)) := by
        rw [w1]; exact pick33_ok _ m (hak _ (List.getElem_mem hlt.1)) (by omega)
      have inc : IntKind.i64.wrap ((k : Int) + 1) = ((k + 1 : Nat) : Int) := by rw [wrap64 (by omega) (by omega)]; simp
      refine ⟨[L.int ak[k]], ⟨k, rfl, hkr⟩, _, hp, ?_⟩
      refine ⟨by show ((Il (ackL ak m k)).length + 1) * 8 ≤ _; rw [Il_length, ackL_len ak m k (by omega)]; omega, ?_⟩
      refine ⟨k + 1, by show k + 1 ≤ min ak.length 16; omega, by show 16 - (k + 1) < 16 - k; omega, ?_⟩
      refine ⟨⟨L.le_refl _, L.le_refl _, L.le_refl _, L.le_refl _, L.le_refl _, L.le_refl _, ⟨rfl, L.le_of_eq (congrArg (L.sl 1) ?_)⟩, L.le_of_eq (congrArg L.int inc), trivial⟩, trivial, rfl, rfl⟩
      rw [ackL_succ ak m k hlt.1, Il, Il, List.map_append]; rfl
    · have hge : k = min ak.length 16 := by
        have : ¬ (k < ak.length ∧ k < 16) := by
          rintro ⟨q1, q2⟩
          have e1 : ((k : Int) < (ak.length : Int)) := by omega
          have e2 : ((k : Int) < 16) := by omega
          rw [cond_and, hlen] at hc
          simp [e1, e2] at hc
        have hk : k ≤ min ak.length 16 := hk
        omega
      obtain ⟨X, hX⟩ : ∃ X, X = ackL ak m k := ⟨_, rfl⟩
      have hXl : X.length = k := by rw [hX]; exact ackL_len ak m k (by omega)
      have hXr : ∀ x ∈ X, 0 ≤ x ∧ x < m := by
        intro x hx
        rw [hX] at hx
        obtain ⟨c, _, rfl⟩ := List.mem_map.1 hx
        exact pick_range (by omega)
      rw [← hX]
      have hp8 := pick_range (c := c2) (n := 8) (by omega)
      refine ⟨_, pick33_ok c2 8 h2 (by decide), ?_⟩
      obtain ⟨t, ht⟩ : ∃ t, t = IntKind.i64.wrap (1 + pick c2 8) := ⟨_, rfl⟩
      have hXs : X.length ≤ 1000000 := by omega
      obtain ⟨n, hn⟩ : ∃ n, n = agreedL l t X := ⟨_, rfl⟩
      have hag : M 19 [Es l, .int (IntKind.i64.wrap (1 + pick c2 8)), Is X] (.int (n : Nat)) := by rw [← ht, hn]; exact agreed_ok l t X (by omega) hXs
      refine ⟨_, hag, ?_⟩
      have hnl : n ≤ l.length := by rw [hn]; exact agreedN_le _ _ _ _
      refine ⟨Nat, fun j => ⟨[(3, .int c3), (4, .int c4), (11, .bool true), (12, Es l), (13, .own 950000 1 (Il X)), (15, .int t), (16, .int (n : Nat)), (17, .int ((j + 1 : Nat) : Int))], ⟨[], [950000], 900000, 0⟩⟩, fun j => j ≤ l.length, fun j => l.length - j, 0, Nat.zero_le _, ?_, ?_⟩
      · exact ⟨⟨L.le_refl _, L.le_refl _, L.le_refl _, L.le_refl _, ⟨rfl, L.le_refl _⟩, L.le_of_eq (congrArg L.int ht.symm), L.le_refl _, L.le_refl _, trivial⟩, trivial, rfl, rfl⟩
      · intro j hj hb3
        have hj : j ≤ l.length := hj
        refine ⟨fun hc => ?_, fun hc => ?_⟩
        · have hjl : j < l.length := by
            rw [decide_eq_true_eq, hel] at hc
            omega
          refine ⟨Nat, fun i => ⟨[(3, .int c3), (4, .int c4), (11, .bool true), (12, Es l), (13, .own 950000 1 (Il X)), (15, .int t), (16, .int (n : Nat)), (17, .int ((j + 1 : Nat) : Int)), (18, .int (cnt (X.take i) ((j + 1 : Nat) : Int) : Nat)), (19, .int (i : Nat))], ⟨[], [950000], 900000, 0⟩⟩, fun i => i ≤ X.length, fun i => X.length - i, 0, Nat.zero_le _, ?_, ?_⟩
          · exact ⟨⟨L.le_refl _, L.le_refl _, L.le_refl _, L.le_refl _, ⟨rfl, L.le_refl _⟩, L.le_refl _, L.le_refl _, L.le_refl _, L.le_refl _, L.le_refl _, trivial⟩, trivial, rfl, rfl⟩
          · intro i hi hb4
            have hi : i ≤ X.length := hi
            have hXL : (Il X).length = X.length := Il_length X
            refine ⟨fun hc2 => ?_, fun hc2 => ?_⟩
            · have hiX : i < X.length := by
                rw [decide_eq_true_eq, hXL] at hc2
                omega
              have hXi : (Il X)[i]? = some [L.int X[i]] := by rw [Il_get, List.getElem?_eq_getElem hiX]; rfl
              refine ⟨[L.int X[i]], ⟨i, rfl, hXi⟩, ?_⟩
              have hcs := cnt_succ X i hiX ((j + 1 : Nat) : Int)
              have hcl := cnt_le (X.take i) ((j + 1 : Nat) : Int)
              rw [List.length_take] at hcl
              have inc : IntKind.i64.wrap ((i : Int) + 1) = ((i + 1 : Nat) : Int) := by rw [wrap64 (by omega) (by omega)]; simp
              refine ⟨fun h => ?_, fun h => ?_⟩
              · refine ⟨i + 1, by show i + 1 ≤ X.length; omega, by show X.length - (i + 1) < X.length - i; omega, ?_⟩
                refine ⟨⟨L.le_refl _, L.le_refl _, L.le_refl _, L.le_refl _, ⟨rfl, L.le_refl _⟩, L.le_refl _, L.le_refl _, L.le_refl _, L.le_of_eq (congrArg L.int ?_), L.le_of_eq (congrArg L.int inc), trivial⟩, trivial, rfl, rfl⟩
                rw [decide_eq_true_eq] at h
                rw [hcs, if_pos (by omega), wrap64 (by omega) (by omega)]; simp
              · refine ⟨i + 1, by show i + 1 ≤ X.length; omega, by show X.length - (i + 1) < X.length - i; omega, ?_⟩
                refine ⟨⟨L.le_refl _, L.le_refl _, L.le_refl _, L.le_refl _, ⟨rfl, L.le_refl _⟩, L.le_refl _, L.le_refl _, L.le_refl _, L.le_of_eq (congrArg L.int ?_), L.le_of_eq (congrArg L.int inc), trivial⟩, trivial, rfl, rfl⟩
                rw [decide_eq_false_iff_not] at h
                rw [hcs, if_neg (by omega)]; simp
            · have hiX : i = X.length := by
                rw [decide_eq_false_iff_not, hXL] at hc2
                omega
              subst hiX
              rw [List.take_length]
              have hcl := cnt_le X ((j + 1 : Nat) : Int)
              have w4 : IntKind.i64.wrap (((j + 1 : Nat) : Int) - 1) = (j : Int) := by rw [wrap64 (by omega) (by omega)]; omega
              have hlj : (El l)[j]? = some l[j].L := by rw [El_get, List.getElem?_eq_getElem hjl]; rfl
              refine ⟨l[j].L, ⟨j, w4, hlj⟩, ?_⟩
              refine ⟨fun h => ?_, fun h => ?_⟩
              · exfalso
                have h : cond (cond (cond (l[j].term == t) (decide (IntKind.i64.wrap (2 * ((cnt X ((j + 1 : Nat) : Int) : Nat) : Int)) > ((Il X).length : Nat))) false) (decide (((j + 1 : Nat) : Int) > (n : Int))) false) true (cond (((j + 1 : Nat) : Int) == (n : Int)) (!(cond (l[j].term == t) (decide (IntKind.i64.wrap (2 * ((cnt X ((j + 1 : Nat) : Int) : Nat) : Int)) > ((Il X).length : Nat))) false)) false) = true := h
                have hb : cond (l[j].term == t) (decide (IntKind.i64.wrap (2 * ((cnt X ((j + 1 : Nat) : Int) : Nat) : Int)) > ((Il X).length : Nat))) false = okN l t X (j + 1) := by
                  rw [okN, cond_and, wrap64 (by omega) (by omega), hXL, Nat.add_sub_cancel, getD_of hjl]
                  refine congr (congrArg and ?_) (decide_eq_decide.2 ⟨fun h => by omega, fun h => by omega⟩)
                  rw [Bool.eq_iff_iff]; simp
                rw [hb] at h
                cases hok : okN l t X (j + 1) with
                | true =>
                  have h5 := agreedN_max l t X l.length (j + 1) (Nat.succ_pos _) (by omega) hok
                  have h6 : j + 1 ≤ n := by rw [hn]; exact h5
                  rw [hok] at h
                  simp at h
                  omega
                | false =>
                  rw [hok] at h
                  simp at h
                  have h5 := agreedN_ok l t X l.length
                  have h6 : agreedN l t X l.length = n := hn.symm
                  rw [h6] at h5
                  have h7 : n = j + 1 := by omega
                  rw [h7, hok] at h5
                  rcases h5 with h5 | h5
                  · omega
                  · cases h5
              · refine ⟨j + 1, by show j + 1 ≤ l.length; omega, by show l.length - (j + 1) < l.length - j; omega, ?_⟩
                have inc : IntKind.i64.wrap (((j + 1 : Nat) : Int) + 1) = ((j + 1 + 1 : Nat) : Int) := by rw [wrap64 (by omega) (by omega)]; simp
                exact ⟨⟨L.le_refl _, L.le_refl _, L.le_refl _, L.le_refl _, ⟨rfl, L.le_refl _⟩, L.le_refl _, L.le_refl _, L.le_of_eq (congrArg L.int inc), trivial⟩, trivial, rfl, rfl⟩
        · rotate_left
          have hn0 : ((n : Int) < 0) = False := by simp
          refine ⟨fun h => ?_, fun _ => ?_⟩
          · exfalso
            have h : cond (decide ((n : Int) < 0)) true (decide ((n : Int) > ((El l).length : Nat))) = true := h
            rw [cond_or, Bool.or_eq_true, decide_eq_true_eq, decide_eq_true_eq, hel] at h
            omega
          refine ⟨fun h => ?_, fun h => ?_⟩
          · have h : (((Il X).length : Nat) : Int) = 0 := eq_of_beq h
            rw [Il_length] at h
            have hX0 : X = [] := List.length_eq_zero_iff.1 (by omega)
            have hn0 : n = 0 := by rw [hn, hX0]; exact agreedL_nil l t
            refine ⟨⟨L.le_of_eq (congrArg L.bool ?_), trivial⟩, trivial, rfl, rfl⟩
            rw [hn0]; rfl
          · have h : ((((Il X).length : Nat) : Int) == 0) = false := h
            rw [Il_length, beq_eq_false_iff_ne] at h
            have hX0 : 0 < X.length := by omega
            have hpk := pick_range (c := c4) (n := (X.length : Int)) (by omega)
            obtain ⟨i, hi⟩ : ∃ i : Nat, pick c4 (X.length : Int) = i := ⟨(pick c4 (X.length : Int)).toNat, by omega⟩
            have hiX : i < X.length := by omega
            have hp4 : M 11 [.int c4, .int ((Il X).length : Nat)] (.int (i : Nat)) := by rw [← hi, Il_length]; exact pick33_ok c4 _ h4 (by omega)
            refine ⟨_, hp4, ?_⟩
            refine ⟨i, ⟨rfl, by rw [Il_length]; omega⟩, ?_⟩
            refine ⟨by show (0 + ((Il X).drop i).length) * 8 ≤ _; rw [List.length_drop, Il_length]; omega, ?_⟩
            refine ⟨i, ⟨rfl, by rw [Il_length]; omega⟩, ?_⟩
            refine ⟨by show (([] ++ (Il X).drop i).length + ((Il X).take i).length) * 8 ≤ _; rw [List.nil_append, List.length_drop, List.length_take, Il_length]; omega, ?_⟩
            refine ⟨rfl, ?_⟩
            have hiL : i < (Il X).length := by rw [Il_length]; exact hiX
            refine ⟨⟨trivial, by rw [Il_length]; exact hX0, by show (Il X).length * 8 ≤ _; rw [Il_length]; omega⟩, ?_⟩
            refine ⟨i, ⟨rfl, hiL⟩, ?_⟩
            refine ⟨[L.int X[i]], by show (Il X)[0 + i]? = _; rw [Nat.zero_add, Il_get, List.getElem?_eq_getElem hiX]; rfl, ?_⟩
            refine ⟨_, pick33_ok c3 5 h3 (by decide), ?_⟩
            refine ⟨i, ⟨rfl, hiL⟩, ?_⟩
            have hpk3 := pick_range (c := c3) (n := 5) (by omega)
            have hXi := hXr X[i] (List.getElem_mem hiX)
            have w5 : IntKind.i64.wrap (X[i] + pick c3 5) = X[i] + pick c3 5 := wrap64 (by omega) (by omega)
            refine ⟨by rw [Nat.zero_add]; exact hiL, ?_⟩
            refine ⟨rfl, ?_⟩
            refine ⟨⟨[(11, .bool true), (12, Es l), (15, .int t), (16, .int (n : Nat)), (22, Is (X.drop i ++ X.take i)), (23, Is (X.set i (X[i] + pick c3 5)))], ⟨[], [], 100000, 0⟩⟩, ?_, fun hb5 => ?_⟩
            · refine ⟨⟨L.le_refl _, L.le_refl _, L.le_refl _, L.le_refl _, ?_, ?_, trivial⟩, trivial, rfl, rfl⟩
              · refine L.le_of_eq (congrArg (L.sl 1) ?_)
                rw [Il, Il, List.map_append, List.map_drop, List.map_take]; rfl
              · refine ⟨(Il X).set (0 + i) [L.int (IntKind.i64.wrap (X[i] + pick c3 5))], ⟨rfl, _, rfl⟩, ?_, L.le_of_eq (congrArg (L.sl 1) ?_)⟩
                · rw [List.length_set]; omega
                · rw [List.drop_zero, List.take_of_length_le (by rw [List.length_set]; exact Nat.le_refl _), Il, Il, List.map_set, Nat.zero_add, w5]
            have hgt : M 19 [Es l, .int t, Is (X.drop i ++ X.take i)] (.int (n : Nat)) := by
              rw [hn, agreedL_perm (a := X) (b := X.drop i ++ X.take i)]
              · exact agreed_ok l t _ (by omega) (by rw [List.length_append, List.length_drop, List.length_take]; omega)
              · exact List.perm_append_comm.trans (List.Perm.of_eq (List.take_append_drop i X)) |>.symm
            obtain ⟨n2, hn2⟩ : ∃ n2, n2 = agreedL l t (X.set i (X[i] + pick c3 5)) := ⟨_, rfl⟩
            have hgt2 : M 19 [Es l, .int t, Is (X.set i (X[i] + pick c3 5))] (.int (n2 : Nat)) := by
              rw [hn2]; exact agreed_ok l t _ (by omega) (by rw [List.length_set]; omega)
            have hge2 : n ≤ n2 := by
              rw [hn, hn2]
              exact agreedL_more (List.length_set).symm fun q => cnt_set hiX (by omega) q
            refine ⟨_, fun _ => hgt, ?_⟩
            refine ⟨_, fun _ => hgt2, ?_⟩
            refine ⟨⟨L.le_of_eq (congrArg L.bool ?_), trivial⟩, trivial, rfl, rfl⟩
            show cond (cond true ((n : Int) == (n : Int)) false) (decide ((n2 : Int) ≥ (n : Int))) false = true
            rw [cond_and, cond_and, Bool.and_eq_true, Bool.and_eq_true, decide_eq_true_eq]
            exact ⟨⟨rfl, by simp⟩, by omega⟩
end Go.Proofs.YtelbkabgkcogpaaDoor

set_option linter.unusedVariables false
set_option linter.unusedSimpArgs false
set_option maxRecDepth 100000
namespace Go.Proofs.YtelbkabgkcogpaaDoor
open Go Go.Proofs.YtelbkabgkcogpaaDoor.Abs

def logAS (raw : List R3) : Nat → ASt
  | 0 => ⟨[(0, Rs3 raw), (1, .d (.l .nil)), (5, .d (.l .nil)), (6, .int (termL raw 0)), (7, .int ((0 : Nat) : Int))], ⟨[], [], 900000, 0⟩⟩
  | k + 1 => ⟨[(0, Rs3 raw), (1, .d (.l .nil)), (5, .msl 800000 5 0 (k + 1)), (6, .int (termL raw (k + 1))), (7, .int ((k + 1 : Nat) : Int))], ⟨[(800000, .arr 5 (El (logN raw [] (k + 1))) false)], [], 700000, 0⟩⟩
set_option maxHeartbeats 4000000 in
theorem logA_ok (raw : List R3) (hr : ∀ r ∈ raw, r.ok) (h0 : 0 < raw.length) (hrl : raw.length ≤ 9223372036854775807) : MM 10 [] [Rs3 raw, .d (.l .nil)] [(100, .arr 5 (El (logL raw [])) false)] (.msl 100 5 0 (logL raw []).length) := by
  have h3 := Rl3_length raw
  refine gb10 [(70, 2)] [] rfl rfl fun hb => ?_
  refine ⟨Nat, logAS raw, fun k => k ≤ min raw.length 12, fun k => min raw.length 12 - k, 0, Nat.zero_le _, ?_, ?_⟩
  · exact ⟨⟨L.le_refl _, L.le_refl _, L.le_refl _, L.le_refl _, L.le_refl _, trivial⟩, trivial, rfl, rfl⟩
  rintro k hk _
  have hk : k ≤ min raw.length 12 := hk
  have hkk := Nat.le_trans hk (Nat.min_le_right _ _)
  have inc : IntKind.i64.wrap ((k : Int) + 1) = ((k + 1 : Nat) : Int) := by rw [wrap64 (by omega) (by omega)]; simp
  have htr := termL_range raw k
  have hE : El (logN raw [] (k + 1)) = El (logN raw [] k) ++ [(logE raw [] k).L] := by rw [logN_succ, ← El_app]; rfl
  have hEl : (El (logN raw [] k)).length = k := by rw [El_length, logN_length]
  have hbody : k < raw.length ∧ k < 12 → ∃ r : R3, (Rl3 raw)[k]? = some r.L ∧ r.ok ∧ IntKind.i64.wrap (termL raw k + IntKind.i64.wrap ((pick r.a 3).tdiv 2)) = termL raw (k + 1) ∧
      M 12 [.d (.agg (R3.L ⟨0, 0, pick r.b 16⟩)), Is [pick r.c 3], .d (.l .nil)] (entL ⟨0, 0, pick r.b 16⟩ [pick r.c 3] []).V ∧
      (logE raw [] k).L = [L.int (IntKind.i64.wrap (termL raw k + IntKind.i64.wrap ((pick r.a 3).tdiv 2))), L.int (IntKind.i64.wrap (IntKind.i64.wrap (IntKind.i64.wrap (2 * (k : Int)) + 1) + pick r.c 2)), L.int (entL ⟨0, 0, pick r.b 16⟩ [pick r.c 3] []).mem, .sl 1 (Il (entL ⟨0, 0, pick r.b 16⟩ [pick r.c 3] []).incs), .sl 7 (Ml (entL ⟨0, 0, pick r.b 16⟩ [pick r.c 3] []).msgs)] := by
    intro hc
    obtain ⟨r, hre⟩ : ∃ r, r = raw[k]'hc.1 := ⟨_, rfl⟩
    have hrk : (Rl3 raw)[k]? = some r.L := by rw [Rl3_get, List.getElem?_eq_getElem hc.1, hre]; rfl
    have hok : r.ok := hre ▸ hr _ (List.getElem_mem hc.1)
    have hgd : raw.getD k r30 = r := by rw [getD_of hc.1, hre]
    have p3 := pick_range (c := r.a) (n := 3) (by omega)
    have p16 := pick_range (c := r.b) (n := 16) (by omega)
    have pc3 := pick_range (c := r.c) (n := 3) (by omega)
    have pc2 := pick_range (c := r.c) (n := 2) (by omega)
    have hts : termL raw (k + 1) = termL raw k + (pick r.a 3).tdiv 2 := by rw [termL, hgd]
    have htd : 0 ≤ (pick r.a 3).tdiv 2 ∧ (pick r.a 3).tdiv 2 ≤ 1 := by
      rw [Int.tdiv_eq_ediv_of_nonneg p3.1]; omega
    have w1 : IntKind.i64.wrap ((pick r.a 3).tdiv 2) = (pick r.a 3).tdiv 2 := wrap64 (by omega) (by omega)
    have w2 : IntKind.i64.wrap (termL raw k + IntKind.i64.wrap ((pick r.a 3).tdiv 2)) = termL raw (k + 1) := by rw [w1, hts, wrap64 (by omega) (by omega)]
    have w3 : IntKind.i64.wrap (IntKind.i64.wrap (IntKind.i64.wrap (2 * (k : Int)) + 1) + pick r.c 2) = 2 * (k : Int) + 1 + pick r.c 2 := by
      rw [wrap64 (x := 2 * (k : Int)) (by omega) (by omega), wrap64 (x := 2 * (k : Int) + 1) (by omega) (by omega), wrap64 (by omega) (by omega)]
    have hin : InR (pick r.c 3) := ⟨by omega, by omega⟩
    have h16 : R3.ok ⟨0, 0, pick r.b 16⟩ := ⟨(⟨by decide, by decide⟩ : InR 0), (⟨by decide, by decide⟩ : InR 0), (⟨by omega, by omega⟩ : InR (pick r.b 16))⟩
    have hent0 := entry_ok ⟨0, 0, pick r.b 16⟩ [pick r.c 3] [] h16 (by simpa using hin) (by simp) (by simp) (by decide)
    have hent : M 12 [.d (.agg (R3.L ⟨0, 0, pick r.b 16⟩)), Is [pick r.c 3], .d (.l .nil)] (entL ⟨0, 0, pick r.b 16⟩ [pick r.c 3] []).V := hent0.le ⟨leA.refl _, leA.refl _, leA.l (L.le_nil 6), trivial⟩
    refine ⟨r, hrk, hok, w2, hent, ?_⟩
    rw [w2, w3, logE, hgd, List.drop_nil, List.take_nil]
  rcases k with _ | k
  · refine ⟨fun hc => ?_, fun hc => ?_⟩
    · have hc : 0 < raw.length ∧ 0 < 12 := by
        rw [cond_and, h3] at hc
        simp only [Bool.and_eq_true, decide_eq_true_eq] at hc
        omega
      have hlt : 0 < min raw.length 12 := Nat.lt_min.2 hc
      obtain ⟨r, hrk, hok, w2, hent, hlast⟩ := hbody hc
      refine ⟨r.L, ⟨0, rfl, hrk⟩, 0, ⟨rfl, by decide⟩, _, pick33_ok r.a 3 hok.1 (by omega), ⟨rfl, by decide⟩, ?_⟩
      refine ⟨fun h => ?_, fun h => ?_⟩
      · exfalso
        have h : decide (((0 : Nat) : Int) < ((0 : Nat) : Int)) = true := h
        rw [decide_eq_true_eq] at h
        omega
      refine ⟨r.L, ⟨0, rfl, hrk⟩, 1, ⟨rfl, by decide⟩, _, pick33_ok r.b 16 hok.2.1 (by omega), ?_⟩
      refine ⟨r.L, ⟨0, rfl, hrk⟩, 2, ⟨rfl, by decide⟩, _, pick33_ok r.c 3 hok.2.2 (by omega), ?_⟩
      refine ⟨_, hent, ?_⟩
      refine ⟨rfl, ?_⟩
      refine ⟨r.L, ⟨0, rfl, hrk⟩, 2, ⟨rfl, by decide⟩, _, pick33_ok r.c 2 hok.2.2 (by omega), ?_⟩
      refine ⟨⟨trivial, Nat.zero_lt_one, by show 1 * 72 ≤ _; decide⟩, ?_⟩
      refine ⟨0 + 1, hlt, by show min raw.length 12 - (0 + 1) < min raw.length 12 - 0; omega, ?_⟩
      refine ⟨⟨rfl, rfl⟩, ?_⟩
      refine ⟨⟨L.le_refl _, L.le_refl _, ⟨rfl, rfl, rfl, rfl⟩, L.le_of_eq (congrArg L.int w2), L.le_of_eq (congrArg L.int inc), trivial⟩, ⟨⟨rfl, ⟨[], ?_⟩, nofun⟩, trivial⟩, rfl, rfl⟩
      rw [List.append_nil, hE, hlast]; rfl
    · have : ¬ (0 < raw.length ∧ 0 < 12) := by
        rintro ⟨q1, q2⟩
        rw [cond_and, h3] at hc
        have e1 : (((0 : Nat) : Int) < (raw.length : Int)) := by clear hbody; omega
        rw [decide_eq_true e1] at hc
        cases hc
      exact absurd ⟨h0, by decide⟩ this
  · refine ⟨fun hc => ?_, fun hc => ?_⟩
    · have hc : (k + 1) < raw.length ∧ (k + 1) < 12 := by
        rw [cond_and, h3] at hc
        simp only [Bool.and_eq_true, decide_eq_true_eq] at hc
        omega
      have hlt : (k + 1) < min raw.length 12 := Nat.lt_min.2 hc
      obtain ⟨r, hrk, hok, w2, hent, hlast⟩ := hbody hc
      refine ⟨r.L, ⟨(k + 1), rfl, hrk⟩, 0, ⟨rfl, by decide⟩, _, pick33_ok r.a 3 hok.1 (by omega), ⟨rfl, by decide⟩, ?_⟩
      refine ⟨fun h => ?_, fun h => ?_⟩
      · exfalso
        have h : decide ((((k + 1) : Nat) : Int) < ((0 : Nat) : Int)) = true := h
        rw [decide_eq_true_eq] at h
        omega
      refine ⟨r.L, ⟨(k + 1), rfl, hrk⟩, 1, ⟨rfl, by decide⟩, _, pick33_ok r.b 16 hok.2.1 (by omega), ?_⟩
      refine ⟨r.L, ⟨(k + 1), rfl, hrk⟩, 2, ⟨rfl, by decide⟩, _, pick33_ok r.c 3 hok.2.2 (by omega), ?_⟩
      refine ⟨_, hent, ?_⟩
      refine ⟨rfl, ?_⟩
      refine ⟨r.L, ⟨(k + 1), rfl, hrk⟩, 2, ⟨rfl, by decide⟩, _, pick33_ok r.c 2 hok.2.2 (by omega), ?_⟩
      refine ⟨trivial, .inr (.inr ⟨⟨rfl, by rw [hEl]; exact Nat.le_refl _, by show ((k + 1) + 1) * 72 ≤ _; omega⟩, ?_⟩)⟩
      refine ⟨(k + 1) + 1, hlt, by show min raw.length 12 - ((k + 1) + 1) < min raw.length 12 - (k + 1); omega, ?_⟩
      refine ⟨⟨rfl, rfl⟩, ?_⟩
      refine ⟨⟨L.le_refl _, L.le_refl _, ⟨rfl, rfl, rfl, rfl⟩, L.le_of_eq (congrArg L.int w2), L.le_of_eq (congrArg L.int inc), trivial⟩, ⟨⟨rfl, ⟨[], ?_⟩, nofun⟩, trivial⟩, rfl, rfl⟩
      rw [List.append_nil, hE, hlast, List.take_of_length_le (Nat.le_of_eq hEl)]; rfl
    · have hge : k + 1 = min raw.length 12 := by
        have : ¬ (k + 1 < raw.length ∧ k + 1 < 12) := by
          rintro ⟨q1, q2⟩
          rw [cond_and, h3] at hc
          have e1 : (((k + 1 : Nat) : Int) < (raw.length : Int)) := by omega
          have e2 : (((k + 1 : Nat) : Int) < 12) := by omega
          rw [decide_eq_true e1, decide_eq_true e2] at hc
          cases hc
        clear hbody
        omega
      have hL : logL raw [] = logN raw [] (k + 1) := by rw [logL, hge]
      rw [hL, logN_length]
      refine ⟨⟨rfl, rfl⟩, ?_⟩
      exact ⟨⟨⟨rfl, rfl, rfl, rfl⟩, trivial⟩, ⟨⟨rfl, ⟨[], (List.append_nil _).symm⟩, nofun⟩, trivial⟩, rfl, rfl⟩

/-! entries of greater terms -/
def upE (e : Ent) : Ent := { e with term := e.term + 20 }
def upN (l : List Ent) (k : Nat) : List Ent := (l.take k).map upE ++ l.drop k
theorem upN_length (l : List Ent) (k : Nat) : (upN l k).length = l.length := by simp [upN]; omega
theorem upN_zero (l : List Ent) : upN l 0 = l := by simp [upN]
theorem upN_all (l : List Ent) {k : Nat} (h : l.length ≤ k) : upN l k = l.map upE := by rw [upN, List.take_of_length_le h, List.drop_eq_nil_of_le h, List.append_nil]
theorem upN_get (l : List Ent) {k : Nat} (h : k < l.length) : (upN l k)[k]? = some l[k] := by
  rw [upN, List.getElem?_append_right (by simp; omega), List.getElem?_drop]
  have e : k + (k - ((l.take k).map upE).length) = k := by simp; omega
  rw [e, List.getElem?_eq_getElem h]
theorem upN_succ (l : List Ent) {k : Nat} (h : k < l.length) : upN l (k + 1) = (upN l k).set k (upE l[k]) := by
  have hl : ((l.take k).map upE).length = k := by simp; omega
  rw [upN, upN, List.take_succ_eq_append_getElem h, List.map_append, List.append_assoc, List.set_append_right _ _ (by omega), hl, Nat.sub_self, List.drop_eq_getElem_cons h]
  rfl
theorem logL_term {raw : List R3} {msgs : List R6} {e : Ent} (h : e ∈ logL raw msgs) : 1 ≤ e.term ∧ e.term ≤ 13 := by
  obtain ⟨i, hi, rfl⟩ := List.mem_map.1 h
  have := termL_range raw (i + 1)
  have hi : i < min raw.length 12 := List.mem_range.1 hi
  show 1 ≤ termL raw (i + 1) ∧ termL raw (i + 1) ≤ 13
  omega
theorem up_right {raw : List R3} : logRight ((logL raw []).map upE) = true := by
  obtain ⟨a, b, c⟩ := logRight_iff.1 (logL_right raw [])
  refine logRight_iff.2 ⟨by simpa using a, fun e he => ?_, ?_⟩
  · obtain ⟨x, hx, rfl⟩ := List.mem_map.1 he
    obtain ⟨i, hi, rfl⟩ := List.mem_map.1 hx
    have hi : i < min raw.length 12 := List.mem_range.1 hi
    have t := termL_range raw (i + 1)
    have p := pick_range (c := (raw.getD i r30).c) (n := 2) (by omega)
    have w1 : small (termL raw (i + 1) + 20) = true := small_of (by omega) (by omega)
    have w2 : small (2 * (i : Int) + 1 + pick (raw.getD i r30).c 2) = true := small_of (by omega) (by omega)
    exact entL_right (n := ⟨0, 0, pick (raw.getD i r30).b 16⟩) (incs := [pick (raw.getD i r30).c 3]) (raw := (([] : List R6).drop i).take 1) (by simp) w1 w2
  · rw [List.pairwise_map]
    exact c.imp fun h => ⟨by show _ + 20 ≤ _ + 20; omega, h.2⟩
theorem put_build {l b : List Ent} {k : Nat} (hl : logRight l = true) (hb : logRight b = true) (hl3 : l.length < 300) (hkl : k ≤ l.length) (hkb : k < b.length) (ht : l.take k = b.take k) (hno : ∀ h : k < l.length, l[k].term ≠ b[k].term) :
    putT l k (termV b k) [b[k]] = (b.take (k + 1), (k : Int) + 1, 0) := by
  have e1 : termV l k = termV b k := by rw [← termV_take hkl [], ← termV_take (Nat.le_of_lt hkb) [], ht]
  have e2 : l.take k ++ [b[k]] = b.take (k + 1) := by rw [ht, List.take_succ_eq_append_getElem hkb]
  have h := put_cases hl hl3 ((logRight_iff.1 hb).2.1 _ (List.getElem_mem hkb)) hkl
  rw [e1, e2] at h
  rcases h with ⟨⟨h1, h2⟩, _⟩ | ⟨_, h2, _⟩ | ⟨_, _, h3⟩
  · exact absurd h2 (hno h1)
  · rw [logRight_take hb] at h2; cases h2
  · exact h3
def lAt (a b : List Ent) (i : Nat) : List Ent := if i = 0 then a else b.take i
set_option maxHeartbeats 8000000 in
theorem builds_law (ra rb : List R3) (ms : List R6) (hra : ∀ r ∈ ra, r.ok) (hrb : ∀ r ∈ rb, r.ok) (hms : ∀ r ∈ ms, r.ok) (hla : ra.length ≤ 9223372036854775807) (hlb : rb.length ≤ 9223372036854775807) (hlm : ms.length ≤ 9223372036854775807) : M 6 [Rs3 ra, Rs3 rb, Rs ms] (.bool true) := by
  refine go6 rfl rfl fun hb => ?_
  refine ⟨_, awake_ok, ?_⟩
  refine ⟨_, _, log_ok ra ms hra hms hla hlm, ?_⟩
  obtain ⟨a, hA⟩ : ∃ a, a = logL ra ms := ⟨_, rfl⟩
  have hal : a.length ≤ 12 := by rw [hA]; exact logL_len ra ms
  have hfa : Fit a := by rw [hA]; exact logL_fit ra ms
  have har : logRight a = true := by rw [hA]; exact logL_right ra ms
  have hat : ∀ e ∈ a, e.term ≤ 13 := fun e he => (logL_term (hA ▸ he)).2
  rw [← hA]
  have hea := El_length a
  refine ⟨Nat, fun i => ⟨[(1, Rs3 rb), (7, .bool true), (8, Es a), (9, Es (a.take i)), (10, .int (i : Nat))], ⟨[], [], 900000, 0⟩⟩, fun i => i ≤ a.length, fun i => a.length - i, 0, Nat.zero_le _, ?_, ?_⟩
  · exact ⟨⟨L.le_refl _, L.le_refl _, L.le_refl _, L.le_nil 5, L.le_refl _, trivial⟩, trivial, rfl, rfl⟩
  rintro i hi hbi
  have hi : i ≤ a.length := hi
  refine ⟨fun hc => ?_, fun hc => ?_⟩
  · have hia : i < a.length := by
      have hc : decide ((i : Int) < ((El a).length : Nat)) = true := hc
      rw [decide_eq_true_eq, hea] at hc
      omega
    have hti : (El (a.take i)).length = i := by rw [El_length, List.length_take]; omega
    have htl : (a.take i).length = i := by rw [List.length_take]; omega
    have hterm : M 13 [Es (a.take i), .int ((El (a.take i)).length : Nat)] (.tup [.int (termV (a.take i) i), .bool true]) := by
      have h := pterm_ok (a.take i) i
      rw [termB_nat.2 (by omega)] at h
      rw [hti]; exact h
    refine ⟨_, hterm, ?_⟩
    have hai : (El a)[i]? = some a[i].L := by rw [El_get, List.getElem?_eq_getElem hia]; rfl
    refine ⟨a[i].L, ⟨i, rfl, hai⟩, ?_⟩
    have hput : M 14 [Es (a.take i), .int ((El (a.take i)).length : Nat), .int (termV (a.take i) i), .d (.l (.sl 5 [a[i].L]))] (putV (a.take (i + 1), (i : Int) + 1, 0)) := by
      have h := pput_ok (a.take i) [a[i]] (i : Nat) (termV (a.take i) i) (hfa.take i) (gfit1 _ (hfa.2 _ (List.getElem_mem hia))) (by constructor <;> omega)
      have e : termV (a.take i) i = termV a i := by
        have := termV_take (l := a) (k := i) (by omega) []
        rwa [List.append_nil] at this
      rw [e, put_build (l := a.take i) (b := a) (k := i) (logRight_take har i) har (by omega) (by omega) hia (by rw [List.take_take, Nat.min_self]) (fun h => by omega)] at h
      rw [e, hti]; exact h
    refine ⟨_, hput, ?_⟩
    have hcm : M 17 [Es (a.take (i + 1)), Es a] (.int ((i + 1 : Nat) : Int)) := by
      have h := common_ok (a.take (i + 1)) a (hfa.take _)
      rw [commonL_comm, commonL_self_take a (i + 1) hia] at h
      exact h
    refine ⟨_, fun _ => hcm, ?_⟩
    have inc : IntKind.i64.wrap ((i : Int) + 1) = (i : Int) + 1 := wrap64 (by omega) (by omega)
    refine ⟨fun h => ?_, fun _ => ?_⟩
    · exfalso
      simp [inc] at h
    refine ⟨i + 1, hia, by show a.length - (i + 1) < a.length - i; omega, ?_⟩
    refine ⟨⟨L.le_refl _, L.le_refl _, L.le_refl _, L.le_refl _, L.le_of_eq (congrArg L.int (by rw [inc]; simp)), trivial⟩, trivial, rfl, rfl⟩
  · have hia : i = a.length := by
      have hc : decide ((i : Int) < ((El a).length : Nat)) = false := hc
      rw [decide_eq_false_iff_not, hea] at hc
      omega
    subst hia
    rw [List.take_length]
    obtain ⟨b0, hB⟩ : ∃ b0, b0 = logL rb [] := ⟨_, rfl⟩
    have hbl : b0.length ≤ 12 := by rw [hB]; exact logL_len rb []
    obtain ⟨b, hBu⟩ : ∃ b, b = b0.map upE := ⟨_, rfl⟩
    have hbl2 : b.length = b0.length := by rw [hBu]; simp
    have hbr : logRight b = true := by rw [hBu, hB]; exact up_right
    have hfb0 : Fit b0 := by rw [hB]; exact logL_fit rb []
    have hfb : Fit b := by
      rw [hBu]
      refine ⟨by simpa using hfb0.1, fun e he => ?_⟩
      obtain ⟨x, hx, rfl⟩ := List.mem_map.1 he
      exact hfb0.2 x hx
    have hbt : ∀ e ∈ b, 21 ≤ e.term := by
      intro e he
      rw [hBu] at he
      obtain ⟨x, hx, rfl⟩ := List.mem_map.1 he
      have := (logL_term (hB ▸ hx)).1
      show 21 ≤ x.term + 20
      omega
    rcases Nat.eq_zero_or_pos rb.length with h0 | h0
    focus
      have hb0 : b0 = [] := by rw [hB, List.length_eq_zero_iff.1 h0]; rfl
      have hbe : b = [] := by rw [hBu, hb0]; rfl
      have hlog0 : M 10 [Rs3 rb, .d (.l .nil)] (Es b0) := by
        rw [hB]; exact (log_ok rb [] hrb (by simp) hlb (by decide)).le ⟨leA.refl _, leA.l (L.le_nil 6), trivial⟩
      refine ⟨_, _, hlog0, ?_⟩
      refine ⟨Unit, fun _ => ⟨[(7, .bool true), (8, Es a), (9, Es a), (16, Es b), (17, .int 0)], ⟨[], [], 700000, 0⟩⟩, fun _ => True, fun _ => 0, (), trivial, ?_, ?_⟩
      · exact ⟨⟨L.le_refl _, L.le_refl _, L.le_refl _, L.le_of_eq (congrArg (fun l => L.sl 5 (El l)) (hb0.trans hbe.symm)), L.le_refl _, trivial⟩, trivial, rfl, rfl⟩
      rintro _ _ _
      refine ⟨fun hc => ?_, fun hc => ?_⟩
      · exfalso
        have hc : decide ((0 : Int) < ((El b).length : Nat)) = true := hc
        rw [hbe] at hc
        cases hc
      refine ⟨Nat, fun k => ⟨[(7, .bool true), (8, Es a), (9, Es (lAt a b k)), (16, Es b), (18, .int (k : Nat))], ⟨[], [], 600000, 0⟩⟩, fun k => k ≤ b.length, fun k => b.length - k, 0, Nat.zero_le _, ?_, ?_⟩
      · exact ⟨⟨L.le_refl _, L.le_refl _, L.le_refl _, L.le_refl _, L.le_refl _, trivial⟩, trivial, rfl, rfl⟩
    rotate_left
    focus
      have hlogA := logA_ok rb hrb h0 hlb
      rw [← hB] at hlogA
      refine ⟨_, _, hlogA, ?_⟩
      refine ⟨Nat, fun k => ⟨[(7, .bool true), (8, Es a), (9, Es a), (16, .msl 800000 5 0 b0.length), (17, .int (k : Nat))], ⟨[(800000, .arr 5 (El (upN b0 k)) false)], [], 700000, 0⟩⟩, fun k => k ≤ b0.length, fun k => b0.length - k, 0, Nat.zero_le _, ?_, ?_⟩
      · refine ⟨⟨rfl, rfl⟩, ?_⟩
        refine ⟨⟨L.le_refl _, L.le_refl _, L.le_refl _, ⟨rfl, rfl, rfl, rfl⟩, L.le_refl _, trivial⟩, ⟨⟨rfl, ⟨[], ?_⟩, nofun⟩, trivial⟩, rfl, rfl⟩
        rw [List.append_nil, upN_zero]
      rintro k hk hbk
      have hk : k ≤ b0.length := hk
      refine ⟨fun hc => ?_, fun hc => ?_⟩
      · have hkl : k < b0.length := by
          have hc : decide ((k : Int) < (b0.length : Nat)) = true := hc
          rw [decide_eq_true_eq] at hc
          omega
        have hul : (El (upN b0 k)).length = b0.length := by rw [El_length, upN_length]
        have hge : (El (upN b0 k))[k]? = some b0[k].L := by rw [El_get, upN_get b0 hkl]; rfl
        refine ⟨k, ⟨rfl, hkl⟩, ?_⟩
        refine ⟨b0[k].L, by show (El (upN b0 k))[0 + k]? = _; rw [Nat.zero_add]; exact hge, ?_⟩
        refine ⟨k, ⟨rfl, hkl⟩, ?_⟩
        refine ⟨b0[k].L, by show (El (upN b0 k))[0 + k]? = _; rw [Nat.zero_add]; exact hge, ?_⟩
        have inc : IntKind.i64.wrap ((k : Int) + 1) = ((k + 1 : Nat) : Int) := by rw [wrap64 (by omega) (by omega)]; simp
        have hmem : b0[k] ∈ logL rb [] := by rw [← hB]; exact List.getElem_mem hkl
        have htm := logL_term hmem
        have w20 : IntKind.i64.wrap (b0[k].term + 20) = b0[k].term + 20 := wrap64 (by omega) (by omega)
        refine ⟨k + 1, hkl, by show b0.length - (k + 1) < b0.length - k; omega, ?_⟩
        refine ⟨⟨L.le_refl _, L.le_refl _, L.le_refl _, ⟨rfl, rfl, rfl, rfl⟩, L.le_of_eq (congrArg L.int inc), trivial⟩, ⟨⟨rfl, ⟨[], ?_⟩, nofun⟩, trivial⟩, rfl, rfl⟩
        rw [List.append_nil, upN_succ b0 hkl, w20, Nat.zero_add, El, El, List.map_set]; rfl
      have hkl : k = b0.length := by
        have hc : decide ((k : Int) < (b0.length : Nat)) = false := hc
        rw [decide_eq_false_iff_not] at hc
        omega
      subst hkl
      refine ⟨Nat, fun k => ⟨[(7, .bool true), (8, Es a), (9, Es (lAt a b k)), (16, Es b), (18, .int (k : Nat))], ⟨[], [], 600000, 0⟩⟩, fun k => k ≤ b.length, fun k => b.length - k, 0, Nat.zero_le _, ?_, ?_⟩
      · refine ⟨⟨L.le_refl _, L.le_refl _, L.le_refl _, ⟨El (upN b0 b0.length), ⟨rfl, _, rfl⟩, ?_, L.le_of_eq (congrArg (L.sl 5) ?_)⟩, L.le_refl _, trivial⟩, trivial, rfl, rfl⟩
        · rw [El_length, upN_length]; omega
        · rw [List.drop_zero, List.take_of_length_le (by rw [El_length, upN_length]; exact Nat.le_refl _), upN_all b0 (Nat.le_refl _), hBu]
    rotate_left
    all_goals
      rintro k hk hbk
      have hk : k ≤ b.length := hk
      have heb := El_length b
      obtain ⟨l, hl⟩ : ∃ l, l = lAt a b k := ⟨_, rfl⟩
      have hlr : logRight l = true := by
        rw [hl, lAt]; split
        · exact har
        · exact logRight_take hbr k
      have hlf : Fit l := by
        rw [hl, lAt]; split
        · exact hfa
        · exact hfb.take k
      refine ⟨fun hc => ?_, fun hc => ?_⟩
      · have hkb : k < b.length := by
          have hc : decide ((k : Int) < ((El b).length : Nat)) = true := hc
          rw [decide_eq_true_eq, heb] at hc
          omega
        have hterm : M 13 [Es b, .int (k : Nat)] (.tup [.int (termV b k), .bool true]) := by
          have h := pterm_ok b k
          rw [termB_nat.2 (by omega)] at h
          exact h
        refine ⟨_, hterm, ?_⟩
        have hbk : (El b)[k]? = some b[k].L := by rw [El_get, List.getElem?_eq_getElem hkb]; rfl
        refine ⟨b[k].L, ⟨k, rfl, hbk⟩, ?_⟩
        have hput : M 14 [Es (lAt a b k), .int (k : Nat), .int (termV b k), .d (.l (.sl 5 [b[k].L]))] (putV (b.take (k + 1), (k : Int) + 1, 0)) := by
          rw [← hl]
          have h := pput_ok l [b[k]] (k : Nat) (termV b k) hlf (gfit1 _ (hfb.2 _ (List.getElem_mem hkb))) (by constructor <;> omega)
          have hp : putT l k (termV b k) [b[k]] = (b.take (k + 1), (k : Int) + 1, 0) := by
            refine put_build hlr hbr ?_ ?_ hkb ?_ ?_
            · rw [hl, lAt]; split
              · omega
              · rw [List.length_take]; omega
            · rw [hl, lAt]; split
              · omega
              · rw [List.length_take]; omega
            · rw [hl, lAt]; split
              · rename_i h0; rw [h0]; rfl
              · rw [List.take_take, Nat.min_self]
            · intro h
              by_cases h0 : k = 0
              · have hla : l = a := by rw [hl, lAt, if_pos h0]
                have h1 : l[k] ∈ a := by rw [← hla]; exact List.getElem_mem h
                have h2 := hat _ h1
                have h3 := hbt _ (List.getElem_mem hkb)
                omega
              · exfalso
                have hla : l = b.take k := by rw [hl, lAt, if_neg h0]
                rw [hla, List.length_take] at h
                omega
          rw [hp] at h; exact h
        refine ⟨_, hput, ?_⟩
        have inc : IntKind.i64.wrap ((k : Int) + 1) = (k : Int) + 1 := wrap64 (by omega) (by omega)
        refine ⟨fun h => ?_, fun _ => ?_⟩
        · exfalso
          have e1 : (El (b.take (k + 1))).length = k + 1 := by rw [El_length, List.length_take]; omega
          simp [inc, e1] at h
        refine ⟨k + 1, hkb, by show b.length - (k + 1) < b.length - k; omega, ?_⟩
        refine ⟨⟨L.le_refl _, L.le_refl _, L.le_of_eq (congrArg (fun l => L.sl 5 (El l)) ?_), L.le_refl _, L.le_of_eq (congrArg L.int (by rw [inc]; simp)), trivial⟩, trivial, rfl, rfl⟩
        rw [lAt, if_neg (Nat.succ_ne_zero k)]
      · have hkb : k = b.length := by
          have hc : decide ((k : Int) < ((El b).length : Nat)) = false := hc
          rw [decide_eq_false_iff_not, heb] at hc
          omega
        have hright : M 15 [Es (lAt a b k)] (.bool true) := by
          rw [← hl]
          have h := lright_ok l hlf
          rw [hlr] at h; exact h
        have hall1 := all_ok l a hlf
        have hall2 := all_ok l b hlf
        rw [hl] at hall1 hall2
        refine ⟨_, fun _ => hright, ?_⟩
        refine ⟨_, fun _ _ => hall1, ?_⟩
        refine ⟨_, fun _ _ => hall2, ?_⟩
        refine ⟨⟨L.le_of_eq (congrArg L.bool ?_), trivial⟩, trivial, rfl, rfl⟩
        show cond (cond true true false) (cond (cond ((((El b).length : Nat) : Int) == 0) (decide (lAt a b k = a)) false) true (cond (decide ((((El b).length : Nat) : Int) > 0)) (decide (lAt a b k = b)) false)) false = true
        rw [heb, cond_and, cond_and, cond_or, cond_and, cond_and, hkb]
        rcases Nat.eq_zero_or_pos b.length with h1 | h1
        · have e : lAt a b b.length = a := by rw [lAt, if_pos h1]
          rw [decide_eq_true e, h1]; rfl
        · have e : lAt a b b.length = b := by rw [lAt, if_neg (by omega), List.take_length]
          have e2 : decide (((b.length : Nat) : Int) > 0) = true := decide_eq_true (by omega)
          rw [decide_eq_true e, e2]; simp
end Go.Proofs.YtelbkabgkcogpaaDoor

