/-
  Layer 13: queues whose messages are an array without messages; the law TxqFull.
-/
import Derived.Test.YthcbdpghfefnlaaDoorOL13
set_option linter.unusedVariables false
set_option linter.unusedSimpArgs false
set_option maxRecDepth 100000
namespace Go.Proofs.YthcbdpghfefnlaaDoor
open Go Go.Proofs.YthcbdpghfefnlaaDoor.Abs

abbrev cfgF (mu : List (Nat × Nat)) : MeetsT := ⟨MM, [37, 52, 39, 40, 44, 36, 19, 22, 24, 29], [], mu, [54], gtab⟩
theorem mokF (mu : List (Nat × Nat)) : MOk Tryd.prog gl (cfgF mu) := ⟨fun _ _ _ _ _ h => h, ovs, gts⟩
theorem gF19 (mu : List (Nat × Nat)) (tk0 : List Nat) {bi : List (Nat × Box)} {ds : List V} {bo : List (Nat × Box)} {r : V} (hlen : Nat.ble ds.length Tryd.f19.ntmps = true) (hnd : nodupB (toksBx bo ++ V.toks r) = true)
    (hW : Bd ⟨argTm 0 ds, ⟨bi, tk0, 1000000, 0⟩⟩ → Code.W tys (cfgF mu) N 0 [] Tryd.f19.ntmps keep19 (Tryd.f19.body.getD .skip) true [] (retQ tys Tryd.f19.results.toList bo r) ⟨argTm 0 ds, ⟨bi, tk0, 1000000, 0⟩⟩) (ht : toksBx bi ++ V.tokss ds = tk0 := by rfl) : MM 19 bi ds bo r :=
  meetsB_of mix tysOk (mokF _) (fun _ _ _ h => h) Tryd.func19 (by decide) rfl keep19 1000000 tk0 rfl hlen hnd hW ht
theorem gF22 (mu : List (Nat × Nat)) (tk0 : List Nat) {bi : List (Nat × Box)} {ds : List V} {bo : List (Nat × Box)} {r : V} (hlen : Nat.ble ds.length Tryd.f22.ntmps = true) (hnd : nodupB (toksBx bo ++ V.toks r) = true)
    (hW : Bd ⟨argTm 0 ds, ⟨bi, tk0, 1000000, 0⟩⟩ → Code.W tys (cfgF mu) N 0 [] Tryd.f22.ntmps keep22 (Tryd.f22.body.getD .skip) true [] (retQ tys Tryd.f22.results.toList bo r) ⟨argTm 0 ds, ⟨bi, tk0, 1000000, 0⟩⟩) (ht : toksBx bi ++ V.tokss ds = tk0 := by rfl) : MM 22 bi ds bo r :=
  meetsB_of mix tysOk (mokF _) (fun _ _ _ h => h) Tryd.func22 (by decide) rfl keep22 1000000 tk0 rfl hlen hnd hW ht
theorem gF24 (mu : List (Nat × Nat)) (tk0 : List Nat) {bi : List (Nat × Box)} {ds : List V} {bo : List (Nat × Box)} {r : V} (hlen : Nat.ble ds.length Tryd.f24.ntmps = true) (hnd : nodupB (toksBx bo ++ V.toks r) = true)
    (hW : Bd ⟨argTm 0 ds, ⟨bi, tk0, 1000000, 0⟩⟩ → Code.W tys (cfgF mu) N 0 [] Tryd.f24.ntmps keep24 (Tryd.f24.body.getD .skip) true [] (retQ tys Tryd.f24.results.toList bo r) ⟨argTm 0 ds, ⟨bi, tk0, 1000000, 0⟩⟩) (ht : toksBx bi ++ V.tokss ds = tk0 := by rfl) : MM 24 bi ds bo r :=
  meetsB_of mix tysOk (mokF _) (fun _ _ _ h => h) Tryd.func24 (by decide) rfl keep24 1000000 tk0 rfl hlen hnd hW ht
theorem gF29 (mu : List (Nat × Nat)) (tk0 : List Nat) {bi : List (Nat × Box)} {ds : List V} {bo : List (Nat × Box)} {r : V} (hlen : Nat.ble ds.length Tryd.f29.ntmps = true) (hnd : nodupB (toksBx bo ++ V.toks r) = true)
    (hW : Bd ⟨argTm 0 ds, ⟨bi, tk0, 1000000, 0⟩⟩ → Code.W tys (cfgF mu) N 0 [] Tryd.f29.ntmps keep29 (Tryd.f29.body.getD .skip) true [] (retQ tys Tryd.f29.results.toList bo r) ⟨argTm 0 ds, ⟨bi, tk0, 1000000, 0⟩⟩) (ht : toksBx bi ++ V.tokss ds = tk0 := by rfl) : MM 29 bi ds bo r :=
  meetsB_of mix tysOk (mokF _) (fun _ _ _ h => h) Tryd.func29 (by decide) rfl keep29 1000000 tk0 rfl hlen hnd hW ht
theorem gF5 (mu : List (Nat × Nat)) (tk0 : List Nat) {bi : List (Nat × Box)} {ds : List V} {bo : List (Nat × Box)} {r : V} (hlen : Nat.ble ds.length Tryd.f5.ntmps = true) (hnd : nodupB (toksBx bo ++ V.toks r) = true)
    (hW : Bd ⟨argTm 0 ds, ⟨bi, tk0, 1000000, 0⟩⟩ → Code.W tys (cfgF mu) N 0 [] Tryd.f5.ntmps keep5 (Tryd.f5.body.getD .skip) true [] (retQ tys Tryd.f5.results.toList bo r) ⟨argTm 0 ds, ⟨bi, tk0, 1000000, 0⟩⟩) (ht : toksBx bi ++ V.tokss ds = tk0 := by rfl) : MM 5 bi ds bo r :=
  meetsB_of mix tysOk (mokF _) (fun _ _ _ h => h) Tryd.func5 (by decide) rfl keep5 1000000 tk0 rfl hlen hnd hW ht
theorem gF36 (mu : List (Nat × Nat)) (tk0 : List Nat) {bi : List (Nat × Box)} {ds : List V} {bo : List (Nat × Box)} {r : V} (hlen : Nat.ble ds.length Tryd.f36.ntmps = true) (hnd : nodupB (toksBx bo ++ V.toks r) = true)
    (hW : Bd ⟨argTm 0 ds, ⟨bi, tk0, 1000000, 0⟩⟩ → Code.W tys (cfgF mu) N 0 [] Tryd.f36.ntmps keep36 (Tryd.f36.body.getD .skip) true [] (retQ tys Tryd.f36.results.toList bo r) ⟨argTm 0 ds, ⟨bi, tk0, 1000000, 0⟩⟩) (ht : toksBx bi ++ V.tokss ds = tk0 := by rfl) : MM 36 bi ds bo r :=
  meetsB_of mix tysOk (mokF _) (fun _ _ _ h => h) Tryd.func36 (by decide) rfl keep36 1000000 tk0 rfl hlen hnd hW ht

theorem tokss_dl : ∀ cs : List L, V.tokss (cs.map fun x => .d (.l x)) = []
  | [] => rfl
  | _ :: l => tokss_dl l
theorem toks_dl (cs : List L) : V.toks (.agg (cs.map fun x => .d (.l x))) = V.toks (.d (.agg cs)) := tokss_dl cs
theorem agArg {k : FuncId} {bi : List (Nat × Box)} {cs : List L} {ds : List V} {bo : List (Nat × Box)} {r : V} (h : MM k bi (.d (.agg cs) :: ds) bo r) : MM k bi (.agg (cs.map fun x => .d (.l x)) :: ds) bo r := MM_arg1 h (toks_dl cs) fun _ _ _ _ => d_of_agg
theorem agArg2 {k : FuncId} {bi : List (Nat × Box)} {x : V} {cs : List L} {ds : List V} {bo : List (Nat × Box)} {r : V} (h : MM k bi (x :: .d (.agg cs) :: ds) bo r) : MM k bi (x :: .agg (cs.map fun x => .d (.l x)) :: ds) bo r :=
  MM_arg h rfl (by simp only [V.tokss]; rw [toks_dl cs]) fun i y y' hy hy' => by
    match i, hy, hy' with
    | 0, hy, hy' => simp at hy hy'; subst hy; subst hy'; exact fun _ _ _ _ h => h
    | 1, hy, hy' => simp at hy hy'; subst hy; subst hy'; exact fun _ _ _ _ => d_of_agg
    | i + 2, hy, hy' => simp at hy hy'; rw [hy] at hy'; cases hy'; exact fun _ _ _ _ h => h

/-! an array without messages -/
theorem right0 (lim : Int) (f : Bool) : MM 19 [(1000000, .arr 7 [] f)] [.agg [.int lim, .msl 1000000 7 0 0]] [(1000000, .arr 7 [] f)] (.bool (Que.right ⟨lim, []⟩)) := by
  refine gF19 [] [] rfl rfl fun hb => ?_
  refine ⟨_, may_ok lim, ?_⟩
  refine ⟨fun h => ?_, fun h => ?_⟩
  · refine ⟨⟨L.le_of_eq ?_, trivial⟩, ⟨⟨rfl, ⟨[], rfl⟩, fun h => ⟨h, rfl⟩⟩, trivial⟩, rfl, rfl⟩
    have : (mayB lim && decide ((0 : Int) ≤ lim)) = false := by
      revert h; cases mayB lim <;> simp
    rw [Que.right]
    show L.lit (.bool false) = L.lit (.bool ((mayB lim && decide ((0 : Int) ≤ lim)) && _))
    rw [this]; rfl
  have h0 : (mayB lim && decide ((0 : Int) ≤ lim)) = true := by
    revert h; cases mayB lim <;> simp
  refine ⟨Unit, fun _ => ⟨[(1, .ref 999999 0), (3, .mp 999998), (20, .msl 1000000 7 0 0), (21, .int 0), (22, .int 0)], ⟨[(999999, .cells [.int lim, .msl 1000000 7 0 0]), (999998, .mpi []), (1000000, .arr 7 [] f)], [], 900000, 0⟩⟩, fun _ => True, fun _ => 0, (), trivial, ?_, ?_⟩
  · exact ⟨⟨⟨rfl, rfl⟩, rfl, ⟨rfl, rfl, rfl, rfl⟩, L.le_refl _, L.le_refl _, trivial⟩, ⟨⟨L.le_refl _, ⟨rfl, rfl, rfl, rfl⟩, trivial⟩, rfl, ⟨rfl, ⟨[], rfl⟩, fun h => ⟨h, rfl⟩⟩, trivial⟩, rfl, rfl⟩
  · intro _ _ _
    refine ⟨fun hc => absurd hc (by simp), fun _ => ?_⟩
    refine ⟨⟨L.le_of_eq ?_, trivial⟩, ⟨⟨rfl, ⟨[], rfl⟩, fun h => ⟨h, rfl⟩⟩, trivial⟩, rfl, rfl⟩
    rw [Que.right]
    show L.lit (.bool true) = L.lit (.bool ((mayB lim && decide ((0 : Int) ≤ lim)) && true))
    rw [h0]; rfl
/-- own leaves it as it is -/
theorem own0 (lim : Int) (f : Bool) : MM 36 [(1000000, .arr 7 [] f)] [.agg [.int lim, .msl 1000000 7 0 0]] [(1000000, .arr 7 [] f)] (.agg [.int lim, .msl 1000000 7 0 0]) := by
  refine gF36 [] [] rfl rfl fun hb => ?_
  refine ⟨fun h => absurd h (by simp), fun h => ?_⟩
  exact ⟨⟨⟨L.le_refl _, ⟨rfl, rfl, rfl, rfl⟩, trivial⟩, trivial⟩, ⟨⟨rfl, ⟨[], rfl⟩, fun h => ⟨h, rfl⟩⟩, trivial⟩, rfl, rfl⟩
/-- put into it -/
theorem put0 (lim : Int) (m : Msg) (hr : Que.right ⟨lim, []⟩ = true) (hm : m.right = true) : MM 22 [(1000000, .arr 7 [] false)] [.agg [.int lim, .msl 1000000 7 0 0], m.V] [] (.tup [Que.V ⟨lim, [m]⟩, .int 0]) := by
  have hl : ¬ (0 : Int) = lim := by
    intro e
    rw [← e, show Que.right ⟨0, []⟩ = false by rfl] at hr
    cases hr
  refine gF22 [] [] rfl rfl fun hb => ?_
  refine ⟨_, _, right0 lim false, ?_⟩
  refine ⟨fun h => absurd h (by simp [hr]), fun h => ?_⟩
  refine ⟨_, right_ok m, ?_⟩
  refine ⟨fun h => absurd h (by simp [hm]), fun h => ?_⟩
  refine ⟨_, of_ok m.number, ?_⟩
  refine ⟨_, _, findAOf_ok [] (by simp) false m.number, ?_⟩
  refine ⟨rfl, ?_⟩
  refine ⟨fun h3 => absurd h3 (by simp [findN]), fun h3 => ?_⟩
  refine ⟨fun h4 => absurd h4 (by simpa using hl), fun h4 => ?_⟩
  refine ⟨_, _, own0 lim false, ?_⟩
  refine ⟨_, _, findALess_ok [] (by simp) false m, ?_⟩
  refine ⟨fun h5 => ?_, fun h5 => absurd h5 (by simp [findN])⟩
  refine ⟨_, _, insert_ok [] [m.L] 0 (Nat.le_refl _) (by show 0 ≤ _; omega) (by show 1 ≤ _; omega) (by simp), ?_⟩
  exact ⟨⟨⟨finQ ⟨lim, [m]⟩ ⟨rfl, _, rfl⟩, L.le_refl _, trivial⟩, trivial⟩, trivial, rfl, rfl⟩
/-- one message taken: the array stays, without messages -/
theorem taken1 (lim : Int) (m : Msg) (n : Int) (hr : Que.right ⟨lim, [m]⟩ = true) (hn : m.number = n) : MM 29 [] [Que.V ⟨lim, [m]⟩, .fn (.func 53) [] [.ep [L.int n] 0]] [(999996, .arr 7 [] false)] (.tup [.agg [.int lim, .msl 999996 7 0 0], m.V, .int 0]) := by
  have hf : findN (fun m => m.number == n) [m] = 0 := by simp [findN, List.findIdx?_cons, hn]
  refine gF29 [] [] rfl rfl fun hb => ?_
  refine ⟨_, _, agArg (qright_ok ⟨lim, [m]⟩ (by simp)), ?_⟩
  refine ⟨_, _, own_cons ⟨lim, [m]⟩ (by simp) (by simp), ?_⟩
  refine ⟨fun h => absurd h (by simp [hr]), fun h => ?_⟩
  refine ⟨_, _, findAOf_ok [m] (by simp) true n, ?_⟩
  refine ⟨fun h2 => absurd h2 (by rw [hf]; simp), fun h2 => ?_⟩
  refine ⟨0, ⟨hf, by simp⟩, m.L, rfl, ?_⟩
  refine ⟨_, _, by rw [hf]; exact delete_ok [m] (by simp) 0 (by simp), ?_⟩
  refine ⟨rfl, ?_⟩
  exact ⟨⟨⟨⟨L.le_refl _, ⟨rfl, rfl, rfl, rfl⟩, trivial⟩, m7 m, L.le_refl _, trivial⟩, trivial⟩, ⟨⟨rfl, ⟨[], rfl⟩, nofun⟩, trivial⟩, rfl, rfl⟩
theorem abort1 (lim : Int) (m : Msg) (n : Int) (hr : Que.right ⟨lim, [m]⟩ = true) (hn : m.number = n) : MM 24 [] [Que.N ⟨lim, [m]⟩, .int n] [(999804, .arr 7 [] false)] (.tup [.agg [.int lim, .msl 999804 7 0 0], m.V, .int 0]) := by
  refine gF24 [] [] rfl rfl fun hb => ?_
  refine ⟨_, of_ok n, ?_⟩
  refine ⟨_, _, agArg (toN (taken1 lim m n hr hn)), ?_⟩
  refine ⟨rfl, ?_⟩
  exact ⟨⟨⟨⟨L.le_refl _, ⟨rfl, rfl, rfl, rfl⟩, trivial⟩, m7 m, L.le_refl _, trivial⟩, trivial⟩, ⟨⟨rfl, ⟨[], rfl⟩, nofun⟩, trivial⟩, rfl, rfl⟩
end Go.Proofs.YthcbdpghfefnlaaDoor
