/-
  Layer 15: the rows.
-/
import Derived.Test.YtdaigbpaggnijaaRows
import Derived.Test.YtdaigbpaggnijaaOL15
import Derived.ProofKit
set_option linter.unusedVariables false
namespace Go.Proofs.Ytdaigbpaggnijaa
open Go Go.Proofs.Ytdaigbpaggnijaa.Abs Go.ChangeShapes Go.WideShapes Go.ChangeAt Go.RowKit

/-- 'post', where below the heap's old size nothing has turned -/
theorem post_below {H : Type} {enc : TypeId × Value → H} {P : Program} {f : Func} {s : ChangeSpec} {apart fresh handsOn again : Bool} {W W' : World} {args : Array Value} {v : Value} {ds gs : List (DataW H)} {before pa pv : List MemPlace}
    (hW : DataW.Whole enc P f.params.toList s.vars apart W args.toList ds gs before) (hb : Below W.heap.size W W')
    (hres : ∀ (b : Nat) (sp : Nat → Bool) (hd : Bool), DataW.TrodAll enc P W' b sp hd f.resultTypes.toList (v.resultList f.resultTypes.size) (s.fn H (ds ++ gs)).results [])
    (hargs : ∀ sp : Nat → Bool, (∀ p ∈ before, sp p.block = true) → DataW.TrodAll enc P W' 0 sp true f.params.toList args.toList (s.fn H (ds ++ gs)).args pa)
    (hvars : ∀ sp : Nat → Bool, (∀ p ∈ before, sp p.block = true) → DataW.TrodVars enc P W' sp s.vars (s.fn H (ds ++ gs)).vars pv)
    (hps : before = pa ++ pv)
    (hok : ∀ (j : Nat) (t : TypeId) (r : Value), f.resultTypes[j]? = some t → (v.resultList f.resultTypes.size)[j]? = some r → Value.okWide P W' .any 0 t r) :
    s.post enc P f apart fresh handsOn again W args v W' := by
  have hlt : ∀ p ∈ before, p.block < W.heap.size := fun p hp => by simpa using hW.lt p hp
  have hold : ∀ p ∈ before, (fun b => decide (b < W.heap.size)) p.block = true := fun p hp => by simpa using hlt p hp
  refine ⟨ds, gs, before, [], pa, pv, hW, hres _ _ _, hargs _ hold, hvars _ hold, hb.frame _, fun _ => ?_⟩
  obtain ⟨_, _, _, _, _, hz, hn⟩ := hW
  refine ⟨hok, _, _, ([] ++ pa) ++ pv, ⟨[] ++ pa, pv, trodAll_append (hargs _ (fun _ _ => rfl)) (hres _ _ _), hvars _ (fun _ _ => rfl), rfl, ?_, ?_⟩, ?_⟩
  · intro b off hp
    have hp' : MemPlace.cell b off ∈ before := by rw [hps]; simpa using hp
    have hb' := hlt _ hp'
    rw [hb.frozen (p := ⟨b, off, none⟩) hb']
    exact hz b off hp'
  · intro ha
    have := hn ha
    rw [hps] at this
    simpa using this
  · intro p hp _
    rw [hps]
    simpa using hp

/-- the ghost that owns nothing -/
def g00 : G := { own := fun _ => none, ρ := fun _ => none, used := fun _ => False }
theorem foreign00 (w : World) : Foreign w g00 [] := ⟨(fun _ _ _ h => nomatch h), (fun _ _ _ h => nomatch h), fun _ => rfl, fun _ h => h, (fun _ _ h => nomatch h)⟩
theorem below_of {w w' : World} {g' : G} (h : EvX w g00 w' g') : Below w.heap.size w w' := ⟨h.os, h.tape, h.output, h.size, fun k hk => (h.none k hk rfl).1⟩
theorem calls_of {f : Nat} {ds : List V} (h : M f ds (.bool true)) (W : World) (vals : Array Value) (hs : vals.size = ds.length) (ha : ∀ (i : Nat) (x : V) (u : Value), ds[i]? = some x → vals[i]? = some u → RepV W g00 (fun _ => false) x u) :
    Calls Try.prog f vals W fun e w' => e = .returned (.bool true) ∧ Below W.heap.size W w' :=
  (callsIn_wide (n := 0)).1 ((h.2.2 0 W g00 vals (foreign00 W) hs ha).mono fun e w' ⟨val, g', he, hr, hev, _⟩ => ⟨by rw [he, hr.lit_inv], below_of hev⟩)

theorem laidOut : laidOutB Try.prog = true := by kernel_rfl
theorem own : ownKnob Try.prog.godebug = none := by kernel_rfl

set_option maxRecDepth 100000 in
theorem creditAll_lifted (os : Os) (started : os.Started) (H : Type) (enc : TypeId × Value → H) :
    ReturnsInHanded {} Try.checked os 7 .any (Rows.creditAllSpec.pre6 enc Try.prog Try.f7 Rows.creditAllRow.domain false) (Rows.creditAllSpec.post enc Try.prog Try.f7 false true false false) := by
  refine returnsInHanded_of_change (C := Try.checked) own started (by kernel_rfl) Try.func7
    (ChangeSpec.witness6 (enc := enc) (C := Try.checked) false ⟨#[], #[.int .i64 0], []⟩ 8 (by kernel_rfl) (by kernel_rfl) (by kernel_rfl) (by kernel_rfl)) ?_
  intro W base args ds gs before hval0 hW hcnd _
  have hval : ∀ (j : Nat) t v, Try.f7.params[j]? = some t → args[j]? = some v → Value.okWide Try.prog W .any base t v := hval0
  have hW' := hW
  obtain ⟨p, q, hA0, hV, rfl, hfz, hnd⟩ := hW
  have hA : DataW.TrodAll enc Try.prog W 0 (fun _ => true) true Try.f7.params.toList args.toList ds p := hA0
  rw [Try.params7] at hA hval
  obtain ⟨v0, d0, rfl, rfl, h0⟩ := trodAll_one hA
  obtain ⟨rfl, rfl⟩ := trodVars_none hV
  obtain ⟨a, rfl, rfl, rfl, wa⟩ := open_int Try.underlying3 (hval 0 3 v0 rfl rfl) h0
  clear hA0 hval0
  simp only [List.append_nil] at hW'
  have ha : In64 a := by
    simp only [Lit.wf, Bool.and_eq_true, decide_eq_true_eq] at wa
    have e1 : IntKind.i64.min = -9223372036854775808 := rfl
    have e2 : IntKind.i64.max = 9223372036854775807 := rfl
    constructor <;> omega
  refine (calls_of (all_ok a ha) W #[.int .i64 a] rfl (by
    intro i x u hx hu
    match i, hx, hu with
    | 0, hx, hu => simp at hx hu; subst hx; subst hu; exact litRep _ rfl)).mono fun e W' ⟨he, hb⟩ => ?_
  subst he
  exact ⟨_, rfl, post_below (pa := []) (pv := []) hW' hb (fun _ _ _ => trodAll_mk1 (shut_bool Try.underlying4 true)) (fun sp _ => trodAll_mk1 (shut_int Try.underlying3 wa)) (fun _ _ => rfl) rfl
    (ok_one (by kernel_rfl) rfl (okWide_bool_mk Try.underlying4 true))⟩

theorem creditAll_holds : Rows.CreditAllSaid :=
  OpenClaim.holds_of_wide 7 Try.f7 rfl rfl rfl rfl rfl rfl rfl ⟨rfl, rfl, rfl, rfl, rfl⟩ rfl rfl rfl rfl rfl (by kernel_rfl) Try.func7 (by kernel_rfl)
    (of_decide_eq_true (by kernel_rfl)) (by unfold Func.isWrapper; rw [if_neg (by decide +kernel)]; exact ⟨rfl, rfl⟩)
    (fun os started H enc _ => creditAll_lifted os started H enc)
end Go.Proofs.Ytdaigbpaggnijaa
