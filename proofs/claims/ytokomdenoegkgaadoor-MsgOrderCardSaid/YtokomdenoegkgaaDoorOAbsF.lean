/-
  The computed precondition of code, and what it means: contracts.
-/
import Derived.Test.YtokomdenoegkgaaDoorOAbsL
import Derived.RangeFuncLeaves
import Derived.Deep.LoopGhost
set_option linter.unusedVariables false
set_option linter.unusedSimpArgs false
namespace Go.Proofs.YtokomdenoegkgaaDoor.Abs
open Go

def okPs (nt : Nat) (fz : List Nat) : List Nat → Bool
  | [] => true
  | p :: ps => match isIn ps p, isIn fz p, Nat.ble (p + 1) nt with
    | false, false, true => okPs nt fz ps
    | _, _, _ => false
/-! lengths are bounded -/
mutual
def Lb : L → Prop
  | .lit _ => True
  | .sl _ l => l.length ≤ 9223372036854775807 ∧ Lbss l
def Lbss : List (List L) → Prop
  | [] => True
  | x :: l => Lbs x ∧ Lbss l
def Lbs : List L → Prop
  | [] => True
  | x :: l => Lb x ∧ Lbs l
end
def Vb : V → Prop
  | .d (.l x) => Lb x
  | .d (.agg cs) => Lbs cs
  | .own _ s l => Lb (.sl s l)
  | _ => True
def Vbs : List V → Prop
  | [] => True
  | x :: l => Vb x ∧ Vbs l
def Bx.b : Box → Prop
  | .cells l => Vbs l
  | .arr _ l _ => l.length ≤ 9223372036854775807
  | .mpi _ => True
  | .loc _ _ => True
  | .gone => True
/-- every slice in sight is as long as a slice can be at most -/
def Bd (s : ASt) : Prop := (∀ t v, look s.tm t = some v → Vb v) ∧ ∀ id b, look s.h.bx id = some b → Bx.b b

/-- iterators' contracts: here a name -/
abbrev ItT : Type := FuncId → List V → List (List D) → Prop

section
variable (T : List (Nat × TI)) (M : MeetsT)

section
variable (N : ItT) (yl : Nat) (ys : List (List D))
def Code.W (nt : Nat) (keep : List Nat) : Code → Bool → List Nat → (Exit → ASt → Prop) → ASt → Prop
  | .skip, _, _, Q, s => Q .normal s
  | .label _, _, _, Q, s => Q .normal s
  | .exit id, _, _, Q, s => Q (.exit id) s
  | .ret, _, _, Q, s => Q .ret s
  | .seq a b, top, fz, Q, s => Code.W nt keep a top fz (fun e s' => match e with | .normal => Code.W nt keep b top fz Q s' | e => Q e s') s
  | .cond c a b, top, fz, Q, s => match s with
    | ⟨tm, h⟩ => match evalG tm [] none c with
      | .d (.l (.lit (.bool t))) => (t = true → Code.W nt keep a top fz Q ⟨tm, h⟩) ∧ (t = false → Code.W nt keep b top fz Q ⟨tm, h⟩)
      | .bq p q => (p → Code.W nt keep a top fz Q ⟨tm, h⟩) ∧ (q → Code.W nt keep b top fz Q ⟨tm, h⟩)
      | _ => False
  | .block id c, top, fz, Q, s => Code.W nt keep c top fz (fun e s' => match e with
      | .exit j => match Nat.beq j id with | true => Q .normal s' | false => Q (.exit j) s'
      | e => Q e s') s
  | .region _ ops dr, _, fz, Q, s => match s, dr with
    | ⟨tm, h⟩, false => Wops T M fz yl ys nt ops.toList keep ops.toList tm [] h fun s' => Q .normal s'
    | ⟨tm, h⟩, true => Dops T M fz nt ops.toList keep ops.toList 0 tm [] h [] fun s' => Q .normal s'
  | .loop c, top, fz, Q, s => ∃ (α : Type) (I : α → ASt) (C : α → Prop) (μ : α → Nat) (x0 : α), C x0 ∧ ASt.le s (I x0) ∧
      ∀ x, C x → Bd (I x) → Code.W nt keep c top fz (fun e s' => match e with
        | .normal => ∃ y, C y ∧ μ y < μ x ∧ ASt.le s' (I y)
        | e => Q e s') (I x)
  | .rangeFunc gop ps as body, top, fz, Q, s => match s, top with
    | ⟨tm, h⟩, true => match evalG tm [] none gop with
      | .fn (.func f) [] caps => match V.toAs caps with
        | some caps => ∃ (zs : List (List D)) (tmI : Tm) (Hs : Nat → H), N f caps zs ∧ (∀ ds ∈ zs, ds.length = ps.size) ∧ okPs nt (keysOf tmI ++ fz) ps.toList = true ∧ ASt.le ⟨tm, h⟩ ⟨tmI, Hs 0⟩ ∧
            (∀ i ds, zs[i]? = some ds → ∃ S : ASt, ASt.le ⟨parTm ps.toList ds ++ tmI, Hs i⟩ S ∧ (Bd S → Code.W nt keep as false (keysOf tmI ++ fz) (fun e s1 => match e with
              | .normal => Code.W nt keep body false (keysOf tmI ++ fz) (RQ tmI Hs (keysOf tmI ++ fz) Q i) s1
              | _ => False) S)) ∧ Q .normal ⟨tmI, Hs zs.length⟩
        | none => False
      | _ => False
    | _, false => False
  | _, _, _, _, _ => False
end

/-- the values of the result variables -/
def resVs (h : H) (tm : Tm) : List ResultVar → (List V → Prop) → Prop
  | [], K => K []
  | .tmp t :: l, K => (evalG tm [] none (.tmp t)).force fun v => resVs h tm l fun vs => K (v :: vs)
  | .cell a ty :: l, K => Wload T h.bx ty (evalG tm [] none (.tmp a)) fun v => resVs h tm l fun vs => K (v :: vs)
def single (K : V → Prop) : List V → Prop
  | [v] => K v
  | vs => K (.tup vs)

/-- what is owed where a function returns -/
def retQ (rs : List ResultVar) (bo : List (Nat × Box)) (r : V) (e : Exit) (s : ASt) : Prop :=
  match e with
  | .ret => match s with | ⟨tm, h⟩ => resVs T h tm rs (single fun v => ASt.le ⟨[(0, v)], h⟩ ⟨[(0, r)], ⟨bo, toksBx bo ++ V.toks r, 0, 0⟩⟩)
  | .normal => match s with | ⟨tm, h⟩ => resVs T h tm rs (single fun v => ASt.le ⟨[(0, v)], h⟩ ⟨[(0, r)], ⟨bo, toksBx bo ++ V.toks r, 0, 0⟩⟩)
  | _ => False

def argTm : Nat → List V → Tm
  | _, [] => []
  | i, x :: l => (i, x) :: argTm (i + 1) l
end

variable {P : Program} {T : List (Nat × TI)} {E : Env} {w : World} {g : G} {M : MeetsT}

def CPost (E : Env) (nt : Nat) (Q : Exit → ASt → Prop) (w : World) (g : G) (e : Exit) (a' : Act) (w' : World) : Prop :=
  ∃ s' g', Q e s' ∧ Rep E nt s' a' w' g' ∧ E.Ev w g w' g'

theorem okPs_spec {nt : Nat} {fz : List Nat} : ∀ {ps : List Nat}, okPs nt fz ps = true → ps.Nodup ∧ ∀ p ∈ ps, p < nt ∧ isIn fz p = false
  | [], _ => ⟨.nil, by simp⟩
  | p :: ps, h => by
    simp only [okPs] at h
    split at h
    · rename_i h1 h2 h3
      obtain ⟨k1, k2⟩ := okPs_spec h
      refine ⟨List.nodup_cons.2 ⟨fun hm => ?_, k1⟩, fun q hq => ?_⟩
      · rw [isIn_of_mem hm] at h1; cases h1
      · rcases List.mem_cons.1 hq with rfl | hq
        · exact ⟨by have := Nat.le_of_ble_eq_true h3; omega, h2⟩
        · exact k2 q hq
    · simp at h

theorem Lbss_of : ∀ {l : List (List L)}, (∀ x ∈ l, ∀ y ∈ x, Lb y) → Lbss l
  | [], _ => trivial
  | x :: l, h => by
    refine ⟨?_, Lbss_of fun y hy => h y (by simp [hy])⟩
    have := h x (by simp)
    clear h
    induction x with
    | nil => trivial
    | cons a x ih => exact ⟨this a (by simp), ih fun y hy => this y (by simp [hy])⟩
theorem RepL.b {x : L} {v : Value} (h : RepL w g x v) : Lb x := by
  induction h with
  | lit => trivial
  | sl s l a cap b off f ha hn hl hb hs hc hr ih =>
    refine ⟨hb, Lbss_of fun x hx y hy => ?_⟩
    have : y ∈ l.flatten := List.mem_flatten.2 ⟨x, hx, hy⟩
    obtain ⟨j, hj, rfl⟩ := List.getElem_of_mem this
    exact ih j _ (List.getElem?_eq_getElem hj)
theorem RepV.b {tk : Nat → Bool} {x : V} {v : Value} (h : RepV w g tk x v) : Vb x := by
  cases h with
  | d x v h =>
    cases x with
    | l x => exact RepL.b h
    | agg cs =>
      obtain ⟨vs, rfl, hs, hr⟩ := h
      have : ∀ c ∈ cs, Lb c := by
        intro c hc
        obtain ⟨i, hi, rfl⟩ := List.getElem_of_mem hc
        have hi' : i < vs.size := by omega
        exact (hr i _ _ (List.getElem?_eq_getElem hi) (Array.getElem?_eq_getElem hi')).b
      show Lbs cs
      clear hs hr
      induction cs with
      | nil => trivial
      | cons a l ih => exact ⟨this a (by simp), ih fun c hc => this c (by simp [hc])⟩
  | own k s l v h => exact RepL.b h
  | _ => trivial
theorem Rep.b {nt : Nat} {s : ASt} {a : Act} (hr : Rep E nt s a w g) : Bd s := by
  refine ⟨fun t v ht => ?_, fun id b hb => ?_⟩
  · obtain ⟨u, _, h⟩ := hr.tm t v ht
    exact h.b
  · cases b with
    | arr s l f =>
      obtain ⟨b, c, e, q1, q2, q3, q4, q5⟩ := hr.h.bx id _ hb
      exact q4.1
    | mpi => trivial
    | loc => trivial
    | gone => trivial
    | cells l =>
      obtain ⟨b, c, e, q1, q2, q3, q4, q5⟩ := hr.h.bx id _ hb
      have : ∀ x ∈ l, Vb x := by
        intro x hx
        obtain ⟨i, hi, rfl⟩ := List.getElem_of_mem hx
        have hi' : i < c.size := by omega
        exact (q5 i _ _ (List.getElem?_eq_getElem hi) (Array.getElem?_eq_getElem hi')).b
      show Vbs l
      clear hb q4 q5
      induction l with
      | nil => trivial
      | cons a l ih => exact ⟨this a (by simp), ih fun c hc => this c (by simp [hc])⟩

theorem EvX.drawn (w : World) (g : G) (d : Nat) : EvX w g { w with drawn := d } g :=
  ⟨rfl, rfl, rfl, Nat.le_refl _, fun _ _ _ h => h, fun _ _ h => h, fun _ _ _ h => h, fun _ _ h => ⟨rfl, h⟩, fun _ _ _ h _ => ⟨rfl, h⟩, fun _ _ _ h _ => h⟩
theorem Rep.drawn {nt : Nat} {st : Nat} {σ : Sg} {a : Act} (hr : RepS E nt st σ a w g) (d : Nat) : RepS E nt st σ a { w with drawn := d } g := by
  have hp : Pres w g σ.tk { w with drawn := d } g σ.tk := ⟨fun _ _ _ h => h, fun _ _ h => h, fun _ _ h => h, fun _ h => h, fun _ _ h => ⟨h, fun _ _ _ => ⟨rfl, rfl⟩⟩⟩
  refine ⟨hr.size, hr.defers.ev (EvX.drawn w g d), hr.frz, hr.tm.pres hp, hr.gs.pres hp, ⟨?_, hr.h.ids, hr.h.toks, hr.h.tkown, hr.h.bxown, hr.h.size, hr.h.gl, E.stable _ _ _ _ _ hr.h.J (EvX.drawn w g d).w⟩⟩
  intro id B hB
  refine RepBox.keep hp (hr.h.bx id _ hB) fun b0 k1 k2 => ?_
  exact ⟨rfl, k2⟩

theorem evalR {nt : Nat} {tm : Tm} {h : H} {a : Act} (hr : Rep E nt ⟨tm, h⟩ a w g) (x : Operand) : RepV w g (isIn h.tk) (evalG tm [] none x) (a.eval x) :=
  evalG_ok (touch := tmpsOf [x]) (σ := sgOf tm [] h) ⟨fun _ _ => rfl, fun _ _ _ _ _ _ h => h⟩ hr.tm hr.gs (by simp) x fun t e => tmpsOf_mem (l := [x]) (by simp) e

theorem W_ok {N : ItT} (hmix : P.follows .mixedOrders = true) (hT : TysOk P T) {gl : List (Nat × Array Value)} (hM : MOk P gl M) (hN : ∀ f caps zs, N f caps zs → Iter P gl f caps zs) {nt : Nat} {keep : List Nat} :
    ∀ (c : Code) (top : Bool) (E : Env) (_ : E.gl = gl) (_ : YOk P E) (F : Fence) (_ : FenceOk F) (_ : top = true → F = Fence.wide ∧ (∀ i w g, E.J i w g) ∧ E.ys = []) (Q : Exit → ASt → Prop) (s : ASt), Code.W T M N E.yl E.ys nt keep c top E.fz Q s →
      ∀ (n : Nat) (a : Act) (w : World) (g : G), Rep E nt s a w g → c.wpIn F n P (CPost E nt Q w g) a w
  | .skip, top, E, hgl, hY, F, hF, htop, Q, s, hW, n, a, w, g, hr => wpIn_skip ⟨s, g, hW, hr, E.refl w g⟩
  | .label _, top, E, hgl, hY, F, hF, htop, Q, s, hW, n, a, w, g, hr => wpIn_label ⟨s, g, hW, hr, E.refl w g⟩
  | .exit id, top, E, hgl, hY, F, hF, htop, Q, s, hW, n, a, w, g, hr => wpIn_exit ⟨s, g, hW, hr, E.refl w g⟩
  | .ret, top, E, hgl, hY, F, hF, htop, Q, s, hW, n, a, w, g, hr => wpIn_ret ⟨s, g, hW, hr, E.refl w g⟩
  | .seq x y, top, E, hgl, hY, F, hF, htop, Q, s, hW, n, a, w, g, hr => by
    refine wpIn_seq (wpIn_mono (W_ok hmix hT hM hN x top E hgl hY F hF htop _ s hW n a w g hr) ?_)
    rintro e a' w' ⟨s', g', hq, hr', hev⟩
    cases e with
    | normal =>
      refine wpIn_mono (W_ok hmix hT hM hN y top E hgl hY F hF htop Q s' hq n a' w' g' hr') ?_
      rintro e a2 w2 ⟨s2, g2, hq2, hr2, hev2⟩
      exact ⟨s2, g2, hq2, hr2, E.trans hev hev2⟩
    | exit id => exact ⟨s', g', hq, hr', hev⟩
    | goto l => exact ⟨s', g', hq, hr', hev⟩
    | ret => exact ⟨s', g', hq, hr', hev⟩
    | panic ch => exact ⟨s', g', hq, hr', hev⟩
    | outgrown => exact ⟨s', g', hq, hr', hev⟩
  | .cond c x y, top, E, hgl, hY, F, hF, htop, Q, s, hW, n, a, w, g, hr => by
    obtain ⟨tm, h⟩ := s
    simp only [Code.W] at hW
    split at hW
    · rename_i t ht
      have hc := evalR hr c
      rw [ht] at hc
      have hc' := hc.lit_inv
      cases t with
      | true => exact wpIn_cond_true hc' (W_ok hmix hT hM hN x top E hgl hY F hF htop Q _ (hW.1 rfl) n a w g hr)
      | false => exact wpIn_cond_false hc' (W_ok hmix hT hM hN y top E hgl hY F hF htop Q _ (hW.2 rfl) n a w g hr)
    · rename_i p q ht
      have hc := evalR hr c
      rw [ht] at hc
      obtain ⟨b, hb, h1, h2⟩ : ∃ b, a.eval c = .bool b ∧ (b = true → p) ∧ (b = false → q) := by
        generalize a.eval c = z at hc
        cases hc with | bq p q b h1 h2 => exact ⟨b, rfl, h1, h2⟩
      cases b with
      | true => exact wpIn_cond_true hb (W_ok hmix hT hM hN x top E hgl hY F hF htop Q _ (hW.1 (h1 rfl)) n a w g hr)
      | false => exact wpIn_cond_false hb (W_ok hmix hT hM hN y top E hgl hY F hF htop Q _ (hW.2 (h2 rfl)) n a w g hr)
    · exact hW.elim
  | .block id x, top, E, hgl, hY, F, hF, htop, Q, s, hW, n, a, w, g, hr => by
    refine wpIn_block (wpIn_mono (W_ok hmix hT hM hN x top E hgl hY F hF htop _ s hW n a w g hr) ?_)
    rintro e a' w' ⟨s', g', hq, hr', hev⟩
    cases e with
    | exit j =>
      simp only [Exit.inBlock]
      by_cases e : j = id
      · subst e; rw [if_pos rfl]; simp at hq; exact ⟨s', g', hq, hr', hev⟩
      · rw [if_neg e]
        have := beq_ne e
        simp only [this] at hq
        exact ⟨s', g', hq, hr', hev⟩
    | normal => exact ⟨s', g', hq, hr', hev⟩
    | goto l => exact ⟨s', g', hq, hr', hev⟩
    | ret => exact ⟨s', g', hq, hr', hev⟩
    | panic ch => exact ⟨s', g', hq, hr', hev⟩
    | outgrown => exact ⟨s', g', hq, hr', hev⟩
  | .region id ops dr, top, E, hgl, hY, F, hF, htop, Q, s, hW, n, a, w, g, hr => by
    obtain ⟨tm, h⟩ := s
    cases dr with
    | false =>
      simp only [Code.W] at hW
      refine wpIn_region ?_
      have := Wops_ok (Q := CPost E nt Q w g) (n := n) hT (by rw [hgl]; exact hM) hY hF ops.toList 0 (by simp) tm [] h a w g hr hW (fun s' a' w' g' k1 k2 k3 => ⟨s', g', k1, k2, k3⟩)
      rw [List.range_eq_range']
      simpa using this
    | true =>
      simp only [Code.W] at hW
      refine wpIn_region_any hmix ?_
      exact Dops_ok (Q := CPost E nt Q w g) (n := n) hT (by rw [hgl]; exact hM) hF tm h a _ g (Rep.drawn hr _) hW (fun s' a' w' g' k1 k2 k3 => ⟨s', g', k1, k2, E.trans (E.ofX (EvX.drawn w g _)) k3⟩)
  | .loop c, top, E, hgl, hY, F, hF, htop, Q, s, hW, n, a, w, g, hr => by
    obtain ⟨α, I, C, μ, x0, hC, hle, hround⟩ := hW
    obtain ⟨g1, hr1, hev1⟩ := hr.le hle
    refine wpIn_loop (fun a' w' => ∃ k x g', C x ∧ μ x = k ∧ Rep E nt (I x) a' w' g' ∧ E.Ev w g w' g') (fun a' w' => leastOf fun k => ∃ x g', C x ∧ μ x = k ∧ Rep E nt (I x) a' w' g' ∧ E.Ev w g w' g') ⟨_, x0, g1, hC, rfl, hr1, E.ofX hev1⟩ ?_
    intro a' w' hI
    obtain ⟨⟨x, g', hCx, hμ, hrx, hev⟩, _⟩ := leastOf_spec (p := fun k => ∃ x g', C x ∧ μ x = k ∧ Rep E nt (I x) a' w' g' ∧ E.Ev w g w' g') hI
    refine wpIn_mono (W_ok hmix hT hM hN c top E hgl hY F hF htop _ (I x) (hround x hCx hrx.b) n a' w' g' hrx) ?_
    rintro e a2 w2 ⟨s2, g2, hq2, hr2, hev2⟩
    cases e with
    | normal =>
      obtain ⟨y, hCy, hlt, hley⟩ := hq2
      obtain ⟨g3, hr3, hev3⟩ := hr2.le hley
      have hin : ∃ x g', C x ∧ μ x = μ y ∧ Rep E nt (I x) a2 w2 g' ∧ E.Ev w g w2 g' := ⟨y, g3, hCy, rfl, hr3, E.trans (E.trans hev hev2) (E.ofX hev3)⟩
      refine ⟨⟨μ y, hin⟩, Nat.lt_of_le_of_lt ((leastOf_spec ⟨μ y, hin⟩).2 (μ y) hin) ?_⟩
      rw [← hμ]; exact hlt
    | exit id => exact ⟨s2, g2, hq2, hr2, E.trans hev hev2⟩
    | goto l => exact ⟨s2, g2, hq2, hr2, E.trans hev hev2⟩
    | ret => exact ⟨s2, g2, hq2, hr2, E.trans hev hev2⟩
    | panic ch => exact ⟨s2, g2, hq2, hr2, E.trans hev hev2⟩
    | outgrown => exact ⟨s2, g2, hq2, hr2, E.trans hev hev2⟩
  | .rangeFunc gop ps as body, top, E, hgl, hY, F, hF, htop, Q, s, hW, n, a, w, g, hr => by
    obtain ⟨tm, h⟩ := s
    cases top with
    | false => simp [Code.W] at hW
    | true =>
      obtain ⟨rfl, hJ, hys⟩ := htop rfl
      simp only [Code.W] at hW
      split at hW
      · rename_i f capsO hfn
        split at hW
        · rename_i caps hcaps
          obtain ⟨zs, tmI, Hs, hNf, hlen, hps, hle, hround, hQ⟩ := hW
          have hfv := evalR hr gop
          rw [hfn] at hfv
          obtain ⟨cv, hgop, hcv, hcr⟩ : ∃ cv : Array Value, a.eval gop = .func (.func f) #[] cv ∧ cv.size = capsO.length ∧ ∀ (i : Nat) (x : V) (u : Value), capsO[i]? = some x → cv[i]? = some u → RepV w g (isIn h.tk) x u := by
            generalize a.eval gop = z at hfv
            cases hfv with
            | fn _ _ _ vs1 vs2 h1 h2 _ hr2 =>
              have e1 : vs1 = #[] := Array.eq_empty_of_size_eq_zero h1
              subst e1
              exact ⟨vs2, rfl, h2, hr2⟩
          obtain ⟨g1, hr1, hev1⟩ := hr.le hle
          obtain ⟨k1, k2⟩ := okPs_spec hps
          have hl0 := (toAs_rep (w := w) (g := g) (w' := w) (gc := g) (tk := isIn h.tk) (fun _ _ _ h => h) capsO caps hcaps).1
          refine wpIn_mono (range_ok (E := E) (nt := nt) (n := n) (tmI := tmI) (Hs := Hs) (Q := Q) (g := g1) hJ (by rw [hgl]; exact hN _ _ _ hNf) hgop (by omega) ?_ hr1 hlen k1 k2 ?_ hQ) ?_
          · intro w' gc hc i x u hx hu
            obtain ⟨_, q2⟩ := toAs_rep (w := w) (g := g) (w' := w') (gc := gc) (tk := isIn h.tk) (fun b o v hcst => hc b o v (hev1.cst b o v hcst)) capsO caps hcaps
            have hlt : i < capsO.length := by have := (List.getElem?_eq_some_iff.1 hx).1; omega
            exact q2 i capsO[i] x u (List.getElem?_eq_getElem hlt) hx (hcr i _ u (List.getElem?_eq_getElem hlt) hu)
          · intro a0 i ds l n a w g hz hrep
            have hY' : YOk P (E.round (keysOf tmI ++ E.fz) a0) := by
              intro i ds n w g vals _ hh
              have : E.ys[i]? = some ds := hh
              rw [hys] at this; simp at this
            obtain ⟨S, hleS, hWr0⟩ := hround i ds hz
            obtain ⟨gS, hrepS, hevS⟩ := hrep.le hleS
            have hWr := hWr0 hrepS.b
            refine wpIn_mono (W_ok hmix hT hM hN as false (E.round (keysOf tmI ++ E.fz) a0) hgl hY' (Fence.wide.inRound l) (.inr ⟨l, rfl⟩) (by simp) _ _ hWr n a w gS hrepS) ?_
            rintro e a1 w1 ⟨s1, g1, hq1, hr1, hev1'⟩
            have hev1 := hevS.trans hev1'
            cases e with
            | normal =>
              refine ⟨rfl, s1, g1, hr1, hev1, fun w1' hr1' => ?_⟩
              refine wpIn_mono (W_ok hmix hT hM hN body false (E.round (keysOf tmI ++ E.fz) a0) hgl hY' (Fence.wide.inRound l) (.inr ⟨l, rfl⟩) (by simp) _ _ hq1 n a1 w1' g1 hr1') ?_
              rintro e a2 w2 ⟨s2, g2, hq2, hr2, hev2⟩
              exact ⟨s2, g2, hq2, hr2, hev2⟩
            | _ => exact hq1.elim
          · rintro e a' w' ⟨s', g', hq, hr', hev'⟩
            exact ⟨s', g', hq, hr', E.trans (E.ofX hev1) (E.ofX hev')⟩
        · exact hW.elim
      · exact hW.elim
  | .scope _, top, E, hgl, hY, F, hF, htop, Q, s, hW, n, a, w, g, hr => by simp [Code.W] at hW
  | .goto _, top, E, hgl, hY, F, hF, htop, Q, s, hW, n, a, w, g, hr => by simp [Code.W] at hW
  | .refuse _, top, E, hgl, hY, F, hF, htop, Q, s, hW, n, a, w, g, hr => by simp [Code.W] at hW

theorem resVs_ok (hT : TysOk P T) {nt : Nat} {tm : Tm} {h : H} {a : Act} (hr : Rep E nt ⟨tm, h⟩ a w g) : ∀ (rs : List ResultVar) (K : List V → Prop), resVs T h tm rs K →
    ∃ (vs : List V) (us : List Value), K vs ∧ us.length = vs.length ∧ vs.length = rs.length ∧ (∀ (i : Nat) (x : V) (u : Value), vs[i]? = some x → us[i]? = some u → RepV w g (isIn h.tk) x u) ∧
      (∀ (i : Nat) (x : ResultVar) (u : Value), rs[i]? = some x → us[i]? = some u → (match x with | .tmp t => (pure (a.tmps.getD t undef) : Sem Value) | .cell p ty => (do loadVar ty (← asAddr (a.tmps.getD p undef)) : Sem Value)).run P w = .ok u w)
  | [], K, hK => ⟨[], [], hK, rfl, rfl, by simp, by simp⟩
  | .tmp t :: l, K, hK => by
    simp only [resVs, force_eq] at hK
    obtain ⟨vs, us, h1, h2, h3, h4, h5⟩ := resVs_ok hT hr l _ hK
    have hv := evalR hr (.tmp t)
    refine ⟨_, a.eval (.tmp t) :: us, h1, by simp [h2], by simp [h3], ?_, ?_⟩
    · intro i x u hx hu
      cases i with
      | zero => simp at hx hu; subst hx; subst hu; exact hv
      | succ i => simp at hx hu; exact h4 i x u hx hu
    · intro i x u hx hu
      cases i with
      | zero => simp at hx hu; subst hx; subst hu; rfl
      | succ i => simp at hx hu; exact h5 i x u hx hu
  | .cell p ty :: l, K, hK => by
    simp only [resVs] at hK
    have hv := evalR hr (.tmp p)
    obtain ⟨val, hrun, v, hK', hrep⟩ := Wload_same hT hr.h (fun _ _ _ => rfl) hv hK
    obtain ⟨vs, us, h1, h2, h3, h4, h5⟩ := resVs_ok hT hr l _ hK'
    refine ⟨_, val :: us, h1, by simp [h2], by simp [h3], ?_, ?_⟩
    · intro i x u hx hu
      cases i with
      | zero => simp at hx hu; subst hx; subst hu; exact hrep
      | succ i => simp at hx hu; exact h4 i x u hx hu
    · intro i x u hx hu
      cases i with
      | zero =>
        simp at hx hu; subst hx; subst hu
        have ptr : ∃ ad, a.eval (.tmp p) = .pointer (some ad) := by
          generalize hz : a.eval (.tmp p) = z at hv hrun
          cases z with
          | pointer o => cases o with
            | some ad => exact ⟨ad, rfl⟩
            | none => simp [Instr.loadAt, Instr.sureAddr] at hrun
          | _ => simp [Instr.loadAt, Instr.sureAddr] at hrun
        obtain ⟨ad, had⟩ := ptr
        rw [had] at hrun
        have had' : a.tmps.getD p undef = .pointer (some ad) := had
        simp only [had', asAddr, Sem.run_bind, Sem.run_pure, Result.andThen_ok]
        simpa [Instr.loadAt, Instr.sureAddr] using hrun
      | succ i => simp at hx hu; exact h5 i x u hx hu

theorem run_mapM (f : ResultVar → Sem Value) : ∀ (rs : List ResultVar) (us : List Value), us.length = rs.length → (∀ (i : Nat) (x : ResultVar) (u : Value), rs[i]? = some x → us[i]? = some u → (f x).run P w = .ok u w) → (rs.mapM f).run P w = .ok us w
  | [], us, h, _ => by
    have : us = [] := List.eq_nil_of_length_eq_zero (by simpa using h)
    subst this; rfl
  | x :: l, [], h, _ => by simp at h
  | x :: l, u :: us, h, hf => by
    rw [List.mapM_cons]
    have h0 := hf 0 x u rfl rfl
    have ih := run_mapM f l us (by simpa using h) (fun i x u hx hu => hf (i + 1) x u (by simpa using hx) (by simpa using hu))
    simp [h0, ih]

/-- a function's result, out of its body's precondition -/
theorem ret_ok (hT : TysOk P T) {nt : Nat} {s : ASt} {a : Act} {fn : Func} {bo : List (Nat × Box)} {r : V} {e : Exit} (he : e = .ret ∨ e = .normal) (hr : Rep E nt s a w g) (hW : retQ T fn.results.toList bo r e s) :
    ∃ val, (results fn a.tmps).run P w = .ok val w ∧ ∃ g', RepV w g' (isIn (toksBx bo ++ V.toks r)) r val ∧ EvX w g w g' ∧ HOk E w g' (look bo) (isIn (toksBx bo ++ V.toks r)) (fun _ => False) 0 := by
  obtain ⟨tm, h⟩ := s
  have hW' : resVs T h tm fn.results.toList (single fun v => ASt.le ⟨[(0, v)], h⟩ ⟨[(0, r)], ⟨bo, toksBx bo ++ V.toks r, 0, 0⟩⟩) := by
    rcases he with rfl | rfl <;> exact hW
  obtain ⟨vs, us, h1, h2, h3, h4, h5⟩ := resVs_ok hT hr _ _ hW'
  obtain ⟨val, hval⟩ : ∃ val, val = (match us with | [u] => u | us => .tuple us.toArray) := ⟨_, rfl⟩
  have hrun : (results fn a.tmps).run P w = .ok val w := by
    unfold results
    rw [Sem.run_bind]
    have hm := run_mapM (P := P) (w := w) (fun | .tmp t => pure (a.tmps.getD t undef) | .cell p t => do loadVar t (← asAddr (a.tmps.getD p undef))) fn.results.toList us (by omega) (fun i x u hx hu => by
      have := h5 i x u hx hu
      cases x <;> exact this)
    have hmA : (fn.results.mapM (fun | .tmp t => pure (a.tmps.getD t undef) | .cell p t => do loadVar t (← asAddr (a.tmps.getD p undef)) : ResultVar → Sem Value)).run P w = .ok us.toArray w := by
      rw [Array.mapM_eq_mapM_toList]
      simp only [Sem.run_map, hm, Result.andThen_ok]
    refine Eq.trans (congrArg (fun z => Result.andThen z fun vs w' => Sem.run P (pure (if h : vs.size = 1 then vs[0] else .tuple vs)) w') hmA) ?_
    simp only [Result.andThen_ok, Sem.run_pure]
    congr 1
    rw [hval]
    cases us with
    | nil => rfl
    | cons u us => cases us with
      | nil => rfl
      | cons u2 us => simp
  have hone : ∃ v, RepV w g (isIn h.tk) v val ∧ ASt.le ⟨[(0, v)], h⟩ ⟨[(0, r)], ⟨bo, toksBx bo ++ V.toks r, 0, 0⟩⟩ := by
    cases vs with
    | nil =>
      have : us = [] := List.eq_nil_of_length_eq_zero (by simpa using h2)
      subst this
      exact ⟨.tup [], by rw [hval]; exact .tup [] #[] rfl (by simp), h1⟩
    | cons v vs =>
      cases vs with
      | nil =>
        cases us with
        | nil => simp at h2
        | cons u us =>
          have : us = [] := List.eq_nil_of_length_eq_zero (by simpa using h2)
          subst this
          exact ⟨v, by rw [hval]; exact h4 0 v u rfl rfl, h1⟩
      | cons v2 vs =>
        have hl : us.length = (v :: v2 :: vs).length := h2
        have : val = .tuple us.toArray := by
          rw [hval]
          cases us with
          | nil => rfl
          | cons u us => cases us with
            | nil => simp at hl
            | cons => rfl
        refine ⟨.tup (v :: v2 :: vs), ?_, h1⟩
        rw [this]
        exact .tup _ _ (by simpa using hl) (fun i x u hx hu => h4 i x u hx (by simpa using hu))
  obtain ⟨v, hv, hle⟩ := hone
  obtain ⟨g', k1, k2, k3⟩ := le_ok (a := { tmps := #[val], defers := [] }) (tm := [(0, v)]) (tm' := [(0, r)]) (h := h) (h' := ⟨bo, toksBx bo ++ V.toks r, 0, 0⟩) (by
    intro t v' hl
    rw [look_cons] at hl
    split at hl
    · rename_i e; subst e; simp at hl; subst hl; exact ⟨val, rfl, hv⟩
    · simp [look] at hl) hr.h hle
  obtain ⟨u, hu, hrep⟩ := k1 0 r (by simp [look])
  simp at hu; subst hu
  exact ⟨val, hrun, g', hrep, k3, k2.frMono (fun x hx => hx.elim)⟩

theorem argTm_spec : ∀ (ds : List V) (i t : Nat) (v : V), look (argTm i ds) t = some v → ∃ j x, t = i + j ∧ ds[j]? = some x ∧ v = x
  | [], i, t, v, h => by simp [argTm, look] at h
  | x :: l, i, t, v, h => by
    simp only [argTm] at h
    rw [look_cons] at h
    split at h
    · rename_i e; subst e; simp at h; subst h; exact ⟨0, x, rfl, rfl, rfl⟩
    · obtain ⟨j, y, e1, h2, e2⟩ := argTm_spec l (i + 1) t v h; exact ⟨j + 1, y, by omega, by simpa using h2, e2⟩

theorem tysOk_nil : TysOk P [] := ⟨fun t ti h => by simp [look] at h, fun t ti h => by simp [look] at h⟩
theorem tysOk_consE {t : Nat} {ti : TI} {T : List (Nat × TI)} (h1 : P.underlying t = some ti.desc) (h2 : (P.info? t).map (fun i => (i.size, i.bytes, i.zero)) = some (ti.size, ti.bytes, some ti.zero)) (h3 : Nat.beq ti.zero.cells.size ti.size = true)
    (h4 : ti.zero.cells.toList.all Value.oneCell' = true) (he : ti.eq = true → P.stoodInHeld t = false ∧ P.eqGuardType P.depth t = false) (h : TysOk P T) : TysOk P ((t, ti) :: T) := by
  refine ⟨fun t' ti' hl => ?_, fun t' ti' hl => ?_⟩
  · rw [look_cons] at hl
    split at hl
    · rename_i e; subst e; simp at hl; subst hl
      cases hi : P.info? t with
      | none => rw [hi] at h2; simp at h2
      | some i =>
        rw [hi] at h2
        simp at h2
        exact ⟨h1, i, rfl, h2.1, h2.2.1, h2.2.2, Nat.eq_of_beq_eq_true h3, fun c hc => List.all_eq_true.1 h4 c (by simpa using hc)⟩
    · exact h.get t' ti' hl
  · rw [look_cons] at hl
    split at hl
    · rename_i e; subst e; simp at hl; subst hl; exact he
    · exact h.eq t' ti' hl
theorem tysOk_cons {t : Nat} {ti : TI} {T : List (Nat × TI)} (h1 : P.underlying t = some ti.desc) (h2 : (P.info? t).map (fun i => (i.size, i.bytes, i.zero)) = some (ti.size, ti.bytes, some ti.zero)) (h3 : Nat.beq ti.zero.cells.size ti.size = true)
    (h4 : ti.zero.cells.toList.all Value.oneCell' = true) (h : TysOk P T) (he : ti.eq = false := by rfl) : TysOk P ((t, ti) :: T) :=
  tysOk_consE h1 h2 h3 h4 (fun h => by rw [he] at h; cases h) h

def nodupB : List Nat → Bool
  | [] => true
  | a :: l => match isIn l a with | true => false | false => nodupB l
theorem nodupB_spec : ∀ {l : List Nat}, nodupB l = true → l.Nodup
  | [], _ => .nil
  | a :: l, h => by
    simp only [nodupB] at h
    cases hi : isIn l a with
    | true => rw [hi] at h; simp at h
    | false =>
      rw [hi] at h
      refine List.nodup_cons.2 ⟨fun hm => ?_, nodupB_spec h⟩
      have := apartL_spec (l := [a]) (m := l) (by simp [apartL, hi]) a (by simp)
      exact this hm

theorem arg_rep {x : V} {u : Value} (h : RepV w g (fun _ => false) x u) : RepV w g (isIn []) x u := by
  have : (isIn [] : Nat → Bool) = fun _ => false := funext fun k => rfl
  rw [this]; exact h

/-- a function that leaves: marks of loops are shut -/
theorem leaves {F : Fence} {n nt st : Nat} {σ : Sg} {fn : Func} {tmps : Array Value} {R : Ending → World → Prop} : ∀ (ds : List Deferred) (w : World) (g : G), RepS E nt st σ ⟨tmps, ds⟩ w g →
    (∀ w' g', RepS E nt st σ ⟨tmps, []⟩ w' g' → EvW w g w' g' → (∀ b u k, g.own b = some (u, k) → u = .ext → w'.heap[b]? = w.heap[b]?) → ∃ v, (results fn tmps).run P w' = .ok v w' ∧ R (.returned v) w') → LeavesInM F n P fn tmps R ds .returning w
  | [], w, g, hr, h => h w g hr (EvX.refl w g).w (fun _ _ _ _ _ => rfl)
  | d :: ds, w, g, hr, h => by
    obtain ⟨rs, k1, k2, k3⟩ := hr.defers
    cases rs with
    | nil => simp at k1
    | cons r rs =>
      simp only [List.map_cons, List.cons.injEq] at k1
      obtain ⟨rfl, rfl⟩ := k1
      obtain ⟨n1, n2⟩ := List.nodup_cons.1 k2
      obtain ⟨q1, q2⟩ := k3 r (by simp)
      refine ⟨by simp, .inl ⟨r, _, rfl, run_takeDeferred q2, ?_⟩⟩
      obtain ⟨g', hg'⟩ : ∃ g' : G, g' = { own := fun b => if b = r then none else g.own b, ρ := g.ρ, used := g.used } := ⟨_, rfl⟩
      have ho : ∀ b u m, g'.own b = some (u, m) → g.own b = some (u, m) ∧ b ≠ r := by
        intro b u m hb
        rw [hg'] at hb
        simp only at hb
        split at hb
        · cases hb
        · rename_i hne; exact ⟨hb, hne⟩
      have ho' : ∀ b u m, g.own b = some (u, m) → b ≠ r → g'.own b = some (u, m) := by
        intro b u m hb hne
        rw [hg']; simp [hne, hb]
      have heap : ∀ b, b ≠ r → (w.putObj r (.deferred none)).heap[b]? = w.heap[b]? := fun b hb => World.putObj_heap_other hb
      have cst : ∀ b o v, Cst w g b o v → Cst (w.putObj r (.deferred none)) g' b o v := fun b o v hc => by
        have := cst_put (m := 0) (o := .deferred none) q1 b o v hc
        exact ⟨this.1, fun u k hk => this.2 u k (ho b u k hk).1⟩
      have hne : ∀ b u m, g.own b = some (u, m) → u ≠ .dfr → b ≠ r := fun b u m hb hu e => by subst e; rw [q1] at hb; cases hb; exact hu rfl
      have hev : EvW w g (w.putObj r (.deferred none)) g' := by
        refine ⟨rfl, rfl, rfl, by rw [World.putObj_size]; exact Nat.le_refl _, cst, put_sz (shape_def q2), fun id b _ h => by rw [hg']; exact h, ?_, ?_, fun b u k hk _ => (ho b u k hk).1⟩
        · intro b hb h0
          have : b ≠ r := fun e => by subst e; rw [q1] at h0; cases h0
          exact ⟨heap b this, by rw [hg']; simp [this, h0]⟩
        · intro b u k hk hu
          have := hne b u k hk (by rw [hu]; simp)
          exact ⟨heap b this, ho' b u k hk this⟩
      have hp : Pres w g σ.tk (w.putObj r (.deferred none)) g' σ.tk := ⟨cst, fun id b hb => by rw [hg']; exact hb, put_sz (shape_def q2), fun k hk => by rw [hg']; exact hk, fun k _ h2 => ⟨h2, fun b m hb => ⟨heap b (hne b _ m hb (by simp)), (ho' b _ m hb (hne b _ m hb (by simp))).trans hb.symm⟩⟩⟩
      have hr' : RepS E nt st σ ⟨tmps, rs.map mark⟩ (w.putObj r (.deferred none)) g' := by
        refine ⟨hr.size, ⟨rs, rfl, n2, fun q hq => ?_⟩, hr.frz, hr.tm.pres hp, hr.gs.pres hp, ⟨?_, ?_, ?_, ?_, ?_, ?_, ?_, E.stable _ _ _ _ _ hr.h.J hev⟩⟩
        · have hqr : q ≠ r := fun e => n1 (e ▸ hq)
          obtain ⟨p1, p2⟩ := k3 q (by simp [hq])
          exact ⟨ho' q _ _ p1 hqr, (heap q hqr).trans p2⟩
        · intro id B hB
          refine RepBox.keep hp (hr.h.bx id _ hB) fun b0 p1 p2 => ?_
          have := hne b0 _ _ p2 (by simp)
          exact ⟨(heap b0 this), ho' b0 _ _ p2 this⟩
        · intro id b hb; rw [hg'] at hb; rw [World.putObj_size]; exact hr.h.ids id b hb
        · intro k hk; rw [hg'] at hk; exact hr.h.toks k hk
        · intro b k m hb; rw [hg']; exact hr.h.tkown b k m (ho b _ m hb).1
        · intro b id m hb; rw [hg']; exact hr.h.bxown b id m (ho b _ m hb).1
        · intro b u m hb; rw [World.putObj_size]; exact hr.h.size b u m (ho b u m hb).1
        · intro b cs hcs
          obtain ⟨⟨e0, f0, p1⟩, p2⟩ := hr.h.gl b cs hcs
          have : b ≠ r := fun e => by subst e; rw [q1] at p2; cases p2
          exact ⟨⟨e0, f0, (heap b this).trans p1⟩, by rw [hg']; simp [this, p2]⟩
      refine leaves (rs.map mark) _ g' hr' fun w' g2 h1 h2 h3 => h w' g2 h1 ?_ ?_
      · exact ⟨h2.os.trans hev.os, h2.tape.trans hev.tape, h2.output.trans hev.output, Nat.le_trans hev.size h2.size, fun b o v hc => h2.cst b o v (hev.cst b o v hc), fun b x hx => h2.sz b x (hev.sz b x hx), fun id b h0 hx => h2.rho id b h0 (hev.rho id b h0 hx),
          fun b hb h0 => by obtain ⟨e1, e2⟩ := hev.none b hb h0; obtain ⟨e3, e4⟩ := h2.none b (Nat.lt_of_lt_of_le hb hev.size) e2; exact ⟨e3.trans e1, e4⟩,
          fun b u k hk hu => by obtain ⟨e1, e2⟩ := hev.ext b u k hk hu; obtain ⟨e3, e4⟩ := h2.ext b u k e2 hu; exact ⟨e3.trans e1, e4⟩,
          fun b u k hk hu => hev.noext b u k (h2.noext b u k hk hu) hu⟩
      · intro b u k hk hu
        obtain ⟨e1, e2⟩ := hev.ext b u k hk hu
        exact (h3 b u k e2 hu).trans e1

theorem EvX.of_w {w' : World} {g' : G} (h : EvW w g w' g') (hf : ∀ b u m, g.own b = some (u, m) → u ≠ .dfr) : EvX w g w' g' :=
  ⟨h.os, h.tape, h.output, h.size, h.cst, h.sz, h.rho, h.none, fun b u k k1 k2 => h.ext b u k k1 (by rcases k2 with e | e; exact e; exact absurd e (hf b u k k1)), h.noext⟩
theorem EvW.trans {w1 w2 w3 : World} {g1 g2 g3 : G} (h : EvW w1 g1 w2 g2) (k : EvW w2 g2 w3 g3) : EvW w1 g1 w3 g3 :=
  ⟨k.os.trans h.os, k.tape.trans h.tape, k.output.trans h.output, Nat.le_trans h.size k.size, fun b o v hc => k.cst b o v (h.cst b o v hc), fun b x hx => k.sz b x (h.sz b x hx), fun id b h0 hx => k.rho id b h0 (h.rho id b h0 hx),
   fun b hb hn => let ⟨e1, n1⟩ := h.none b hb hn; let ⟨e2, n2⟩ := k.none b (Nat.lt_of_lt_of_le hb h.size) n1; ⟨e2.trans e1, n2⟩,
   fun b u q ho hu => let ⟨e1, n1⟩ := h.ext b u q ho hu; let ⟨e2, n2⟩ := k.ext b u q n1 hu; ⟨e2.trans e1, n2⟩,
   fun b u q ho hu => h.noext b u q (k.noext b u q ho hu) hu⟩

/-- what a function begins with -/
theorem start_rep {E : Env} {fn : Func} {ds : List V} {nid st : Nat} {gl : List (Nat × Array Value)} (hgl : E.gl = gl) (hfz : E.fz = []) (hJ : E.J st w g) (hfor : Foreign w g gl) {vals : Array Value} (hlen : ds.length ≤ fn.ntmps) (hsz : vals.size = ds.length)
    (hargs : ∀ (i : Nat) (x : V) (u : Value), ds[i]? = some x → vals[i]? = some u → RepV w g (fun _ => false) x u) :
    Rep E fn.ntmps ⟨argTm 0 ds, ⟨[], [], nid, st⟩⟩ { tmps := vals ++ Array.replicate (fn.ntmps - vals.size) undef, defers := [] } w g := by
  refine ⟨by simp; omega, DefOk.nil w g, by intro t ht; rw [hfz] at ht; simp [isIn] at ht, ?_, by intro t tg want v ht; simp [sgOf, look] at ht, ⟨?_, ?_, ?_, ?_, ?_, hfor.size, ?_, hJ⟩⟩
  · intro t v hl
    obtain ⟨j, x, rfl, h2, rfl⟩ := argTm_spec ds 0 t v hl
    have hj : j < vals.size := by have := (List.getElem?_eq_some_iff.1 h2).1; omega
    refine ⟨vals[j], ?_, arg_rep (hargs j _ _ h2 (Array.getElem?_eq_getElem hj))⟩
    simp only [Nat.zero_add]
    rw [Array.getElem?_append_left hj]
    exact Array.getElem?_eq_getElem hj
  · intro id B h; simp [sgOf, look] at h
  · intro id b h; rw [hfor.ρ] at h; simp at h
  · intro k h; exact absurd h (hfor.used k)
  · intro b k m h; rcases hfor.own b _ m h with e | e <;> cases e
  · intro b id m h; rcases hfor.own b _ m h with e | e <;> cases e
  · intro b cs h; rw [hgl] at h; exact hfor.gl b cs h

theorem start_repB {E : Env} {fn : Func} {bi : List (Nat × Box)} {ds : List V} {nid st : Nat} (hnid : nid ≤ N0) (hfz : E.fz = []) {vals : Array Value} (hH : HOk E w g (look bi) (isIn (toksBx bi ++ V.tokss ds)) (· < N0) st) (hlen : ds.length ≤ fn.ntmps) (hsz : vals.size = ds.length)
    (hargs : ∀ (i : Nat) (x : V) (u : Value), ds[i]? = some x → vals[i]? = some u → RepV w g (isIn (toksBx bi ++ V.tokss ds)) x u) :
    Rep E fn.ntmps ⟨argTm 0 ds, ⟨bi, toksBx bi ++ V.tokss ds, nid, st⟩⟩ { tmps := vals ++ Array.replicate (fn.ntmps - vals.size) undef, defers := [] } w g := by
  refine ⟨by simp; omega, DefOk.nil w g, by intro t ht; rw [hfz] at ht; simp [isIn] at ht, ?_, by intro t tg want v ht; simp [sgOf, look] at ht, hH.frMono (fun x hx => Nat.lt_of_lt_of_le hx hnid)⟩
  intro t v hl
  obtain ⟨j, x, rfl, h2, rfl⟩ := argTm_spec ds 0 t v hl
  have hj : j < vals.size := by have := (List.getElem?_eq_some_iff.1 h2).1; omega
  refine ⟨vals[j], ?_, hargs j _ _ h2 (Array.getElem?_eq_getElem hj)⟩
  simp only [Nat.zero_add]
  rw [Array.getElem?_append_left hj]
  exact Array.getElem?_eq_getElem hj

/-- A CONTRACT OUT OF THE COMPUTED PRECONDITION OF THE BODY -/
theorem meetsB_of {N : ItT} (hmix : P.follows .mixedOrders = true) (hT : TysOk P T) {gl : List (Nat × Array Value)} (hM : MOk P gl M) (hN : ∀ f caps zs, N f caps zs → Iter P gl f caps zs) {f : FuncId} {fn : Func} {c : Code} (hf : P.funcs[f]? = some fn)
    (hname : (fn.name == "runtime.NumGoroutine") = false) (hb : fn.body = some c) (keep : List Nat) (nid : Nat) (tk0 : List Nat) (hnid : Nat.ble nid N0 = true) {bi : List (Nat × Box)} {ds : List V} {bo : List (Nat × Box)} {r : V} (hlen : Nat.ble ds.length fn.ntmps = true) (hnd : nodupB (toksBx bo ++ V.toks r) = true)
    (hW : Bd ⟨argTm 0 ds, ⟨bi, tk0, nid, 0⟩⟩ → Code.W T M N 0 [] fn.ntmps keep c true [] (retQ T fn.results.toList bo r) ⟨argTm 0 ds, ⟨bi, tk0, nid, 0⟩⟩) (htk : toksBx bi ++ V.tokss ds = tk0) : MeetsB P gl f bi ds bo r := by
  subst htk
  have hlen := Nat.le_of_ble_eq_true hlen
  refine ⟨⟨fn, hf, hname, by rw [hb]; rfl⟩, nodupB_spec hnd, ?_⟩
  intro n w g vals hdfr hH hsz hargs
  refine callsIn_of_wp_marks hf hb trivial ?_
  have hr := start_repB (E := E00 gl) (fn := fn) (nid := nid) (Nat.le_of_ble_eq_true hnid) rfl hH hlen hsz hargs
  refine wpIn_mono (W_ok hmix hT hM hN c true (E00 gl) rfl (fun i ds n w g vals _ hh => by simp [E00] at hh) Fence.wide (.inl rfl) (fun _ => ⟨rfl, fun _ _ _ => trivial, rfl⟩) _ _ (hW hr.b) n _ w g hr) ?_
  rintro e a' w' ⟨s', g', hq, hr', hev⟩
  have hev : EvX w g w' g' := hev
  have out : e = .ret ∨ e = .normal → LeavesInM Fence.wide n P fn a'.tmps (fun e w' => ∃ val g', e = .returned val ∧ RepV w' g' (isIn (toksBx bo ++ V.toks r)) r val ∧ HOk (E00 gl) w' g' (look bo) (isIn (toksBx bo ++ V.toks r)) (fun _ => False) 0 ∧ EvX w g w' g') a'.defers .returning w' := by
    intro he
    refine leaves a'.defers w' g' hr' fun w2 g2 hr2 hev2 _ => ?_
    obtain ⟨val, h1, g3, h2, h3, h4⟩ := ret_ok hT he hr2 hq
    refine ⟨val, h1, val, g3, rfl, h2, h4, ?_⟩
    have hx : EvW w g w2 g2 := hev.w.trans hev2
    have := hx.trans h3.w
    refine ⟨this.os, this.tape, this.output, this.size, this.cst, this.sz, this.rho, this.none, ?_, this.noext⟩
    intro b u k hk hu
    rcases hu with rfl | rfl
    · exact this.ext b _ k hk rfl
    · exact absurd rfl (hdfr b _ k hk)
  cases e with
  | ret => exact out (.inl rfl)
  | normal => exact out (.inr rfl)
  | exit id => exact hq.elim
  | goto l => exact hq.elim
  | panic ch => exact hq.elim
  | outgrown => exact hq.elim

/-- what is owed where an iterator returns -/
def itQ (k : Nat) (e : Exit) (s : ASt) : Prop :=
  match e with
  | .ret => match s with | ⟨_, ⟨_, _, _, st⟩⟩ => st = 0 ∨ st = k + 1
  | .normal => match s with | ⟨_, ⟨_, _, _, st⟩⟩ => st = 0 ∨ st = k + 1
  | _ => False

/-- AN ITERATOR's CONTRACT OUT OF ITS BODY -/
theorem iter_of {N : ItT} (hmix : P.follows .mixedOrders = true) (hT : TysOk P T) {gl : List (Nat × Array Value)} (hM : MOk P gl M) (hN : ∀ f caps zs, N f caps zs → Iter P gl f caps zs) {f : FuncId} {fn : Func} {c : Code} (hf : P.funcs[f]? = some fn)
    (hname : (fn.name == "runtime.NumGoroutine") = false) (hb : fn.body = some c) (hres : fn.results = #[]) (keep : List Nat) (nid : Nat) {caps : List V} {zs : List (List D)} (hlen : Nat.ble (caps.length + 1) fn.ntmps = true)
    (hW : ∀ l, Bd ⟨argTm 0 (.fn (.yield l) [] [] :: caps), ⟨[], [], nid, 1⟩⟩ → Code.W T M N l zs fn.ntmps keep c false [] (itQ zs.length) ⟨argTm 0 (.fn (.yield l) [] [] :: caps), ⟨[], [], nid, 1⟩⟩) : Iter P gl f caps zs := by
  have hlen := Nat.le_of_ble_eq_true hlen
  refine ⟨⟨fn, hf, hname, by rw [hb]; rfl⟩, ?_⟩
  intro l J hst hlaw n w g cv hfor hsz hargs hJ1
  refine callsIn_of_wp_marks hf hb trivial ?_
  obtain ⟨E, hE⟩ : ∃ E : Env, E = { J := J, stable := hst, gl := gl, yl := l, ys := zs, Ev := fun _ _ _ _ => True, refl := fun _ _ => trivial, trans := fun _ _ => trivial, ofX := fun _ => trivial } := ⟨_, rfl⟩
  have hgl : E.gl = gl := by rw [hE]
  have hJ : E.J = J := by rw [hE]
  have hys : E.ys = zs := by rw [hE]
  have hyl : E.yl = l := by rw [hE]
  have hfz : E.fz = [] := by rw [hE]
  have hr := start_rep (E := E) (fn := fn) (ds := .fn (.yield l) [] [] :: caps) (vals := #[.func (.yield l) #[] #[]] ++ cv) (nid := nid) (st := 1) hgl hfz (by rw [hJ]; exact hJ1) hfor (by simpa using hlen) (by simp [hsz]; omega) (by
    intro i x u hx hu
    cases i with
    | zero =>
      simp at hx; subst hx
      rw [Array.getElem?_append_left (by simp)] at hu
      simp at hu; subst hu
      exact .fn _ [] [] #[] #[] rfl rfl (by simp) (by simp)
    | succ i =>
      rw [Array.getElem?_append_right (by simp)] at hu
      exact hargs i x u (by simpa using hx) (by simpa using hu))
  have hW' : Code.W T M N E.yl E.ys fn.ntmps keep c false E.fz (itQ zs.length) ⟨argTm 0 (.fn (.yield l) [] [] :: caps), ⟨[], [], nid, 1⟩⟩ := by rw [hyl, hys, hfz]; exact hW l hr.b
  refine wpIn_mono (W_ok hmix hT hM hN c false E hgl ?_ Fence.wide (.inl rfl) (by simp) _ _ hW' n _ w g hr) ?_
  · intro i ds n w g vals h1 h2 h3 h4 h5
    rw [hJ] at h1
    rw [hys] at h2
    obtain ⟨f0, tmps, as, body, k1, k2⟩ := hlaw i ds n w g vals h1 h2 h3 h4 h5
    refine ⟨f0, tmps, as, body, by rw [hyl]; exact k1, ?_⟩
    rw [hyl]
    refine k2.mono ?_
    rintro e w' ⟨b, g', q1, q2, q3⟩
    exact ⟨b, g', q1, by rw [hJ]; exact q2, q3, by rw [hE]; trivial⟩
  rintro e a' w' ⟨s', g', hq, hr', hev⟩
  have out : (s'.h.st = 0 ∨ s'.h.st = zs.length + 1) → LeavesInM Fence.wide n P fn a'.tmps (fun e w' => ∃ v g', e = .returned v ∧ (J 0 w' g' ∨ J (zs.length + 1) w' g')) a'.defers .returning w' := by
    intro hstg
    refine leaves a'.defers w' g' hr' fun w2 g2 hr2 hev2 _ => ?_
    have hJ2 := hr2.h.J
    rw [hJ] at hJ2
    refine ⟨.tuple #[], ?_, _, g2, rfl, ?_⟩
    · unfold results; rw [hres]; simp
    · rcases hstg with h | h <;> rw [h] at hJ2
      · exact .inl hJ2
      · exact .inr hJ2
  obtain ⟨tm2, bx2, tk2, nid2, st2⟩ := s'
  cases e with
  | ret => exact out hq
  | normal => exact out hq
  | exit id => exact hq.elim
  | goto l => exact hq.elim
  | panic ch => exact hq.elim
  | outgrown => exact hq.elim

/-! ### contracts at arguments that say more -/
def leA (x y : V) : Prop := ∀ w g u, RepV w g (fun _ => false) x u → RepV w g (fun _ => false) y u
theorem leA.refl (x : V) : leA x x := fun _ _ _ h => h
theorem leA.l {x y : L} (h : L.le x y) : leA (.d (.l x)) (.d (.l y)) := fun w g u hr => by
  cases hr with | d _ _ hr => exact .d _ _ (h w g u hr)
theorem leA.agg {x y : List L} (h : leLs x y) : leA (.d (.agg x)) (.d (.agg y)) := fun w g u hr => by
  obtain ⟨vs, rfl, hs, hri⟩ := hr.agg_inv
  obtain ⟨hl, hle⟩ := leLs_spec h
  refine .d _ _ ⟨vs, rfl, by omega, fun i z u h1 h2 => ?_⟩
  have hlt : i < x.length := by have := (List.getElem?_eq_some_iff.1 h1).1; omega
  exact (hle i x[i] z (List.getElem?_eq_getElem hlt) h1) w g u (hri i _ u (List.getElem?_eq_getElem hlt) h2)
def leAs : List V → List V → Prop
  | [], [] => True
  | x :: l, y :: l' => leA x y ∧ leAs l l'
  | _, _ => False
theorem leAs_spec : ∀ {l l' : List V}, leAs l l' → l.length = l'.length ∧ ∀ (i : Nat) (x y : V), l[i]? = some x → l'[i]? = some y → leA x y
  | [], [], _ => ⟨rfl, by simp⟩
  | x :: l, y :: l', h => by
    obtain ⟨h1, h2⟩ := h
    obtain ⟨a, b⟩ := leAs_spec h2
    refine ⟨by simp [a], fun i p q hp hq => ?_⟩
    cases i with
    | zero => simp at hp hq; subst hp; subst hq; exact h1
    | succ i => simp at hp hq; exact b i p q hp hq
  | [], _ :: _, h => h.elim
  | _ :: _, [], h => h.elim
theorem MeetsB.le {gl : List (Nat × Array Value)} {f : FuncId} {ds ds' : List V} {r : V} (h : MeetsB P gl f [] ds' [] r) (hle : leAs ds ds') (ht : V.tokss ds = [] := by rfl) (ht' : V.tokss ds' = [] := by rfl) : MeetsB P gl f [] ds [] r := by
  obtain ⟨h1, h2, h3⟩ := h
  obtain ⟨hl, hi⟩ := leAs_spec hle
  have e1 : toksBx [] ++ V.tokss ds = [] := by rw [ht]; rfl
  have e2 : toksBx [] ++ V.tokss ds' = [] := by rw [ht']; rfl
  have e3 : (isIn [] : Nat → Bool) = fun _ => false := funext fun k => rfl
  rw [e2, e3] at h3
  refine ⟨h1, h2, fun n w g vals hd hf hs ha => ?_⟩
  rw [e1, e3] at hf ha
  refine h3 n w g vals hd hf (by omega) fun i y u hy hu => ?_
  have hlt : i < ds.length := by have := (List.getElem?_eq_some_iff.1 hy).1; omega
  exact hi i ds[i] y (List.getElem?_eq_getElem hlt) hy w g u (ha i _ u (List.getElem?_eq_getElem hlt) hu)
theorem Meets.le {gl : List (Nat × Array Value)} {f : FuncId} {ds ds' : List V} {r : V} (h : Meets P gl f ds' r) (hle : leAs ds ds') : Meets P gl f ds r := by
  obtain ⟨h1, h2, h3⟩ := h
  obtain ⟨hl, hi⟩ := leAs_spec hle
  refine ⟨h1, h2, fun n w g vals hf hs ha => h3 n w g vals hf (by omega) fun i y u hy hu => ?_⟩
  have hlt : i < ds.length := by have := (List.getElem?_eq_some_iff.1 hy).1; omega
  exact hi i ds[i] y (List.getElem?_eq_getElem hlt) hy w g u (ha i _ u (List.getElem?_eq_getElem hlt) hu)
end Go.Proofs.YtokomdenoegkgaaDoor.Abs
