/- Functions that are called as deferred ones; recover. -/
import Derived.Test.YtemlkodkohgmmaaDoorYu
namespace Go.Proofs.YtemlkodkohgmmaaDoor.Y
open Go

section
variable {C : Cx}

/-- What is asked at the end of a deferred function's body. -/
def FinD (C : Cx) (rs : List ResultVar) (n0 : Nat) (u : Md) (Q : AE → Md → Hp → Prop) : KQ := fun e σ ds H =>
  match ds with
  | [] => match e with
    | .normal => resV C σ H rs fun vs => EndN n0 (fun e H' => Q e u H') (.returned (tupA vs)) H
    | .ret => resV C σ H rs fun vs => EndN n0 (fun e H' => Q e u H') (.returned (tupA vs)) H
    | .panic ch => EndN n0 (fun e H' => Q e u H') (.panicked ch) H
    | _ => False
  | _ => False

/-- The mode keeps its values when names change: they are data. -/
def dataM : Md → Bool
  | .ret => true
  | .pan ch => ch.all fun p => match p.v with
    | .p _ => true
    | _ => false
theorem MR_data {a b : Gm} (hf : a.fz.le b.fz) {u : Md} (hu : dataM u = true) {m : FrameMode} (h : MR a u m) : MR b u m := by
  cases u with
  | ret => exact h
  | pan ch =>
    obtain ⟨ch', rfl, hc⟩ := h
    refine ⟨ch', rfl, ?_⟩
    simp only [dataM] at hu
    induction ch generalizing ch' with
    | nil => exact hc
    | cons p ps ih =>
      simp only [PEL] at hc ⊢
      obtain ⟨q, qs, rfl, ⟨h1, h2⟩, h3⟩ := hc
      simp only [List.all_cons, Bool.and_eq_true] at hu
      refine ⟨q, qs, rfl, ⟨?_, h2⟩, ih hu.2 qs h3⟩
      obtain ⟨v, rc⟩ := p
      cases v <;> simp only [Bool.false_eq_true, false_and] at hu
      simp only [VR] at h1 ⊢
      exact VP_mono hf _ _ h1

theorem PostD_gc {Γ : Gm} {H : Hp} {w : World} {Q : AE → Md → Hp → Prop} {u : Md} (hu : dataM u = true) {e' : Ending} {m' : FrameMode} {w' : World} {e : AE} {H' : Hp} {Γ' : Gm} (hq : EndN H.next (fun e H' => Q e u H') e H') (hE : ER Γ' e e') (hM : MR Γ' u m') (hL : Later C H.next Γ H w Γ' H' w') : PostD C Γ H w Q e' m' w' := by
  obtain ⟨e1, H1, Γ1, k1, k2, k3⟩ := Post.gc (C := C) (Q := fun e H' => Q e u H') ⟨e, H', Γ', hq, hE, hL⟩
  obtain ⟨fs, ps, ni, e1, H1, hb, hEE, hH, hqq⟩ := hq
  simp only [Bool.and_eq_true] at hb
  obtain ⟨⟨⟨b1, b2⟩, b3⟩, b4⟩ := hb
  have b2 := Nat.le_of_ble_eq_true b2
  obtain ⟨Γ2, e2, hL2⟩ := hL.1.mark b1
  have hsee := R.see (H1 := H1) (ρ := rmap H.next ps H1.next H'.next) hL2.1 hH b4 b3 (fun n h => rmap_fix h) b2 (fun n h => by rw [rmap_new b2 h]; show H'.next ≤ _; omega)
  exact ⟨e1, u, H1, _, hqq, SeeE_sound hL2.1 hEE (ER_mono (hL2.le hL.1) hE), MR_data (b := Γ2.see (rmap H.next ps H1.next H'.next) ni) (hL2.2.2.2.fz) hu hM, (hL.trans (hL2.mono hL.2.2.1)).trans hsee⟩

/-- Operations that only compute, in their order. -/
def pOps (C : Cx) (N : Nat) (all : List Oper) : List Oper → Sg → Hp → (Sg → Prop) → Prop
  | [], σ, _, K => K σ
  | o :: r, σ, H, K => match gd all o σ with
    | some true => (pop C.P o.op (evl C σ) (lget H.l)).Then fun v => vput N o.dst σ v fun σ' => pOps C N all r σ' H K
    | some false => vput N o.dst σ und fun σ' => pOps C N all r σ' H K
    | none => False

/-- recover. -/
def recA : Md → AV × Md
  | .pan (⟨v, false⟩ :: r) => (v, .pan (⟨v, true⟩ :: r))
  | u => (.p .nilIface, u)

def isRec : Op → Bool
  | .call { callee := .builtin .recover, .. } => true
  | _ => false

theorem rec_sound {Γ : Gm} {u : Md} {c₀ : Frame} {cs : List Frame} (h : MR Γ u c₀.mode) : ∃ v' m', (match recoverD (c₀ :: cs) with | some (v, cs') => (v, cs') | none => (.nilIface, c₀ :: cs)) = (v', { c₀ with mode := m' } :: cs) ∧ VR Γ (recA u).1 v' ∧ MR Γ (recA u).2 m' := by
  cases u with
  | ret =>
    simp only [MR] at h
    refine ⟨.nilIface, c₀.mode, ?_, by simp only [recA, VR, VP], by simp only [recA, MR]; exact h⟩
    simp only [recoverD, h]
    rw [← h]
  | pan ch =>
    obtain ⟨ch', hm, hc⟩ := h
    match ch, hc with
    | [], hc =>
      simp only [PEL] at hc
      subst hc
      refine ⟨.nilIface, c₀.mode, ?_, by simp only [recA, VR, VP], ⟨[], hm, rfl⟩⟩
      simp only [recoverD, hm]
      rw [← hm]
    | ⟨v, true⟩ :: r, hc =>
      have hc' := hc
      simp only [PEL] at hc
      obtain ⟨⟨qv, qr, qg⟩, qs, rfl, ⟨h1, h2, h3⟩, h4⟩ := hc
      simp only at h2
      subst h2
      refine ⟨.nilIface, c₀.mode, ?_, by simp only [recA, VR, VP], ⟨_, hm, hc'⟩⟩
      simp only [recoverD, hm]
      rw [← hm]
    | ⟨v, false⟩ :: r, hc =>
      simp only [PEL] at hc
      obtain ⟨⟨qv, qr, qg⟩, qs, rfl, ⟨h1, h2, h3⟩, h4⟩ := hc
      simp only at h2 h3
      subst h2; subst h3
      refine ⟨qv, .panicking ({ v := qv, recovered := true } :: qs), ?_, h1, ⟨_, rfl, ?_⟩⟩
      · simp only [recoverD, hm]
      · simp only [PEL]
        exact ⟨_, qs, rfl, ⟨h1, rfl, rfl⟩, h4⟩

theorem pOps_sound {ops : Array Oper} {Q : Exit → Act → List Frame → World → Prop} {N : Nat} {Γ : Gm} {H : Hp} {w : World} {cs : List Frame} (hR : R C Γ H w) {K : Sg → Prop} (hK : ∀ σ' a', K σ' → SR Γ σ' [] N a' → Q .normal a' cs w) :
    ∀ (rest pre : List Oper) (σ : Sg) (a : Act), ops.toList = pre ++ rest → SR Γ σ [] N a → pOps C N ops.toList rest σ H K → wpOpsSIn (Fz none) 0 C.P ops Q (List.range' pre.length rest.length) a cs w
  | [], pre, σ, a, _, hS, hv => by
    simp only [List.length_nil, List.range'_zero, wpOpsSIn]
    exact hK σ a hv hS
  | o :: rest, pre, σ, a, hops, hS, hv => by
    have hi : ops[pre.length]? = some o := by
      rw [← Array.getElem?_toList, hops]
      simp
    simp only [List.length_cons, List.range'_succ, wpOpsSIn, hi]
    refine ⟨fun _ _ => trivial, ?_⟩
    have ih := pOps_sound (ops := ops) (Q := Q) hR hK rest (pre ++ [o])
    simp only [List.length_append, List.length_cons, List.length_nil, Nat.zero_add] at ih
    have hops' : ops.toList = (pre ++ [o]) ++ rest := by rw [hops]; simp
    have go : ∀ (v : AV) (v' : Value), vput N o.dst σ v (fun σ' => pOps C N ops.toList rest σ' H K) → VR Γ v v' → wpOpsSIn (Fz none) 0 C.P ops Q (List.range' (pre.length + 1) rest.length) (a.put o.dst v') cs w := by
      intro v v' hp hvv
      cases hd : o.dst with
      | none => rw [hd] at hp; exact ih σ _ hops' hS hp
      | some d =>
        rw [hd] at hp
        obtain ⟨hdN, hp⟩ := vput_some hp
        exact ih (upd σ d v) _ hops' (hS.put (Gm.le_refl _) hvv hS.df hdN) hp
    simp only [pOps] at hv
    split at hv
    · rename_i hg
      rw [gd_sound hS hg]
      simp only [if_true]
      obtain ⟨v, hy, hk⟩ := PRes.yld hv
      obtain ⟨v', h1, h2⟩ := pop_sound hR (evl_sound hR hS) o hy
      rw [h1]
      exact go v v' hk h2
    · rename_i hg
      rw [gd_sound hS hg]
      simp only [Bool.false_eq_true, if_false]
      exact go und undef hv (VR_undef Γ)
    · exact hv.elim

/-- A deferred function whose first operation is recover. -/
theorem holdsD_rec {f : FuncId} {fn : Func} {id : Nat} {o : Oper} {ops : List Oper} {c2 : Code} {args : List AV} {u : Md} {H : Hp} {Q : AE → Md → Hp → Prop} (hf : C.P.funcs[f]? = some fn) (hname : (fn.name == "runtime.NumGoroutine") = false) (hb : fn.body = some (.seq (.region id ⟨o :: ops⟩ false) c2))
    (hN : (Nat.ble args.length fn.ntmps && isRec o.op && o.guard.isNone && dataM u) = true)
    (hv : vput fn.ntmps o.dst (sets (fun _ => und) (argS 0 args)) (recA u).1 fun σ => pOps C fn.ntmps (o :: ops) ops σ H fun σ' => vc C none H.next fn.ntmps c2 σ' [] H (FinD C fn.results.toList H.next (recA u).2 Q)) : HoldsD C f args u H Q := by
  intro Γ w args' m hR hA hM
  simp only [Bool.and_eq_true] at hN
  obtain ⟨⟨⟨n1, n2⟩, n3⟩, n4⟩ := hN
  have hdata : dataM (recA u).2 = true := by
    cases u with
    | ret => rfl
    | pan ch =>
      match ch, n4 with
      | [], _ => rfl
      | ⟨v, true⟩ :: r, n4 => exact n4
      | ⟨v, false⟩ :: r, n4 => exact n4
  refine ⟨run_enter hf hname hb _ _, trivial, fun c₀ cs hu _ => ?_⟩
  let b : Frame := { (default : Frame) with fn := f, kind := .deferred, roundOf := none }
  have hbf : (C.P.funcs[b.fn]?).isSome = true := by show (C.P.funcs[f]?).isSome = true; rw [hf]; rfl
  have henter : Frame.enter C.P f ⟨args'⟩ .deferred = b.atR { tmps := (⟨args'⟩ : Array Value) ++ Array.replicate (fn.ntmps - args'.length) undef, defers := [] } [.code (.seq (.region id ⟨o :: ops⟩ false) c2)] := by
    simp [Frame.enter, Frame.atR, hf, hb, b]
  have hS := entry_SR (n := fn.ntmps) hA (Nat.le_of_ble_eq_true n1)
  obtain ⟨v', m', hrec, hvr, hmr⟩ := rec_sound (Γ := Γ) (u := u) (c₀ := c₀) (cs := cs) (by rw [hu]; exact hM)
  -- the first region
  have hreg : wpOpsSIn (Fz none) 0 C.P ⟨o :: ops⟩ (fun e a1 cs1 w1 => e = .normal ∧ cs1 = { c₀ with mode := m' } :: cs ∧ w1 = w ∧ ∃ σ', SR Γ σ' [] fn.ntmps a1 ∧ vc C none H.next fn.ntmps c2 σ' [] H (FinD C fn.results.toList H.next (recA u).2 Q)) (List.range (o :: ops).length) { tmps := (⟨args'⟩ : Array Value) ++ Array.replicate (fn.ntmps - args'.length) undef, defers := [] } (c₀ :: cs) w := by
    rw [List.range_eq_range', List.length_cons, List.range'_succ]
    have hi : (⟨o :: ops⟩ : Array Oper)[0]? = some o := rfl
    simp only [wpOpsSIn, hi]
    refine ⟨fun _ _ => trivial, ?_⟩
    have hg : Region.wanted o (yielded ⟨o :: ops⟩ ((⟨args'⟩ : Array Value) ++ Array.replicate (fn.ntmps - args'.length) undef)) = true := by
      unfold Region.wanted
      cases hgd : o.guard with
      | none => rfl
      | some g => rw [hgd] at n3; cases n3
    simp only [hg, if_true]
    have hex : ∀ ev : Operand → Value, (execOp ev o).run C.P w = .ok .recover w := by
      intro ev
      obtain ⟨dst, op, ty, pos, af, gu⟩ := o
      simp only at n2
      unfold isRec at n2
      split at n2
      · simp [execOp, resolve, invoke, builtin]
      · cases n2
    rw [hex]
    simp only
    have hput : ∀ σ', (match o.dst with | none => σ' = sets (fun _ => und) (argS 0 args) | some d => d < fn.ntmps ∧ σ' = upd (sets (fun _ => und) (argS 0 args)) d (recA u).1) → SR Γ σ' [] fn.ntmps (({ tmps := (⟨args'⟩ : Array Value) ++ Array.replicate (fn.ntmps - args'.length) undef, defers := [] } : Act).put o.dst v') := by
      intro σ' h
      cases hd : o.dst with
      | none => rw [hd] at h; simp only at h; subst h; exact hS
      | some d => rw [hd] at h; obtain ⟨h1, rfl⟩ := h; exact hS.put (Gm.le_refl _) hvr hS.df h1
    have hv' : ∃ σ', (match o.dst with | none => σ' = sets (fun _ => und) (argS 0 args) | some d => d < fn.ntmps ∧ σ' = upd (sets (fun _ => und) (argS 0 args)) d (recA u).1) ∧ pOps C fn.ntmps (o :: ops) ops σ' H fun σ' => vc C none H.next fn.ntmps c2 σ' [] H (FinD C fn.results.toList H.next (recA u).2 Q) := by
      cases hd : o.dst with
      | none => rw [hd] at hv; exact ⟨_, rfl, hv⟩
      | some d =>
        rw [hd] at hv
        obtain ⟨h1, h2⟩ := vput_some hv
        exact ⟨_, ⟨h1, rfl⟩, h2⟩
    obtain ⟨σ', h1, h2⟩ := hv'
    have := pOps_sound (C := C) (ops := ⟨o :: ops⟩) (Q := fun e a1 cs1 w1 => e = .normal ∧ cs1 = { c₀ with mode := m' } :: cs ∧ w1 = w ∧ ∃ σ', SR Γ σ' [] fn.ntmps a1 ∧ vc C none H.next fn.ntmps c2 σ' [] H (FinD C fn.results.toList H.next (recA u).2 Q)) (cs := { c₀ with mode := m' } :: cs) hR
      (fun σ' a' hk hs => ⟨rfl, rfl, rfl, σ', hs, hk⟩) ops [o] σ' _ rfl (hput σ' h1) h2
    simp only [List.length_cons, List.length_nil, Nat.zero_add] at this ⊢
    cases hrd : recoverD (c₀ :: cs) with
    | none =>
      rw [hrd] at hrec
      simp only [Prod.mk.injEq] at hrec
      obtain ⟨e1, e2⟩ := hrec
      simp only
      rw [e1, e2]
      exact this
    | some p =>
      obtain ⟨pv, pcs⟩ := p
      rw [hrd] at hrec
      simp only [Prod.mk.injEq] at hrec
      obtain ⟨e1, e2⟩ := hrec
      subst e1; subst e2
      exact this
  obtain ⟨e1, a1, cs1, w1, _, ⟨he1, hcs1, hw1, σ1, hS1, hv1⟩, harr1⟩ := wpSIn_region (F := Fz none) (n := 0) (id := id) hreg b [.code c2] rfl rfl trivial (room_Fz _ _)
  subst he1; subst hcs1; subst hw1
  have s0 : StepsIn (Machine.fenced C.P (Fz none)) C.P (lone (Frame.enter C.P f ⟨args'⟩ .deferred) (c₀ :: cs) w1) (lone (b.atR a1 [.code c2]) ({ c₀ with mode := m' } :: cs) w1) := by
    rw [henter]
    exact .head (fenced_any _) stepR_seq harr1
  obtain ⟨e2, a2, w2, ⟨e, σ2, ds2, H2, Γ2, hQ2, hX2, hS2, hL2⟩, harr2⟩ := vc_sound (rn := none) (n0 := H.next) hbf c2 σ1 [] H _ Γ a1 w1 (Nat.le_refl _) rfl hR hS1 hv1 [] ({ c₀ with mode := m' } :: cs)
  have hle := hL2.le hR
  have hmr2 := MR_mono hle hmr
  unfold FinD at hQ2
  split at hQ2 <;> try exact hQ2.elim
  have hdf := hS2.df
  simp only [DRL] at hdf
  have ret : ∀ (fr : Frame), fr = { b.atR a2 [] with mode := .returning } ∨ (∃ todo, fr = { b.atR a2 todo with mode := .returning }) → resV C σ2 H2 fn.results.toList (fun vs => EndN H.next (fun e H' => Q e (recA u).2 H') (.returned (tupA vs)) H2) →
      StepsIn (Machine.fenced C.P (Fz none)) C.P (lone (b.atR a1 [.code c2]) ({ c₀ with mode := m' } :: cs) w1) (lone fr ({ c₀ with mode := m' } :: cs) w2) →
      ∃ e u' w' fr, PostD C Γ H w1 Q e u' w' ∧ ComesIn (Machine.fenced C.P (Fz none)) C.P (lone (Frame.enter C.P f ⟨args'⟩ .deferred) (c₀ :: cs) w1) (lone fr ({ c₀ with mode := u' } :: cs) w') e ∧ fr.kind = .deferred ∧ fr.fn = f ∧ fr.going C.P w' e := by
    intro fr hfr hr hs
    obtain ⟨vs, vs', k1, k2, k3⟩ := resV_sound hL2.1 hS2 hr
    refine ⟨.returned (tup vs'), m', w2, fr, PostD_gc hdata k1 ⟨_, rfl, VR_tup k2⟩ hmr2 hL2, StepsIn.trans s0 hs, ?_, ?_, ?_⟩
    · rcases hfr with rfl | ⟨todo, rfl⟩ <;> rfl
    · rcases hfr with rfl | ⟨todo, rfl⟩ <;> rfl
    · rcases hfr with rfl | ⟨todo, rfl⟩ <;> exact ⟨rfl, hdf, fn, hf, run_results k3⟩
  cases e with
  | normal =>
    simp only [XR] at hX2; subst hX2
    exact ret _ (.inl rfl) hQ2 (StepsIn.trans harr2 (.one (fenced_any _) (stepR_end rfl)))
  | ret =>
    simp only [XR] at hX2; subst hX2
    obtain ⟨todo, hs⟩ := harr2.1 rfl
    exact ret _ (.inr ⟨todo, rfl⟩) hQ2 hs
  | panic ch =>
    simp only [XR] at hX2
    obtain ⟨ch', rfl, hp⟩ := hX2
    obtain ⟨todo, hs⟩ := harr2
    exact ⟨.panicked ch', m', w2, _, PostD_gc hdata hQ2 ⟨ch', rfl, hp⟩ hmr2 hL2, StepsIn.trans s0 hs, rfl, rfl, rfl, hdf, fn, hf⟩
  | exit i => exact hQ2.elim
  | goto i => exact hQ2.elim
end
end Go.Proofs.YtemlkodkohgmmaaDoor.Y
