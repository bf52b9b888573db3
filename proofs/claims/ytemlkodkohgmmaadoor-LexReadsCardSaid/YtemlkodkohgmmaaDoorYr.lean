/- The end of a function: deferred calls, results. Contracts out of conditions. -/
import Derived.Test.YtemlkodkohgmmaaDoorYq
namespace Go.Proofs.YtemlkodkohgmmaaDoor.Y
open Go

/-- How a function is being left. -/
inductive Md where
  | ret
  | pan (ch : List AP)

def MR (Γ : Gm) : Md → FrameMode → Prop
  | .ret, m => m = .returning
  | .pan ch, m => ∃ ch', m = .panicking ch' ∧ PEL Γ ch ch'
theorem MR_mono {a b : Gm} (h : a.le b) {u : Md} {m : FrameMode} (hm : MR a u m) : MR b u m := by
  cases u with
  | ret => exact hm
  | pan ch => obtain ⟨ch', h1, h2⟩ := hm; exact ⟨ch', h1, PEL_mono h h2⟩

def settleA : Md → Md
  | .pan (⟨_, true⟩ :: _) => .ret
  | m => m
def raisedA (u : Md) (ch : List AP) : Md :=
  match u with
  | .pan old => .pan (ch ++ old)
  | .ret => .pan ch

theorem PEL_append {Γ : Gm} : ∀ {a b : List AP} {a' b' : List PanicEntry}, PEL Γ a a' → PEL Γ b b' → PEL Γ (a ++ b) (a' ++ b')
  | [], _, _, _, h, k => by simp only [PEL] at h; subst h; exact k
  | p :: ps, _, _, _, h, k => by
    simp only [PEL] at h
    obtain ⟨q, qs, rfl, h1, h2⟩ := h
    simp only [List.cons_append, PEL]
    exact ⟨q, _, rfl, h1, PEL_append h2 k⟩
theorem PEL_goexit {Γ : Gm} : ∀ {a : List AP} {a' : List PanicEntry}, PEL Γ a a' → a'.dropWhile (!·.goexit) = []
  | [], _, h => by simp only [PEL] at h; subst h; rfl
  | p :: ps, _, h => by
    simp only [PEL] at h
    obtain ⟨q, qs, rfl, h1, h2⟩ := h
    rw [List.dropWhile_cons]
    simp [h1.2.2, PEL_goexit h2]
theorem settle_sound {Γ : Gm} {u : Md} {m : FrameMode} (h : MR Γ u m) : MR Γ (settleA u) (settle m) := by
  cases u with
  | ret => simp only [MR] at h; subst h; rfl
  | pan ch =>
    obtain ⟨ch', rfl, hc⟩ := h
    match ch, hc with
    | [], hc => simp only [PEL] at hc; subst hc; exact ⟨[], rfl, rfl⟩
    | ⟨v, true⟩ :: r, hc =>
      simp only [PEL] at hc
      obtain ⟨⟨qv, qr, qg⟩, qs, rfl, ⟨h1, h2, h3⟩, h4⟩ := hc
      simp only at h2
      subst h2
      simp only [settleA, MR, settle, PEL_goexit h4]
    | ⟨v, false⟩ :: r, hc =>
      have hc' := hc
      simp only [PEL] at hc
      obtain ⟨⟨qv, qr, qg⟩, qs, rfl, ⟨h1, h2, h3⟩, h4⟩ := hc
      simp only at h2
      subst h2
      exact ⟨_, rfl, hc'⟩
theorem raised_sound {Γ : Gm} {u : Md} {m : FrameMode} (h : MR Γ u m) {ch : List AP} {ch' : List PanicEntry} (hc : PEL Γ ch ch') : MR Γ (raisedA u ch) (raised m ch') := by
  cases u with
  | ret => simp only [MR] at h; subst h; exact ⟨ch', rfl, hc⟩
  | pan old =>
    obtain ⟨old', rfl, ho⟩ := h
    exact ⟨ch' ++ old', rfl, PEL_append hc ho⟩

section
variable (C : Cx)

/-- What holds behind a deferred call. -/
def PostD (Γ : Gm) (H : Hp) (w : World) (Q : AE → Md → Hp → Prop) (e' : Ending) (m' : FrameMode) (w' : World) : Prop :=
  ∃ e u H' Γ', Q e u H' ∧ ER Γ' e e' ∧ MR Γ' u m' ∧ Later C H.next Γ H w Γ' H' w'

/-- A contract of a function that is called as a deferred one. -/
def HoldsD (g : FuncId) (args : List AV) (u : Md) (H : Hp) (Q : AE → Md → Hp → Prop) : Prop :=
  ∀ (Γ : Gm) (w : World) (args' : List Value) (m : FrameMode), R C Γ H w → VRL Γ args args' → MR Γ u m →
    (callFunc g ⟨args'⟩).run C.P w = .ok (.enter g ⟨args'⟩) w ∧ CallsDIn (Fz none) 0 C.P g ⟨args'⟩ m w (PostD C Γ H w Q)

def tupA : List AV → AV
  | [v] => v
  | vs => .tup vs

def resV (σ : Sg) (H : Hp) : List ResultVar → (List AV → Prop) → Prop
  | [], K => K []
  | .tmp t :: r, K => resV σ H r fun vs => K (σ t :: vs)
  | .cell a t :: r, K => (popLoad C.P t (σ a) (lget H.l)).Then fun v => resV σ H r fun vs => K (v :: vs)

/-- What is asked on the way out. -/
def LeaveA (σ : Sg) (rs : List ResultVar) (Q : AE → Hp → Prop) : List AD → Md → Hp → Prop
  | [], .ret, H => resV C σ H rs fun vs => Q (.returned (tupA vs)) H
  | [], .pan ch, H => Q (.panicked ch) H
  | .col n :: ds, u, H => match lget H.l n with
    | some o => match o.c with
      | .df => LeaveA σ rs Q ds u { H with l := ldel H.l n }
      | _ => False
    | none => False
  | .fn g cap args :: ds, u, H => HoldsD C g (args ++ cap) u H fun e u' H' => match e with
    | .returned _ => LeaveA σ rs Q ds (settleA u') H'
    | .panicked ch => LeaveA σ rs Q ds (raisedA u' ch) H'

def Fin (rs : List ResultVar) (Q : AE → Hp → Prop) : KQ := fun e σ ds H =>
  match e with
  | .normal => LeaveA C σ rs Q ds .ret H
  | .ret => LeaveA C σ rs Q ds .ret H
  | .panic ch => LeaveA C σ rs Q ds (.pan ch) H
  | _ => False
end

/-- On the way out, in the world. -/
def LeavesB (P : Program) (fn : Func) (tmps : Array Value) (Q : Ending → World → Prop) : List Deferred → FrameMode → World → Prop
  | [], .returning, w => ∃ v, (results fn tmps).run P w = .ok v w ∧ Q (.returned v) w
  | [], .panicking chain, w => Q (.panicked chain) w
  | [], .run, _ => False
  | d :: ds, u, w => u ≠ .run ∧ ((∃ blk w', d = { target := .collected blk, args := #[] } ∧ (Instr.takeDeferred blk).run P w = .ok [] w' ∧ LeavesB P fn tmps Q ds u w') ∨
      (∃ fv cap f args, d.target = .fn fv cap ∧ (invoke d.target d.args).run P w = .ok (.enter f args) w ∧
        CallsDIn (Fz none) 0 P f args u w fun
          | .returned _, u', w' => LeavesB P fn tmps Q ds (settle u') w'
          | .panicked chain, u', w' => LeavesB P fn tmps Q ds (raised u' chain) w'
          | .outgrown, _, _ => False))

theorem step_collected {P : Program} {fr : Frame} {cs : List Frame} {w w' : World} {blk : Nat} {ds : List Deferred} (hm : fr.mode ≠ .run) (hd : fr.defers = { target := .collected blk, args := #[] } :: ds)
    (ht : (Instr.takeDeferred blk).run P w = .ok [] w') : step P (lone fr cs w) = .next (lone { fr with defers := ds } cs w') := by
  refine step_lone_go ?_
  cases hmode : fr.mode with
  | run => exact absurd hmode hm
  | returning => simp [stepG, unwind, hmode, hd, Sem.runT_eq, ht]
  | panicking chain => simp [stepG, unwind, hmode, hd, Sem.runT_eq, ht]

theorem leavesB_steps {P : Program} {fn : Func} {tmps : Array Value} {Q : Ending → World → Prop} : ∀ (ds : List Deferred) (u : FrameMode) (w : World) (fr : Frame) (cs : List Frame), fr.mode = u → fr.defers = ds → fr.tmps = tmps → P.funcs[fr.fn]? = some fn → fr.kind = .normal → LeavesB P fn tmps Q ds u w →
    ∃ e w' fr', Q e w' ∧ ComesIn (Machine.fenced P (Fz none)) P (lone fr cs w) (lone fr' cs w') e ∧ fr'.fn = fr.fn ∧ fr'.leaving P w' e := by
  intro ds
  induction ds with
  | nil =>
    intro u w fr cs hu hd ht hf hk h
    cases u with
    | run => exact h.elim
    | returning =>
      obtain ⟨v, hr, hR⟩ := h
      exact ⟨.returned v, w, fr, hR, StepsIn.refl _, rfl, hu, hd, hk, fn, hf, ht ▸ hr⟩
    | panicking chain => exact ⟨.panicked chain, w, fr, h, StepsIn.refl _, rfl, hu, hd, fn, hf⟩
  | cons d ds ih =>
    intro u w fr cs hu hd ht hf hk h
    obtain ⟨hrun, ⟨blk, w1, rfl, hcol, h⟩ | ⟨fv, cap, f, args, htar, hinv, _, hcall⟩⟩ := h
    · have h1 := step_collected (cs := cs) (hu ▸ hrun) hd hcol
      obtain ⟨e', w'', fr', hR', hs', hfn', hl'⟩ := ih u w1 { fr with defers := ds } cs hu rfl ht hf hk h
      exact ⟨e', w'', fr', hR', ComesIn.of_steps (.one (fenced_any _) h1) hs', hfn', hl'⟩
    · have h1 := step_defer (cs := cs) (hu ▸ hrun) hd htar hinv
      obtain ⟨e, u', w', frX, hR, hsteps, hkX, hfX, hgo⟩ := hcall { fr with defers := ds } cs hu (room_Fz _ _)
      cases e with
      | returned v =>
        have h2 := step_going_returned (c := { { fr with defers := ds } with mode := u' }) (cs := cs) hkX hgo
        obtain ⟨e', w'', fr', hR', hs', hfn', hl'⟩ := ih (settle u') w' { { { fr with defers := ds } with mode := u' } with mode := settle u' } cs rfl rfl ht hf hk hR
        exact ⟨e', w'', fr', hR', ComesIn.of_steps (.head (fenced_any _) h1 (StepsIn.trans hsteps (.one (fenced_any _) h2))) hs', hfn', hl'⟩
      | panicked chain =>
        have h2 := step_going_panicked (c := { { fr with defers := ds } with mode := u' }) (cs := cs) hgo
        obtain ⟨e', w'', fr', hR', hs', hfn', hl'⟩ := ih (raised u' chain) w' { { { fr with defers := ds } with mode := u' } with mode := raised u' chain } cs rfl rfl ht hf hk hR
        exact ⟨e', w'', fr', hR', ComesIn.of_steps (.head (fenced_any _) h1 (StepsIn.trans hsteps (.one (fenced_any _) h2))) hs', hfn', hl'⟩
      | outgrown => exact hR.elim

section
variable {C : Cx}

theorem resV_sound {Γ : Gm} {H : Hp} {w : World} {σ : Sg} {ds : List AD} {N : Nat} {a : Act} (hR : R C Γ H w) (hS : SR Γ σ ds N a) : ∀ {rs : List ResultVar} {K : List AV → Prop}, resV C σ H rs K →
    ∃ vs vs', K vs ∧ VRL Γ vs vs' ∧ (rs.mapM (fun r => match r with | .tmp t => pure (a.tmps.getD t undef) | .cell x t => do loadVar t (← asAddr (a.tmps.getD x undef)) : ResultVar → Sem Value)).run C.P w = .ok vs' w
  | [], K, h => ⟨[], [], h, rfl, rfl⟩
  | .tmp t :: r, K, h => by
    simp only [resV] at h
    obtain ⟨vs, vs', h1, h2, h3⟩ := resV_sound hR hS h
    refine ⟨_, a.tmps.getD t undef :: vs', h1, ⟨_, _, rfl, hS.tm t, h2⟩, ?_⟩
    rw [List.mapM_cons]
    simp only [Sem.run_bind, Sem.run_pure, Result.andThen_ok]
    rw [h3]
    rfl
  | .cell x t :: r, K, h => by
    simp only [resV] at h
    obtain ⟨v, hy, h⟩ := PRes.yld h
    obtain ⟨vs, vs', h1, h2, h3⟩ := resV_sound hR hS h
    obtain ⟨v', h4, h5⟩ := load_sound hR (hS.tm x) hy
    refine ⟨_, v' :: vs', h1, ⟨_, _, rfl, h5, h2⟩, ?_⟩
    rw [List.mapM_cons]
    have hl : (do loadVar t (← asAddr (a.tmps.getD x undef)) : Sem Value).run C.P w = .ok v' w := by
      generalize a.tmps.getD x undef = p at h4 ⊢
      unfold Instr.loadAt at h4
      cases p with
      | pointer q => cases q with
        | none => simp [Instr.sureAddr, stuck, Sem.run] at h4
        | some q => simpa [Instr.sureAddr, asAddr] using h4
      | _ => simp [Instr.sureAddr, stuck, Sem.run] at h4
    simp only [Sem.run_bind] at hl ⊢
    rw [hl]
    simp only [Result.andThen_ok]
    rw [h3]
    rfl

def tup : List Value → Value
  | [v] => v
  | vs => .tuple ⟨vs⟩

theorem run_results {P : Program} {fn : Func} {tmps : Array Value} {w : World} {vs' : List Value}
    (h : (fn.results.toList.mapM (fun r => match r with | .tmp t => pure (tmps.getD t undef) | .cell x t => do loadVar t (← asAddr (tmps.getD x undef)) : ResultVar → Sem Value)).run P w = .ok vs' w) :
    (results fn tmps).run P w = .ok (tup vs') w := by
  obtain ⟨rs, hrs⟩ : ∃ rs, fn.results = ⟨rs⟩ := ⟨fn.results.toList, by simp⟩
  rw [hrs] at h
  simp only at h
  have e : ∀ (g : ResultVar → Sem Value), (∀ r, g r = (match r with | .tmp t => pure (tmps.getD t undef) | .cell x t => do loadVar t (← asAddr (tmps.getD x undef)))) → (rs.mapM g).run P w = .ok vs' w := by
    intro g hg
    rw [show g = (fun r => match r with | .tmp t => pure (tmps.getD t undef) | .cell x t => do loadVar t (← asAddr (tmps.getD x undef))) from funext hg]
    exact h
  have fin : ∀ (g : ResultVar → Sem Value), (rs.mapM g).run P w = .ok vs' w → (do let vs ← (⟨rs⟩ : Array ResultVar).mapM g; pure (if h : vs.size = 1 then vs[0] else .tuple vs) : Sem Value).run P w = .ok (tup vs') w := by
    intro g hg
    rw [List.mapM_toArray]
    simp [hg]
    match vs' with
    | [] => rfl
    | [v] => rfl
    | v1 :: v2 :: r => simp [tup]
  unfold results
  rw [hrs]
  exact fin _ (e _ fun r => by cases r <;> rfl)

theorem VR_tup {Γ : Gm} {vs : List AV} {vs' : List Value} (h : VRL Γ vs vs') : VR Γ (tupA vs) (tup vs') := by
  match vs, h with
  | [], h => simp only [VRL] at h; subst h; simp only [tupA, VR, tup]; exact ⟨_, rfl, rfl⟩
  | [v], h =>
    simp only [VRL] at h
    obtain ⟨u, us, rfl, h1, rfl⟩ := h
    exact h1
  | v1 :: v2 :: r, h =>
    have h' := h
    simp only [VRL] at h
    obtain ⟨u, us, rfl, h1, u2, us2, rfl, h2, h3⟩ := h
    simp only [tupA, VR]
    exact ⟨_, rfl, h'⟩

theorem run_takeDeferred {P : Program} {w : World} {b : Nat} (h : w.heap[b]? = some (.deferred (some []))) : (Instr.takeDeferred b).run P w = .ok [] (putBlk w b (.deferred none)) := by
  simp only [Instr.takeDeferred, getObj, setObj, Sem.run_bind, Sem.run, h, Result.andThen_ok, putBlk]
  rfl

/-- A block that is given up may be written. -/
theorem R.drop {Γ : Gm} {H : Hp} {w : World} (h : R C Γ H w) {n : Nat} {o : AObj} {q : Pl} {x : Obj} (hn : lget H.l n = some o) (hfr : o.fr = false) (hq : Γ.nm n = some q) (hnl : q.nl = false) :
    Later C H.next Γ H w Γ { H with l := ldel H.l n } (putBlk w q.blk x) := by
  have hownq : Own Γ H q.blk := ⟨n, o, q, hn, hfr, hq, hnl, rfl⟩
  refine ⟨⟨h.glob, h.fresh, fun b arr hfz => ?_, fun m p hp => ?_, fun m p q1 hp => h.own m p q1 (lget_ldel.1 hp).2, fun m p m' p' q1 q2 hp hp' => h.apart m p m' p' q1 q2 (lget_ldel.1 hp).2 (lget_ldel.1 hp').2⟩, Ext.refl _ _, Nat.le_refl _, ⟨rfl, rfl, rfl, by simp [putBlk], fun k hk hno => putBlk_other (fun e => hno (e ▸ hownq)), fun k hk => ?_, Fzn.le_refl _, fun k a hk => .inl hk⟩⟩
  · obtain ⟨t, z, e⟩ := h.fzok b arr hfz
    refine ⟨t, z, ?_⟩
    rw [putBlk_other (fun e' => ?_)]
    · exact e
    · subst e'; rw [h.own n o q hn hfr hq hnl] at hfz; cases hfz
  · obtain ⟨hne, hp⟩ := lget_ldel.1 hp
    obtain ⟨q1, e1, e2⟩ := h.objs m p hp
    exact ⟨q1, e1, e2.ext (Gm.le_refl _) fun hl => putBlk_other (Ne.symm (h.apart n o m p q q1 hn hp (Ne.symm hne) hq e1 hfr hnl hl))⟩
  · obtain ⟨m, p, q1, h1, h2⟩ := hk
    exact .inr ⟨m, p, q1, (lget_ldel.1 h1).2, h2⟩

theorem leave_sound {fn : Func} {σ : Sg} {N : Nat} {Q : AE → Hp → Prop} {Γ0 : Gm} {H0 : Hp} {w0 : World} : ∀ (ds : List AD) (u : Md) (H : Hp) (Γ : Gm) (w : World) (a : Act) (m : FrameMode), LeaveA C σ fn.results.toList Q ds u H → R C Γ H w → SR Γ σ ds N a → MR Γ u m → Later C H0.next Γ0 H0 w0 Γ H w → LeavesB C.P fn a.tmps (Post C Γ0 H0 w0 Q) a.defers m w
  | [], u, H, Γ, w, a, m, hl, hR, hS, hM, hL => by
    have hdf := hS.df
    simp only [DRL] at hdf
    rw [hdf]
    cases u with
    | ret =>
      simp only [MR] at hM
      subst hM
      simp only [LeaveA] at hl
      obtain ⟨vs, vs', k1, k2, k3⟩ := resV_sound hR hS hl
      exact ⟨tup vs', run_results k3, _, H, Γ, k1, ⟨_, rfl, VR_tup k2⟩, hL⟩
    | pan ch =>
      obtain ⟨ch', rfl, hc⟩ := hM
      simp only [LeaveA] at hl
      exact ⟨_, H, Γ, hl, ⟨ch', rfl, hc⟩, hL⟩
  | .col n :: ds, u, H, Γ, w, a, m, hl, hR, hS, hM, hL => by
    have hdf := hS.df
    simp only [DRL, DR] at hdf
    obtain ⟨d, dd, hdd, ⟨q, hq, rfl⟩, hds⟩ := hdf
    rw [hdd]
    simp only [LeaveA] at hl
    split at hl <;> try exact hl.elim
    rename_i o ho
    split at hl <;> try exact hl.elim
    rename_i hc
    obtain ⟨q', hq', hob⟩ := hR.objs n o ho
    rw [hq] at hq'
    injection hq' with eq
    subst eq
    obtain ⟨t, fr, c⟩ := o
    simp only at hc
    subst hc
    simp only [ObjR] at hob
    obtain ⟨hnl, hfr, hob⟩ := hob
    have hdrop := hR.drop (x := .deferred none) ho hfr hq hnl
    have hmr : m ≠ .run := by
      cases u with
      | ret => simp only [MR] at hM; subst hM; simp
      | pan ch => obtain ⟨ch', rfl, _⟩ := hM; simp
    refine ⟨hmr, .inl ⟨q.blk, _, rfl, run_takeDeferred hob, ?_⟩⟩
    exact leave_sound ds u _ Γ _ { a with defers := dd } m hl hdrop.1 ⟨hS.size, hS.tm, hds⟩ hM (hL.trans (hdrop.mono hL.2.2.1))
  | .fn g cap args :: ds, u, H, Γ, w, a, m, hl, hR, hS, hM, hL => by
    have hdf := hS.df
    simp only [DRL, DR] at hdf
    obtain ⟨d, dd, hdd, ⟨cap', args', rfl, h1, h2⟩, hds⟩ := hdf
    rw [hdd]
    simp only [LeaveA] at hl
    have hmr : m ≠ .run := by
      cases u with
      | ret => simp only [MR] at hM; subst hM; simp
      | pan ch => obtain ⟨ch', rfl, _⟩ := hM; simp
    obtain ⟨k1, k2⟩ := hl Γ w (args' ++ cap').toList m hR (by rw [Array.toList_append]; exact VRL_append h2 h1) hM
    have harr : (⟨(args' ++ cap').toList⟩ : Array Value) = args' ++ cap' := by simp
    rw [harr] at k1 k2
    refine ⟨hmr, .inr ⟨.func g, cap', g, args' ++ cap', rfl, k1, k2.mono ?_⟩⟩
    rintro e' m' w' ⟨e, u', H', Γ', hq, hE, hM', hL'⟩
    have hLL := hL.trans (hL'.mono hL.2.2.1)
    have hS' : SR Γ' σ ds N { a with defers := dd } := ⟨hS.size, fun t => VR_mono (hL'.le hR) _ _ (hS.tm t), DRL_mono (hL'.le hR) hds⟩
    cases e with
    | returned v =>
      obtain ⟨v', rfl, _⟩ := hE
      exact leave_sound ds (settleA u') H' Γ' w' { a with defers := dd } _ hq hL'.1 hS' (settle_sound hM') hLL
    | panicked ch =>
      obtain ⟨ch', rfl, hch⟩ := hE
      exact leave_sound ds (raisedA u' ch) H' Γ' w' { a with defers := dd } _ hq hL'.1 hS' (raised_sound hM' hch) hLL

def argS : Nat → List AV → List (Nat × AV)
  | _, [] => []
  | k, v :: vs => (k, v) :: argS (k + 1) vs
theorem argS_get : ∀ (args : List AV) (k : Nat) (t : Nat), sets (fun _ => und) (argS k args) t = if k ≤ t then args.getD (t - k) und else und
  | [], k, t => by simp [argS, sets]
  | v :: vs, k, t => by
    simp only [argS, sets]
    by_cases e : t = k
    · subst e
      rw [upd_same]
      simp
    · rw [upd_other _ _ e, argS_get vs (k + 1) t]
      by_cases h : k ≤ t
      · rw [if_pos (by omega), if_pos h, show t - k = (t - (k + 1)) + 1 by omega]
        simp
      · rw [if_neg (by omega), if_neg h]

theorem run_enter {P : Program} {f : FuncId} {fn : Func} {c : Code} (hf : P.funcs[f]? = some fn) (hname : (fn.name == "runtime.NumGoroutine") = false) (hb : fn.body = some c) (args : Array Value) (w : World) :
    (callFunc f args).run P w = .ok (.enter f args) w := by
  have h1 : fn.name ≠ "runtime.NumGoroutine" := by simpa using hname
  simp [callFunc, hf, h1, hb]

theorem entry_SR {Γ : Gm} {args : List AV} {args' : List Value} {n : Nat} (hA : VRL Γ args args') (hN : args.length ≤ n) : SR Γ (sets (fun _ => und) (argS 0 args)) [] n { tmps := (⟨args'⟩ : Array Value) ++ Array.replicate (n - args'.length) undef, defers := [] } := by
  have hlen := VRL_length hA
  refine ⟨by simp; omega, fun t => ?_, rfl⟩
  rw [argS_get, if_pos (Nat.zero_le _), Nat.sub_zero, Array.getD_eq_getD_getElem?, Array.getElem?_append]
  simp only [List.size_toArray, List.getElem?_toArray]
  rw [List.getD_eq_getElem?_getD]
  by_cases ht : t < args'.length
  · rw [if_pos ht]
    have : args[t]? = some (args[t]'(by omega)) := List.getElem?_eq_getElem (by omega)
    rw [this]
    obtain ⟨v', h1, h2⟩ := VRL_get hA this
    rw [h1]
    exact h2
  · rw [if_neg ht, List.getElem?_eq_none (by omega)]
    have : ((Array.replicate (n - args'.length) undef)[t - args'.length]?).getD undef = undef := by
      rw [Array.getElem?_replicate]
      split <;> rfl
    rw [this]
    exact VR_undef Γ

/-- A CONTRACT OUT OF THE CONDITIONS of the function's body. -/
theorem holds_of_vc {f : FuncId} {fn : Func} {c : Code} {args : List AV} {H : Hp} {Q : AE → Hp → Prop} (hf : C.P.funcs[f]? = some fn) (hname : (fn.name == "runtime.NumGoroutine") = false) (hb : fn.body = some c)
    (hN : Nat.ble args.length fn.ntmps = true) (hv : vc C none H.next fn.ntmps c (sets (fun _ => und) (argS 0 args)) [] H (Fin C fn.results.toList Q)) : HoldsG C f args H Q := by
  intro Γ w args' hR hA
  have hlen := VRL_length hA
  refine ⟨run_enter hf hname hb _ _, (callsIn_wide (n := 0)).1 ⟨trivial, fun cs _ => ?_⟩⟩
  let b : Frame := { (default : Frame) with fn := f, kind := .normal, roundOf := none }
  have hbf : (C.P.funcs[b.fn]?).isSome = true := by show (C.P.funcs[f]?).isSome = true; rw [hf]; rfl
  have henter : Frame.enter C.P f ⟨args'⟩ .normal = b.atR { tmps := (⟨args'⟩ : Array Value) ++ Array.replicate (fn.ntmps - args'.length) undef, defers := [] } [.code c] := by
    simp [Frame.enter, Frame.atR, hf, hb, b]
  have hS := entry_SR (n := fn.ntmps) hA (Nat.le_of_ble_eq_true hN)
  obtain ⟨e1, a', w', ⟨e, σ', ds', H', Γ', h1, h2, h3, h4⟩, harr⟩ := vc_sound (rn := none) (n0 := H.next) hbf c _ [] H _ Γ _ w (Nat.le_refl _) rfl hR hS hv [] cs
  rw [← henter] at harr
  have fin : ∀ (u : Md) (m : FrameMode) (todo : List Item), LeaveA C σ' fn.results.toList Q ds' u H' → MR Γ' u m → StepsIn (Machine.fenced C.P (Fz none)) C.P (lone (Frame.enter C.P f ⟨args'⟩ .normal) cs w) (lone { b.atR a' todo with mode := m } cs w') →
      ∃ e w'' fr, Post C Γ H w Q e w'' ∧ ComesIn (Machine.fenced C.P (Fz none)) C.P (lone (Frame.enter C.P f ⟨args'⟩ .normal) cs w) (lone fr cs w'') e ∧ fr.fn = f ∧ fr.leaving C.P w'' e := by
    intro u m todo hl hm hs
    have := leave_sound ds' u H' Γ' w' a' m hl h4.1 h3 hm h4
    obtain ⟨e', w'', fr', hR', hs', hfn', hl'⟩ := leavesB_steps (P := C.P) a'.defers m w' { b.atR a' todo with mode := m } cs rfl rfl rfl hf rfl this
    exact ⟨e', w'', fr', hR', ComesIn.of_steps hs hs', hfn', hl'⟩
  cases e with
  | normal =>
    simp only [XR] at h2; subst h2
    exact fin .ret .returning [] h1 rfl (StepsIn.trans harr (.one (fenced_any _) (stepR_end rfl)))
  | ret =>
    simp only [XR] at h2; subst h2
    obtain ⟨todo, hs⟩ := harr.1 rfl
    exact fin .ret .returning todo h1 rfl hs
  | panic ch =>
    simp only [XR] at h2
    obtain ⟨ch', rfl, hp⟩ := h2
    obtain ⟨todo, hs⟩ := harr
    exact fin (.pan ch) (.panicking ch') todo h1 ⟨ch', rfl, hp⟩ hs
  | exit i => exact h1.elim
  | goto i => exact h1.elim
end
end Go.Proofs.YtemlkodkohgmmaaDoor.Y
