/- Rounds of a range over a function; the end of a function. -/
import Derived.Test.YtemlkodkohgmmaaDoorYp
import Derived.RecoverIn
namespace Go.Proofs.YtemlkodkohgmmaaDoor.Y
open Go

section
variable {C : Cx}

def parS : Sg → List Tmp → List AV → Sg
  | σ, p :: ps, v :: vs => parS (upd σ p v) ps vs
  | σ, _, _ => σ

/-- What is asked at a round's end. -/
def roundFin (L : Nat) (Q : AE → Hp → Prop) : KQ := fun e _ ds H =>
  match ds with
  | [] => match e with
    | .panic ch => Q (.panicked ch) H
    | e => match lget H.l L with
      | some o => match o.c with
        | .lp .busy _ lim N s ps as bd dn => match e with
          | .normal => Q (.returned (vB true)) { H with l := lset H.l L { o with c := .lp .ready none lim N s ps as bd dn } }
          | .ret => Q (.returned (vB false)) { H with l := lset H.l L { o with c := .lp .done (some .ret) lim N s ps as bd dn } }
          | .exit i => Q (.returned (vB false)) { H with l := lset H.l L { o with c := .lp .done (some (.exit i)) lim N s ps as bd dn } }
          | .goto i => Q (.returned (vB false)) { H with l := lset H.l L { o with c := .lp .done (some (.goto i)) lim N s ps as bd dn } }
          | .panic _ => False
        | _ => False
      | none => False
  | _ => False

/-- A round, from its assignments on. -/
def roundBeg (C : Cx) (L n0 N : Nat) (bd : Code) (Q : AE → Hp → Prop) : KQ := fun e σ ds H =>
  match e, ds with
  | .normal, [] => match lget H.l L with
    | some o => match o.c with
      | .lp .ready p lim n a b c d dn => vc C (some L) n0 N bd σ [] { H with l := lset H.l L { o with c := .lp .busy p lim n a b c d dn } } (roundFin L Q)
      | _ => False
    | none => False
  | _, _ => False

theorem parS_sound {Γ : Gm} {N : Nat} : ∀ (ps : List Tmp) (vs : List AV) (vs' : List Value) (σ : Sg) (tm : Array Value), ps.all (fun p => Nat.blt p N) = true → VRL Γ vs vs' → tm.size = N → (∀ t, VR Γ (σ t) (tm.getD t undef)) →
    (((ps.zip vs').foldl (fun tmps (x : Tmp × Value) => tmps.setIfInBounds x.1 x.2) tm).size = N ∧ ∀ t, VR Γ (parS σ ps vs t) (((ps.zip vs').foldl (fun tmps (x : Tmp × Value) => tmps.setIfInBounds x.1 x.2) tm).getD t undef))
  | [], vs, vs', σ, tm, _, _, hs, h => by
    cases vs <;> exact ⟨hs, h⟩
  | p :: ps, [], vs', σ, tm, _, hv, hs, h => by
    simp only [VRL] at hv
    subst hv
    exact ⟨hs, h⟩
  | p :: ps, v :: vs, vs', σ, tm, hp, hv, hs, h => by
    simp only [VRL] at hv
    obtain ⟨u, us, rfl, h1, h2⟩ := hv
    simp only [List.all_cons, Bool.and_eq_true] at hp
    have hlt : p < N := by simpa using hp.1
    simp only [List.zip_cons_cons, List.foldl_cons, parS]
    refine parS_sound ps vs us _ _ hp.2 h2 (by simp [hs]) fun t => ?_
    rw [Array.getD_eq_getD_getElem?]
    by_cases e : t = p
    · subst e
      rw [upd_same, Array.getElem?_setIfInBounds_self_of_lt (by rw [hs]; exact hlt)]
      exact h1
    · rw [upd_other _ _ e, Array.getElem?_setIfInBounds_ne (Ne.symm e), ← Array.getD_eq_getD_getElem?]
      exact h t

theorem run_beginRound {P : Program} {w : World} {l : Nat} {r : Loop} (h : w.heap[l]? = some (.loop r)) (hs : r.state = .ready) : (Instr.beginRound l).run P w = .ok () (putBlk w l (.loop { r with state := .busy })) := by
  simp [Instr.beginRound, run_getLoop h, run_setLoop (r' := { r with state := .busy }) h, hs]
theorem run_endRound {P : Program} {w : World} {l : Nat} {r : Loop} (h : w.heap[l]? = some (.loop r)) (j : Option Code) : (Instr.endRound l j).run P w = .ok (.bool j.isNone) (putBlk w l (.loop { r with state := if j.isNone then .ready else .done, pending := j })) := by
  have h2 := run_setLoop (P := P) (r' := { r with state := if j.isNone then .ready else .done, pending := j }) h
  simp only [Instr.endRound, Sem.run_bind, run_getLoop h, Result.andThen_ok, h2]
  rfl

/-- The record is turned. -/
theorem setRec {Γ : Gm} {H : Hp} {w : World} {L : Nat} {q : Pl} {t : TypeId} {fr : Bool} {st st' : LoopState} {pend pend' : Option Code} {lim N : Nat} {s : Nat → AV} {ps : List Tmp} {as bd : Code} {dn : Nat} (h : R C Γ H w) (ho : lget H.l L = some ⟨t, fr, .lp st pend lim N s ps as bd dn⟩) (hq : Γ.nm L = some q) :
    ∃ fn tm qd, fr = false ∧ (C.P.funcs[fn]?).isSome = true ∧ w.heap[q.blk]? = some (.loop { state := st, pending := pend, fn := fn, tmps := tm, params := ⟨ps⟩, assign := as, body := bd, defers := qd }) ∧ (tm.size = N ∧ ∀ t, VR (Γ.cut lim) (s t) (tm.getD t undef)) ∧
      Later C H.next Γ H w Γ { H with l := lset H.l L ⟨t, fr, .lp st' pend' lim N s ps as bd dn⟩ } (putBlk w q.blk (.loop { state := st', pending := pend', fn := fn, tmps := tm, params := ⟨ps⟩, assign := as, body := bd, defers := qd })) := by
  obtain ⟨q', hq', hob⟩ := h.objs _ _ ho
  rw [hq] at hq'
  injection hq' with eq
  subst eq
  simp only [ObjR] at hob
  obtain ⟨hnl, hfr, fn, tm, qd, hfn, hob, hvl, hdn⟩ := hob
  subst hfr
  refine ⟨fn, tm, qd.blk, rfl, hfn, hob, hvl, h.repl ho rfl hq hnl (o' := ⟨t, false, .lp st' pend' lim N s ps as bd dn⟩) rfl ?_⟩
  simp only [ObjR]
  exact ⟨hnl, trivial, fn, tm, qd, hfn, putBlk_same hob, hvl, hdn⟩

theorem round_of_vc {L : Nat} {args : List AV} {H : Hp} {Q : AE → Hp → Prop} {t : TypeId} {fr : Bool} {pend : Option Code} {lim N : Nat} {s : Nat → AV} {ps : List Tmp} {as bd : Code} {dn : Nat} (ho : lget H.l L = some ⟨t, fr, .lp .ready pend lim N s ps as bd dn⟩) (hlt : Nat.blt L H.next = true)
    (hl : (Nat.beq args.length ps.length && ps.all (fun p => Nat.blt p N)) = true) (hv : vc C (some L) H.next N as (parS s ps args) [] H (roundBeg C L H.next N bd Q)) : RoundH C L args H Q := by
  intro Γ w args' ro hR hA
  simp only [Bool.and_eq_true] at hl
  have hlen := Nat.eq_of_beq_eq_true hl.1
  have hlt : L < H.next := by simpa using hlt
  obtain ⟨q, hq, _⟩ := hR.objs _ _ ho
  obtain ⟨fn, tm, qd, _, hfn, hob, hvl, _⟩ := setRec (st' := .ready) (pend' := none) hR ho hq
  have hal := VRL_length hA
  refine ⟨q, fn, (ps.zip args').foldl (fun tmps (x : Tmp × Value) => tmps.setIfInBounds x.1 x.2) tm, as, bd, hq, ?_, ⟨trivial, fun c cs _ => ?_⟩⟩
  · have hsz : args'.length = ps.length := by omega
    simp [Instr.yield, run_getLoop hob, hsz]
  · let b : Frame := { (default : Frame) with fn := fn, kind := .normal, roundOf := some q.blk }
    have hbf : (C.P.funcs[b.fn]?).isSome = true := hfn
    obtain ⟨hs1, hs2⟩ := parS_sound (Γ := Γ) ps args args' s tm hl.2 hA hvl.1 (fun t => VR_mono (Gm.cut_le Γ lim) _ _ (hvl.2 t))
    have hS : SR Γ (parS s ps args) [] N { tmps := (ps.zip args').foldl (fun tmps (x : Tmp × Value) => tmps.setIfInBounds x.1 x.2) tm, defers := [] } := ⟨hs1, hs2, rfl⟩
    have hro : RO H.next Γ (some L) b.roundOf := ⟨hlt, q, hq, rfl⟩
    obtain ⟨e1, a1, w1, ⟨e, σ1, ds1, H1, Γ1, hQ1, hX1, hS1, hL1⟩, harr⟩ := vc_sound hbf as _ [] H _ Γ _ w (Nat.le_refl _) hro hR hS hv [.beginRound, .code bd] (c :: cs)
    have hb0 : Frame.round q.blk fn ((ps.zip args').foldl (fun tmps (x : Tmp × Value) => tmps.setIfInBounds x.1 x.2) tm) as bd .normal = b.atR { tmps := (ps.zip args').foldl (fun tmps (x : Tmp × Value) => tmps.setIfInBounds x.1 x.2) tm, defers := [] } [.code as, .beginRound, .code bd] := by
      simp [Frame.round, Frame.atR, b]
    rw [← hb0] at harr
    -- a fence is as good as another one
    have conv : ∀ {m m' : Machine}, StepsIn (Machine.fenced C.P (Fz b.roundOf)) C.P m m' → StepsIn (Machine.fenced C.P (Fz ro)) C.P m m' := fun h => h
    unfold roundBeg at hQ1
    split at hQ1 <;> try exact hQ1.elim
    simp only [XR] at hX1
    subst hX1
    split at hQ1 <;> try exact hQ1.elim
    rename_i o1 ho1
    split at hQ1 <;> try exact hQ1.elim
    rename_i p1 lim1 n1 sg1 ps1 as1 bd1 dn1 hc1
    obtain ⟨t1, fr1, c1⟩ := o1
    simp only at hc1
    subst hc1
    have hq1 : Γ1.nm L = some q := by rw [hL1.2.1 L hlt]; exact hq
    obtain ⟨fn1, tm1, qd1, _, _, hob1, _, hLb⟩ := setRec (st' := .busy) (pend' := p1) hL1.1 ho1 hq1
    have hbr := run_beginRound (P := C.P) hob1 rfl
    have s1 : StepsIn (Machine.fenced C.P (Fz b.roundOf)) C.P (lone (b.atR a1 [.beginRound, .code bd]) (c :: cs) w1) (lone (b.atR a1 [.code bd]) (c :: cs) _) := .one (fenced_any _) (stepR_beginRound rfl hbr)
    have hLL1 : Later C H.next Γ H w Γ1 _ _ := hL1.trans (hLb.mono hL1.2.2.1)
    obtain ⟨e2, a2, w2, ⟨e', σ2, ds2, H2, Γ2, hQ2, hX2, hS2, hL2⟩, harr2⟩ := vc_sound hbf bd σ1 [] _ _ Γ1 a1 _ hLL1.2.2.1 (hro.ext hLL1.2.1) hLb.1 hS1 hQ1 [] (c :: cs)
    have hsteps := conv (StepsIn.trans harr s1)
    have hLL2 : Later C H.next Γ H w Γ2 H2 w2 := hLL1.trans hL2
    have hq2 : Γ2.nm L = some q := by rw [hLL2.2.1 L hlt]; exact hq
    unfold roundFin at hQ2
    split at hQ2 <;> try exact hQ2.elim
    have hdf := hS2.df
    simp only [DRL] at hdf
    split at hQ2
    · rename_i ch
      simp only [XR] at hX2
      obtain ⟨ch', rfl, hch⟩ := hX2
      obtain ⟨todo, hs⟩ := harr2
      obtain ⟨fnx, hfx⟩ := Option.isSome_iff_exists.1 hfn
      refine ⟨.panicked ch', w2, ⟨.panicked ch, H2, Γ2, hQ2, ⟨ch', rfl, hch⟩, hLL2⟩, StepsIn.trans hsteps (StepsIn.trans (conv hs) (.one (fenced_any _) ?_))⟩
      exact step_leave_panicked (fr := { b.atR a2 todo with mode := .panicking ch' }) ⟨rfl, hdf, fnx, hfx⟩
    · rename_i e'' hnp
      split at hQ2 <;> try exact hQ2.elim
      rename_i o2 ho2
      split at hQ2 <;> try exact hQ2.elim
      rename_i p2 lim2 n2 sg2 ps2 as2 bd2 dn2 hc2
      obtain ⟨t2, fr2, c2⟩ := o2
      simp only at hc2
      subst hc2
      -- the end
      have fin : ∀ (j : Option Code) (bb : Bool), j.isNone = bb → Q (.returned (vB bb)) { H2 with l := lset H2.l L ⟨t2, fr2, .lp (if j.isNone then .ready else .done) j lim2 n2 sg2 ps2 as2 bd2 dn2⟩ } →
          ∃ v w4, (Instr.endRound q.blk j).run C.P w2 = .ok v w4 ∧ Post C Γ H w Q (.returned v) w4 := by
        intro j bb hj hQ
        obtain ⟨fn2, tm2, qd2, _, _, hob2, _, hLe⟩ := setRec (st' := if j.isNone then .ready else .done) (pend' := j) hLL2.1 ho2 hq2
        exact ⟨_, _, run_endRound (P := C.P) hob2 j, .returned (vB bb), _, Γ2, hQ, ⟨_, rfl, by rw [hj]; simp only [VR, VP]⟩, hLL2.trans (hLe.mono hLL2.2.2.1)⟩
      cases e' with
      | normal =>
        simp only [XR] at hX2
        subst hX2
        obtain ⟨v, w4, hend, hR4⟩ := fin none true rfl hQ2
        exact ⟨.returned v, w4, hR4, StepsIn.trans hsteps (StepsIn.trans (conv harr2) (.one (fenced_any _) (stepR_round_end rfl rfl hend)))⟩
      | ret =>
        simp only [XR] at hX2
        subst hX2
        obtain ⟨v, w4, hend, hR4⟩ := fin (some .ret) false rfl hQ2
        obtain ⟨k₁, hs⟩ := harr2.2 rfl
        exact ⟨.returned v, w4, hR4, StepsIn.trans hsteps (StepsIn.trans (conv hs) (.one (fenced_any _) (stepR_round_ret rfl rfl hend)))⟩
      | exit i =>
        simp only [XR] at hX2
        subst hX2
        obtain ⟨v, w4, hend, hR4⟩ := fin (some (.exit i)) false rfl hQ2
        obtain ⟨k₁, hk, hs⟩ := harr2.2 rfl rfl
        exact ⟨.returned v, w4, hR4, StepsIn.trans hsteps (StepsIn.trans (conv hs) (.one (fenced_any _) (stepR_round_exit rfl rfl hk hend)))⟩
      | goto i =>
        simp only [XR] at hX2
        subst hX2
        obtain ⟨v, w4, hend, hR4⟩ := fin (some (.goto i)) false rfl hQ2
        obtain ⟨k₁, hk, hs⟩ := harr2.2 rfl rfl
        exact ⟨.returned v, w4, hR4, StepsIn.trans hsteps (StepsIn.trans (conv hs) (.one (fenced_any _) (stepR_round_goto rfl rfl hk hend)))⟩
      | panic ch => exact hQ2.elim
end
end Go.Proofs.YtemlkodkohgmmaaDoor.Y
