/- Operations and regions in their order: the conditions imply the walk. -/
import Derived.Test.YtemlkodkohgmmaaDoorYx
namespace Go.Proofs.YtemlkodkohgmmaaDoor.Y
open Go

section
variable {C : Cx} {Γ : Gm} {H : Hp} {w : World} {σ : Sg} {ds : List AD} {N : Nat} {a : Act}

theorem SR.mono {Γ' : Gm} (h : SR Γ σ ds N a) (hb : Γ.le Γ') : SR Γ' σ ds N a := ⟨h.size, fun t => VR_mono hb _ _ (h.tm t), DRL_mono hb h.df⟩

theorem SR.put {Γ' : Gm} {ds' : List AD} (h : SR Γ σ ds N a) (hb : Γ.le Γ') {d : Nat} {v : AV} {v' : Value} {dd' : List Deferred} (hv : VR Γ' v v') (hd : DRL Γ' ds' dd') (hN : d < N) : SR Γ' (upd σ d v) ds' N (({ a with defers := dd' } : Act).put (some d) v') := by
  refine ⟨by simp [Act.put, h.size], fun t => ?_, by simpa [Act.put] using hd⟩
  simp only [Act.put, Array.getD_eq_getD_getElem?]
  by_cases e : t = d
  · subst e
    rw [upd_same, Array.getElem?_setIfInBounds_self_of_lt (by rw [h.size]; exact hN)]
    exact hv
  · rw [upd_other _ _ e, Array.getElem?_setIfInBounds_ne (Ne.symm e)]
    have := h.tm t
    rw [Array.getD_eq_getD_getElem?] at this
    exact VR_mono hb _ _ this

theorem evl_sound (h : R C Γ H w) (hS : SR Γ σ ds N a) (x : Operand) : VR Γ (evl C σ x) (a.eval x) := by
  cases x with
  | tmp t => exact hS.tm t
  | const v =>
    simp only [evl, Act.eval]
    split
    · rename_i x e; simp only [VR]; exact VP_abs _ _ _ e
    · exact VR_junk Γ v
  | global g =>
    simp only [evl, Act.eval]
    split
    · rename_i cs e
      simp only [VR]
      exact h.glob g cs e
    · exact VR_junk Γ _
  | func f => simp only [evl, Act.eval, VR, VP]; exact ⟨rfl, #[], #[], rfl, VPL_nil, VPL_nil⟩

theorem PEL_single {v : AV} {v' : Value} (h : VR Γ v v') : PEL Γ [⟨v, false⟩] [{ v := v', recovered := false }] := by
  simp only [PEL]
  exact ⟨_, _, rfl, ⟨h, rfl, rfl⟩, rfl⟩

theorem calls_in {P : Program} {ro : Option Nat} {f : FuncId} {args : Array Value} {Q : Ending → World → Prop} (h : Calls P f args w Q) : CallsIn (Fz ro) 0 P f args w Q := (callsIn_wide (n := 0)).2 h

/-- The continuation behind an operation. -/
structure Cont (C : Cx) (Γ : Gm) (H : Hp) (w : World) (a : Act) (dst : Option Tmp) (K : AV → List AD → Hp → Prop) (X : List AP → Hp → Prop) (next : Act → World → Prop) (Q : Exit → Act → World → Prop) : Prop where
  k : ∀ v ds' H' Γ' v' dd' w', K v ds' H' → VR Γ' v v' → DRL Γ' ds' dd' → Later C H.next Γ H w Γ' H' w' → next (({ a with defers := dd' } : Act).put dst v') w'
  x : ∀ ch H' Γ' ch' w', X ch H' → PEL Γ' ch ch' → Later C H.next Γ H w Γ' H' w' → Q (.panic ch') a w'

theorem fnOf_sound {v : AV} {v' : Value} (hv : VR Γ v v') {f : Fn} {fs cs : List AV} (h : fnOf v = some (f, fs, cs)) : ∃ f' fs' cs', v' = .func f' fs' cs' ∧ FR Γ f f' ∧ VRL Γ fs fs'.toList ∧ VRL Γ cs cs'.toList := by
  cases v with
  | fn f0 a b =>
    simp only [fnOf, Option.some.injEq, Prod.mk.injEq] at h
    obtain ⟨rfl, rfl, rfl⟩ := h
    simpa only [VR] using hv
  | p x =>
    cases x <;> simp only [fnOf, reduceCtorEq, Option.some.injEq, Prod.mk.injEq] at h
    obtain ⟨rfl, rfl, rfl⟩ := h
    simp only [VR, VP] at hv
    obtain ⟨hok, fs', cs', rfl, h1, h2⟩ := hv
    exact ⟨_, fs', cs', rfl, (FR_ok hok).2 rfl, VRL_p.2 h1, VRL_p.2 h2⟩
  | _ => simp [fnOf] at h

theorem vOp_sound {ro : Option Nat} {rd : Bool} {o : Oper} {K : AV → List AD → Hp → Prop} {X : List AP → Hp → Prop} {next : Act → World → Prop} {Q : Exit → Act → World → Prop}
    (h : R C Γ H w) (hS : SR Γ σ ds N a) (hrd : rd = ro.isSome) (hC : Cont C Γ H w a o.dst K X next Q) (hv : vOp C rd o σ ds H K X) : o.wpIn (Fz ro) 0 C.P a w next Q := by
  refine ⟨fun _ _ => trivial, ?_⟩
  have hev := evl_sound h hS
  have hde : ∀ {Γ'}, Γ.le Γ' → DRL Γ' ds a.defers := fun hb => DRL_mono hb hS.df
  -- an operation that gives a value
  have valu : ∀ {v' : Value} {w' : World}, (o.semAt ro a.eval).run C.P w = .ok (.value v') w' → NV C Γ H w (fun v H' => K v ds H') v' w' →
      o.uponIn (Fz ro) 0 C.P a next Q ((o.semAt (Fz ro).round a.eval).run C.P w) := by
    rintro v' w' hr ⟨v, H', Γ', h1, h2, h3⟩
    show o.uponIn (Fz ro) 0 C.P a next Q ((o.semAt ro a.eval).run C.P w)
    rw [hr]
    exact hC.k v ds H' Γ' v' a.defers w' h1 h2 (hde (h3.le h)) h3
  have hsem : (∀ c, o.op ≠ .defer c) → o.semAt ro a.eval = execOp a.eval o := Oper.semAt_eq ro a.eval o
  -- behind a call
  have hpost : ∀ e' w', Post C Γ H w (onE (fun v H' => K v ds H') X) e' w' →
      (match e', w' with | .returned v, w'' => next (a.put o.dst v) w'' | .panicked chain, w'' => Q (.panic chain) a w'' | .outgrown, _ => LetsOut Q) := by
    rintro e' w' ⟨e0, H', Γ', k1, k2, hL⟩
    cases e0 with
    | returned v => obtain ⟨v', rfl, hvv⟩ := k2; exact hC.k v ds H' Γ' v' a.defers w' k1 hvv (hde (hL.le h)) hL
    | panicked ch => obtain ⟨ch', rfl, hvv⟩ := k2; exact hC.x ch H' Γ' ch' w' k1 hvv hL
  unfold vOp at hv
  split at hv
  · rename_i t e
    have hx := hsem (by rw [e]; simp)
    obtain ⟨v', w', h1, h2⟩ := alloc_sound h hv
    exact valu (by rw [hx]; simp [execOp, e, h1]) h2
  · rename_i t x e
    have hx := hsem (by rw [e]; simp)
    obtain ⟨v', w', h1, h2⟩ := box_sound h (hev x) hv
    exact valu (by rw [hx]; simp [execOp, e, h1]) h2
  · rename_i t x y e
    have hx := hsem (by rw [e]; simp)
    obtain ⟨w', h1, v, H', Γ', k1, k2, k3⟩ := store_sound h (hev x) (hev y) hv
    show o.uponIn (Fz ro) 0 C.P a next Q ((o.semAt ro a.eval).run C.P w)
    rw [hx]
    have : (execOp a.eval o).run C.P w = .ok .skip w' := by simp [execOp, e, h1]
    rw [this]
    exact hC.k v ds H' Γ' undef a.defers w' k1 k2 (hde (k3.le h)) k3
  · rename_i t n parts e
    have hx := hsem (by rw [e]; simp)
    obtain ⟨v', w', h1, h2⟩ := buildSlice_sound h hev hv
    exact valu (by rw [hx]; simp [execOp, e, h1]) h2
  · rename_i t l c e
    have hx := hsem (by rw [e]; simp)
    obtain ⟨v', w', h1, h2⟩ := makeSlice_sound h (hev l) (hev c) hv
    exact valu (by rw [hx]; simp [execOp, e, h1]) h2
  · rename_i f args argTypes e
    have hx := hsem (by rw [e]; simp)
    have hf := hev f
    split at hv <;> try exact hv.elim
    · rename_i g first cap ef
      obtain ⟨fn', first', cap', ef', hfr, hfirst, hcap⟩ := fnOf_sound hf ef
      simp only [FR] at hfr
      subst hfr
      have hargs : VRL Γ (first ++ args.toList.map (evl C σ) ++ cap) (first' ++ args.map a.eval ++ cap').toList := by
        simp only [Array.toList_append, Array.toList_map]
        exact VRL_append (VRL_append hfirst (VRL_map hev _)) hcap
      have harr : (⟨(first' ++ args.map a.eval ++ cap').toList⟩ : Array Value) = first' ++ args.map a.eval ++ cap' := by simp
      have hexec : (execOp a.eval o).run C.P w = (callFunc g (first' ++ args.map a.eval ++ cap')).run C.P w := by
        simp [execOp, e, resolve, ef', Deferred.ofValue, invoke]
      show o.uponIn (Fz ro) 0 C.P a next Q ((o.semAt ro a.eval).run C.P w)
      rw [hx, hexec]
      rcases hv Γ w _ h hargs with ⟨h1, h2⟩ | ⟨v', w', h1, h2⟩
      · rw [harr] at h1 h2
        rw [h1]
        exact ⟨fun hd => by simp [Fz, Fence.wide] at hd, calls_in (h2.mono hpost)⟩
      · rw [harr] at h1
        rw [h1]
        exact hpost _ _ h2
    · rename_i L ef
      obtain ⟨fn', first', cap', ef', hfr, hfirst, hcap⟩ := fnOf_sound hf ef
      simp only [FR] at hfr
      obtain ⟨q, hq, rfl⟩ := hfr
      simp only [VRL] at hfirst hcap
      have hf0 : first' = #[] := Array.ext' (by simpa using hfirst)
      have hc0 : cap' = #[] := Array.ext' (by simpa using hcap)
      subst hf0; subst hc0
      have hargs : VRL Γ (args.toList.map (evl C σ)) (args.map a.eval).toList := by
        rw [Array.toList_map]
        exact VRL_map hev _
      obtain ⟨q', f', tmps, as, bd, hq', hy, hr⟩ := hv Γ w _ ro h hargs
      rw [hq] at hq'
      injection hq' with e'
      subst e'
      have harr : (⟨(args.map a.eval).toList⟩ : Array Value) = args.map a.eval := rfl
      rw [harr] at hy
      have hexec : (execOp a.eval o).run C.P w = .ok (.round q.blk f' tmps as bd) w := by
        simp [execOp, e, resolve, ef', Deferred.ofValue, invoke, hy]
      show o.uponIn (Fz ro) 0 C.P a next Q ((o.semAt ro a.eval).run C.P w)
      rw [hx, hexec]
      exact ⟨fun hd => by simp [Fz, Fence.wide] at hd, hr.mono hpost⟩
  · rename_i args argTypes e
    have hx := hsem (by rw [e]; simp)
    obtain ⟨args⟩ := args
    obtain ⟨argTypes⟩ := argTypes
    simp only at hv
    split at hv <;> try exact hv.elim
    rename_i s x t t'
    split at hv <;> try exact hv.elim
    rename_i hni
    obtain ⟨v', w', h1, h2⟩ := append_sound (ty := o.type) h (hev s) (hev x) hni hv
    exact valu (by rw [hx]; simp [execOp, e, resolve, invoke, builtin, h1]) h2
  · rename_i args argTypes e
    have hx := hsem (by rw [e]; simp)
    obtain ⟨args⟩ := args
    obtain ⟨argTypes⟩ := argTypes
    simp only at hv
    split at hv <;> try exact hv.elim
    rename_i s x t t'
    obtain ⟨v', w', h1, h2⟩ := copy_sound (t' := t') (ty := o.type) h (hev s) (hev x) hv
    exact valu (by rw [hx]; simp [execOp, e, resolve, invoke, builtin, h1]) h2
  · rename_i args argTypes e
    have hx := hsem (by rw [e]; simp)
    obtain ⟨args⟩ := args
    obtain ⟨argTypes⟩ := argTypes
    simp only at hv
    split at hv <;> try exact hv.elim
    rename_i x
    obtain ⟨v', w', h1, h2⟩ := data_sound (ts := ⟨argTypes⟩) h (hev x) hv
    exact valu (by rw [hx]; simp [execOp, e, resolve, invoke, builtin, h1]) h2
  · rename_i args argTypes e
    have hx := hsem (by rw [e]; simp)
    obtain ⟨args⟩ := args
    obtain ⟨argTypes⟩ := argTypes
    simp only at hv
    split at hv <;> try exact hv.elim
    rename_i x y t t'
    obtain ⟨v', w', h1, h2⟩ := ustr_sound (t' := t') (ty := o.type) h (hev x) (hev y) hv
    exact valu (by rw [hx]; simp [execOp, e, resolve, invoke, builtin, h1]) h2
  · rename_i sc dc x e
    have hx := hsem (by rw [e]; simp)
    split at hv
    · rename_i el hd
      obtain ⟨v', w', h1, h2⟩ := bytes_sound (d := dc) h hd (hev x) hv
      exact valu (by rw [hx]; simp [execOp, e, h1]) h2
    · obtain ⟨v, hy, hk⟩ := PRes.yld hv
      obtain ⟨v', h1, h2⟩ := pop_sound h hev o (v := v) (by rw [e]; exact hy)
      exact valu (by rw [hx]; exact h1) ⟨v, H, Γ, hk, h2, Later.refl h _ (Nat.le_refl _)⟩
  · rename_i f args argTypes e
    have hf := hev f
    split at hv <;> try exact hv.elim
    rename_i g first cap ef
    obtain ⟨fn', first', cap', ef', hfr, hfirst, hcap⟩ := fnOf_sound hf ef
    simp only [FR] at hfr
    subst hfr
    have hro : ro = none := by
      cases ro with
      | none => rfl
      | some l => simp at hrd
    subst hro
    show o.uponIn (Fz none) 0 C.P a next Q ((execOp a.eval o).run C.P w)
    have : (execOp a.eval o).run C.P w = .ok (.defer { target := .fn (.func g) cap', args := first' ++ args.map a.eval }) w := by
      simp [execOp, e, resolve, ef', Deferred.ofValue]
    rw [this]
    refine hC.k und _ H Γ undef _ w hv (VR_undef Γ) ?_ (Later.refl h _ (Nat.le_refl _))
    simp only [DRL]
    refine ⟨_, _, rfl, ?_, hS.df⟩
    simp only [DR]
    refine ⟨cap', first' ++ args.map a.eval, rfl, hcap, ?_⟩
    simp only [Array.toList_append, Array.toList_map]
    exact VRL_append hfirst (VRL_map hev _)
  · rename_i x e
    have hx := hsem (by rw [e]; simp)
    have hxx := hev x
    unfold ePanic at hv
    split at hv <;> try exact hv.elim
    rename_i tv ex
    obtain ⟨t, u⟩ := tv
    show o.uponIn (Fz ro) 0 C.P a next Q ((o.semAt ro a.eval).run C.P w)
    rw [hx]
    obtain ⟨u', eu, _⟩ := (ifParts_sound hxx).2 _ _ ex
    have : (execOp a.eval o).run C.P w = .halt (.panic (.iface t u')) w := by
      simp [execOp, e, eu, Instr.panic, goPanic, Sem.run]
    rw [this]
    rw [eu] at hxx
    exact hC.x _ H Γ _ w hv (PEL_single hxx) (Later.refl h _ (Nat.le_refl _))
  · rename_i op hne
    obtain ⟨v, hy, hk⟩ := PRes.yld hv
    obtain ⟨v', h1, h2⟩ := pop_sound h hev o hy
    have hx := hsem (by
      intro c hc
      rw [hc] at hy
      simp [pop, PRes.Yld] at hy)
    exact valu (by rw [hx]; exact h1) ⟨v, H, Γ, hk, h2, Later.refl h _ (Nat.le_refl _)⟩

theorem onth_eq (l : List Oper) (n : Nat) : onth l n = l[n]? := by
  induction l generalizing n with
  | nil => rfl
  | cons x l ih => cases n with
    | zero => rfl
    | succ n => simpa [onth] using ih n

theorem gd_sound (hS : SR Γ σ ds N a) {ops : Array Oper} {o : Oper} {b : Bool} (h : gd ops.toList o σ = some b) : Region.wanted o (yielded ops a.tmps) = b := by
  unfold gd at h
  unfold Region.wanted
  split at h
  · rename_i e
    rw [e]
    injection h
  · rename_i j want e
    rw [e]
    simp only
    split at h <;> try (cases h; done)
    rename_i oj hj
    rw [onth_eq, Array.getElem?_toList] at hj
    split at h <;> try (cases h; done)
    rename_i d hd
    have ht := hS.tm d
    unfold yielded
    rw [hj]
    simp only [Option.bind_some, hd]
    split at h
    · rename_i c ec
      rw [ec] at ht
      have ht := VR_bool ht
      injection h with h
      rw [Array.getD_eq_getD_getElem?] at ht
      cases hg : a.tmps[d]? with
      | none => rw [hg] at ht; simp [undef] at ht
      | some v =>
        rw [hg] at ht
        simp only [Option.getD_some] at ht
        subst ht
        rw [← h]
        cases c <;> cases want <;> rfl
    · rename_i vs ec
      rw [ec] at ht
      injection h with h
      subst h
      simp only [VR] at ht
      obtain ⟨vs', ht, _⟩ := ht
      rw [Array.getD_eq_getD_getElem?] at ht
      cases hg : a.tmps[d]? with
      | none => rfl
      | some v =>
        rw [hg] at ht
        simp only [Option.getD_some] at ht
        subst ht
        rfl
    · cases h

theorem vput_some {N : Nat} {d : Nat} {σ : Sg} {v : AV} {K : Sg → Prop} (h : vput N (some d) σ v K) : d < N ∧ K (upd σ d v) := by
  simp only [vput] at h
  split at h
  · rename_i e; exact ⟨by simpa using e, force_eq h⟩
  · exact h.elim

theorem vOps_sound {ro : Option Nat} {rd : Bool} (hrd : rd = ro.isSome) {ops : Array Oper} {Q : Exit → Act → World → Prop} {n0 : Nat}
    {K : Sg → List AD → Hp → Prop} {X : List AP → Sg → List AD → Hp → Prop} :
    ∀ (rest pre : List Oper) (σ : Sg) (ds : List AD) (H : Hp) (Γ : Gm) (a : Act) (w : World), ops.toList = pre ++ rest → n0 ≤ H.next → R C Γ H w → SR Γ σ ds N a →
      vOps C rd N ops.toList rest σ ds H K X →
      (∀ σ' ds' H' Γ' a' w', K σ' ds' H' → SR Γ' σ' ds' N a' → Later C n0 Γ H w Γ' H' w' → Q .normal a' w') →
      (∀ ch σ' ds' H' Γ' ch' a' w', X ch σ' ds' H' → PEL Γ' ch ch' → SR Γ' σ' ds' N a' → Later C n0 Γ H w Γ' H' w' → Q (.panic ch') a' w') →
      wpOpsIn (Fz ro) 0 C.P ops Q (List.range' pre.length rest.length) a w
  | [], pre, σ, ds, H, Γ, a, w, _, hn, hR, hS, hv, hK, _ => by
    simp only [List.length_nil, List.range'_zero, wpOpsIn]
    exact hK σ ds H Γ a w hv hS (Later.refl hR n0 hn)
  | o :: rest, pre, σ, ds, H, Γ, a, w, hops, hn, hR, hS, hv, hK, hX => by
    have hi : ops[pre.length]? = some o := by
      rw [← Array.getElem?_toList, hops]
      simp
    simp only [List.length_cons, List.range'_succ, wpOpsIn, hi]
    have ih := vOps_sound hrd (ops := ops) (Q := Q) (n0 := n0) (K := K) (X := X) rest (pre ++ [o])
    simp only [List.length_append, List.length_cons, List.length_nil, Nat.zero_add] at ih
    have hops' : ops.toList = (pre ++ [o]) ++ rest := by rw [hops]; simp
    -- behind the operation
    have go : ∀ (v : AV) (ds' : List AD) (H1 : Hp) (Γ1 : Gm) (v' : Value) (dd' : List Deferred) (w1 : World),
        vput N o.dst σ v (fun σ' => vOps C rd N ops.toList rest σ' ds' H1 K X) → VR Γ1 v v' → DRL Γ1 ds' dd' → Later C H.next Γ H w Γ1 H1 w1 →
        wpOpsIn (Fz ro) 0 C.P ops Q (List.range' (pre.length + 1) rest.length) (({ a with defers := dd' } : Act).put o.dst v') w1 := by
      intro v ds' H1 Γ1 v' dd' w1 hp hvv hdd hL
      have hLn : Later C n0 Γ H w Γ1 H1 w1 := hL.mono hn
      cases hd : o.dst with
      | none =>
        rw [hd] at hp
        refine ih σ ds' H1 Γ1 _ w1 hops' (Nat.le_trans hn hL.2.2.1) hL.1 ⟨hS.size, fun t => VR_mono (hL.le hR) _ _ (hS.tm t), hdd⟩ hp (fun σ' ds'' H' Γ' a' w' hk hs hl => hK _ _ _ _ _ _ hk hs (hLn.trans hl)) (fun ch σ' ds'' H' Γ' ch' a' w' hx hp hs hl => hX _ _ _ _ _ _ _ _ hx hp hs (hLn.trans hl))
      | some d =>
        rw [hd] at hp
        obtain ⟨hdN, hp⟩ := vput_some hp
        exact ih (upd σ d v) ds' H1 Γ1 _ w1 hops' (Nat.le_trans hn hL.2.2.1) hL.1 (hS.put (hL.le hR) hvv hdd hdN) hp (fun σ' ds'' H' Γ' a' w' hk hs hl => hK _ _ _ _ _ _ hk hs (hLn.trans hl)) (fun ch σ' ds'' H' Γ' ch' a' w' hx hp hs hl => hX _ _ _ _ _ _ _ _ hx hp hs (hLn.trans hl))
    simp only [vOps_cons] at hv
    split at hv
    · rename_i hg
      rw [gd_sound hS hg]
      simp only [if_true]
      exact vOp_sound hR hS hrd ⟨fun v ds' H' Γ' v' dd' w' hk hvv hdd hL => go v ds' H' Γ' v' dd' w' hk hvv hdd hL,
        fun ch H' Γ' ch' w' hx hp hL => hX ch σ ds H' Γ' ch' a w' hx hp (hS.mono (hL.le hR)) (hL.mono hn)⟩ hv
    · rename_i hg
      rw [gd_sound hS hg]
      simp only [Bool.false_eq_true, if_false]
      exact ⟨fun _ _ => trivial, go und ds H Γ undef a.defers w hv (VR_undef Γ) hS.df (Later.refl hR _ (Nat.le_refl _))⟩
    · exact hv.elim
end
end Go.Proofs.YtemlkodkohgmmaaDoor.Y
