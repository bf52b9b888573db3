/- The conditions of a piece of code imply the walk: all kinds of code. -/
import Derived.Test.YtemlkodkohgmmaaDoorYo
namespace Go.Proofs.YtemlkodkohgmmaaDoor.Y
open Go

section
variable {C : Cx}

theorem range_call {a : Act} {w : World} {f : Operand} {l : Nat} {g : FuncId} {first' cap' : Array Value} (h : a.eval f = .func (.func g) first' cap') :
    ∃ d, (resolve a.eval (rangeCall f l) 0).run C.P w = .ok d w ∧ d.target = .fn (.func g) cap' ∧ d.args = first' ++ #[Value.func (.yield l) #[] #[]] := by
  refine ⟨{ target := .fn (.func g) cap', args := first' ++ #[Value.func (.yield l) #[] #[]] }, ?_, rfl, rfl⟩
  have e : a.eval (.const (.func (.yield l) #[] #[])) = .func (.yield l) #[] #[] := rfl
  simp [resolve, h, Deferred.ofValue, e]

theorem vc_sound {rn : Option Nat} {n0 N : Nat} {b : Frame} (hfn : (C.P.funcs[b.fn]?).isSome = true) : ∀ (c : Code) (σ : Sg) (ds : List AD) (H : Hp) (Q : KQ) (Γ : Gm) (a : Act) (w : World),
    n0 ≤ H.next → RO n0 Γ rn b.roundOf → R C Γ H w → SR Γ σ ds N a → vc C rn n0 N c σ ds H Q → wpB C.P b c (CP C n0 N Γ H w Q) a w
  | .skip, σ, ds, H, Q, Γ, a, w, hn, hro, hR, hS, hv => wpB_of (wpIn_skip ⟨.normal, _, _, _, _, hv, rfl, hS, Later.refl hR n0 hn⟩)
  | .label l, σ, ds, H, Q, Γ, a, w, hn, hro, hR, hS, hv => wpB_of (wpIn_label ⟨.normal, _, _, _, _, hv, rfl, hS, Later.refl hR n0 hn⟩)
  | .exit i, σ, ds, H, Q, Γ, a, w, hn, hro, hR, hS, hv => wpB_of (wpIn_exit ⟨.exit i, _, _, _, _, hv, rfl, hS, Later.refl hR n0 hn⟩)
  | .goto i, σ, ds, H, Q, Γ, a, w, hn, hro, hR, hS, hv => wpB_of (wpIn_goto ⟨.goto i, _, _, _, _, hv, rfl, hS, Later.refl hR n0 hn⟩)
  | .ret, σ, ds, H, Q, Γ, a, w, hn, hro, hR, hS, hv => wpB_of (wpIn_ret ⟨.ret, _, _, _, _, hv, rfl, hS, Later.refl hR n0 hn⟩)
  | .region id ops draw, σ, ds, H, Q, Γ, a, w, hn, hro, hR, hS, hv => by
    have hrd := hro.isSome
    cases draw with
    | true =>
      simp only [vc_skip, vc_label, vc_region, vc_seq, vc_cond, vc_block, vc_loop, vc_exit, vc_goto, vc_ret, vc_rangeFunc, vc_scope, vc_refuse] at hv
      obtain ⟨ot, hok, hv⟩ := hv
      simp only [Bool.and_eq_true] at hok
      have hso := slotsOK_spec hok.1.2
      have hI : DI C N ops.toList σ (fun i => (Array.replicate ops.size false).getD i false) [] ds Γ H a { w with drawn := w.drawn + 1 } := by
        have hf : ∀ i, (Array.replicate ops.size false).getD i false = false := by
          intro i
          rw [Array.getD_eq_getD_getElem?, Array.getElem?_replicate]
          split <;> rfl
        refine ⟨trivial, fun i o hi => ?_, fun i hi => ?_, fun e he => by simp at he, hR.drew, ?_, fun L1 e L2 hL => by simp at hL⟩
        · simp only [hf] at hi; cases hi
        · simp only [hf] at hi; cases hi
        · exact hS
      have hu : unl (Array.replicate ops.size false).toList ≤ ops.size := by
        rw [Array.toList_replicate]
        have : ∀ n, unl (List.replicate n false) = n := by
          intro n
          induction n with
          | zero => rfl
          | succ n ih => rw [List.replicate_succ]; simp only [unl, ih]
        rw [this]
        exact Nat.le_refl _
      have hL0 := Later.drew hR n0 hn
      refine wpB_of (wpIn_region_any hok.1.1 ?_)
      rcases hv with hv | ⟨α, sl, hp, pr, hv, hj⟩
      · exact vD_sound (C := C) hrd (Q := CP C n0 N Γ H w Q) (n0 := n0) (Γ0 := Γ) (H0 := H) (w0 := w) (σ0 := σ) hso
          (fun σ' ds' H' Γ' a' w' hk hs hl => ⟨.normal, σ', ds', H', Γ', hk, rfl, hs, hl⟩)
          (fun ch σ' ds' H' Γ' ch' a' w' hx hp hs hl => ⟨.panic ch, σ', ds', H', Γ', hx, ⟨ch', rfl, hp⟩, hs, hl⟩)
          ops.size ot [] ds H Γ a _ _ [] hok.2 (fun e he => by simp at he) hv hI hL0 (by simp) hu
      · exact vD_sound (C := C) hrd (Q := CP C n0 N Γ H w Q) (n0 := n0) (Γ0 := Γ) (H0 := H) (w0 := w) (σ0 := σ) hso
          (fun σ' ds' H' Γ' a' w' hk hs hl => by
            obtain ⟨x, k1, k2⟩ := hk
            obtain ⟨Γ2, k3, k4⟩ := k2 Γ' w' a' hl.2.2.1 hl.1 hs
            exact ⟨.normal, _, _, _, _, hj x k1, rfl, k3, hl.trans k4⟩)
          (fun ch σ' ds' H' Γ' ch' a' w' hx hp hs hl => ⟨.panic ch, σ', ds', H', Γ', hx, ⟨ch', rfl, hp⟩, hs, hl⟩)
          ops.size ot [] ds H Γ a _ _ [] hok.2 (fun e he => by simp at he) hv hI hL0 (by simp) hu
    | false =>
      simp only [vc_skip, vc_label, vc_region, vc_seq, vc_cond, vc_block, vc_loop, vc_exit, vc_goto, vc_ret, vc_rangeFunc, vc_scope, vc_refuse] at hv
      refine wpB_of (wpIn_region ?_)
      have := vOps_sound (C := C) hrd (ops := ops) (Q := CP C n0 N Γ H w Q) (n0 := n0) ops.toList [] σ ds H Γ a w (by simp) hn hR hS hv
        (fun σ' ds' H' Γ' a' w' hk hs hl => ⟨.normal, σ', ds', H', Γ', hk, rfl, hs, hl⟩)
        (fun ch σ' ds' H' Γ' ch' a' w' hx hp hs hl => ⟨.panic ch, σ', ds', H', Γ', hx, ⟨ch', rfl, hp⟩, hs, hl⟩)
      simpa [List.range_eq_range'] using this
  | .seq x y, σ, ds, H, Q, Γ, a, w, hn, hro, hR, hS, hv => by
    simp only [vc_skip, vc_label, vc_region, vc_seq, vc_cond, vc_block, vc_loop, vc_exit, vc_goto, vc_ret, vc_rangeFunc, vc_scope, vc_refuse] at hv
    refine wpB_seq (wpB_mono (vc_sound hfn x σ ds H _ Γ a w hn hro hR hS hv) ?_)
    rintro e' a1 w1 ⟨e, σ', ds', H', Γ', h1, h2, h3, h4⟩
    cases e with
    | normal =>
      simp only [XR] at h2
      subst h2
      exact wpB_mono (vc_sound hfn y σ' ds' H' Q Γ' a1 w1 h4.2.2.1 (hro.ext h4.2.1) h4.1 h3 h1) fun _ _ _ hq => CP.trans h4 hq
    | exit i => simp only [XR] at h2; subst h2; exact ⟨.exit i, _, _, _, _, h1, rfl, h3, h4⟩
    | goto i => simp only [XR] at h2; subst h2; exact ⟨.goto i, _, _, _, _, h1, rfl, h3, h4⟩
    | ret => simp only [XR] at h2; subst h2; exact ⟨.ret, _, _, _, _, h1, rfl, h3, h4⟩
    | panic ch => simp only [XR] at h2; obtain ⟨ch', rfl, hp⟩ := h2; exact ⟨.panic ch, _, _, _, _, h1, ⟨ch', rfl, hp⟩, h3, h4⟩
  | .cond c x y, σ, ds, H, Q, Γ, a, w, hn, hro, hR, hS, hv => by
    simp only [vc_skip, vc_label, vc_region, vc_seq, vc_cond, vc_block, vc_loop, vc_exit, vc_goto, vc_ret, vc_rangeFunc, vc_scope, vc_refuse] at hv
    have hc := evl_sound hR hS c
    split at hv
    · rename_i e
      rw [e] at hc
      exact wpB_cond (t := true) (VR_bool hc) (vc_sound hfn x σ ds H Q Γ a w hn hro hR hS hv)
    · rename_i e
      rw [e] at hc
      exact wpB_cond (t := false) (VR_bool hc) (vc_sound hfn y σ ds H Q Γ a w hn hro hR hS hv)
    · exact hv.elim
  | .block id x, σ, ds, H, Q, Γ, a, w, hn, hro, hR, hS, hv => by
    simp only [vc_skip, vc_label, vc_region, vc_seq, vc_cond, vc_block, vc_loop, vc_exit, vc_goto, vc_ret, vc_rangeFunc, vc_scope, vc_refuse] at hv
    refine wpB_block (wpB_mono (vc_sound hfn x σ ds H _ Γ a w hn hro hR hS hv) ?_)
    rintro e' a1 w1 ⟨e, σ', ds', H', Γ', h1, h2, h3, h4⟩
    cases e with
    | normal => simp only [XR] at h2; subst h2; exact ⟨.normal, _, _, _, _, h1, rfl, h3, h4⟩
    | exit i =>
      simp only [XR] at h2
      subst h2
      simp only [Exit.inBlock]
      simp only at h1
      split at h1
      · rename_i hb
        have hb := Nat.eq_of_beq_eq_true hb
        rw [if_pos hb]
        exact ⟨.normal, _, _, _, _, h1, rfl, h3, h4⟩
      · rename_i hb
        rw [if_neg (by intro e; subst e; simp at hb)]
        exact ⟨.exit i, _, _, _, _, h1, rfl, h3, h4⟩
    | goto i => simp only [XR] at h2; subst h2; exact ⟨.goto i, _, _, _, _, h1, rfl, h3, h4⟩
    | ret => simp only [XR] at h2; subst h2; exact ⟨.ret, _, _, _, _, h1, rfl, h3, h4⟩
    | panic ch => simp only [XR] at h2; obtain ⟨ch', rfl, hp⟩ := h2; exact ⟨.panic ch, _, _, _, _, h1, ⟨ch', rfl, hp⟩, h3, h4⟩
  | .loop x, σ, ds, H, Q, Γ, a, w, hn, hro, hR, hS, hv => by
    simp only [vc_skip, vc_label, vc_region, vc_seq, vc_cond, vc_block, vc_loop, vc_exit, vc_goto, vc_ret, vc_rangeFunc, vc_scope, vc_refuse] at hv
    obtain ⟨α, sl, hp, pr, μ, ⟨x0, hp0, hent⟩, hround⟩ := hv
    obtain ⟨Γ0, hS0, hL0⟩ := hent Γ w a hn hR hS
    refine wpB_loop (α := α) (fun y a1 w1 => pr y ∧ ∃ Γ1, SR Γ1 (sets (fun _ => .junk) (sl y)) ds N a1 ∧ Later C n0 Γ H w Γ1 (hp y) w1) μ x0 ⟨hp0, Γ0, hS0, hL0⟩ ?_
    rintro y a1 w1 ⟨hpy, Γ1, hS1, hL1⟩
    refine wpB_mono (vc_sound hfn x _ ds (hp y) _ Γ1 a1 w1 hL1.2.2.1 (hro.ext hL1.2.1) hL1.1 hS1 (hround y hpy)) ?_
    rintro e' a2 w2 ⟨e, σ', ds', H', Γ', h1, h2, h3, h4⟩
    cases e with
    | normal =>
      simp only [XR] at h2
      subst h2
      obtain ⟨x', hp', hent', hlt⟩ := h1
      obtain ⟨Γ2, hS2, hL2⟩ := hent' Γ' w2 a2 h4.2.2.1 h4.1 h3
      exact ⟨x', ⟨hp', Γ2, hS2, (hL1.trans h4).trans hL2⟩, hlt⟩
    | exit i => simp only [XR] at h2; subst h2; exact ⟨.exit i, _, _, _, _, h1, rfl, h3, hL1.trans h4⟩
    | goto i => simp only [XR] at h2; subst h2; exact ⟨.goto i, _, _, _, _, h1, rfl, h3, hL1.trans h4⟩
    | ret => simp only [XR] at h2; subst h2; exact ⟨.ret, _, _, _, _, h1, rfl, h3, hL1.trans h4⟩
    | panic ch => simp only [XR] at h2; obtain ⟨ch', rfl, hpp⟩ := h2; exact ⟨.panic ch, _, _, _, _, h1, ⟨ch', rfl, hpp⟩, h3, hL1.trans h4⟩
  | .rangeFunc f params as bd, σ, ds, H, Q, Γ, a, w, hn, hro, hR, hS, hv => by
    simp only [vc_skip, vc_label, vc_region, vc_seq, vc_cond, vc_block, vc_loop, vc_exit, vc_goto, vc_ret, vc_rangeFunc, vc_scope, vc_refuse] at hv
    split at hv <;> try exact hv.elim
    rename_i g first cap ef
    obtain ⟨fn', first', cap', ef', hfr, hfirst, hcap⟩ := fnOf_sound (evl_sound hR hS f) ef
    simp only [FR] at hfr
    subst hfr
    have hvl := SR_list hR hS
    -- the one call
    have call : ∀ (L : Nat) (q : Pl) (mark : List Deferred) (w1 : World) (Γ1 : Gm) (H1 : Hp) (ds1 : List AD), (Instr.enterLoop b.fn a.tmps params as bd b.roundOf).run C.P w = .ok (q.blk, mark) w1 → Γ1.nm L = some q → L < H1.next →
        Later C n0 Γ H w Γ1 H1 w1 → Γ.le Γ1 → SR Γ1 σ ds1 N { a with defers := mark ++ a.defers } → RangeOK C N g first cap L σ ds1 H1 Q → wpB C.P b (.rangeFunc f params as bd) (CP C n0 N Γ H w Q) a w := by
      intro L q mark w1 Γ1 H1 ds1 he hq hlt hL1 hle hS1 hok
      obtain ⟨d, hres, ht, ha⟩ := range_call (C := C) (w := w1) (l := q.blk) ef'
      have hargs : VRL Γ1 (first ++ [.fn (.yield L) [] []] ++ cap) (first' ++ #[Value.func (.yield q.blk) #[] #[]] ++ cap').toList := by
        simp only [Array.toList_append]
        refine VRL_append (VRL_append (VRL_mono hle _ _ hfirst) ?_) (VRL_mono hle _ _ hcap)
        simp only [VRL, VR, FR]
        exact ⟨_, _, rfl, ⟨.yield q.blk, #[], #[], rfl, ⟨q, hq, rfl⟩, rfl, rfl⟩, rfl⟩
      obtain ⟨h1, h2⟩ := hok Γ1 w1 _ hL1.1 hargs
      have harr : (⟨(first' ++ #[Value.func (.yield q.blk) #[] #[]] ++ cap').toList⟩ : Array Value) = first' ++ #[Value.func (.yield q.blk) #[] #[]] ++ cap' := by simp
      rw [harr] at h1 h2
      have hinv : (invoke d.target d.args).run C.P w1 = .ok (.enter g (first' ++ #[Value.func (.yield q.blk) #[] #[]] ++ cap')) w1 := by
        rw [ht, ha]
        exact h1
      exact wpB_range he hres hinv (h2.mono fun e' w3 hp => range_post hL1 hS1 hq hlt hp)
    obtain ⟨a0, hsize⟩ : ∃ a0, a0 = w.heap.size := ⟨_, rfl⟩
    split at hv
    · -- outermost
      simp only [RO] at hro
      have hLd := hR.push (ob := .deferred (some [])) (q := ⟨w.heap.size, 0, 0, false⟩) (o := ⟨0, false, .df⟩) rfl rfl rfl (by simp only [ObjR]; exact ⟨trivial, trivial, heap_alloc_new w _⟩)
      have hSd := hS.mono (hLd.le hR)
      have hLl := hLd.1.push (ob := .loop { state := .ready, pending := none, fn := b.fn, tmps := a.tmps, params := params, assign := as, body := bd, defers := w.heap.size }) (q := ⟨(w.alloc (.deferred (some []))).heap.size, 0, 0, false⟩) (o := loopRec H.next σ N params as bd H.next) rfl rfl rfl
        (by
          simp only [loopRec, ObjR]
          refine ⟨trivial, trivial, b.fn, a.tmps, ⟨w.heap.size, 0, 0, false⟩, hfn, heap_alloc_new _ _, ?_, ?_⟩
          · exact ⟨hvl.1, fun t => VR_mono (Gm.cut_mono (Gm.le_trans (hLd.le hR) (Gm.le_put (hLd.1.fresh _ (Nat.le_refl _)))) _) _ _ (hvl.2 t)⟩
          · rw [Gm.put_other _ _ (by simp [Hp.push])]; exact Gm.put_same _ _ _)
      have hL : Later C n0 Γ H w _ _ _ := (hLd.mono hn).trans (hLl.mono (by simp only [Hp.push]; omega))
      have hle : Γ.le _ := Gm.le_trans (hLd.le hR) (hLl.le hLd.1)
      refine call (H.next + 1) ⟨(w.alloc (.deferred (some []))).heap.size, 0, 0, false⟩ [{ target := .collected w.heap.size, args := #[] }] _ _ _ _ ?_ (Gm.put_same _ _ _) (by simp [Hp.push]) hL hle ?_ hv
      · rw [hro]
        simp [Instr.enterLoop, newObj, Sem.run]
      · refine ⟨hS.size, fun t => VR_mono hle _ _ (hS.tm t), ?_⟩
        simp only [List.cons_append, List.nil_append, DRL]
        refine ⟨_, _, rfl, ?_, DRL_mono hle hS.df⟩
        simp only [DR]
        refine ⟨⟨w.heap.size, 0, 0, false⟩, ?_, rfl⟩
        rw [Gm.put_other _ _ (by simp [Hp.push])]
        exact Gm.put_same _ _ _
    · -- within a round
      rename_i l
      split at hv <;> try exact hv.elim
      rename_i o ho
      split at hv <;> try exact hv.elim
      rename_i st pend lim n sg ps as' bd' dn hc
      obtain ⟨hln, q, hq, hro'⟩ := hro
      obtain ⟨q', hq', hob⟩ := hR.objs l o ho
      rw [hq] at hq'
      injection hq' with eq
      subst eq
      obtain ⟨t, fr, c⟩ := o
      simp only at hc
      subst hc
      simp only [ObjR] at hob
      obtain ⟨hnl, hfr, fn0, tm0, qd, hfn0, hob, hvl0, hdn⟩ := hob
      have hLl := hR.push (ob := .loop { state := .ready, pending := none, fn := b.fn, tmps := a.tmps, params := params, assign := as, body := bd, defers := qd.blk }) (q := ⟨w.heap.size, 0, 0, false⟩) (o := loopRec H.next σ N params as bd dn) rfl rfl rfl
        (by
          simp only [loopRec, ObjR]
          refine ⟨trivial, trivial, b.fn, a.tmps, qd, hfn, heap_alloc_new _ _, ?_, ?_⟩
          · exact ⟨hvl.1, fun t => VR_mono (Gm.cut_mono (Gm.le_put (hR.fresh _ (Nat.le_refl _))) _) _ _ (hvl.2 t)⟩
          · exact (Gm.le_put (hR.fresh _ (Nat.le_refl _))).nm _ _ hdn)
      refine call H.next ⟨w.heap.size, 0, 0, false⟩ [] _ _ _ ds ?_ (Gm.put_same _ _ _) (by simp [Hp.push]) (hLl.mono hn) (hLl.le hR) ?_ hv
      · rw [hro']
        simp [Instr.enterLoop, run_getLoop hob, newObj, Sem.run]
      · exact ⟨hS.size, fun t => VR_mono (hLl.le hR) _ _ (hS.tm t), DRL_mono (hLl.le hR) hS.df⟩
  | .scope x, σ, ds, H, Q, Γ, a, w, hn, hro, hR, hS, hv => by
    simp only [vc_skip, vc_label, vc_region, vc_seq, vc_cond, vc_block, vc_loop, vc_exit, vc_goto, vc_ret, vc_rangeFunc, vc_scope, vc_refuse] at hv
    refine wpB_scope (wpB_mono (vc_sound hfn x σ ds H _ Γ a w hn hro hR hS hv) ?_)
    rintro e' a1 w1 ⟨e, σ', ds', H', Γ', h1, h2, h3, h4⟩
    cases e with
    | normal => simp only [XR] at h2; subst h2; exact ⟨by simp, .normal, _, _, _, _, h1, rfl, h3, h4⟩
    | exit i => simp only [XR] at h2; subst h2; exact ⟨by simp, .exit i, _, _, _, _, h1, rfl, h3, h4⟩
    | goto i => exact h1.elim
    | ret => simp only [XR] at h2; subst h2; exact ⟨by simp, .ret, _, _, _, _, h1, rfl, h3, h4⟩
    | panic ch => simp only [XR] at h2; obtain ⟨ch', rfl, hp⟩ := h2; exact ⟨by simp, .panic ch, _, _, _, _, h1, ⟨ch', rfl, hp⟩, h3, h4⟩
  | .refuse _, _, _, _, _, _, _, _, _, _, _, _, hv => hv.elim
end
end Go.Proofs.YtemlkodkohgmmaaDoor.Y
