/- The conditions of a piece of code imply the walk. -/
import Derived.Test.YtemlkodkohgmmaaDoorYn
namespace Go.Proofs.YtemlkodkohgmmaaDoor.Y
open Go

def XR (Γ : Gm) : AX → Exit → Prop
  | .normal, e' => e' = .normal
  | .exit i, e' => e' = .exit i
  | .goto l, e' => e' = .goto l
  | .ret, e' => e' = .ret
  | .panic ch, e' => ∃ ch', e' = .panic ch' ∧ PEL Γ ch ch'

/-- What holds behind a piece of code. -/
def CP (C : Cx) (n0 N : Nat) (Γ : Gm) (H : Hp) (w : World) (Q : KQ) (e' : Exit) (a' : Act) (w' : World) : Prop :=
  ∃ e σ' ds' H' Γ', Q e σ' ds' H' ∧ XR Γ' e e' ∧ SR Γ' σ' ds' N a' ∧ Later C n0 Γ H w Γ' H' w'

/-- The walk of a piece of code in a given frame. -/
def wpB (P : Program) (b : Frame) (c : Code) (Q : Exit → Act → World → Prop) (a : Act) (w : World) : Prop :=
  ∀ (k : List Item) (cs : List Frame), ∃ e a' w', Q e a' w' ∧ ArrivesIn (Machine.fenced P (Fz b.roundOf)) P (lone (b.atR a (.code c :: k)) cs w) b k cs e a' w'

section
variable {P : Program} {b : Frame} {Q Q' : Exit → Act → World → Prop} {a : Act} {w : World}

theorem room_Fz (ro : Option Nat) (n : Nat) : (Fz ro).room n := fun d hd => by simp [Fz, Fence.wide] at hd
theorem fn_Fz (ro : Option Nat) (f : FuncId) : (Fz ro).fn f := trivial
theorem calm {fr : Frame} {cs : List Frame} {w : World} (h : fr.about P w = none) (ro : Option Nat) : (lone fr cs w).fenced P (Fz ro) := fenced_calm (n := 0) (fn_Fz _ _) (room_Fz _ _) h
theorem fenced_any {fr : Frame} {cs : List Frame} {w : World} (ro : Option Nat) : (lone fr cs w).fenced P (Fz ro) :=
  fenced_lone (.inl trivial) (fun _ _ => trivial) (room_Fz _ _)

theorem wpB_of {c : Code} (h : c.wpIn (Fz b.roundOf) 0 P Q a w) : wpB P b c Q a w := fun k cs => h b k cs rfl (fn_Fz _ _) (room_Fz _ _)

theorem wpB_mono {c : Code} (h : wpB P b c Q a w) (hq : ∀ e a w, Q e a w → Q' e a w) : wpB P b c Q' a w :=
  fun k cs => let ⟨e, a', w', q, r⟩ := h k cs; ⟨e, a', w', hq _ _ _ q, r⟩

theorem wpB_seq {x y : Code} (h : wpB P b x (Exit.then (wpB P b y Q) Q) a w) : wpB P b (.seq x y) Q a w := by
  intro k cs
  obtain ⟨e, a₁, w₁, hq, harr⟩ := h (.code y :: k) cs
  have s0 : StepsIn (Machine.fenced P (Fz b.roundOf)) P (lone (b.atR a (.code (.seq x y) :: k)) cs w) (lone (b.atR a (.code x :: .code y :: k)) cs w) := .one (fenced_any _) stepR_seq
  cases e with
  | normal =>
    obtain ⟨e₂, a₂, w₂, hq₂, harr₂⟩ := hq k cs
    exact ⟨e₂, a₂, w₂, hq₂, .of_steps (StepsIn.trans s0 harr) harr₂⟩
  | exit id => exact ⟨_, a₁, w₁, hq, .of_steps s0 (.pass (x := .code y) rfl (fun _ _ => .inl (by simp)) harr)⟩
  | goto l => exact ⟨_, a₁, w₁, hq, .of_steps s0 (.pass (x := .code y) rfl (fun _ _ => .inl (by simp)) harr)⟩
  | ret => exact ⟨_, a₁, w₁, hq, .of_steps s0 (.pass (x := .code y) rfl (fun _ _ => .inl (by simp)) harr)⟩
  | panic ch => exact ⟨_, a₁, w₁, hq, .of_steps s0 (.pass (x := .code y) rfl (fun _ _ => .inl (by simp)) harr)⟩
  | outgrown => exact ⟨_, a₁, w₁, hq, .of_steps s0 (.pass (x := .code y) rfl (fun _ _ => .inl (by simp)) harr)⟩

theorem wpB_cond {c : Operand} {x y : Code} {t : Bool} (hc : a.eval c = .bool t) (h : wpB P b (if t then x else y) Q a w) : wpB P b (.cond c x y) Q a w :=
  fun k cs => let ⟨e, a', w', q, r⟩ := h k cs; ⟨e, a', w', q, .of_steps (.one (fenced_any _) (stepR_cond hc)) r⟩

theorem wpB_loop {c : Code} {α : Type} (I : α → Act → World → Prop) (μ : α → Nat) (x₀ : α) (h₀ : I x₀ a w)
    (round : ∀ x a w, I x a w → wpB P b c (Exit.then (fun a' w' => ∃ x', I x' a' w' ∧ μ x' < μ x) Q) a w) : wpB P b (.loop c) Q a w := by
  intro k cs
  have key : ∀ j x a w, μ x = j → I x a w →
      ∃ e a' w', Q e a' w' ∧ ArrivesIn (Machine.fenced P (Fz b.roundOf)) P (lone (b.atR a (.code c :: .inLoop c :: k)) cs w) b k cs e a' w' := by
    intro j
    induction j using Nat.strongRecOn with
    | _ j ih =>
      intro x a w hn hI
      obtain ⟨e, a₁, w₁, hq, harr⟩ := round x a w hI (.inLoop c :: k) cs
      cases e with
      | normal =>
        obtain ⟨x', hI₁, hlt⟩ := hq
        obtain ⟨e₂, a₂, w₂, hq₂, harr₂⟩ := ih (μ x') (hn ▸ hlt) x' a₁ w₁ rfl hI₁
        exact ⟨e₂, a₂, w₂, hq₂, .of_steps (StepsIn.trans harr (.one (fenced_any _) stepR_inLoop)) harr₂⟩
      | exit id => exact ⟨_, a₁, w₁, hq, .pass (x := .inLoop c) rfl (fun _ _ => .inl (by simp)) harr⟩
      | goto l => exact ⟨_, a₁, w₁, hq, .pass (x := .inLoop c) rfl (fun _ _ => .inl (by simp)) harr⟩
      | ret => exact ⟨_, a₁, w₁, hq, .pass (x := .inLoop c) rfl (fun _ _ => .inl (by simp)) harr⟩
      | panic ch => exact ⟨_, a₁, w₁, hq, .pass (x := .inLoop c) rfl (fun _ _ => .inl (by simp)) harr⟩
      | outgrown => exact ⟨_, a₁, w₁, hq, .pass (x := .inLoop c) rfl (fun _ _ => .inl (by simp)) harr⟩
  obtain ⟨e, a', w', hq, harr⟩ := key _ x₀ a w rfl h₀
  exact ⟨e, a', w', hq, .of_steps (.one (fenced_any _) stepR_loop) harr⟩

theorem wpB_block {id : Nat} {c : Code} (h : wpB P b c (Exit.inBlock id Q) a w) : wpB P b (.block id c) Q a w := by
  intro k cs
  obtain ⟨e, a₁, w₁, hq, harr⟩ := h (.inBlock id :: k) cs
  have s0 : StepsIn (Machine.fenced P (Fz b.roundOf)) P (lone (b.atR a (.code (.block id c) :: k)) cs w) (lone (b.atR a (.code c :: .inBlock id :: k)) cs w) := .one (fenced_any _) stepR_block
  cases e with
  | normal => exact ⟨.normal, a₁, w₁, hq, StepsIn.trans s0 (StepsIn.trans harr (.one (fenced_any _) stepR_inBlock))⟩
  | exit id' =>
    by_cases hid : id' = id
    · subst hid
      simp only [Exit.inBlock, if_true] at hq
      exact ⟨.normal, a₁, w₁, hq, StepsIn.trans s0 (harr.1 k (by simp [exitTo]))⟩
    · simp only [Exit.inBlock, hid, if_false] at hq
      have hx : exitTo id' (.inBlock id :: k) = exitTo id' k := by
        have : (id == id') = false := by simp; exact fun h => hid h.symm
        simp [exitTo, this]
      refine ⟨.exit id', a₁, w₁, hq, fun k' hk => StepsIn.trans s0 (harr.1 k' (hx.trans hk)), fun hr hk => ?_⟩
      obtain ⟨k₁, h1, h2⟩ := harr.2 hr (hx.trans hk)
      exact ⟨k₁, h1, StepsIn.trans s0 h2⟩
  | goto l =>
    have hx : gotoIn l (.inBlock id :: k) = gotoIn l k := by simp [gotoIn]
    refine ⟨_, a₁, w₁, hq, fun k' hk => StepsIn.trans s0 (harr.1 k' (hx.trans hk)), fun hr hk => ?_⟩
    obtain ⟨k₁, h1, h2⟩ := harr.2 hr (hx.trans hk)
    exact ⟨k₁, h1, StepsIn.trans s0 h2⟩
  | ret => exact ⟨_, a₁, w₁, hq, .of_steps s0 harr⟩
  | panic ch => exact ⟨_, a₁, w₁, hq, .of_steps s0 harr⟩
  | outgrown => exact ⟨_, a₁, w₁, hq, .of_steps s0 harr⟩

theorem stepR_scope {c : Code} {k : List Item} {cs : List Frame} : step P (lone (b.atR a (.code (.scope c) :: k)) cs w) = .next (lone (b.atR a (.code c :: .inScope c :: k)) cs w) :=
  step_lone_go (by simp [stepG, stepG.exec, Frame.atR])
theorem stepR_inScope {c : Code} {k : List Item} {cs : List Frame} : step P (lone (b.atR a (.inScope c :: k)) cs w) = .next (lone (b.atR a k) cs w) :=
  step_lone_go (by simp [stepG, stepG.exec, Frame.atR])

/-- A scope out of which, and within which, nothing jumps to a label. -/
theorem wpB_scope {c : Code} (h : wpB P b c (fun e a w => (∀ l, e ≠ .goto l) ∧ Q e a w) a w) : wpB P b (.scope c) Q a w := by
  intro k cs
  obtain ⟨e, a₁, w₁, ⟨hng, hq⟩, harr⟩ := h (.inScope c :: k) cs
  have s0 : StepsIn (Machine.fenced P (Fz b.roundOf)) P (lone (b.atR a (.code (.scope c) :: k)) cs w) (lone (b.atR a (.code c :: .inScope c :: k)) cs w) := .one (fenced_any _) stepR_scope
  cases e with
  | normal => exact ⟨.normal, a₁, w₁, hq, StepsIn.trans s0 (StepsIn.trans harr (.one (fenced_any _) stepR_inScope))⟩
  | exit id =>
    have hx : exitTo id (.inScope c :: k) = exitTo id k := by simp [exitTo]
    refine ⟨.exit id, a₁, w₁, hq, fun k' hk => StepsIn.trans s0 (harr.1 k' (hx.trans hk)), fun hr hk => ?_⟩
    obtain ⟨k₁, h1, h2⟩ := harr.2 hr (hx.trans hk)
    exact ⟨k₁, h1, StepsIn.trans s0 h2⟩
  | goto l => exact absurd rfl (hng l)
  | ret => exact ⟨_, a₁, w₁, hq, .of_steps s0 harr⟩
  | panic ch => exact ⟨_, a₁, w₁, hq, .of_steps s0 harr⟩
  | outgrown => exact ⟨_, a₁, w₁, hq, .of_steps s0 harr⟩

/-- What is asked when the function that was ranged over has ended. -/
def rngPost (P : Program) (b : Frame) (l : Nat) (Q : Exit → Act → World → Prop) (a' : Act) : Ending → World → Prop
  | .returned _, w₃ => ∃ jump w₄, (Instr.endLoop l).run P w₃ = .ok jump w₄ ∧ (match jump with | none => Q .normal a' w₄ | some c => wpB P b c Q a' w₄)
  | .panicked chain, w₃ => Q (.panic chain) a' w₃
  | .outgrown, _ => False

theorem wpB_range {g : Operand} {ps : Array Tmp} {as bd : Code} {l : Nat} {mark : List Deferred} {w₁ w₁' w₂ : World} {d : Deferred} {f : FuncId} {args : Array Value}
    (he : (Instr.enterLoop b.fn a.tmps ps as bd b.roundOf).run P w = .ok (l, mark) w₁) (hres : (resolve a.eval (rangeCall g l) 0).run P w₁ = .ok d w₁') (hinv : (invoke d.target d.args).run P w₁' = .ok (.enter f args) w₂)
    (hcall : Calls P f args w₂ (rngPost P b l Q { a with defers := mark ++ a.defers })) : wpB P b (.rangeFunc g ps as bd) Q a w := by
  intro k cs
  have henter := stepR_rangeFunc (P := P) (b := b) (a := a) (k := k) (cs := cs) (w := w) he hres hinv
  obtain ⟨e, w₃, fr, hR, hsteps, hfn, hleave⟩ := (calls_in (ro := b.roundOf) hcall).2 (b.atR { a with defers := mark ++ a.defers } (.inRangeFunc l :: k) :: cs) (room_Fz _ _)
  cases e with
  | outgrown => exact hR.elim
  | returned v =>
    obtain ⟨jump, w₄, hend, hj⟩ := hR
    have sback : StepsIn (Machine.fenced P (Fz b.roundOf)) P (lone (b.atR a (.code (.rangeFunc g ps as bd) :: k)) cs w) (lone (b.atR { a with defers := mark ++ a.defers } ((jump.map Item.code).toList ++ k)) cs w₄) := by
      refine .head (fenced_any _) henter (StepsIn.trans hsteps (.head (fenced_any _) ?_ (.one (fenced_any _) (stepR_endRangeFunc hend))))
      rw [← finish_atR_inRangeFunc l v]; exact step_leave_returned hleave
    cases jump with
    | none => exact ⟨.normal, _, w₄, hj, sback⟩
    | some c =>
      obtain ⟨e', a'', w₅, hq, harr⟩ := hj k cs
      exact ⟨e', a'', w₅, hq, .of_steps sback harr⟩
  | panicked chain =>
    refine ⟨.panic chain, _, w₃, hR, .inRangeFunc l :: k, .head (fenced_any _) henter (StepsIn.trans hsteps (.one (fenced_any _) ?_))⟩
    rw [← Frame.raise_atR]; exact step_leave_panicked hleave

/-! ### Records -/
theorem run_getLoop {l : Nat} {r : Loop} (h : w.heap[l]? = some (.loop r)) : (Instr.getLoop l).run P w = .ok r w := by
  simp [Instr.getLoop, getObj, Sem.run, h]
theorem run_setLoop {l : Nat} {r r' : Loop} (h : w.heap[l]? = some (.loop r)) : (setObj l (.loop r')).run P w = .ok () (putBlk w l (.loop r')) := by
  simp only [setObj, Sem.run, h, putBlk]
theorem run_endLoop {l : Nat} {r : Loop} (h : w.heap[l]? = some (.loop r)) (hs : r.state ≠ .busy) : (Instr.endLoop l).run P w = .ok r.pending (putBlk w l (.loop { r with state := .exhausted })) := by
  simp [Instr.endLoop, run_getLoop h, run_setLoop (r' := { r with state := .exhausted }) h]
  exact fun e => absurd e hs
end

section
variable {C : Cx}

theorem CP.trans {n0 N : Nat} {Γ Γ1 : Gm} {H H1 : Hp} {w w1 : World} {Q : KQ} (hL : Later C n0 Γ H w Γ1 H1 w1) {e' : Exit} {a' : Act} {w' : World} (h : CP C n0 N Γ1 H1 w1 Q e' a' w') : CP C n0 N Γ H w Q e' a' w' := by
  obtain ⟨e, σ', ds', H', Γ', h1, h2, h3, h4⟩ := h
  exact ⟨e, σ', ds', H', Γ', h1, h2, h3, hL.trans h4⟩

/-- The record of the round. -/
def RO (n0 : Nat) (Γ : Gm) : Option Nat → Option Nat → Prop
  | none, ro => ro = none
  | some l, ro => l < n0 ∧ ∃ q, Γ.nm l = some q ∧ ro = some q.blk
theorem RO.isSome {n0 : Nat} {Γ : Gm} {rn ro : Option Nat} (h : RO n0 Γ rn ro) : rn.isSome = ro.isSome := by
  cases rn with
  | none => simp only [RO] at h; subst h; rfl
  | some l => obtain ⟨_, q, _, rfl⟩ := h; rfl
theorem RO.ext {n0 : Nat} {Γ Γ' : Gm} {rn ro : Option Nat} (h : RO n0 Γ rn ro) (he : Ext n0 Γ Γ') : RO n0 Γ' rn ro := by
  cases rn with
  | none => exact h
  | some l => obtain ⟨h1, q, h2, h3⟩ := h; exact ⟨h1, q, by rw [he l h1]; exact h2, h3⟩

theorem SR_list {H : Hp} {w : World} {Γ : Gm} {σ : Sg} {ds : List AD} {N : Nat} {a : Act} (hR : R C Γ H w) (h : SR Γ σ ds N a) : a.tmps.size = N ∧ ∀ t, VR (Γ.cut H.next) (σ t) (a.tmps.getD t undef) := by
  have : Γ.le (Γ.cut H.next) := by
    refine ⟨fun n q hq => ?_, Fzn.le_refl _⟩
    have hn : n < H.next := by
      rcases Nat.lt_or_ge n H.next with h1 | h1
      · exact h1
      · rw [hR.fresh n h1] at hq; cases hq
    simp only [Gm.cut]
    rw [show Nat.blt n H.next = true by simpa using hn]
    exact hq
  exact ⟨h.size, fun t => VR_mono this _ _ (h.tm t)⟩

/-- Behind the statement. -/
theorem range_post {b : Frame} {n0 N L : Nat} {Γ Γ1 : Gm} {H H1 : Hp} {w w1 : World} {σ : Sg} {ds1 : List AD} {Q : KQ} {a' : Act} {q : Pl} (hL1 : Later C n0 Γ H w Γ1 H1 w1) (hS1 : SR Γ1 σ ds1 N a') (hq : Γ1.nm L = some q) (hlt : L < H1.next)
    {e' : Ending} {w3 : World} (hP : Post C Γ1 H1 w1 (fun e H' => match e with
    | .returned _ => match lget H'.l L with
      | some o => match o.c with
        | .lp st pend lim n a b c d dn => match st with
          | .busy => False
          | _ => pendQ pend Q σ ds1 { H' with l := lset H'.l L { o with c := .lp .exhausted pend lim n a b c d dn } }
        | _ => False
      | none => False
    | .panicked ch => Q (.panic ch) σ ds1 H') e' w3) : rngPost C.P b q.blk (CP C n0 N Γ H w Q) a' e' w3 := by
  obtain ⟨e, H', Γ', hQ, hE, hL⟩ := hP
  have hLn : Later C n0 Γ H w Γ' H' w3 := hL1.trans (hL.mono hL1.2.2.1)
  have hSR : SR Γ' σ ds1 N a' := hS1.mono (hL.le hL1.1)
  cases e with
  | panicked ch =>
    obtain ⟨ch', rfl, hch⟩ := hE
    exact ⟨.panic ch, σ, ds1, H', Γ', hQ, ⟨ch', rfl, hch⟩, hSR, hLn⟩
  | returned v =>
    obtain ⟨v', rfl, _⟩ := hE
    simp only at hQ
    split at hQ <;> try exact hQ.elim
    rename_i o ho
    split at hQ <;> try exact hQ.elim
    rename_i st pend lim n sg ps as bd dn hc
    have hq' : Γ'.nm L = some q := by rw [hL.2.1 L hlt]; exact hq
    obtain ⟨q', hq'', hob⟩ := hL.1.objs L o ho
    rw [hq'] at hq''
    injection hq'' with eq
    subst eq
    obtain ⟨t, fr, c⟩ := o
    simp only at hc
    subst hc
    simp only [ObjR] at hob
    obtain ⟨hnl, hfr, fn, tm, qd, hfn, hob, hvl, hdn⟩ := hob
    subst hfr
    have hnb : st ≠ .busy := by
      intro e
      subst e
      exact hQ
    have hQ' : pendQ pend Q σ ds1 { H' with l := lset H'.l L ⟨t, false, .lp .exhausted pend lim n sg ps as bd dn⟩ } := by
      cases st <;> first | exact hQ | exact absurd rfl hnb
    have hend := run_endLoop (P := C.P) hob hnb
    have hrep := hL.1.repl ho rfl hq' hnl (o' := ⟨t, false, .lp .exhausted pend lim n sg ps as bd dn⟩) rfl (x := .loop { state := .exhausted, pending := pend, fn := fn, tmps := tm, params := ⟨ps⟩, assign := as, body := bd, defers := qd.blk })
      (by simp only [ObjR]; exact ⟨hnl, trivial, fn, tm, qd, hfn, putBlk_same hob, hvl, hdn⟩)
    have hLL := hLn.trans (hrep.mono hLn.2.2.1)
    refine ⟨pend, _, hend, ?_⟩
    unfold pendQ at hQ'
    split at hQ'
    · exact ⟨.normal, σ, ds1, _, Γ', hQ', rfl, hSR, hLL⟩
    · exact wpB_of (wpIn_ret ⟨.ret, σ, ds1, _, Γ', hQ', rfl, hSR, hLL⟩)
    · exact wpB_of (wpIn_exit ⟨.exit _, σ, ds1, _, Γ', hQ', rfl, hSR, hLL⟩)
    · exact wpB_of (wpIn_goto ⟨.goto _, σ, ds1, _, Γ', hQ', rfl, hSR, hLL⟩)
    · exact hQ'.elim
end
end Go.Proofs.YtemlkodkohgmmaaDoor.Y
