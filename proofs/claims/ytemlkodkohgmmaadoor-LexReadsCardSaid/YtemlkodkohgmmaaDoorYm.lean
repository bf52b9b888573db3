/- Regions that draw their order: sound. -/
import Derived.Test.YtemlkodkohgmmaaDoorYl
namespace Go.Proofs.YtemlkodkohgmmaaDoor.Y
open Go

section
variable {C : Cx}

structure DI (C : Cx) (N : Nat) (all : List Oper) (σ0 : Sg) (S : Nat → Bool) (L : List En) (ds : List AD) (Γ : Gm) (H : Hp) (a : Act) (w : World) : Prop where
  lok : LOK all L
  clo : Clo all S
  sub : ∀ i, S i = true → i ∈ dm L
  syn : ∀ e ∈ L, e.sy = true → S e.i = true
  r : R C Γ H w
  sr : SR Γ (ap σ0 (L.filter fun e => S e.i)) ds N a
  held : ∀ L1 e L2, L = L1 ++ e :: L2 → e.sy = false → S e.i = false → HeldAt C all σ0 H e L2

theorem R.bare {Γ : Gm} {H : Hp} {w : World} (h : R C Γ H w) : R C Γ ⟨H.next, []⟩ w :=
  ⟨h.glob, h.fresh, h.fzok, fun n o hn => by simp [lget] at hn, fun n o q hn => by simp [lget] at hn, fun n o m p q q' hn => by simp [lget] at hn⟩

theorem popO_sound {Γ : Gm} {H : Hp} {w : World} (h : R C Γ H w) {ev : Operand → AV} {ev' : Operand → Value} (hev : ∀ x, VR Γ (ev x) (ev' x)) (o : Oper) {v : AV} (hv : (pop C.P o.op ev (lkO o.op H)).Yld v) :
    ∃ v', (execOp ev' o).run C.P w = .ok (.value v') w ∧ VR Γ v v' := by
  unfold lkO at hv
  split at hv
  · exact pop_sound h hev o hv
  · exact pop_sound (H := ⟨H.next, []⟩) h.bare hev o hv

theorem pop_defer {op : Op} {ev : Operand → AV} {lk : Nat → Option AObj} {v : AV} (h : (pop C.P op ev lk).Yld v) : ∀ c, op ≠ .defer c := by
  rintro c rfl
  exact h

theorem rst_SR {Γ : Gm} {σ σ' : Sg} {ds : List AD} {N : Nat} {a : Act} {l : List Nat} (h : SR Γ σ ds N a) (he : ∀ t ∈ l, σ t = σ' t) : SR Γ (rst l σ') ds N a := by
  refine ⟨h.size, fun t => ?_, h.df⟩
  unfold rst
  split
  · rename_i e
    rw [← he t (elemN_iff.1 e)]
    exact h.tm t
  · exact VR_junk _ _

/-- An operation that has been gone through ahead comes up. -/
theorem pend_sound {ro : Option Nat} {N : Nat} {ops : Array Oper} {σ0 : Sg} {S : Nat → Bool} {L : List En} {ds : List AD} {Γ : Gm} {H : Hp} {a : Act} {w : World} {Q : Exit → Act → World → Prop} {K : Act → World → Prop}
    (hso : SO N ops.toList) (hI : DI C N ops.toList σ0 S L ds Γ H a w) {L1 L2 : List En} {e : En} (hL : L = L1 ++ e :: L2) (hs : e.sy = false) (he : S e.i = false) (hd : ∀ d ∈ dps e.o, S d = true)
    (hn : ∀ v', VR Γ e.v v' → K (a.put e.o.dst v') w) : wpOpIn (Fz ro) 0 C.P ops Q e.i K a w := by
  have hh := hI.held L1 e L2 hL hs he
  have hl := hI.lok
  rw [hL] at hl
  have hsr : SR Γ (rst (looks ops.toList e.o) (ap σ0 L2)) ds N a := rst_SR hI.sr fun t ht => by
    rw [hL]; exact view hso hl hI.clo he hd ht
  have ho : ops[e.i]? = some e.o := by
    have := hl.tail.1
    rw [onth_eq, Array.getElem?_toList] at this
    exact this
  unfold wpOpIn
  simp only [ho]
  unfold HeldAt at hh
  split at hh
  · rename_i hg
    rw [gd_sound hsr hg]
    simp only [if_true]
    refine ⟨fun _ _ => trivial, ?_⟩
    obtain ⟨v', h1, h2⟩ := popO_sound hI.r (evl_sound hI.r hsr) e.o hh
    show e.o.uponIn (Fz ro) 0 C.P a K Q ((e.o.semAt ro a.eval).run C.P w)
    rw [Oper.semAt_eq ro a.eval e.o (pop_defer hh), h1]
    exact hn v' h2
  · rename_i hg
    rw [gd_sound hsr hg]
    simp only [Bool.false_eq_true, if_false]
    refine ⟨fun _ _ => trivial, hn undef ?_⟩
    rw [hh]
    exact VR_undef Γ
  · exact hh.elim

theorem SR.putO {Γ Γ' : Gm} {σ σ' : Sg} {ds ds' : List AD} {N : Nat} {a : Act} (h : SR Γ σ ds N a) (hb : Γ.le Γ') {dst : Option Tmp} {v : AV} {v' : Value} {dd' : List Deferred} (hv : VR Γ' v v') (hd : DRL Γ' ds' dd') (hN : ∀ d, dst = some d → d < N)
    (hσ : ∀ t, σ' t = (match dst with | none => σ | some d => upd σ d v) t) : SR Γ' σ' ds' N (({ a with defers := dd' } : Act).put dst v') := by
  cases dst with
  | none =>
    refine ⟨h.size, fun t => ?_, hd⟩
    rw [hσ t]
    exact VR_mono hb _ _ (h.tm t)
  | some d =>
    have : σ' = upd σ d v := funext hσ
    rw [this]
    exact h.put hb hv hd (hN d rfl)

theorem Held_get {all : List Oper} {σ0 : Sg} {hs : List Nat} {H : Hp} : ∀ {L : List En}, Held C all σ0 hs H L → ∀ {L1 L2 : List En} {e : En}, L = L1 ++ e :: L2 → elemN e.i hs = true → HeldAt C all σ0 H e L2
  | [], _, L1, L2, e, h, _ => by simp at h
  | x :: L, h, [], L2, e, hL, he => by
    simp only [List.nil_append, List.cons.injEq] at hL
    obtain ⟨rfl, rfl⟩ := hL
    simp only [Held, he] at h
    exact h.1
  | x :: L, h, y :: L1, L2, e, hL, he => by
    simp only [List.cons_append, List.cons.injEq] at hL
    simp only [Held] at h
    split at h
    · exact Held_get h.2 hL.2 he
    · exact Held_get h hL.2 he

theorem HeldAt_calm {all : List Oper} {σ0 : Sg} {H H' : Hp} {e : En} {L : List En} (hr : rdHeap e.o.op = false) (h : HeldAt C all σ0 H e L) : HeldAt C all σ0 H' e L := by
  unfold HeldAt lkO at *
  simp only [hr] at *
  exact h

/-- The conditions up to the next effect. -/
theorem advance {rd : Bool} {N : Nat} {all : List Oper} {ms : List Nat} {σ0 : Sg} {K : Sg → List AD → Hp → Prop} {X : List AP → Sg → List AD → Hp → Prop} {S : Nat → Bool} {ds : List AD} {Γ : Gm} {H : Hp} {a : Act} {w : World} :
    ∀ (ot : OT) (L : List En) (pu : List Nat), otOK all ms ot (dm L) pu [] = true → (∀ e ∈ L, e.sy = false → rdHeap e.o.op = true → e.i ∈ pu) → vD C rd all σ0 K X ot L ds H → DI C N all σ0 S L ds Γ H a w →
      ∃ ot' L' pu', otOK all ms ot' (dm L') pu' [] = true ∧ (∀ e ∈ L', e.sy = false → rdHeap e.o.op = true → e.i ∈ pu') ∧ vD C rd all σ0 K X ot' L' ds H ∧ DI C N all σ0 S L' ds Γ H a w ∧ (ot' = .fin ∨ ∃ i hs t alt, ot' = .eff i hs t alt)
  | .fin, L, pu, hok, hpu, hv, hI => ⟨_, L, pu, hok, hpu, hv, hI, .inl rfl⟩
  | .eff i hs t alt, L, pu, hok, hpu, hv, hI => ⟨_, L, pu, hok, hpu, hv, hI, .inr ⟨_, _, _, _, rfl⟩⟩
  | .nil, L, pu, hok, hpu, hv, hI => by simp [otOK] at hok
  | .pure i t, L, pu, hok, hpu, hv, hI => by
    simp only [otOK, Bool.and_eq_true, Bool.not_eq_true'] at hok
    obtain ⟨hi, hok⟩ := hok
    simp only [vD_fin, vD_pure, vD_eff, vD_nil] at hv
    cases ho : onth all i with
    | none => rw [ho] at hv; exact hv.elim
    | some o =>
      rw [ho] at hv hok
      simp only [Bool.and_eq_true] at hok hv
      obtain ⟨hdp, hok⟩ := hok
      have hni : i ∉ dm L := elemN_false.1 hi
      have hdep : ∀ d ∈ dps o, d ∈ dm L := fun d hd => elemN_iff.1 (List.all_eq_true.1 hdp d hd)
      have hSi : S i = false := by
        cases h : S i
        · rfl
        · exact absurd (hI.sub i h) hni
      -- with its value
      have go : ∀ v, HeldAt C all σ0 H ⟨i, o, v, false⟩ L → DI C N all σ0 S (⟨i, o, v, false⟩ :: L) ds Γ H a w := by
        intro v hh
        refine ⟨⟨ho, hdep, hni, hI.lok⟩, hI.clo, fun j hj => List.mem_cons_of_mem _ (hI.sub j hj), fun e he hs => ?_, hI.r, ?_, fun L1 e L2 hL hs hS => ?_⟩
        · rcases List.mem_cons.1 he with rfl | he
          · cases hs
          · exact hI.syn e he hs
        · rw [List.filter_cons_of_neg (by simp [hSi])]
          exact hI.sr
        · cases L1 with
          | nil =>
            simp only [List.nil_append, List.cons.injEq] at hL
            obtain ⟨rfl, rfl⟩ := hL
            exact hh
          | cons x L1 =>
            simp only [List.cons_append, List.cons.injEq] at hL
            exact hI.held L1 e L2 hL.2 hs hS
      have hpu' : ∀ v, ∀ e ∈ (⟨i, o, v, false⟩ :: L : List En), e.sy = false → rdHeap e.o.op = true → e.i ∈ (match rdHeap o.op with | true => i :: pu | false => pu) := by
        intro v e he hs hr
        rcases List.mem_cons.1 he with rfl | he
        · simp only at hr
          rw [hr]
          simp
        · have := hpu e he hs hr
          split
          · exact List.mem_cons_of_mem _ this
          · exact this
      cases hg : gd all o (rst (looks all o) (ap σ0 L)) with
      | none => rw [hg] at hv; exact hv.elim
      | some b =>
        rw [hg] at hv
        cases b with
        | true =>
          obtain ⟨v, h1, h2⟩ := PRes.yld hv
          exact advance t (⟨i, o, v, false⟩ :: L) _ hok (hpu' v) h2 (go v (by unfold HeldAt; simp only [hg]; exact h1))
        | false =>
          exact advance t (⟨i, o, und, false⟩ :: L) _ hok (hpu' und) hv (go und (by unfold HeldAt; simp only [hg]))

/-- What is asked of an effect. -/
def EffIt (C : Cx) (rd : Bool) (all : List Oper) (σ0 : Sg) (K : Sg → List AD → Hp → Prop) (X : List AP → Sg → List AD → Hp → Prop) (i : Nat) (hs : List Nat) (t : OT) (L : List En) (ds : List AD) (H : Hp) : Prop :=
  match onth all i with
      | none => False
      | some o => match gd all o (rst (looks all o) (ap σ0 L)) with
        | some true => vOp C rd o (rst (looks all o) (ap σ0 L)) ds H
            (fun v ds' H' => match hs with
              | [] => vD C rd all σ0 K X t (⟨i, o, v, true⟩ :: L) ds' H'
              | hs => Held C all σ0 hs H' L ∧ vD C rd all σ0 K X t (⟨i, o, v, true⟩ :: L) ds' H')
            (fun ch H' => X ch (unw all σ0) ds H')
        | some false => vD C rd all σ0 K X t (⟨i, o, und, true⟩ :: L) ds H
        | none => False

theorem eff_find {rd : Bool} {all : List Oper} {ms : List Nat} {σ0 : Sg} {K : Sg → List AD → Hp → Prop} {X : List AP → Sg → List AD → Hp → Prop} {L : List En} {ds : List AD} {H : Hp} {dom pu : List Nat} {i : Nat} {o : Oper} (hi : i ∉ dom) (ho : onth all i = some o) (hd : ∀ d ∈ dps o, d ∈ dom) :
    ∀ (ot : OT) (es : List Nat), otOK all ms ot dom pu es = true → (∃ j hs t alt, ot = .eff j hs t alt) → vD C rd all σ0 K X ot L ds H → i ∉ es →
      ∃ hs t, otOK all ms t (i :: dom) pu [] = true ∧ pu.all (fun k => elemN k hs || (nthN ms i).testBit k) = true ∧ EffIt C rd all σ0 K X i hs t L ds H
  | .fin, _, _, h, _, _ => by obtain ⟨_, _, _, _, h⟩ := h; cases h
  | .pure _ _, _, _, h, _, _ => by obtain ⟨_, _, _, _, h⟩ := h; cases h
  | .nil, _, _, h, _, _ => by obtain ⟨_, _, _, _, h⟩ := h; cases h
  | .eff j hs t alt, es, hok, _, hv, hes => by
    simp only [otOK, Bool.and_eq_true, Bool.not_eq_true'] at hok
    obtain ⟨hj, hok⟩ := hok
    cases hoj : onth all j with
    | none => rw [hoj] at hok; cases hok
    | some oj =>
      rw [hoj] at hok
      simp only [Bool.and_eq_true] at hok
      obtain ⟨⟨⟨h1, h2⟩, h3⟩, h4⟩ := hok
      have hit : EffIt C rd all σ0 K X j hs t L ds H ∧ (alt ≠ .nil → vD C rd all σ0 K X alt L ds H) := by
        simp only [vD_fin, vD_pure, vD_eff, vD_nil] at hv
        split at hv
        · exact ⟨hv, fun h => absurd rfl h⟩
        · exact ⟨hv.1, fun _ => hv.2⟩
      by_cases e : i = j
      · subst e
        exact ⟨hs, t, h3, h2, hit.1⟩
      · cases alt with
        | fin => cases h4
        | pure _ _ => cases h4
        | nil =>
          exfalso
          have := allIx_spec h4 ho
          simp only [Nat.zero_add, Bool.or_eq_true] at this
          rcases this with (h5 | h5) | h5
          · exact hi (elemN_iff.1 h5)
          · rcases List.mem_cons.1 (elemN_iff.1 h5) with h6 | h6
            · exact e h6
            · exact hes h6
          · obtain ⟨d, h6, h7⟩ := List.any_eq_true.1 h5
            rw [elemN_iff.2 (hd d h6)] at h7
            cases h7
        | eff j' hs' t' alt' =>
          exact eff_find hi ho hd _ (j :: es) h4 ⟨_, _, _, _, rfl⟩ (hit.2 (by simp)) (by
            intro h
            rcases List.mem_cons.1 h with h | h
            · exact e h
            · exact hes h)
end
end Go.Proofs.YtemlkodkohgmmaaDoor.Y
