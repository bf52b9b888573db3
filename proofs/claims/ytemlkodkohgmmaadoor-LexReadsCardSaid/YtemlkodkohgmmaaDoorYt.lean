/- Contracts of functions on data, and their use; contracts at named objects, and their use. -/
import Derived.Test.YtemlkodkohgmmaaDoorYs
namespace Go.Proofs.YtemlkodkohgmmaaDoor.Y
open Go

/-- How a call on data ends. -/
inductive PEnd where
  | ret (vs : List PV)
  | pan (v : PV)

def absE : PEnd → AE
  | .ret [x] => .returned (.p x)
  | .ret xs => .returned (.tup (xs.map .p))
  | .pan x => .panicked [⟨.p x, false⟩]

/-- An ending, seen as data. -/
def ResE (L : List (Nat × AObj)) (e : AE) (r : PEnd) : Prop :=
  match r with
  | .ret [x] => ∃ v, e = .returned v ∧ Res L 5 v x
  | .ret xs => ∃ vs, e = .returned (.tup vs) ∧ ResL (Res L 5) vs xs
  | .pan x => ∃ v, e = .panicked [⟨v, false⟩] ∧ Res L 5 v x

/-- The objects that hold cells. -/
def fsOf : List (Nat × AObj) → List Nat
  | [] => []
  | (n, o) :: r => match isCells o.c with
    | true => n :: fsOf r
    | false => fsOf r

section
variable (C : Cx)

/-- What is asked at the end of a function on data. -/
def EndP (Q : PEnd → Prop) (e : AE) (H' : Hp) : Prop := ∃ r, (marksOK H'.l (fsOf H'.l) = true ∧ ResE (marks H'.l (fsOf H'.l)) e r) ∧ Q r

/-- A CONTRACT ON DATA: it neither writes nor keeps anything that was there. -/
def Pure (g : FuncId) (args : List PV) (Q : PEnd → Prop) : Prop := Holds C g (args.map .p) ⟨0, []⟩ (EndP Q)
end

section
variable {C : Cx}

theorem Pure.mono {g : FuncId} {args : List PV} {Q Q' : PEnd → Prop} (h : Pure C g args Q) (hq : ∀ r, Q r → Q' r) : Pure C g args Q' :=
  Holds.mono h fun _ _ ⟨r, h1, h2⟩ => ⟨r, h1, hq r h2⟩

theorem R.noobj {Γ : Gm} {H : Hp} {w : World} (h : R C Γ H w) : R C ⟨fun _ => none, Γ.fz⟩ ⟨0, []⟩ w :=
  ⟨h.glob, fun _ _ => rfl, h.fzok, fun n o hn => by simp [lget] at hn, fun n o q hn => by simp [lget] at hn, fun n o m p q q' hn => by simp [lget] at hn⟩

theorem own_nil {Γ : Gm} {n k : Nat} (h : Own Γ ⟨n, []⟩ k) : False := by
  obtain ⟨n, o, q, h1, _⟩ := h
  simp [lget] at h1

theorem ResE_sound {Γ : Gm} {H : Hp} {w : World} (hR : R C Γ H w) {e : AE} {r : PEnd} {e' : Ending} (h : ResE H.l e r) (he : ER Γ e e') : ∀ nm, ER ⟨nm, Γ.fz⟩ (absE r) e' := by
  intro nm
  have one : ∀ x v, e = .returned v → Res H.l 5 v x → ER ⟨nm, Γ.fz⟩ (.returned (.p x)) e' := by
    rintro x v rfl h2
    obtain ⟨v', rfl, hv⟩ := he
    exact ⟨v', rfl, by simp only [VR]; exact Res_sound hR 5 _ _ _ h2 hv⟩
  have many : ∀ xs vs, e = .returned (.tup vs) → ResL (Res H.l 5) vs xs → ER ⟨nm, Γ.fz⟩ (.returned (.tup (xs.map .p))) e' := by
    rintro xs vs rfl h2
    obtain ⟨v', rfl, hv⟩ := he
    simp only [VR] at hv
    obtain ⟨vs', rfl, hv⟩ := hv
    exact ⟨_, rfl, by simp only [VR]; exact ⟨vs', rfl, VRL_p.2 (ResL_sound (Res_sound hR 5) h2 hv)⟩⟩
  match r, h with
  | .ret [], h => obtain ⟨vs, h1, h2⟩ := h; exact many [] vs h1 h2
  | .ret [x], h => obtain ⟨v, h1, h2⟩ := h; exact one x v h1 h2
  | .ret (x :: y :: xs), h => obtain ⟨vs, h1, h2⟩ := h; exact many (x :: y :: xs) vs h1 h2
  | .pan x, h =>
    obtain ⟨v, rfl, h2⟩ := h
    obtain ⟨c', rfl, hc⟩ := he
    simp only [PEL] at hc
    obtain ⟨q, qs, rfl, ⟨k1, k2⟩, rfl⟩ := hc
    refine ⟨_, rfl, ?_⟩
    simp only [PEL]
    exact ⟨q, [], rfl, ⟨by simp only [VR]; exact Res_sound hR 5 _ _ _ h2 k1, k2⟩, rfl⟩

/-- What a call on data leaves in the caller's world. -/
theorem pure_post {Γ1 : Gm} {H1 : Hp} {w : World} (hR1 : R C Γ1 H1 w) {Q : PEnd → Prop} {e' : Ending} {w' : World} (h : Post C ⟨fun _ => none, Γ1.fz⟩ ⟨0, []⟩ w (EndP Q) e' w') :
    ∃ r Γ', Q r ∧ Γ'.nm = Γ1.nm ∧ ER Γ' (absE r) e' ∧ Later C H1.next Γ1 H1 w Γ' H1 w' ∧ Tr Γ1 H1 w Γ1 H1 w' ∧ R C Γ1 H1 w' := by
  obtain ⟨e, H', Γc, ⟨r, ⟨hm, hres⟩, hq⟩, hE, hL⟩ := h
  obtain ⟨Γd, ed, hLd⟩ := hL.1.mark hm
  have hLL := hL.trans (hLd.mono (Nat.zero_le _))
  have hE' := ER_mono (hLd.le hL.1) hE
  have hT := hLL.2.2.2
  have hkept : ∀ k, k < w.heap.size → w'.heap[k]? = w.heap[k]? := fun k hk => hT.kept k hk own_nil
  have hle : Γ1.le ⟨Γ1.nm, Γd.fz⟩ := ⟨fun _ _ h => h, hT.fz⟩
  have hobj : ∀ (Γx : Gm), Γ1.le Γx → Γx.nm = Γ1.nm → ∀ n o, lget H1.l n = some o → ∃ q, Γx.nm n = some q ∧ ObjR C.P Γx w' q o := by
    intro Γx hx hnm n o ho
    obtain ⟨q, h1, h2⟩ := hR1.objs n o ho
    exact ⟨q, by rw [hnm]; exact h1, h2.ext hx fun hnl => hkept _ (h2.blk_lt hnl)⟩
  have hown : ∀ n o q, lget H1.l n = some o → o.fr = false → Γ1.nm n = some q → q.nl = false → Γd.fz q.blk = none := by
    intro n o q h1 h2 h3 h4
    have h0 := hR1.own n o q h1 h2 h3 h4
    cases hx : Γd.fz q.blk with
    | none => rfl
    | some a =>
      rcases hT.fzprov _ _ hx with h5 | h5 | h5
      · simp only at h5; rw [h0] at h5; cases h5
      · obtain ⟨q', e1, e2⟩ := hR1.objs n o h1
        rw [h3] at e1; injection e1 with e1; subst e1
        have := e2.blk_lt h4
        omega
      · exact (own_nil h5).elim
  refine ⟨r, ⟨Γ1.nm, Γd.fz⟩, hq, rfl, ResE_sound hLd.1 hres hE' _, ⟨⟨hLd.1.glob, hR1.fresh, hLd.1.fzok, hobj _ hle rfl, hown, hR1.apart⟩, fun _ _ => rfl, Nat.le_refl _, ?_⟩, ?_, ?_⟩
  · refine ⟨hT.os, hT.tape, hT.output, hT.size, fun k hk _ => hkept k hk, fun k hk => .inr hk, hT.fz, fun k a hk => ?_⟩
    rcases hT.fzprov k a hk with h5 | h5 | h5
    · exact .inl h5
    · exact .inr (.inl h5)
    · exact (own_nil h5).elim
  · exact ⟨hT.os, hT.tape, hT.output, hT.size, fun k hk _ => hkept k hk, fun k hk => .inr hk, Fzn.le_refl _, fun k a hk => .inl hk⟩
  · exact ⟨hR1.glob, hR1.fresh, fun b arr hb => by
      obtain ⟨t, z, h1⟩ := hR1.fzok b arr hb
      exact ⟨t, z, by rw [hkept _ (fz_lt hR1 hb)]; exact h1⟩, hobj _ (Gm.le_refl _) rfl, hR1.own, hR1.apart⟩

/-- THE USE of a contract on data: 'fs' is not written any more. -/
theorem Pure.use {g : FuncId} {pargs : List PV} {Q : PEnd → Prop} {args : List AV} {H : Hp} {Q' : AE → Hp → Prop} (h : Pure C g pargs Q) (fs : List Nat) (hm : marksOK H.l fs = true) (ha : ResL (Res (marks H.l fs) 5) args pargs)
    (hQ : ∀ r, Q r → Q' (absE r) (H.mrk fs)) : Holds C g args H Q' := by
  intro Γ w args' hR hA
  obtain ⟨Γ1, e1, hL1⟩ := hR.mark hm
  have hA1 := VRL_mono (hL1.le hR) _ _ hA
  have hp := ResL_sound (Res_sound hL1.1 5) (show ResL (Res (H.mrk fs).l 5) args pargs from ha) hA1
  have key : ∀ e w', Post C ⟨fun _ => none, Γ1.fz⟩ ⟨0, []⟩ w (EndP Q) e w' → Post C Γ H w Q' e w' := by
    intro e w' hP
    obtain ⟨r, Γ', hq, e2, hE, hL, _⟩ := pure_post hL1.1 hP
    exact ⟨_, _, Γ', hQ r hq, hE, hL1.trans (hL.mono hL1.2.2.1)⟩
  rcases h ⟨fun _ => none, Γ1.fz⟩ w args' hL1.1.noobj (VRL_p.2 hp) with ⟨h1, h2⟩ | ⟨v', w', h1, h2⟩
  · exact .inl ⟨h1, h2.mono key⟩
  · exact .inr ⟨v', w', h1, key _ _ h2⟩

mutual
def flatP : PV → Bool
  | .bool _ => true
  | .int _ _ => true
  | .str _ => true
  | .nilp => true
  | .nils => true
  | .nilm => true
  | .nilFn => true
  | .nilIface => true
  | .iface _ v => flatP v
  | .agg cs => flatPL cs
  | _ => false
def flatPL : List PV → Bool
  | [] => true
  | v :: vs => flatP v && flatPL vs
end
mutual
theorem VP_flat {a b : Fzn} : ∀ (v : PV) (v' : Value), flatP v = true → VP a v v' → VP b v v'
  | .bool _, _, _, h => by simpa only [VP] using h
  | .int _ _, _, _, h => by simpa only [VP] using h
  | .str _, _, _, h => by simpa only [VP] using h
  | .nilp, _, _, h => by simpa only [VP] using h
  | .nils, _, _, h => by simpa only [VP] using h
  | .nilm, _, _, h => by simpa only [VP] using h
  | .nilFn, _, _, h => by simpa only [VP] using h
  | .nilIface, _, _, h => by simpa only [VP] using h
  | .iface _ v, _, hf, h => by
    simp only [VP] at h ⊢
    obtain ⟨u, h1, h2⟩ := h
    exact ⟨u, h1, VP_flat v u (by simpa only [flatP] using hf) h2⟩
  | .agg cs, _, hf, h => by
    simp only [VP] at h ⊢
    obtain ⟨u, h1, h2⟩ := h
    exact ⟨u, h1, VPL_flat cs _ (by simpa only [flatP] using hf) h2⟩
  | .fp _, _, hf, _ => by simp [flatP] at hf
  | .lst _, _, hf, _ => by simp [flatP] at hf
  | .lsts _ _, _, hf, _ => by simp [flatP] at hf
  | .fn _ _ _, _, hf, _ => by simp [flatP] at hf
theorem VPL_flat {a b : Fzn} : ∀ (v : List PV) (v' : List Value), flatPL v = true → VPL a v v' → VPL b v v'
  | [], _, _, h => by simpa only [VPL] using h
  | x :: xs, _, hf, h => by
    simp only [flatPL, Bool.and_eq_true] at hf
    simp only [VPL] at h ⊢
    obtain ⟨u, us, h1, h2, h3⟩ := h
    exact ⟨u, us, h1, VP_flat x u hf.1 h2, VPL_flat xs us hf.2 h3⟩
end
def flatE : PEnd → Bool
  | .ret vs => flatPL vs
  | .pan v => flatP v
theorem ER_flat {a b : Gm} {r : PEnd} {e' : Ending} (hf : flatE r = true) (h : ER a (absE r) e') : ER b (absE r) e' := by
  match r, hf, h with
  | .ret [], hf, h => obtain ⟨v', h1, h2⟩ := h; exact ⟨v', h1, by simpa only [VR, VRL, List.map_nil] using h2⟩
  | .ret [x], hf, h =>
    obtain ⟨v', h1, h2⟩ := h
    simp only [flatE, flatPL, Bool.and_true] at hf
    exact ⟨v', h1, by simp only [VR] at h2 ⊢; exact VP_flat x _ hf h2⟩
  | .ret (x :: y :: xs), hf, h =>
    obtain ⟨v', h1, h2⟩ := h
    simp only [flatE] at hf
    refine ⟨v', h1, ?_⟩
    simp only [VR] at h2 ⊢
    obtain ⟨vs', h3, h4⟩ := h2
    exact ⟨vs', h3, VRL_p.2 (VPL_flat _ _ hf (VRL_p.1 h4))⟩
  | .pan x, hf, h =>
    obtain ⟨c', rfl, hc⟩ := h
    simp only [PEL] at hc
    obtain ⟨q, qs, rfl, ⟨k1, k2⟩, rfl⟩ := hc
    simp only [flatE] at hf
    refine ⟨_, rfl, ?_⟩
    simp only [PEL]
    refine ⟨q, [], rfl, ⟨?_, k2⟩, rfl⟩
    simp only [VR] at k1 ⊢
    exact VP_flat x _ hf k1

/-- THE USE of a contract on data whose results refer to nothing: what was handed over may be written afterwards. -/
theorem Pure.lend {g : FuncId} {pargs : List PV} {Q : PEnd → Prop} {args : List AV} {H : Hp} {Q' : AE → Hp → Prop} (h : Pure C g pargs Q) (fs : List Nat) (hm : marksOK H.l fs = true) (ha : ResL (Res (marks H.l fs) 5) args pargs)
    (hQ : ∀ r, Q r → flatE r = true ∧ Q' (absE r) H) : Holds C g args H Q' := by
  intro Γ w args' hR hA
  obtain ⟨Γ1, e1, hL1⟩ := hR.mark hm
  have hA1 := VRL_mono (hL1.le hR) _ _ hA
  have hp := ResL_sound (Res_sound hL1.1 5) (show ResL (Res (H.mrk fs).l 5) args pargs from ha) hA1
  have key : ∀ e w', Post C ⟨fun _ => none, Γ1.fz⟩ ⟨0, []⟩ w (EndP Q) e w' → Post C Γ H w Q' e w' := by
    intro e w' hP
    obtain ⟨r, Γ', hq, e2, hE, hL, hT1, hR1⟩ := pure_post hL1.1 hP
    obtain ⟨hf, hq'⟩ := hQ r hq
    -- the world is as it was, but for new blocks
    obtain ⟨e0, H0', Γc, _, _, hLc⟩ := hP
    have hkept : ∀ k, k < w.heap.size → w'.heap[k]? = w.heap[k]? := fun k hk => hLc.2.2.2.kept k hk own_nil
    refine ⟨_, H, Γ, hq', ER_flat hf hE, ⟨hR.glob, hR.fresh, fun b arr hb => ?_, fun n o ho => ?_, hR.own, hR.apart⟩, fun _ _ => rfl, Nat.le_refl _, ⟨hT1.os, hT1.tape, hT1.output, hT1.size, fun k hk _ => hkept k hk, fun k hk => .inr hk, Fzn.le_refl _, fun k a hk => .inl hk⟩⟩
    · obtain ⟨t, z, h1⟩ := hR.fzok b arr hb
      exact ⟨t, z, by rw [hkept _ (fz_lt hR hb)]; exact h1⟩
    · obtain ⟨q, h1, h2⟩ := hR.objs n o ho
      exact ⟨q, h1, h2.ext (Gm.le_refl _) fun hnl => hkept _ (h2.blk_lt hnl)⟩
  rcases h ⟨fun _ => none, Γ1.fz⟩ w args' hL1.1.noobj (VRL_p.2 hp) with ⟨h1, h2⟩ | ⟨v', w', h1, h2⟩
  · exact .inl ⟨h1, h2.mono key⟩
  · exact .inr ⟨v', w', h1, key _ _ h2⟩

theorem resL_p (L : List (Nat × AObj)) : ∀ (l : List PV), ResL (Res L 5) (l.map .p) l
  | [] => rfl
  | x :: l => by
    simp only [List.map_cons, ResL]
    refine ⟨x, l, rfl, ?_, resL_p L l⟩
    cases x <;> simp only [Res] <;> first | rfl | exact .inl trivial
theorem res_p (L : List (Nat × AObj)) (x : PV) : Res L 5 (.p x) x := by
  cases x <;> simp only [Res] <;> first | rfl | exact .inl trivial

/-- The same where all arguments are data. -/
theorem Pure.at {g : FuncId} {pargs : List PV} {Q : PEnd → Prop} {H : Hp} {Q' : AE → Hp → Prop} (h : Pure C g pargs Q) (hQ : ∀ r, Q r → Q' (absE r) H) : Holds C g (pargs.map .p) H Q' :=
  h.use [] rfl (resL_p _ _) hQ

/-- Data out of the conditions of a function's body. -/
theorem pure_of_vc {f : FuncId} {fn : Func} {c : Code} {args : List PV} {Q : PEnd → Prop} (hf : C.P.funcs[f]? = some fn) (hname : (fn.name == "runtime.NumGoroutine") = false) (hb : fn.body = some c)
    (hN : Nat.ble (args.map AV.p).length fn.ntmps = true) (hv : vc C none 0 fn.ntmps c (sets (fun _ => und) (argS 0 (args.map .p))) [] ⟨0, []⟩ (Fin C fn.results.toList (EndP Q))) : Pure C f args Q :=
  (holds_of_vc hf hname hb hN hv).holds
end
end Go.Proofs.YtemlkodkohgmmaaDoor.Y
