/- Regions that draw their order: sound. -/
import Derived.Test.YtemlkodkohgmmaaDoorYm
namespace Go.Proofs.YtemlkodkohgmmaaDoor.Y
open Go

def unl : List Bool → Nat
  | [] => 0
  | true :: r => unl r
  | false :: r => unl r + 1

theorem unl_set : ∀ {l : List Bool} {i : Nat}, l[i]? = some false → unl (l.set i true) + 1 = unl l
  | [], i, h => by simp at h
  | b :: r, 0, h => by
    simp only [List.getElem?_cons_zero, Option.some.injEq] at h
    subst h
    rfl
  | b :: r, i + 1, h => by
    simp only [List.getElem?_cons_succ] at h
    have := unl_set h
    cases b <;> simp only [List.set_cons_succ, unl] <;> omega

theorem unl_zero : ∀ {l : List Bool}, unl l = 0 → ∀ {i : Nat}, l[i]? ≠ some false
  | [], _, i => by simp
  | true :: r, h, 0 => by simp
  | true :: r, h, i + 1 => by
    simp only [List.getElem?_cons_succ]
    exact unl_zero (l := r) h
  | false :: r, h, _ => by simp [unl] at h

section
variable {C : Cx} {ops : Array Oper}

theorem mem_ready {listed : Array Bool} (hsz : listed.size = ops.size) {i : Nat} : i ∈ Region.ready .any ops listed ↔ ∃ o, onth ops.toList i = some o ∧ listed.getD i false = false ∧ ∀ d ∈ dps o, listed.getD d false = true := by
  unfold Region.ready
  rw [List.mem_filter, List.mem_range]
  constructor
  · rintro ⟨h1, h2⟩
    rw [Bool.and_eq_true] at h2
    have ho : ops[i]? = some (ops[i]'h1) := Array.getElem?_eq_getElem h1
    refine ⟨ops[i]'h1, by rw [onth_eq, Array.getElem?_toList]; exact ho, ?_, fun d hd => ?_⟩
    · have h3 := h2.1
      have hl : listed[i]? = some (listed[i]'(by omega)) := Array.getElem?_eq_getElem (by omega)
      simp only [Array.getD_eq_getD_getElem?, hl, Option.getD_some, Bool.not_eq_true'] at h3 ⊢
      exact h3
    · have h3 := h2.2
      rw [ho] at h3
      simp only [Option.map_some, Option.getD_some] at h3
      rw [← Array.all_toList, List.all_eq_true] at h3
      unfold dps at hd
      obtain ⟨e, he, rfl⟩ := List.mem_map.1 hd
      obtain ⟨he1, he2⟩ := List.mem_filter.1 he
      have := h3 e he1
      rw [he2] at this
      simpa using this
  · rintro ⟨o, h1, h2, h3⟩
    rw [onth_eq, Array.getElem?_toList] at h1
    have hlt : i < ops.size := by
      rcases Nat.lt_or_ge i ops.size with h | h
      · exact h
      · rw [Array.getElem?_eq_none h] at h1; cases h1
    refine ⟨hlt, ?_⟩
    rw [Bool.and_eq_true, h1]
    refine ⟨?_, ?_⟩
    · have hl : listed[i]? = some (listed[i]'(by omega)) := Array.getElem?_eq_getElem (by omega)
      simp only [Array.getD_eq_getD_getElem?, hl, Option.getD_some, Bool.not_eq_true'] at h2 ⊢
      exact h2
    · simp only [Option.map_some, Option.getD_some]
      rw [← Array.all_toList, List.all_eq_true]
      intro e he
      by_cases hb : Region.binds .any e = true
      · have := h3 e.on (List.mem_map.2 ⟨e, List.mem_filter.2 ⟨he, hb⟩, rfl⟩)
        simp [hb, this]
      · simp [hb]

theorem listed_set {listed : Array Bool} {i : Nat} (hi : i < listed.size) (j : Nat) : (listed.setIfInBounds i true).getD j false = (listed.getD j false || Nat.beq j i) := by
  simp only [Array.getD_eq_getD_getElem?]
  by_cases e : j = i
  · subst e
    rw [Array.getElem?_setIfInBounds_self_of_lt hi]
    simp
  · rw [Array.getElem?_setIfInBounds_ne (Ne.symm e)]
    have : Nat.beq j i = false := by
      cases h : Nat.beq j i
      · rfl
      · exact absurd (Nat.eq_of_beq_eq_true h) e
    rw [this]
    simp

theorem mem_dstsOf {d : Nat} : ∀ {all : List Oper} {i : Nat} {o : Oper}, onth all i = some o → o.dst = some d → d ∈ dstsOf all
  | [], i, o, h, _ => by simp [onth] at h
  | x :: r, 0, o, h, hd => by
    simp only [onth, Option.some.injEq] at h
    subst h
    simp only [dstsOf, hd]
    simp
  | x :: r, i + 1, o, h, hd => by
    have := mem_dstsOf (all := r) (i := i) (by simpa [onth] using h) hd
    simp only [dstsOf]
    split
    · exact this
    · exact List.mem_cons_of_mem _ this

theorem unw_SR {Γ : Gm} {σ0 : Sg} {ds : List AD} {N : Nat} {a : Act} {all : List Oper} {L : List En} (hl : LOK all L) {S : Nat → Bool} (h : SR Γ (ap σ0 (L.filter fun e => S e.i)) ds N a) : SR Γ (unw all σ0) ds N a := by
  refine ⟨h.size, fun t => ?_, h.df⟩
  unfold unw
  split
  · exact VR_junk _ _
  · rename_i e
    have := h.tm t
    rw [show (L.filter fun e => S e.i) = (L.filter fun e => S e.i) ++ [] by simp, ap_skip] at this
    · exact this
    · intro x hx hd
      have := (hl.get (List.mem_filter.1 hx).1).1
      exact elemN_false.1 e (mem_dstsOf this hd)

theorem DI.come {N : Nat} {all : List Oper} {σ0 : Sg} {S S' : Nat → Bool} {L : List En} {ds : List AD} {Γ : Gm} {H : Hp} {a : Act} {w : World} (hso : SO N all) (hI : DI C N all σ0 S L ds Γ H a w) {L1 L2 : List En} {e : En} (hL : L = L1 ++ e :: L2) (he : S e.i = false) (hd : ∀ d ∈ dps e.o, S d = true)
    (hS' : ∀ j, S' j = (S j || Nat.beq j e.i)) {v' : Value} (hv : VR Γ e.v v') : DI C N all σ0 S' L ds Γ H (a.put e.o.dst v') w := by
  have hl := hI.lok
  rw [hL] at hl
  have up : ∀ j, S j = true → S' j = true := fun j hj => by rw [hS', hj]; rfl
  have dn : ∀ j, S' j = true → S j = true ∨ j = e.i := fun j hj => by
    rw [hS', Bool.or_eq_true] at hj
    exact hj.imp id Nat.eq_of_beq_eq_true
  refine ⟨hI.lok, fun i o hi ho d hdd => ?_, fun i hi => ?_, fun x hx hs => up _ (hI.syn x hx hs), hI.r, ?_, fun M1 x M2 hM hs hx => hI.held M1 x M2 hM hs ?_⟩
  · rcases dn i hi with h | rfl
    · exact up _ (hI.clo i o h ho d hdd)
    · rw [hl.tail.1] at ho
      injection ho with ho
      subst ho
      exact up _ (hd d hdd)
  · rcases dn i hi with h | rfl
    · exact hI.sub i h
    · rw [hL]
      simp [dm]
  · have := hI.sr.putO (Gm.le_refl Γ) (dst := e.o.dst) (σ' := ap σ0 (L.filter fun x => S' x.i)) hv hI.sr.df (fun d h => hso.1 _ _ d hl.tail.1 h) (fun t => by
      rw [hL]
      exact filter_put hso hl hI.clo he hS' t)
    exact this
  · cases h : S x.i
    · rfl
    · rw [up _ h] at hx; cases hx

theorem vD_sound {ro : Option Nat} {rd : Bool} (hrd : rd = ro.isSome) {Q : Exit → Act → World → Prop} {n0 N : Nat} {K : Sg → List AD → Hp → Prop} {X : List AP → Sg → List AD → Hp → Prop} {Γ0 : Gm} {H0 : Hp} {w0 : World} {σ0 : Sg} (hso : SO N ops.toList)
    (hK : ∀ σ' ds' H' Γ' a' w', K σ' ds' H' → SR Γ' σ' ds' N a' → Later C n0 Γ0 H0 w0 Γ' H' w' → Q .normal a' w')
    (hX : ∀ ch σ' ds' H' Γ' ch' a' w', X ch σ' ds' H' → PEL Γ' ch ch' → SR Γ' σ' ds' N a' → Later C n0 Γ0 H0 w0 Γ' H' w' → Q (.panic ch') a' w') :
    ∀ (fuel : Nat) (ot : OT) (L : List En) (ds : List AD) (H : Hp) (Γ : Gm) (a : Act) (w : World) (listed : Array Bool) (pu : List Nat),
      otOK ops.toList (masks ops.toList []) ot (dm L) pu [] = true → (∀ e ∈ L, e.sy = false → rdHeap e.o.op = true → e.i ∈ pu) → vD C rd ops.toList σ0 K X ot L ds H →
      DI C N ops.toList σ0 (fun i => listed.getD i false) L ds Γ H a w → Later C n0 Γ0 H0 w0 Γ H w → listed.size = ops.size → unl listed.toList ≤ fuel → wpAnyIn (Fz ro) 0 C.P .any ops Q fuel listed a w := by
  intro fuel
  have hm : ∀ i j, (nthN (masks ops.toList []) i).testBit j = true → Bef ops.toList i j := masks_sound ops.toList [] [] rfl rfl (by intro i j hij; simp [nthN] at hij)
  -- nothing is left
  have fin : ∀ (ot : OT) (L : List En) (ds : List AD) (H : Hp) (Γ : Gm) (a : Act) (w : World) (listed : Array Bool) (pu : List Nat),
      otOK ops.toList (masks ops.toList []) ot (dm L) pu [] = true → (∀ e ∈ L, e.sy = false → rdHeap e.o.op = true → e.i ∈ pu) → vD C rd ops.toList σ0 K X ot L ds H →
      DI C N ops.toList σ0 (fun i => listed.getD i false) L ds Γ H a w → Later C n0 Γ0 H0 w0 Γ H w → listed.size = ops.size → Region.ready .any ops listed = [] → Q .normal a w := by
    intro ot L ds H Γ a w listed pu hok hpu hv hI hL hsz hr
    have hno : ∀ i, i ∉ Region.ready .any ops listed := fun i h => by rw [hr] at h; simp at h
    obtain ⟨ot', L', pu', hok, hpu, hv, hI, ho⟩ := advance ot L pu hok hpu hv hI
    have hall : ∀ e ∈ L', listed.getD e.i false = true := by
      intro e he
      cases hc : listed.getD e.i false
      · exfalso
        obtain ⟨A, x, B, h1, h2, h3⟩ := first_missing (S := fun i => listed.getD i false) hI.lok ⟨e, he, hc⟩
        have hl := hI.lok
        rw [h1] at hl
        refine hno x.i ((mem_ready hsz).2 ⟨x.o, hl.tail.1, h2, fun d hd => ?_⟩)
        obtain ⟨y, hy, rfl⟩ := List.mem_map.1 (hl.tail.2.1 d hd)
        exact h3 y hy
      · rfl
    rcases ho with rfl | ⟨i, hs, t, alt, rfl⟩
    · have hf : L'.filter (fun e => listed.getD e.i false) = L' := List.filter_eq_self.2 hall
      have := hI.sr
      simp only [hf] at this
      exact hK _ _ _ _ _ _ hv this hL
    · exfalso
      simp only [otOK, Bool.and_eq_true, Bool.not_eq_true'] at hok
      obtain ⟨hi, hok⟩ := hok
      split at hok
      · rename_i o ho
        simp only [Bool.and_eq_true] at hok
        refine hno i ((mem_ready hsz).2 ⟨o, ho, ?_, fun d hd => ?_⟩)
        · cases hc : listed.getD i false
          · rfl
          · exact absurd (hI.sub i hc) (elemN_false.1 hi)
        · have := elemN_iff.1 (List.all_eq_true.1 hok.1.1.1 d hd)
          obtain ⟨y, hy, rfl⟩ := List.mem_map.1 this
          exact hall y hy
      · cases hok
  induction fuel with
  | zero =>
    intro ot L ds H Γ a w listed pu hok hpu hv hI hL hsz hu
    have hr : Region.ready .any ops listed = [] := by
      apply List.eq_nil_iff_forall_not_mem.2
      intro i hi
      obtain ⟨o, h1, h2, _⟩ := (mem_ready hsz).1 hi
      have hlt : i < listed.size := by
        rw [hsz]
        rw [onth_eq, Array.getElem?_toList] at h1
        rcases Nat.lt_or_ge i ops.size with h | h
        · exact h
        · rw [Array.getElem?_eq_none h] at h1; cases h1
      refine unl_zero (Nat.le_zero.1 hu) (i := i) ?_
      rw [Array.getElem?_toList, Array.getElem?_eq_getElem hlt]
      rw [Array.getD_eq_getD_getElem?, Array.getElem?_eq_getElem hlt] at h2
      exact congrArg some h2
    exact ⟨hr, fin ot L ds H Γ a w listed pu hok hpu hv hI hL hsz hr⟩
  | succ fuel ih =>
    intro ot L ds H Γ a w listed pu hok hpu hv hI hL hsz hu
    refine ⟨fun hr => fin ot L ds H Γ a w listed pu hok hpu hv hI hL hsz hr, fun i hi => ?_⟩
    obtain ⟨o, ho, hiS, hdS⟩ := (mem_ready hsz).1 hi
    have hlt : i < listed.size := by
      rw [hsz]
      have h1 := ho
      rw [onth_eq, Array.getElem?_toList] at h1
      rcases Nat.lt_or_ge i ops.size with h | h
      · exact h
      · rw [Array.getElem?_eq_none h] at h1; cases h1
    have hset := fun j => listed_set hlt j
    have hsz' : (listed.setIfInBounds i true).size = ops.size := by simpa using hsz
    have hu' : unl (listed.setIfInBounds i true).toList ≤ fuel := by
      rw [Array.toList_setIfInBounds]
      have : listed.toList[i]? = some false := by
        rw [Array.getElem?_toList, Array.getElem?_eq_getElem hlt]
        rw [Array.getD_eq_getD_getElem?, Array.getElem?_eq_getElem hlt] at hiS
        exact congrArg some hiS
      have := unl_set this
      omega
    obtain ⟨ot', L', pu', hok, hpu, hv, hI, hot⟩ := advance ot L pu hok hpu hv hI
    by_cases him : i ∈ dm L'
    · obtain ⟨e, he, rfl⟩ := List.mem_map.1 him
      obtain ⟨A, B, hAB⟩ := List.append_of_mem he
      have hsy : e.sy = false := by
        cases h : e.sy
        · rfl
        · have := hI.syn e he h; simp only [hiS] at this; cases this
      have heo := (hI.lok.get he).1
      rw [ho] at heo
      injection heo with heo
      subst heo
      exact pend_sound hso hI hAB hsy hiS hdS fun v' hv' =>
        ih ot' L' ds H Γ _ w _ pu' hok hpu hv (hI.come hso hAB hiS hdS hset hv') hL hsz' hu'
    · rcases hot with rfl | ⟨j, hs, t, alt, rfl⟩
      · exfalso
        have := allIx_spec hok ho
        rw [Nat.zero_add] at this
        exact him (elemN_iff.1 this)
      · obtain ⟨hs, t, k1, k2, k3⟩ := eff_find him ho (fun d hd => hI.sub d (hdS d hd)) _ [] hok ⟨_, _, _, _, rfl⟩ hv (by simp)
        have hlk : ∀ v, LOK ops.toList (⟨i, o, v, true⟩ :: L') := fun v => ⟨ho, fun d hd => hI.sub d (hdS d hd), him, hI.lok⟩
        have hff : ∀ v, (List.filter (fun e => listed.getD e.i false) (⟨i, o, v, true⟩ :: L')) = L'.filter fun e => listed.getD e.i false := fun v => by
          rw [List.filter_cons_of_neg (by simp only [hiS]; simp)]
        have hsr : SR Γ (rst (looks ops.toList o) (ap σ0 L')) ds N a := rst_SR hI.sr fun t ht => by
          have := view (σ0 := σ0) (L1 := []) (e := ⟨i, o, und, true⟩) hso (hlk und) hI.clo hiS hdS ht
          simp only [List.nil_append] at this
          rw [hff] at this
          exact this
        have hoo : ops[i]? = some o := by
          rw [onth_eq, Array.getElem?_toList] at ho
          exact ho
        -- behind the effect
        have go : ∀ (v : AV) (ds' : List AD) (H1 : Hp) (Γ1 : Gm) (v' : Value) (dd' : List Deferred) (w1 : World),
            (∀ L1 e L2, L' = L1 ++ e :: L2 → e.sy = false → listed.getD e.i false = false → HeldAt C ops.toList σ0 H1 e L2) → vD C rd ops.toList σ0 K X t (⟨i, o, v, true⟩ :: L') ds' H1 → VR Γ1 v v' → DRL Γ1 ds' dd' → Later C H.next Γ H w Γ1 H1 w1 →
            wpAnyIn (Fz ro) 0 C.P .any ops Q fuel (listed.setIfInBounds i true) (({ a with defers := dd' } : Act).put o.dst v') w1 := by
          intro v ds' H1 Γ1 v' dd' w1 hh hvd hvv hdd hLL
          have up : ∀ j, listed.getD j false = true → (listed.setIfInBounds i true).getD j false = true := fun j hj => by rw [hset, hj]; rfl
          have dn : ∀ j, (listed.setIfInBounds i true).getD j false = true → listed.getD j false = true ∨ j = i := fun j hj => by
            rw [hset, Bool.or_eq_true] at hj
            exact hj.imp id Nat.eq_of_beq_eq_true
          refine ih t (⟨i, o, v, true⟩ :: L') ds' H1 Γ1 _ w1 _ pu' k1 (fun e he hs hr => ?_) hvd ⟨hlk v, fun j oj hj hoj d hdd => ?_, fun j hj => ?_, fun e he hs => ?_, hLL.1, ?_, fun M1 e M2 hM hs hS => ?_⟩ (hL.trans (hLL.mono hL.2.2.1)) hsz' hu'
          · rcases List.mem_cons.1 he with rfl | he
            · cases hs
            · exact hpu e he hs hr
          · rcases dn j hj with h | rfl
            · exact up _ (hI.clo j oj h hoj d hdd)
            · rw [ho] at hoj
              injection hoj with hoj
              subst hoj
              exact up _ (hdS d hdd)
          · rcases dn j hj with h | rfl
            · exact List.mem_cons_of_mem _ (hI.sub j h)
            · simp [dm]
          · rcases List.mem_cons.1 he with rfl | he
            · show (listed.setIfInBounds i true).getD i false = true
              rw [hset]; simp
            · exact up _ (hI.syn e he hs)
          · refine hI.sr.putO (hLL.le hI.r) hvv hdd (fun d h => hso.1 _ _ d ho h) fun t => ?_
            have := filter_put (σ0 := σ0) (L1 := []) (e := ⟨i, o, v, true⟩) (S' := fun j => (listed.setIfInBounds i true).getD j false) hso (hlk v) hI.clo hiS hset t
            simp only [List.nil_append] at this
            rw [hff] at this
            exact this
          · cases M1 with
            | nil =>
              simp only [List.nil_append, List.cons.injEq] at hM
              obtain ⟨rfl, rfl⟩ := hM
              cases hs
            | cons x M1 =>
              simp only [List.cons_append, List.cons.injEq] at hM
              refine hh M1 e M2 hM.2 hs ?_
              cases h : listed.getD e.i false
              · rfl
              · rw [up _ h] at hS; cases hS
        unfold wpOpIn
        simp only [hoo]
        unfold EffIt at k3
        rw [ho] at k3
        simp only at k3
        split at k3
        · rename_i hg
          rw [gd_sound hsr hg]
          simp only [if_true]
          refine vOp_sound hI.r hsr hrd ⟨fun v ds' H' Γ' v' dd' w' hk hvv hdd hLL => ?_, fun ch H' Γ' ch' w' hx hp hLL => ?_⟩ k3
          · have hk' : (∀ L1 e L2, L' = L1 ++ e :: L2 → e.sy = false → listed.getD e.i false = false → HeldAt C ops.toList σ0 H' e L2) ∧ vD C rd ops.toList σ0 K X t (⟨i, o, v, true⟩ :: L') ds' H' := by
              have key : ∀ e, e ∈ L' → e.sy = false → listed.getD e.i false = false → rdHeap e.o.op = true → elemN e.i hs = true := by
                intro e he hsy hS hr
                have := List.all_eq_true.1 k2 e.i (hpu e he hsy hr)
                rw [Bool.or_eq_true] at this
                rcases this with h | h
                · exact h
                · have := (hm _ _ h).mem hI.clo (fun o' ho' d hd => by
                    rw [ho] at ho'; injection ho' with ho'; subst ho'
                    exact hdS d hd)
                  simp only [hS] at this
                  cases this
              cases hs with
              | nil =>
                refine ⟨fun L1 e L2 hM hsy hS => ?_, hk⟩
                cases hr : rdHeap e.o.op
                · exact HeldAt_calm hr (hI.held L1 e L2 hM hsy hS)
                · have := key e (by rw [hM]; simp) hsy hS hr
                  simp [elemN] at this
              | cons x xs =>
                refine ⟨fun L1 e L2 hM hsy hS => ?_, hk.2⟩
                cases hr : rdHeap e.o.op
                · exact HeldAt_calm hr (hI.held L1 e L2 hM hsy hS)
                · exact Held_get hk.1 hM (key e (by rw [hM]; simp) hsy hS hr)
            exact go v ds' H' Γ' v' dd' w' hk'.1 hk'.2 hvv hdd hLL
          · exact hX ch _ ds H' Γ' ch' a w' hx hp ((unw_SR (S := fun i => listed.getD i false) hI.lok hI.sr).mono (hLL.le hI.r)) (hL.trans (hLL.mono hL.2.2.1))
        · rename_i hg
          rw [gd_sound hsr hg]
          simp only [Bool.false_eq_true, if_false]
          exact ⟨fun _ _ => trivial, go und ds H Γ undef a.defers w (fun L1 e L2 hM hsy hS => hI.held L1 e L2 hM hsy hS) k3 (VR_undef Γ) hI.sr.df (Later.refl hI.r _ (Nat.le_refl _))⟩
        · exact k3.elim
end
end Go.Proofs.YtemlkodkohgmmaaDoor.Y
