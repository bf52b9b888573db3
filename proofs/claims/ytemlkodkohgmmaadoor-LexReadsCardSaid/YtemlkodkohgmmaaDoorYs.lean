/- One abstract state seen as another one: names changed, objects forgotten or not written any more, nil slices named. -/
import Derived.Test.YtemlkodkohgmmaaDoorYr
namespace Go.Proofs.YtemlkodkohgmmaaDoor.Y
open Go

def look : List (Nat × Nat) → Nat → Nat
  | [], n => n
  | (k, v) :: r, n => match Nat.beq k n with
    | true => v
    | false => look r n
def niGet : List (Nat × Nat) → Nat → Option Nat
  | [], _ => none
  | (k, s) :: r, n => match Nat.beq k n with
    | true => some s
    | false => niGet r n

/-- Where a new name was: those below n0 stay; the list gives the others; behind the new next, what was behind the old one. -/
def rmap (n0 : Nat) (ps : List (Nat × Nat)) (N1 N n : Nat) : Nat :=
  match Nat.blt n n0 with
  | true => n
  | false => match Nat.blt n N1 with
    | true => look ps n
    | false => n - N1 + N

def renF (ρ : Nat → Nat) : Fn → Fn
  | .yield l => .yield (ρ l)
  | f => f

def yOK (ni : List (Nat × Nat)) : Fn → Bool
  | .yield l => (niGet ni l).isNone
  | _ => true

section
variable (ρ : Nat → Nat) (ni : List (Nat × Nat)) (L : List (Nat × AObj))

def aggP : AV → Option (List AV)
  | .agg cs => some cs
  | .p (.agg ps) => some (ps.map .p)
  | _ => none

mutual
/-- An old value seen as a new one. -/
def See : AV → AV → Prop
  | v, .p x => Res L 5 v x
  | v, .ptr n i f => niGet ni n = none ∧ v = .ptr (ρ n) i f
  | v, .ptd n i f => niGet ni n = none ∧ v = .ptd (ρ n) i f
  | v, .sl n s off len => match niGet ni n with
    | some s' => s' = s ∧ off = 0 ∧ len = 0 ∧ v = .p .nils
    | none => v = .sl (ρ n) s off len
  | v, .mp n => niGet ni n = none ∧ v = .mp (ρ n)
  | v, .fn f a b => yOK ni f = true ∧ ∃ a0 b0, fnOf v = some (renF ρ f, a0, b0) ∧ SeeL a0 a ∧ SeeL b0 b
  | v, .iface t x => ∃ y, ifParts v = some (some (t, y)) ∧ See y x
  | v, .agg cs => ∃ cs0, aggP v = some cs0 ∧ SeeL cs0 cs
  | v, .tup vs => ∃ vs0, v = .tup vs0 ∧ SeeL vs0 vs
  | v, .anyp => v = .anyp
  | _, .junk => True
def SeeL : List AV → List AV → Prop
  | l0, [] => l0 = []
  | l0, v :: vs => ∃ u us, l0 = u :: us ∧ See u v ∧ SeeL us vs
end

def SeeC (n0 : Nat) (c0 c1 : Cn) : Prop :=
  match c1 with
  | .bx cs1 => ∃ cs0, c0 = .bx cs0 ∧ SeeL ρ ni L cs0 cs1
  | .pu ys => match c0 with
    | .pu xs => xs = ys
    | .mx vs => ResL (Res L 5) vs ys
    | _ => False
  | .pus yss => c0 = .pus yss
  | .mx vs1 => ∃ vs0, c0 = .mx vs0 ∧ SeeL ρ ni L vs0 vs1
  | .lp _ _ lim _ _ _ _ _ dn => c0 = c1 ∧ Nat.ble lim n0 = true ∧ Nat.blt dn n0 = true
  | .df => c0 = .df

def SeeO (n0 : Nat) (n : Nat) (o1 : AObj) : Prop :=
  match niGet ni n with
  | some s => o1.fr = false ∧ (match o1.c with
    | .pu xs => xs = [] ∧ s = 1
    | .pus xs => xs = []
    | .mx xs => xs = [] ∧ s = 1
    | _ => False)
  | none => ∃ o0, lget L (ρ n) = some o0 ∧ o0.t = o1.t ∧ o0.fr = o1.fr ∧ SeeC ρ ni L n0 o0.c o1.c

def SeeH (n0 : Nat) : List (Nat × AObj) → Prop
  | [] => True
  | (n, o) :: r => SeeO ρ ni L n0 n o ∧ SeeH n0 r

/-- The slots. -/
def SeeS (σ : Sg) : List (Nat × AV) → Prop
  | [] => True
  | (k, v) :: r => See ρ ni L (σ k) v ∧ SeeS σ r

def SeeD : List AD → List AD → Prop
  | d0, [] => d0 = []
  | d0, .fn g cap args :: ds => ∃ cap0 args0 r, d0 = .fn g cap0 args0 :: r ∧ SeeL ρ ni L cap0 cap ∧ SeeL ρ ni L args0 args ∧ SeeD r ds
  | d0, .col n :: ds => niGet ni n = none ∧ ∃ r, d0 = .col (ρ n) :: r ∧ SeeD r ds

/-- Names of objects are not mixed up. -/
def injOn : List (Nat × AObj) → Bool
  | [] => true
  | (n, _) :: r => ((niGet ni n).isSome || r.all (fun p => (niGet ni p.1).isSome || Nat.beq p.1 n || !Nat.beq (ρ p.1) (ρ n))) && injOn r
end

def niOK (n0 N1 : Nat) (ni : List (Nat × Nat)) : Bool := ni.all fun p => Nat.ble n0 p.1 && Nat.blt p.1 N1

section
variable {C : Cx}

theorem niGet_mem {ni : List (Nat × Nat)} {n s : Nat} (h : niGet ni n = some s) : (n, s) ∈ ni := by
  induction ni with
  | nil => simp [niGet] at h
  | cons p r ih =>
    obtain ⟨k, x⟩ := p
    simp only [niGet] at h
    split at h
    · rename_i e
      have e := Nat.eq_of_beq_eq_true e
      injection h with h
      subst e; subst h
      simp
    · exact List.mem_cons_of_mem _ (ih h)

theorem injOn_spec {ρ : Nat → Nat} {ni : List (Nat × Nat)} : ∀ {l : List (Nat × AObj)}, injOn ρ ni l = true → ∀ {n m : Nat} {o p : AObj}, (n, o) ∈ l → (m, p) ∈ l → n ≠ m → niGet ni n = none → niGet ni m = none → ρ n ≠ ρ m
  | [], _, n, m, o, p, hn, _, _, _, _ => by simp at hn
  | (k, x) :: r, h, n, m, o, p, hn, hm, hne, h1, h2 => by
    simp only [injOn, Bool.and_eq_true, Bool.or_eq_true, List.all_eq_true, Bool.not_eq_true'] at h
    have key : ∀ (q : Nat × AObj), q ∈ r → q.1 ≠ k → niGet ni q.1 = none → niGet ni k = none → ρ q.1 ≠ ρ k := by
      intro q hq hqk hq1 hk1 e
      rcases h.1 with h3 | h3
      · rw [hk1] at h3; cases h3
      · rcases h3 q hq with (h4 | h4) | h4
        · rw [hq1] at h4; cases h4
        · exact hqk (Nat.eq_of_beq_eq_true h4)
        · rw [e] at h4; simp at h4
    rcases List.mem_cons.1 hn with e1 | hn' <;> rcases List.mem_cons.1 hm with e2 | hm'
    · injection e1 with e1 _; injection e2 with e2 _; exact absurd (e1.trans e2.symm) hne
    · injection e1 with e1 _
      subst e1
      exact fun e => key _ hm' (Ne.symm hne) h2 h1 e.symm
    · injection e2 with e2 _
      subst e2
      exact key _ hn' hne h1 h2
    · exact injOn_spec h.2 hn' hm' hne h1 h2

/-- The places of the new names. -/
def Gm.see (Γ : Gm) (ρ : Nat → Nat) (ni : List (Nat × Nat)) : Gm := ⟨fun m => match niGet ni m with | some s => some ⟨0, s, 0, true⟩ | none => Γ.nm (ρ m), Γ.fz⟩

variable {Γ : Gm} {H : Hp} {w : World} {ρ : Nat → Nat} {ni : List (Nat × Nat)}

theorem aggP_sound {v : AV} {v' : Value} (hv : VR Γ v v') {cs : List AV} (h : aggP v = some cs) : ∃ cs', v' = .agg cs' ∧ VRL Γ cs cs'.toList := by
  cases v with
  | agg c => simp only [aggP, Option.some.injEq] at h; subst h; simpa only [VR] using hv
  | p x =>
    cases x <;> simp only [aggP, reduceCtorEq, Option.some.injEq] at h
    subst h
    simp only [VR, VP] at hv
    obtain ⟨cs', h1, h2⟩ := hv
    exact ⟨cs', h1, VRL_p.2 h2⟩
  | _ => simp [aggP] at h

mutual
theorem See_sound (hR : R C Γ H w) : ∀ (v1 v : AV) (v' : Value), See ρ ni H.l v v1 → VR Γ v v' → VR (Γ.see ρ ni) v1 v'
  | .p x, v, v', hs, hv => by
    simp only [See] at hs
    simp only [VR]
    exact Res_sound hR 5 v x v' hs hv
  | .ptr n i f, v, v', hs, hv => by
    simp only [See] at hs
    obtain ⟨hni, rfl⟩ := hs
    simp only [VR] at hv ⊢
    obtain ⟨q, hq, hnl, e⟩ := hv
    exact ⟨q, by simp only [Gm.see, hni]; exact hq, hnl, e⟩
  | .ptd n i f, v, v', hs, hv => by
    simp only [See] at hs
    obtain ⟨hni, rfl⟩ := hs
    simp only [VR] at hv ⊢
    obtain ⟨q, hq, hnl, e⟩ := hv
    exact ⟨q, by simp only [Gm.see, hni]; exact hq, hnl, e⟩
  | .sl n s off len, v, v', hs, hv => by
    simp only [See] at hs
    split at hs
    · rename_i s' e
      obtain ⟨rfl, rfl, rfl, rfl⟩ := hs
      simp only [VR, VP] at hv ⊢
      subst hv
      exact ⟨⟨0, s', 0, true⟩, by simp only [Gm.see, e], rfl, .inl ⟨rfl, rfl, rfl, rfl⟩⟩
    · rename_i e
      subst hs
      simp only [VR] at hv ⊢
      obtain ⟨q, hq, h2⟩ := hv
      exact ⟨q, by simp only [Gm.see, e]; exact hq, h2⟩
  | .mp n, v, v', hs, hv => by
    simp only [See] at hs
    obtain ⟨hni, rfl⟩ := hs
    simp only [VR] at hv ⊢
    obtain ⟨q, hq, e⟩ := hv
    exact ⟨q, by simp only [Gm.see, hni]; exact hq, e⟩
  | .fn f a b, v, v', hs, hv => by
    simp only [See] at hs
    obtain ⟨hy, a0, b0, hf, ha, hb⟩ := hs
    obtain ⟨f', fs', cs', rfl, h1, h2, h3⟩ := fnOf_sound hv hf
    simp only [VR]
    refine ⟨f', fs', cs', rfl, ?_, SeeL_sound hR a a0 _ ha h2, SeeL_sound hR b b0 _ hb h3⟩
    cases f <;> simp only [renF, FR] at h1 ⊢ <;> first | exact h1 | skip
    obtain ⟨q, hq, e⟩ := h1
    simp only [yOK, Option.isNone_iff_eq_none] at hy
    exact ⟨q, by simp only [Gm.see, hy]; exact hq, e⟩
  | .iface t x, v, v', hs, hv => by
    simp only [See] at hs
    obtain ⟨y, h1, h2⟩ := hs
    obtain ⟨u, rfl, hu⟩ := (ifParts_sound hv).2 _ _ h1
    simp only [VR]
    exact ⟨u, rfl, See_sound hR x y u h2 hu⟩
  | .agg cs, v, v', hs, hv => by
    simp only [See] at hs
    obtain ⟨cs0, h1, h2⟩ := hs
    obtain ⟨cs', rfl, h3⟩ := aggP_sound hv h1
    simp only [VR]
    exact ⟨cs', rfl, SeeL_sound hR cs cs0 _ h2 h3⟩
  | .tup cs, v, v', hs, hv => by
    simp only [See] at hs
    obtain ⟨cs0, rfl, h2⟩ := hs
    simp only [VR] at hv ⊢
    obtain ⟨cs', rfl, h3⟩ := hv
    exact ⟨cs', rfl, SeeL_sound hR cs cs0 _ h2 h3⟩
  | .anyp, v, v', hs, hv => by
    simp only [See] at hs
    subst hs
    simpa only [VR] using hv
  | .junk, _, _, _, _ => by simp only [VR]
theorem SeeL_sound (hR : R C Γ H w) : ∀ (vs1 vs : List AV) (vs' : List Value), SeeL ρ ni H.l vs vs1 → VRL Γ vs vs' → VRL (Γ.see ρ ni) vs1 vs'
  | [], vs, vs', hs, hv => by
    simp only [SeeL] at hs
    subst hs
    exact hv
  | v1 :: vs1, vs, vs', hs, hv => by
    simp only [SeeL] at hs
    obtain ⟨u, us, rfl, h1, h2⟩ := hs
    simp only [VRL] at hv ⊢
    obtain ⟨u', us', rfl, h3, h4⟩ := hv
    exact ⟨u', us', rfl, See_sound hR v1 u u' h1 h3, SeeL_sound hR vs1 us us' h2 h4⟩
end

theorem SeeH_get {n0 : Nat} {L : List (Nat × AObj)} : ∀ {l : List (Nat × AObj)}, SeeH ρ ni L n0 l → ∀ {n : Nat} {o : AObj}, lget l n = some o → SeeO ρ ni L n0 n o
  | [], _, n, o, hn => by simp [lget] at hn
  | (k, p) :: r, h, n, o, hn => by
    simp only [SeeH] at h
    by_cases e : k = n
    · subst e; rw [lget_cons_same] at hn; injection hn with hn; subst hn; exact h.1
    · rw [lget_cons_ne e] at hn
      exact SeeH_get h.2 hn

/-- The new state. -/
theorem R.see {n0 : Nat} {H1 : Hp} (hR : R C Γ H w) (hs : SeeH ρ ni H.l n0 H1.l) (hi : injOn ρ ni H1.l = true) (hn : niOK n0 H1.next ni = true) (hfix : ∀ n, n < n0 → ρ n = n) (hlow : n0 ≤ H1.next) (hfr : ∀ n, H1.next ≤ n → H.next ≤ ρ n) :
    Later C n0 Γ H w (Γ.see ρ ni) H1 w := by
  have hnil : ∀ {n s}, niGet ni n = some s → n0 ≤ n ∧ n < H1.next := by
    intro n s h
    have := List.all_eq_true.1 hn _ (niGet_mem h)
    simp only [Bool.and_eq_true] at this
    exact ⟨Nat.le_of_ble_eq_true this.1, by simpa using this.2⟩
  have hlo : ∀ m, m < n0 → niGet ni m = none := by
    intro m hm
    cases h : niGet ni m with
    | none => rfl
    | some s => have := hnil h; omega
  have hext : ∀ m, m < n0 → (Γ.see ρ ni).nm m = Γ.nm m := by
    intro m hm
    simp only [Gm.see, hlo m hm, hfix m hm]
  have hcut : ∀ l, l ≤ n0 → (Γ.cut l).le ((Γ.see ρ ni).cut l) := by
    intro l hl
    refine ⟨fun m q hq => ?_, Fzn.le_refl _⟩
    simp only [Gm.cut] at hq ⊢
    split at hq
    · rename_i e
      have : m < l := by simpa using e
      rw [hext m (by omega)]
      exact hq
    · cases hq
  -- objects that were there
  have old : ∀ {n o q}, lget H1.l n = some o → niGet ni n = none → (Γ.see ρ ni).nm n = some q → ∃ o0, lget H.l (ρ n) = some o0 ∧ o0.t = o.t ∧ o0.fr = o.fr ∧ SeeC ρ ni H.l n0 o0.c o.c ∧ Γ.nm (ρ n) = some q := by
    intro n o q h1 h2 h3
    have := SeeH_get hs h1
    unfold SeeO at this
    rw [h2] at this
    simp only at this
    obtain ⟨o0, k1, k2, k3, k4⟩ := this
    exact ⟨o0, k1, k2, k3, k4, by simpa only [Gm.see, h2] using h3⟩
  have nn : ∀ {n q}, (Γ.see ρ ni).nm n = some q → q.nl = false → (∃ s, niGet ni n = some s) → False := by
    rintro n q h1 h2 ⟨s, h3⟩
    simp only [Gm.see, h3, Option.some.injEq] at h1
    subst h1
    cases h2
  have none_of : ∀ {n q}, (Γ.see ρ ni).nm n = some q → q.nl = false → niGet ni n = none := by
    intro n q h1 h2
    cases h : niGet ni n with
    | none => rfl
    | some s => exact (nn h1 h2 ⟨s, h⟩).elim
  refine ⟨⟨hR.glob, fun n hn1 => ?_, hR.fzok, fun n o ho => ?_, fun n o q ho hf hq hnl => ?_, fun n o m p q q' ho hp hne hq hq' hf hnl hnl' => ?_⟩, hext, hlow, ⟨rfl, rfl, rfl, Nat.le_refl _, fun _ _ _ => rfl, fun k hk => .inr ?_, Fzn.le_refl _, fun k a hk => .inl hk⟩⟩
  · have : niGet ni n = none := by
      cases h : niGet ni n with
      | none => rfl
      | some s => have := hnil h; omega
    simp only [Gm.see, this]
    exact hR.fresh _ (hfr n hn1)
  · have hso := SeeH_get hs ho
    unfold SeeO at hso
    split at hso
    · rename_i s e
      refine ⟨⟨0, s, 0, true⟩, by simp only [Gm.see, e], ?_⟩
      obtain ⟨t, fr, c⟩ := o
      obtain ⟨hfr', hc⟩ := hso
      cases c with
      | pu xs => exact (ObjR_cells (o := ⟨t, fr, .pu xs⟩) rfl).2 (.inl ⟨rfl, hc.1, hc.2⟩)
      | pus xs => simp only at hc; subst hc; exact (ObjR_cells (o := ⟨t, fr, .pus []⟩) rfl).2 (.inl ⟨rfl, rfl, fun _ h => by simp at h⟩)
      | mx xs => exact (ObjR_cells (o := ⟨t, fr, .mx xs⟩) rfl).2 (.inl ⟨rfl, hc.1, hc.2⟩)
      | bx => exact hc.elim
      | lp => exact hc.elim
      | df => exact hc.elim
    · rename_i e
      obtain ⟨o0, k1, k2, k3, k4⟩ := hso
      obtain ⟨q, hq, hob⟩ := hR.objs _ _ k1
      refine ⟨q, by simp only [Gm.see, e]; exact hq, ?_⟩
      obtain ⟨t0, fr0, c0⟩ := o0
      obtain ⟨t, fr, c⟩ := o
      simp only at k2 k3 k4
      subst k2; subst k3
      -- cells
      have cells : isCells c0 = true → isCells c = true → (Empt c0 → Empt c) → (∀ s tc, Sized s tc c0 → Sized s tc c) → (∀ us, VRL Γ (flat c0) us → VRL (Γ.see ρ ni) (flat c) us) → ObjR C.P (Γ.see ρ ni) w q ⟨t0, fr0, c⟩ := by
        intro h1 h2 h3 h4 h5
        rw [ObjR_cells (o := ⟨t0, fr0, c⟩) h2]
        rcases (ObjR_cells (o := ⟨t0, fr0, c0⟩) h1).1 hob with ⟨g1, g2, g3⟩ | ⟨g0, us, rest, z, g1, g2, g3, g3', g4, g5, g6, g7, g8⟩
        · exact .inl ⟨g1, h3 g2, h4 _ _ g3⟩
        · exact .inr ⟨g0, us, rest, z, g1, g2, g3, g3', g4, h5 us g5, g6, h4 _ _ g7, g8⟩
      have len : ∀ {vs vs1 : List AV}, SeeL ρ ni H.l vs vs1 → vs.length = vs1.length := by
        intro vs vs1
        induction vs1 generalizing vs with
        | nil => intro h; simp only [SeeL] at h; subst h; rfl
        | cons x xs ih => intro h; simp only [SeeL] at h; obtain ⟨u, us, rfl, _, h2⟩ := h; simp [ih h2]
      have lenR : ∀ {vs : List AV} {ys : List PV}, ResL (Res H.l 5) vs ys → vs.length = ys.length := by
        intro vs
        induction vs with
        | nil => intro ys h; simp only [ResL] at h; subst h; rfl
        | cons x xs ih => intro ys h; simp only [ResL] at h; obtain ⟨u, us, rfl, _, h2⟩ := h; simp [ih h2]
      cases c with
      | bx cs1 =>
        obtain ⟨cs0, rfl, h2⟩ := k4
        refine cells rfl rfl (fun h => h) (fun s tc h => ⟨by rw [← len h2]; exact h.1, h.2⟩) fun us hus => SeeL_sound hR _ _ _ h2 hus
      | pu ys =>
        simp only [SeeC] at k4
        split at k4 <;> try exact k4.elim
        · subst k4
          exact cells rfl rfl (fun h => h) (fun s tc h => h) fun us hus => VRL_p.2 (VRL_p (Γ := Γ).1 hus)
        · refine cells rfl rfl (fun h => ?_) (fun s tc h => h) fun us hus => VRL_p.2 (ResL_sound (Res_sound hR 5) k4 hus)
          simp only [Empt] at h ⊢
          subst h
          simpa only [ResL] using k4
      | pus yss =>
        simp only [SeeC] at k4
        subst k4
        exact cells rfl rfl (fun h => h) (fun s tc h => h) fun us hus => VRL_p.2 (VRL_p (Γ := Γ).1 hus)
      | mx vs1 =>
        obtain ⟨vs0, rfl, h2⟩ := k4
        refine cells rfl rfl (fun h => ?_) (fun s tc h => h) fun us hus => SeeL_sound hR _ _ _ h2 hus
        simp only [Empt] at h ⊢
        subst h
        have := len h2
        exact List.eq_nil_of_length_eq_zero this.symm
      | lp st pend lim N sg ps as bd dn =>
        obtain ⟨rfl, h2, h3⟩ := k4
        simp only [ObjR] at hob ⊢
        obtain ⟨g0, g1, fn, tm, qd, g2, g3, g4, g5⟩ := hob
        have h2 := Nat.le_of_ble_eq_true h2
        have h3 : dn < n0 := by simpa using h3
        exact ⟨g0, g1, fn, tm, qd, g2, g3, ⟨g4.1, fun t => VR_mono (hcut lim h2) _ _ (g4.2 t)⟩, by rw [hext dn h3]; exact g5⟩
      | df =>
        simp only [SeeC] at k4
        subst k4
        exact hob
  · have hni := none_of hq hnl
    obtain ⟨o0, k1, k2, k3, k4, k5⟩ := old ho hni hq
    exact hR.own _ o0 q k1 (by rw [k3]; exact hf) k5 hnl
  · have hni := none_of hq hnl
    have hni' := none_of hq' hnl'
    obtain ⟨o0, k1, k2, k3, k4, k5⟩ := old ho hni hq
    obtain ⟨p0, j1, j2, j3, j4, j5⟩ := old hp hni' hq'
    exact hR.apart _ o0 _ p0 q q' k1 j1 (injOn_spec hi (lget_mem ho) (lget_mem hp) hne hni hni') k5 j5 (by rw [k3]; exact hf) hnl hnl'
  · obtain ⟨n, o, q, h1, h2, h3, h4, rfl⟩ := hk
    have hni := none_of h3 h4
    obtain ⟨o0, k1, k2, k3, k4, k5⟩ := old h1 hni h3
    exact ⟨_, o0, q, k1, by rw [k3]; exact h2, k5, h4, rfl⟩

theorem SeeD_sound (hR : R C Γ H w) : ∀ (ds1 ds : List AD) (dd : List Deferred), SeeD ρ ni H.l ds ds1 → DRL Γ ds dd → DRL (Γ.see ρ ni) ds1 dd
  | [], ds, dd, hs, hd => by simp only [SeeD] at hs; subst hs; exact hd
  | .fn g cap args :: ds1, ds, dd, hs, hd => by
    simp only [SeeD] at hs
    obtain ⟨cap0, args0, r, rfl, h1, h2, h3⟩ := hs
    simp only [DRL, DR] at hd ⊢
    obtain ⟨u, us, rfl, ⟨cap', args', rfl, k1, k2⟩, k3⟩ := hd
    exact ⟨_, us, rfl, ⟨cap', args', rfl, SeeL_sound hR _ _ _ h1 k1, SeeL_sound hR _ _ _ h2 k2⟩, SeeD_sound hR ds1 r us h3 k3⟩
  | .col n :: ds1, ds, dd, hs, hd => by
    simp only [SeeD] at hs
    obtain ⟨hni, r, rfl, h3⟩ := hs
    simp only [DRL, DR] at hd ⊢
    obtain ⟨u, us, rfl, ⟨q, k1, rfl⟩, k3⟩ := hd
    exact ⟨_, us, rfl, ⟨q, by simp only [Gm.see, hni]; exact k1, rfl⟩, SeeD_sound hR ds1 r us h3 k3⟩

theorem SeeS_sound (hR : R C Γ H w) {σ : Sg} {a : Act} (h : ∀ t, VR Γ (σ t) (a.tmps.getD t undef)) : ∀ {l : List (Nat × AV)}, SeeS ρ ni H.l σ l → ∀ t, VR (Γ.see ρ ni) (sets (fun _ => .junk) l t) (a.tmps.getD t undef)
  | [], _, t => VR_junk _ _
  | (k, v) :: r, hs, t => by
    simp only [SeeS] at hs
    simp only [sets]
    by_cases e : t = k
    · subst e
      rw [upd_same]
      exact See_sound hR _ _ _ hs.1 (h t)
    · rw [upd_other _ _ e]
      exact SeeS_sound hR h hs.2 t

theorem rmap_fix {n0 N1 N n : Nat} {ps : List (Nat × Nat)} (h : n < n0) : rmap n0 ps N1 N n = n := by
  unfold rmap
  rw [show Nat.blt n n0 = true by simpa using h]
theorem rmap_new {n0 N1 N n : Nat} {ps : List (Nat × Nat)} (h0 : n0 ≤ N1) (h : N1 ≤ n) : rmap n0 ps N1 N n = n - N1 + N := by
  unfold rmap
  rw [show Nat.blt n n0 = false by rw [Bool.eq_false_iff]; intro e; have : n < n0 := (by simpa using e); omega]
  rw [show Nat.blt n N1 = false by rw [Bool.eq_false_iff]; intro e; have : n < N1 := (by simpa using e); omega]

/-- A STATE SEEN AS ANOTHER ONE: 'fs' is not written any more; 'ps' says where new names were; 'ni' are names for nil slices, with their elements' cells. -/
theorem ent_of {n0 N : Nat} {σ : Sg} {ds ds1 : List AD} {H H1 : Hp} {l : List (Nat × AV)} (fs : List Nat) (ps ni : List (Nat × Nat))
    (hb : (marksOK H.l fs && Nat.ble n0 H1.next && niOK n0 H1.next ni && injOn (rmap n0 ps H1.next H.next) ni H1.l) = true)
    (hS : SeeS (rmap n0 ps H1.next H.next) ni (marks H.l fs) σ l) (hH : SeeH (rmap n0 ps H1.next H.next) ni (marks H.l fs) n0 H1.l) (hD : SeeD (rmap n0 ps H1.next H.next) ni (marks H.l fs) ds ds1) :
    Ent C n0 N σ ds H (sets (fun _ => .junk) l) ds1 H1 := by
  intro Γ w a hn hR hSR
  simp only [Bool.and_eq_true] at hb
  obtain ⟨⟨⟨b1, b2⟩, b3⟩, b4⟩ := hb
  have b2 := Nat.le_of_ble_eq_true b2
  obtain ⟨Γ', e1, hL⟩ := hR.mark b1
  have hSR' := hSR.mono (hL.le hR)
  have hsee := R.see (H1 := H1) (ρ := rmap n0 ps H1.next H.next) hL.1 hH b4 b3 (fun n h => rmap_fix h) b2 (fun n h => by rw [rmap_new b2 h]; show H.next ≤ _; omega)
  exact ⟨_, ⟨hSR'.size, SeeS_sound hL.1 hSR'.tm hS, SeeD_sound hL.1 _ _ _ hD hSR'.df⟩, (hL.mono hn).trans hsee⟩
end
end Go.Proofs.YtemlkodkohgmmaaDoor.Y
