/- Contracts at named objects: forgetting at the end; their use in a caller's heap. Deferred functions that recover. -/
import Derived.Test.YtemlkodkohgmmaaDoorYt
namespace Go.Proofs.YtemlkodkohgmmaaDoor.Y
open Go

section
variable (ρ : Nat → Nat) (ni : List (Nat × Nat)) (L : List (Nat × AObj))
def SeeP : List AP → List AP → Prop
  | l0, [] => l0 = []
  | l0, p :: ps => ∃ v r, l0 = ⟨v, p.rcv⟩ :: r ∧ See ρ ni L v p.v ∧ SeeP r ps
def SeeE : AE → AE → Prop
  | e, .returned v1 => ∃ v, e = .returned v ∧ See ρ ni L v v1
  | e, .panicked c1 => ∃ c, e = .panicked c ∧ SeeP ρ ni L c c1
end

/-- What is asked at the end of a function that has named objects. -/
def EndN (n0 : Nat) (Q : AE → Hp → Prop) (e : AE) (H' : Hp) : Prop :=
  ∃ fs ps ni e1 H1, (marksOK H'.l fs && Nat.ble n0 (Hp.next H1) && niOK n0 (Hp.next H1) ni && injOn (rmap n0 ps (Hp.next H1) H'.next) ni (Hp.l H1)) = true ∧
    SeeE (rmap n0 ps (Hp.next H1) H'.next) ni (marks H'.l fs) e e1 ∧ SeeH (rmap n0 ps (Hp.next H1) H'.next) ni (marks H'.l fs) n0 (Hp.l H1) ∧ Q e1 H1

section
variable {C : Cx}

theorem SeeP_sound {Γ : Gm} {H : Hp} {w : World} {ρ : Nat → Nat} {ni : List (Nat × Nat)} (hR : R C Γ H w) : ∀ (c1 c : List AP) (c' : List PanicEntry), SeeP ρ ni H.l c c1 → PEL Γ c c' → PEL (Γ.see ρ ni) c1 c'
  | [], c, c', hs, hc => by simp only [SeeP] at hs; subst hs; exact hc
  | p :: ps, c, c', hs, hc => by
    simp only [SeeP] at hs
    obtain ⟨v, r, rfl, h1, h2⟩ := hs
    simp only [PEL] at hc ⊢
    obtain ⟨q, qs, rfl, ⟨k1, k2⟩, k3⟩ := hc
    exact ⟨q, qs, rfl, ⟨See_sound hR _ _ _ h1 k1, k2⟩, SeeP_sound hR ps r qs h2 k3⟩
theorem SeeE_sound {Γ : Gm} {H : Hp} {w : World} {ρ : Nat → Nat} {ni : List (Nat × Nat)} (hR : R C Γ H w) {e e1 : AE} {e' : Ending} (hs : SeeE ρ ni H.l e e1) (he : ER Γ e e') : ER (Γ.see ρ ni) e1 e' := by
  cases e1 with
  | returned v1 =>
    obtain ⟨v, rfl, h1⟩ := hs
    obtain ⟨v', rfl, h2⟩ := he
    exact ⟨v', rfl, See_sound hR _ _ _ h1 h2⟩
  | panicked c1 =>
    obtain ⟨c, rfl, h1⟩ := hs
    obtain ⟨c', rfl, h2⟩ := he
    exact ⟨c', rfl, SeeP_sound hR _ _ _ h1 h2⟩

theorem Post.gc {Γ : Gm} {H : Hp} {w : World} {Q : AE → Hp → Prop} {e' : Ending} {w' : World} (h : Post C Γ H w (EndN H.next Q) e' w') : Post C Γ H w Q e' w' := by
  obtain ⟨e, H', Γ', ⟨fs, ps, ni, e1, H1, hb, hE, hH, hq⟩, hER, hL⟩ := h
  simp only [Bool.and_eq_true] at hb
  obtain ⟨⟨⟨b1, b2⟩, b3⟩, b4⟩ := hb
  have b2 := Nat.le_of_ble_eq_true b2
  obtain ⟨Γ2, e2, hL2⟩ := hL.1.mark b1
  have hsee := R.see (H1 := H1) (ρ := rmap H.next ps H1.next H'.next) hL2.1 hH b4 b3 (fun n h => rmap_fix h) b2 (fun n h => by rw [rmap_new b2 h]; show H'.next ≤ _; omega)
  exact ⟨e1, H1, _, hq, SeeE_sound hL2.1 hE (ER_mono (hL2.le hL.1) hER), (hL.trans (hL2.mono hL.2.2.1)).trans hsee⟩

/-- A contract at named objects, out of the conditions. -/
theorem holdsN_of_vc {f : FuncId} {fn : Func} {c : Code} {args : List AV} {H : Hp} {Q : AE → Hp → Prop} (hf : C.P.funcs[f]? = some fn) (hname : (fn.name == "runtime.NumGoroutine") = false) (hb : fn.body = some c)
    (hN : Nat.ble args.length fn.ntmps = true) (hv : vc C none H.next fn.ntmps c (sets (fun _ => und) (argS 0 args)) [] H (Fin C fn.results.toList (EndN H.next Q))) : HoldsG C f args H Q := by
  intro Γ w args' hR hA
  obtain ⟨h1, h2⟩ := holds_of_vc hf hname hb hN hv Γ w args' hR hA
  exact ⟨h1, h2.mono fun _ _ => Post.gc⟩

/-! ### Renaming -/
mutual
def renV (ρ : Nat → Nat) : AV → AV
  | .p v => .p v
  | .ptr n i f => .ptr (ρ n) i f
  | .ptd n i f => .ptd (ρ n) i f
  | .sl n s off len => .sl (ρ n) s off len
  | .mp n => .mp (ρ n)
  | .fn f a b => .fn (renF ρ f) (renL ρ a) (renL ρ b)
  | .iface t v => .iface t (renV ρ v)
  | .agg cs => .agg (renL ρ cs)
  | .tup cs => .tup (renL ρ cs)
  | .anyp => .anyp
  | .junk => .junk
def renL (ρ : Nat → Nat) : List AV → List AV
  | [] => []
  | v :: vs => renV ρ v :: renL ρ vs
end

mutual
theorem VR_ren {a b : Gm} {ρ : Nat → Nat} (hn : ∀ n, b.nm (ρ n) = a.nm n) (hf : a.fz = b.fz) : ∀ (v : AV) (v' : Value), VR a v v' → VR b (renV ρ v) v'
  | .p v, v', h => by simp only [VR, renV] at h ⊢; rw [← hf]; exact h
  | .ptr n i f, v', h => by
    simp only [VR, renV] at h ⊢
    obtain ⟨q, h1, h2⟩ := h
    exact ⟨q, by rw [hn]; exact h1, h2⟩
  | .ptd n i f, v', h => by
    simp only [VR, renV] at h ⊢
    obtain ⟨q, h1, h2⟩ := h
    exact ⟨q, by rw [hn]; exact h1, h2⟩
  | .sl n s off len, v', h => by
    simp only [VR, renV] at h ⊢
    obtain ⟨q, h1, h2⟩ := h
    exact ⟨q, by rw [hn]; exact h1, h2⟩
  | .mp n, v', h => by
    simp only [VR, renV] at h ⊢
    obtain ⟨q, h1, h2⟩ := h
    exact ⟨q, by rw [hn]; exact h1, h2⟩
  | .fn f a1 b1, v', h => by
    simp only [VR, renV] at h ⊢
    obtain ⟨f', fs', cs', h1, h2, h3, h4⟩ := h
    refine ⟨f', fs', cs', h1, ?_, VRL_ren hn hf a1 _ h3, VRL_ren hn hf b1 _ h4⟩
    cases f <;> simp only [renF, FR] at h2 ⊢ <;> first | exact h2 | skip
    obtain ⟨q, k1, k2⟩ := h2
    exact ⟨q, by rw [hn]; exact k1, k2⟩
  | .iface t v, v', h => by
    simp only [VR, renV] at h ⊢
    obtain ⟨u, h1, h2⟩ := h
    exact ⟨u, h1, VR_ren hn hf v u h2⟩
  | .agg cs, v', h => by
    simp only [VR, renV] at h ⊢
    obtain ⟨u, h1, h2⟩ := h
    exact ⟨u, h1, VRL_ren hn hf cs _ h2⟩
  | .tup cs, v', h => by
    simp only [VR, renV] at h ⊢
    obtain ⟨u, h1, h2⟩ := h
    exact ⟨u, h1, VRL_ren hn hf cs _ h2⟩
  | .anyp, v', h => by simpa only [VR, renV] using h
  | .junk, v', h => by simp only [VR, renV]
theorem VRL_ren {a b : Gm} {ρ : Nat → Nat} (hn : ∀ n, b.nm (ρ n) = a.nm n) (hf : a.fz = b.fz) : ∀ (v : List AV) (v' : List Value), VRL a v v' → VRL b (renL ρ v) v'
  | [], _, h => by simpa only [renL, VRL] using h
  | v :: vs, _, h => by
    simp only [renL, VRL] at h ⊢
    obtain ⟨u, us, h1, h2, h3⟩ := h
    exact ⟨u, us, h1, VR_ren hn hf v u h2, VRL_ren hn hf vs us h3⟩
end

theorem renL_length (ρ : Nat → Nat) : ∀ (l : List AV), (renL ρ l).length = l.length
  | [] => rfl
  | v :: vs => by simp [renL, renL_length ρ vs]

def renP (ρ : Nat → Nat) : List AP → List AP
  | [] => []
  | p :: r => ⟨renV ρ p.v, p.rcv⟩ :: renP ρ r
def renE (ρ : Nat → Nat) : AE → AE
  | .returned v => .returned (renV ρ v)
  | .panicked c => .panicked (renP ρ c)
theorem PEL_ren {a b : Gm} {ρ : Nat → Nat} (hn : ∀ n, b.nm (ρ n) = a.nm n) (hf : a.fz = b.fz) : ∀ {c : List AP} {c' : List PanicEntry}, PEL a c c' → PEL b (renP ρ c) c'
  | [], _, h => h
  | p :: r, _, h => by
    simp only [renP, PEL] at h ⊢
    obtain ⟨q, qs, h1, ⟨h2, h3⟩, h4⟩ := h
    exact ⟨q, qs, h1, ⟨VR_ren hn hf _ _ h2, h3⟩, PEL_ren hn hf h4⟩
theorem ER_ren {a b : Gm} {ρ : Nat → Nat} (hn : ∀ n, b.nm (ρ n) = a.nm n) (hf : a.fz = b.fz) {e : AE} {e' : Ending} (h : ER a e e') : ER b (renE ρ e) e' := by
  cases e with
  | returned v => obtain ⟨v', h1, h2⟩ := h; exact ⟨v', h1, VR_ren hn hf _ _ h2⟩
  | panicked c => obtain ⟨c', h1, h2⟩ := h; exact ⟨c', h1, PEL_ren hn hf h2⟩

def renC (ρ : Nat → Nat) : Cn → Cn
  | .bx cs => .bx (renL ρ cs)
  | .mx cs => .mx (renL ρ cs)
  | c => c
def renO (ρ : Nat → Nat) (o : AObj) : AObj := { o with c := renC ρ o.c }

theorem renO_sound {P : Program} {a b : Gm} {ρ : Nat → Nat} {w : World} {q : Pl} {o : AObj} (hn : ∀ n, b.nm (ρ n) = a.nm n) (hf : a.fz = b.fz) (hc : isCells o.c = true) (h : ObjR P a w q o) : ObjR P b w q (renO ρ o) := by
  obtain ⟨t, fr, c⟩ := o
  have key : isCells (renC ρ c) = true ∧ (Empt c → Empt (renC ρ c)) ∧ (∀ s tc, Sized s tc c → Sized s tc (renC ρ c)) ∧ (∀ us, VRL a (flat c) us → VRL b (flat (renC ρ c)) us) := by
    cases c with
    | bx cs => exact ⟨rfl, fun h => h, fun s tc h => ⟨by rw [renL_length]; exact h.1, h.2⟩, fun us h => VRL_ren hn hf _ _ h⟩
    | mx cs => exact ⟨rfl, fun h => by simp only [Empt] at h; subst h; rfl, fun s tc h => h, fun us h => VRL_ren hn hf _ _ h⟩
    | pu xs => exact ⟨rfl, fun h => h, fun s tc h => h, fun us h => VRL_p.2 (by rw [← hf]; exact VRL_p.1 h)⟩
    | pus xs => exact ⟨rfl, fun h => h, fun s tc h => h, fun us h => VRL_p.2 (by rw [← hf]; exact VRL_p.1 h)⟩
    | lp => cases hc
    | df => cases hc
  obtain ⟨k1, k2, k3, k4⟩ := key
  rw [ObjR_cells (o := renO ρ ⟨t, fr, c⟩) k1]
  rcases (ObjR_cells (o := ⟨t, fr, c⟩) hc).1 h with ⟨g1, g2, g3⟩ | ⟨g0, us, rest, z, g1, g2, g3, g3', g4, g5, g6, g7, g8⟩
  · exact .inl ⟨g1, k2 g2, k3 _ _ g3⟩
  · exact .inr ⟨g0, us, rest, z, g1, g2, g3, g3', g4, k4 us g5, g6, k3 _ _ g7, fun e => by rw [← hf]; exact g8 e⟩

/-- The callee's objects, under the caller's names. -/
def renH (ρ : Nat → Nat) : List (Nat × AObj) → List (Nat × AObj)
  | [] => []
  | (n, o) :: r => match isCells o.c with
    | true => (ρ n, renO ρ o) :: renH ρ r
    | false => renH ρ r
def imgs (ρ : Nat → Nat) : List (Nat × AObj) → Nat → Bool
  | [], _ => false
  | (n, _) :: r, m => Nat.beq (ρ n) m || imgs ρ r m
/-- The caller's objects that the callee did not get. -/
def rest (ρ : Nat → Nat) (L0 : List (Nat × AObj)) : List (Nat × AObj) → List (Nat × AObj)
  | [] => []
  | (m, o) :: r => match imgs ρ L0 m with
    | true => rest ρ L0 r
    | false => (m, o) :: rest ρ L0 r
def nodupK : List (Nat × AObj) → Bool
  | [] => true
  | (n, _) :: r => r.all (fun p => !Nat.beq p.1 n) && nodupK r
def mrg (ρ : Nat → Nat) (n0 : Nat) (L0 : List (Nat × AObj)) (H H0' : Hp) : Hp := ⟨H.next + (H0'.next - n0), renH ρ H0'.l ++ rest ρ L0 H.l⟩

theorem lget_append {a b : List (Nat × AObj)} {m : Nat} {o : AObj} (h : lget (a ++ b) m = some o) : (m, o) ∈ a ∨ lget b m = some o := by
  induction a with
  | nil => exact .inr h
  | cons p r ih =>
    obtain ⟨k, x⟩ := p
    simp only [List.cons_append] at h
    by_cases e : k = m
    · subst e; rw [lget_cons_same] at h; injection h with h; subst h; exact .inl (by simp)
    · rw [lget_cons_ne e] at h
      rcases ih h with h1 | h1
      · exact .inl (List.mem_cons_of_mem _ h1)
      · exact .inr h1
theorem nodupK_get {l : List (Nat × AObj)} (h : nodupK l = true) {n : Nat} {o : AObj} (hm : (n, o) ∈ l) : lget l n = some o := by
  induction l with
  | nil => simp at hm
  | cons p r ih =>
    obtain ⟨k, x⟩ := p
    simp only [nodupK, Bool.and_eq_true, List.all_eq_true, Bool.not_eq_true'] at h
    rcases List.mem_cons.1 hm with e | e
    · injection e with e1 e2; subst e1; subst e2; exact lget_cons_same
    · have := h.1 _ e
      rw [lget_cons_ne (fun e' => by subst e'; simp at this)]
      exact ih h.2 e
theorem mem_renH {ρ : Nat → Nat} {l : List (Nat × AObj)} {m : Nat} {o : AObj} (h : (m, o) ∈ renH ρ l) : ∃ n o', (n, o') ∈ l ∧ isCells o'.c = true ∧ m = ρ n ∧ o = renO ρ o' := by
  induction l with
  | nil => simp [renH] at h
  | cons p r ih =>
    obtain ⟨k, x⟩ := p
    simp only [renH] at h
    split at h
    · rename_i hx
      rcases List.mem_cons.1 h with e | e
      · injection e with e1 e2
        exact ⟨k, x, by simp, hx, e1, e2⟩
      · obtain ⟨n, o', h1, h2⟩ := ih e
        exact ⟨n, o', List.mem_cons_of_mem _ h1, h2⟩
    · obtain ⟨n, o', h1, h2⟩ := ih h
      exact ⟨n, o', List.mem_cons_of_mem _ h1, h2⟩
theorem imgs_spec {ρ : Nat → Nat} {l : List (Nat × AObj)} {m : Nat} (h : imgs ρ l m = false) {n : Nat} {o : AObj} (hn : (n, o) ∈ l) : ρ n ≠ m := by
  induction l with
  | nil => simp at hn
  | cons p r ih =>
    obtain ⟨k, x⟩ := p
    simp only [imgs, Bool.or_eq_false_iff] at h
    rcases List.mem_cons.1 hn with e | e
    · injection e with e1 e2
      subst e1
      intro e
      rw [e] at h
      simp at h
    · exact ih h.2 e
theorem lget_rest {ρ : Nat → Nat} {L0 l : List (Nat × AObj)} {m : Nat} {o : AObj} (h : lget (rest ρ L0 l) m = some o) : imgs ρ L0 m = false ∧ lget l m = some o := by
  induction l with
  | nil => simp [rest, lget] at h
  | cons p r ih =>
    obtain ⟨k, x⟩ := p
    simp only [rest] at h
    split at h
    · rename_i hi
      obtain ⟨h1, h2⟩ := ih h
      rw [lget_cons_ne (fun e => by subst e; rw [hi] at h1; cases h1)]
      exact ⟨h1, h2⟩
    · rename_i hi
      by_cases e : k = m
      · subst e
        rw [lget_cons_same] at h ⊢
        exact ⟨hi, h⟩
      · rw [lget_cons_ne e] at h ⊢
        exact ih h

/-- THE USE of a contract at named objects in a caller's heap: 'ps' says which of the caller's names stand for the callee's. -/
theorem Holds.useN {g : FuncId} {args0 args : List AV} {n0 : Nat} {L0 : List (Nat × AObj)} {H : Hp} {Q0 Q : AE → Hp → Prop} (h : Holds C g args0 ⟨n0, L0⟩ Q0) (fs : List Nat) (ps : List (Nat × Nat))
    (hb : (marksOK H.l fs && (List.range n0).all (fun n => Nat.blt (look ps n) H.next) && injOn (rmap 0 ps n0 H.next) [] L0) = true)
    (hH : SeeH (rmap 0 ps n0 H.next) [] (marks H.l fs) 0 L0) (hA0 : SeeL (rmap 0 ps n0 H.next) [] (marks H.l fs) args args0)
    (hQ : ∀ e0 H0', Q0 e0 H0' → nodupK H0'.l = true ∧ Q (renE (rmap 0 ps n0 H.next) e0) (mrg (rmap 0 ps n0 H.next) n0 L0 (H.mrk fs) H0')) : Holds C g args H Q := by
  intro Γ0 w args' hR0 hA
  simp only [Bool.and_eq_true] at hb
  obtain ⟨⟨b1, b2⟩, b3⟩ := hb
  obtain ⟨Γ, e1, hLm⟩ := hR0.mark b1
  have hR := hLm.1
  have hA := VRL_mono (hLm.le hR0) _ _ hA
  have hlt : ∀ n, n < n0 → rmap 0 ps n0 H.next n < H.next := by
    intro n hn
    unfold rmap
    rw [show Nat.blt n 0 = false from rfl]
    rw [show Nat.blt n n0 = true by simpa using hn]
    have := List.all_eq_true.1 b2 n (List.mem_range.2 hn)
    simpa using this
  have hge : ∀ n, n0 ≤ n → rmap 0 ps n0 H.next n = n - n0 + H.next := fun n hn => rmap_new (Nat.zero_le _) hn
  have hsee := R.see (H1 := ⟨n0, L0⟩) (ρ := rmap 0 ps n0 H.next) (ni := []) (n0 := 0) hR hH b3 rfl (fun n h => by omega) (Nat.zero_le _) (fun n h => by rw [hge n h]; show H.next ≤ _; omega)
  have hA1 := SeeL_sound hR _ _ _ hA0 hA
  have key : ∀ e w', Post C (Γ.see (rmap 0 ps n0 H.next) []) ⟨n0, L0⟩ w Q0 e w' → Post C Γ (H.mrk fs) w Q e w' := by
    rintro e' w' ⟨e0, H0', Γc, h1, h2, hL⟩
    obtain ⟨hnd, hq⟩ := hQ e0 H0' h1
    obtain ⟨h3, h4, h5, h6⟩ := hL
    simp only at h4 h5
    let Γ' : Gm := ⟨fun m => if m < H.next then Γ.nm m else Γc.nm (m - H.next + n0), Γc.fz⟩
    have hnm : ∀ n, Γ'.nm (rmap 0 ps n0 H.next n) = Γc.nm n := by
      intro n
      by_cases hn : n < n0
      · simp only [Γ', if_pos (hlt n hn)]
        rw [h4 n hn]
        rfl
      · have hn' := hge n (by omega)
        simp only [Γ']
        rw [hn', if_neg (by omega)]
        congr 1
        omega
    have hle : Γ.le Γ' := by
      refine ⟨fun n q hq => ?_, h6.fz⟩
      have hn : n < H.next := by
        rcases Nat.lt_or_ge n H.next with h1 | h1
        · exact h1
        · rw [hR.fresh n h1] at hq; cases hq
      simp only [Γ', if_pos hn]
      exact hq
    have hOwn0 : ∀ k, Own (Γ.see (rmap 0 ps n0 H.next) []) ⟨n0, L0⟩ k → Own Γ (H.mrk fs) k := fun k hk => by
      rcases hsee.2.2.2.prov k hk with h1 | h1
      · exact absurd (Own.blk_lt hsee.1 hk) (by omega)
      · exact h1
    -- an owned block of the callee's is not one of the frame
    have hframe : ∀ m o q, imgs (rmap 0 ps n0 H.next) L0 m = false → lget (H.mrk fs).l m = some o → Γ.nm m = some q → q.nl = false → q.blk < w.heap.size ∧ ¬ Own (Γ.see (rmap 0 ps n0 H.next) []) ⟨n0, L0⟩ q.blk := by
      intro m o q hno hm hq hnl
      obtain ⟨q', e1, e2⟩ := hR.objs m o hm
      rw [hq] at e1; injection e1 with e1; subst e1
      refine ⟨e2.blk_lt hnl, ?_⟩
      rintro ⟨n, o0, q0, k1, k2, k3, k4, k5⟩
      have hso := SeeH_get hH k1
      unfold SeeO at hso
      simp only [niGet] at hso
      obtain ⟨oc, j1, j2, j3, j4⟩ := hso
      have hne := imgs_spec hno (lget_mem k1)
      exact hR.apart _ oc m o q0 q j1 hm hne k3 hq (by rw [j3]; exact k2) k4 hnl k5
    have hwh : ∀ m o, lget (mrg (rmap 0 ps n0 H.next) n0 L0 (H.mrk fs) H0').l m = some o → (∃ n o', m = rmap 0 ps n0 H.next n ∧ lget H0'.l n = some o' ∧ isCells o'.c = true ∧ o = renO (rmap 0 ps n0 H.next) o') ∨ (imgs (rmap 0 ps n0 H.next) L0 m = false ∧ lget (H.mrk fs).l m = some o) := by
      intro m o hm
      rcases lget_append hm with h1 | h1
      · obtain ⟨n, o', k1, k2, k3, k4⟩ := mem_renH h1
        exact .inl ⟨n, o', k3, nodupK_get hnd k1, k2, k4⟩
      · exact .inr (lget_rest h1)
    have hfrq : ∀ m o q, imgs (rmap 0 ps n0 H.next) L0 m = false → lget (H.mrk fs).l m = some o → Γ'.nm m = some q → Γ.nm m = some q := by
      intro m o q _ hm hq
      obtain ⟨q', e1, _⟩ := hR.objs m o hm
      have := hle.nm _ _ e1
      rw [hq] at this
      rw [this]; exact e1
    -- a block of the callee's that the heap owns, or that is not written any more, is none of an owned object of the frame
    have hblk : ∀ n o' qc m o q, lget H0'.l n = some o' → Γc.nm n = some qc → qc.nl = false → imgs (rmap 0 ps n0 H.next) L0 m = false → lget (H.mrk fs).l m = some o → Γ.nm m = some q → q.nl = false → (o'.fr = false ∨ o.fr = false) → isCells o'.c = true → qc.blk ≠ q.blk := by
      intro n o' qc m o q k1 k2 k3 k4 k5 k6 k7 k8 k9 e
      obtain ⟨l1, l2⟩ := hframe m o q k4 k5 k6 k7
      cases hfr : o'.fr with
      | false =>
        rcases h6.prov qc.blk ⟨n, o', qc, k1, hfr, k2, k3, rfl⟩ with c1 | c1
        · omega
        · exact l2 (e ▸ c1)
      | true =>
        have hof : o.fr = false := by
          rcases k8 with k8 | k8
          · rw [hfr] at k8; cases k8
          · exact k8
        obtain ⟨qx, x1, x2⟩ := h3.objs n o' k1
        rw [k2] at x1; injection x1 with x1; subst x1
        rcases (ObjR_cells k9).1 x2 with ⟨y, _⟩ | ⟨_, us, rr, z, g1, g2, g3, g3', g4, g5, g6, g7, g8⟩
        · rw [k3] at y; cases y
        · rcases h6.fzprov _ _ (g8 hfr) with c1 | c1 | c1
          · have c1' : Γ.fz qc.blk = some _ := c1
            rw [e, hR.own m o q k5 hof k6 k7] at c1'
            cases c1'
          · omega
          · exact l2 (e ▸ c1)
    refine ⟨_, _, Γ', hq, ER_ren hnm rfl h2, ⟨h3.glob, fun n hn => ?_, h3.fzok, fun m o hm => ?_, fun m o q hm hf hq1 hnl => ?_, fun m o m' o' q q' hm hm' hne hq1 hq2 hf hnl hnl' => ?_⟩, fun m hm => by have hm : m < H.next := hm; simp only [Γ', if_pos hm], by show H.next ≤ H.next + _; omega, ⟨h6.os, h6.tape, h6.output, h6.size, fun k hk hno => h6.kept k hk (fun e => hno (hOwn0 k e)), fun k hk => ?_, h6.fz, fun k a hk => ?_⟩⟩
    · have hn : H.next + (H0'.next - n0) ≤ n := hn
      simp only [Γ', if_neg (show ¬ n < H.next by omega)]
      exact h3.fresh _ (by omega)
    · rcases hwh m o hm with ⟨n, o', rfl, k2, k3, rfl⟩ | ⟨k1, k2⟩
      · obtain ⟨q, x1, x2⟩ := h3.objs n o' k2
        exact ⟨q, by rw [hnm]; exact x1, renO_sound hnm rfl k3 x2⟩
      · obtain ⟨q, x1, x2⟩ := hR.objs m o k2
        refine ⟨q, hle.nm _ _ x1, x2.ext hle fun hnl => ?_⟩
        obtain ⟨l1, l2⟩ := hframe m o q k1 k2 x1 hnl
        exact h6.kept _ l1 l2
    · rcases hwh m o hm with ⟨n, o', rfl, k2, k3, rfl⟩ | ⟨k1, k2⟩
      · rw [hnm] at hq1
        exact h3.own n o' q k2 hf hq1 hnl
      · have hq2 := hfrq m o q k1 k2 hq1
        have h0 := hR.own m o q k2 hf hq2 hnl
        obtain ⟨l1, l2⟩ := hframe m o q k1 k2 hq2 hnl
        cases hx : Γc.fz q.blk with
        | none => rfl
        | some a =>
          rcases h6.fzprov _ _ hx with c1 | c1 | c1
          · have c1' : Γ.fz q.blk = some _ := c1
            rw [h0] at c1'; cases c1'
          · omega
          · exact (l2 c1).elim
    · rcases hwh m o hm with ⟨n, o1, rfl, k2, k3, rfl⟩ | ⟨k1, k2⟩
      · rw [hnm] at hq1
        rcases hwh m' o' hm' with ⟨n', o2, rfl, j2, j3, rfl⟩ | ⟨j1, j2⟩
        · rw [hnm] at hq2
          exact h3.apart n o1 n' o2 q q' k2 j2 (fun e => hne (by rw [e])) hq1 hq2 hf hnl hnl'
        · exact hblk n o1 q m' o' q' k2 hq1 hnl j1 j2 (hfrq _ _ _ j1 j2 hq2) hnl' (.inl hf) k3
      · have hq1' := hfrq m o q k1 k2 hq1
        rcases hwh m' o' hm' with ⟨n', o2, rfl, j2, j3, rfl⟩ | ⟨j1, j2⟩
        · rw [hnm] at hq2
          exact Ne.symm (hblk n' o2 q' m o q j2 hq2 hnl' k1 k2 hq1' hnl (.inr hf) j3)
        · exact hR.apart m o m' o' q q' k2 j2 hne hq1' (hfrq _ _ _ j1 j2 hq2) hf hnl hnl'
    · obtain ⟨m, o, q, k1, k2, k3, k4, rfl⟩ := hk
      rcases hwh m o k1 with ⟨n, o1, rfl, j2, j3, rfl⟩ | ⟨j1, j2⟩
      · rw [hnm] at k3
        rcases h6.prov q.blk ⟨n, o1, q, j2, k2, k3, k4, rfl⟩ with c1 | c1
        · exact .inl c1
        · exact .inr (hOwn0 _ c1)
      · exact .inr ⟨m, o, q, j2, k2, hfrq _ _ _ j1 j2 k3, k4, rfl⟩
    · rcases h6.fzprov k a hk with c1 | c1 | c1
      · exact .inl c1
      · exact .inr (.inl c1)
      · exact .inr (.inr (hOwn0 _ c1))
  have fin : ∀ e w', Post C (Γ.see (rmap 0 ps n0 H.next) []) ⟨n0, L0⟩ w Q0 e w' → Post C Γ0 H w Q e w' := by
    intro e w' hP
    obtain ⟨e0, H', Γ', k1, k2, k3⟩ := key e w' hP
    exact ⟨e0, H', Γ', k1, k2, hLm.trans (k3.mono hLm.2.2.1)⟩
  rcases h _ w args' hsee.1 hA1 with ⟨h1, h2⟩ | ⟨v', w', h1, h2⟩
  · exact .inl ⟨h1, h2.mono fin⟩
  · exact .inr ⟨v', w', h1, fin _ _ h2⟩
end
end Go.Proofs.YtemlkodkohgmmaaDoor.Y
