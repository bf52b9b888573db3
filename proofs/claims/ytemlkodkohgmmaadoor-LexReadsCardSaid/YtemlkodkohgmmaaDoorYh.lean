/- Operations with effects do in the world what they do on abstract states. -/
import Derived.Test.YtemlkodkohgmmaaDoorYg
namespace Go.Proofs.YtemlkodkohgmmaaDoor.Y
open Go

section
variable {C : Cx} {Γ : Gm} {H : Hp} {w : World}

theorem pl_plain {v : AV} {v' : Value} (h : VR Γ v v') (hp : pl v = true) : plainV v' = true := by
  cases v with
  | p v =>
    cases v <;> simp only [VR, VP] at h
    case lst => rcases h with ⟨_, _, _, rfl⟩ | ⟨_, _, _, _, _, rfl, _⟩ <;> rfl
    case lsts => rcases h with ⟨_, _, _, rfl⟩ | ⟨_, _, _, _, _, rfl, _⟩ <;> rfl
    all_goals first
      | (subst h; rfl)
      | (obtain ⟨_, _, _, _, rfl, _⟩ := h; rfl)
      | (obtain ⟨_, _, _, rfl, _⟩ := h; rfl)
      | (obtain ⟨_, rfl, _⟩ := h; first | rfl | (simp [pl] at hp))
  | ptr => simp only [VR, PtrR] at h; obtain ⟨_, _, _, rfl⟩ := h; rfl
  | ptd => simp only [VR, PtrR] at h; obtain ⟨_, _, _, rfl⟩ := h; rfl
  | sl => simp only [VR, SlR] at h; obtain ⟨_, _, _, ⟨_, _, _, rfl⟩ | ⟨_, _, _, rfl, _⟩⟩ := h <;> rfl
  | mp => simp only [VR] at h; obtain ⟨_, _, rfl⟩ := h; rfl
  | fn => simp only [VR] at h; obtain ⟨_, _, _, rfl, _⟩ := h; rfl
  | iface => simp only [VR] at h; obtain ⟨_, rfl, _⟩ := h; rfl
  | agg => simp [pl] at hp
  | tup => simp [pl] at hp
  | anyp => simp only [VR] at h; obtain ⟨_, rfl⟩ := h; rfl
  | junk => simp [pl] at hp

theorem pl_all {vs : List AV} {vs' : List Value} (h : VRL Γ vs vs') (hp : vs.all pl = true) : ∀ v ∈ vs', plainV v = true := by
  induction vs generalizing vs' with
  | nil => simp only [VRL] at h; subst h; simp
  | cons x xs ih =>
    simp only [VRL] at h
    obtain ⟨u, us, rfl, h1, h2⟩ := h
    simp only [List.all_cons, Bool.and_eq_true] at hp
    intro v hv
    rcases List.mem_cons.1 hv with rfl | hv
    · exact pl_plain h1 hp.1
    · exact ih h2 hp.2 v hv

/-- The value and the state behind an operation. -/
def NV (C : Cx) (Γ : Gm) (H : Hp) (w : World) (K : KH) (v' : Value) (w' : World) : Prop :=
  ∃ v H' Γ', K v H' ∧ VR Γ' v v' ∧ Later C H.next Γ H w Γ' H' w'

theorem run_newVar {P : Program} (t : TypeId) (v : Value) : (newVar t v).run P w = .ok ⟨w.heap.size, 0, none⟩ (w.alloc (.cells v.cells t)) := by
  rfl
theorem run_newRow {P : Program} (t : TypeId) (cs : Array Value) : (newRow t cs).run P w = .ok ⟨w.heap.size, 0, none⟩ (w.alloc (.cells cs t)) := by
  rfl

/-- A new block of cells. -/
theorem push_cells (h : R C Γ H w) {t : TypeId} {s tc : Nat} {c : Cn} {us rest : List Value} (hc : isCells c = true) (hs : szOf C.P t = some s) (h0 : 0 < s) (hv : VRL Γ (flat c) us) (hpl : ∀ u ∈ us, plainV u = true)
    (hl : (us ++ rest).length = tc * s) (hz : Sized s tc c) :
    Later C H.next Γ H w (Γ.put H.next ⟨w.heap.size, s, tc, false⟩) (H.push ⟨t, false, c⟩) (w.alloc (.cells ⟨us ++ rest⟩ t)) := by
  refine h.push rfl rfl rfl ((ObjR_cells hc).2 (.inr ⟨rfl, us, rest, (0, 0), heap_alloc_new w _, .inl (Nat.le_refl _), hs, h0, hl, VRL_mono (Gm.le_put (h.fresh _ (Nat.le_refl _))) _ _ hv, hpl, hz, fun e => by cases e⟩))

theorem VR_ptrNext (q : Pl) (n : Nat) (hn : q.nl = false) : VR (Γ.put n q) (.ptr n 0 0) (.pointer (some ⟨q.blk, 0, none⟩)) := by
  simp only [VR]
  exact ⟨q, Gm.put_same _ _ _, hn, by simp⟩
theorem VR_slNext (q : Pl) (n len : Nat) (hn : q.nl = false) (hl : len ≤ q.tc) : VR (Γ.put n q) (.sl n q.s 0 len) (.slice (some ⟨q.blk, 0, none⟩) len q.tc) := by
  simp only [VR]
  exact ⟨q, Gm.put_same _ _ _, rfl, .inr ⟨hn, by omega, 0, rfl, .inl (by simp)⟩⟩

theorem boxC_sound (h : R C Γ H w) {t : TypeId} {cs : List AV} {cs' : Array Value} (hv : VRL Γ cs cs'.toList) {K : KH} (hk : eBoxC C t cs H K) : NV C Γ H w K (.pointer (some ⟨w.heap.size, 0, none⟩)) (w.alloc (.cells cs' t)) := by
  unfold eBoxC at hk
  split at hk <;> try exact hk.elim
  rename_i s hs
  split at hk <;> try exact hk.elim
  rename_i hc
  simp only [Bool.and_eq_true] at hc
  obtain ⟨⟨h1, h2⟩, h3⟩ := hc
  have h1 : 0 < s := by simpa using h1
  have h2 := Nat.eq_of_beq_eq_true h2
  have hlen := VRL_length hv
  have hL := push_cells (rest := []) (tc := 1) (c := .bx cs) h rfl hs h1 hv (pl_all hv h3) (by simp; simp at hlen; omega) ⟨h2, rfl⟩
  refine ⟨_, _, Γ.put H.next ⟨w.heap.size, s, 1, false⟩, hk, VR_ptrNext ⟨w.heap.size, s, 1, false⟩ _ rfl, ?_⟩
  simpa using hL

theorem alloc_sound (h : R C Γ H w) {t : TypeId} {K : KH} (hv : eAlloc C t H K) : ∃ v' w', (Instr.alloc t true (.tuple #[])).run C.P w = .ok v' w' ∧ NV C Γ H w K v' w' := by
  unfold eAlloc at hv
  split at hv <;> try exact hv.elim
  rename_i z hz
  obtain ⟨z', hzr, hvl⟩ := zero_cells (Γ := Γ) hz w
  exact ⟨_, _, by simp [Instr.alloc, hzr, run_newVar], boxC_sound h hvl hv⟩

theorem box_sound (h : R C Γ H w) {t : TypeId} {x : AV} {x' : Value} (hx : VR Γ x x') {K : KH} (hv : eBox C t x H K) : ∃ v' w', (Instr.box t x').run C.P w = .ok v' w' ∧ NV C Γ H w K v' w' := by
  unfold eBox at hv
  split at hv <;> try exact hv.elim
  rename_i hk
  exact ⟨_, w.alloc (.cells x'.cells t), by simp [Instr.box, run_newVar], boxC_sound h (by rw [rCells_eq]; exact vCells_VR hx hk) hv⟩

/-! ### Stores -/
theorem cellsOf (h : R C Γ H w) {n : Nat} {o : AObj} {q : Pl} (hn : lget H.l n = some o) (hc : isCells o.c = true) (hq : Γ.nm n = some q) (hnl : q.nl = false) : CellsR C.P Γ w q o := by
  obtain ⟨q', hq', ho⟩ := h.objs n o hn
  rw [hq] at hq'
  injection hq' with e
  subst e
  rcases (ObjR_cells hc).1 ho with ⟨e, _⟩ | ⟨_, e⟩
  · rw [hnl] at e; cases e
  · exact e

theorem spl_append {α : Type} {a b vs : List α} {k : Nat} (h : k + vs.length ≤ a.length) : spl (a ++ b) k vs = spl a k vs ++ b := by
  rw [spl_eq h, spl_eq (by simp; omega), List.take_append_of_le_length (by omega), List.drop_append_of_le_length h]
  simp

theorem store_gen (h : R C Γ H w) {n : Nat} {o : AObj} {q : Pl} {k : Nat} {vs : List AV} {vs' : List Value} {c' : Cn} (hn : lget H.l n = some o) (hfr : o.fr = false) (hc : isCells o.c = true) (hq : Γ.nm n = some q) (hnl : q.nl = false)
    (hk : k + vs.length ≤ (flat o.c).length) (hv : VRL Γ vs vs') (hp : ∀ v ∈ vs', plainV v = true) (hc' : isCells c' = true) (hf : flat c' = spl (flat o.c) k vs) (hz : Sized q.s q.tc c') :
    ∃ w', (storeCells ⟨q.blk, k, none⟩ vs').run C.P w = .ok () w' ∧ Later C H.next Γ H w Γ { H with l := lset H.l n { o with c := c' } } w' := by
  obtain ⟨us, rest, z, h1, h2, h3, h3', h4, h5, h6, h7, h8⟩ := cellsOf h hn hc hq hnl
  have hlv := VRL_length hv
  have hlu := VRL_length h5
  have hrun := run_storeN (P := C.P) q.blk o.t z vs' k 0 w ⟨us ++ rest⟩ h1 h2 (by simp; omega) hp
  rw [Nat.add_zero] at hrun
  have hsp : spl (us ++ rest) k vs' = spl us k vs' ++ rest := spl_append (by omega)
  simp only [hsp] at hrun
  refine ⟨_, hrun, h.repl hn hfr hq hnl (o' := { o with c := c' }) hfr ((ObjR_cells (o := { o with c := c' }) hc').2 (.inr ⟨hnl, spl us k vs', rest, z, putBlk_same h1, ?_, h3, h3', ?_, ?_, ?_, hz, fun e => ?_⟩))⟩
  · simpa [spl_length] using h2
  · simpa [spl_length] using h4
  · show VRL Γ (flat c') _
    rw [hf]
    exact VRL_spl _ h5 hv
  · intro u hu
    obtain ⟨i, hi⟩ := List.getElem?_of_mem hu
    rw [spl_get] at hi
    split at hi
    · exact hp u (List.mem_of_getElem? hi)
    · exact h6 u (List.mem_of_getElem? hi)
  · simp only at e
    rw [hfr] at e
    cases e

theorem flatten_set {α : Type} {s : Nat} : ∀ {xss : List (List α)}, (∀ cs ∈ xss, cs.length = s) → ∀ {i f : Nat} {cs ps : List α}, xss[i]? = some cs → f + ps.length ≤ cs.length → (xss.set i (spl cs f ps)).flatten = spl xss.flatten (i * s + f) ps
  | [], _, i, f, cs, ps, h, _ => by simp at h
  | c :: xss, hs, 0, f, cs, ps, h, hl => by
    simp only [List.getElem?_cons_zero, Option.some.injEq] at h
    subst h
    simp only [List.set_cons_zero, List.flatten_cons, Nat.zero_mul, Nat.zero_add]
    rw [spl_append hl]
  | c :: xss, hs, i + 1, f, cs, ps, h, hl => by
    simp only [List.getElem?_cons_succ] at h
    have ih := flatten_set (fun c hc => hs c (by simp [hc])) h hl
    have hlc := hs c (by simp)
    obtain ⟨_, e2⟩ := flatten_get (fun c hc => hs c (by simp [hc])) h
    have hcs : cs.length = s := hs cs (by simp [List.mem_of_getElem? h])
    simp only [List.set_cons_succ, List.flatten_cons, ih]
    have e : (i + 1) * s + f = c.length + (i * s + f) := by rw [hlc, Nat.succ_mul]; omega
    rw [e, spl_eq (l := xss.flatten) (by omega), spl_eq (l := c ++ xss.flatten) (by rw [List.length_append]; omega), List.take_append, List.drop_append]
    rw [List.take_of_length_le (l := c) (by omega), List.drop_eq_nil_of_le (as := c) (by omega)]
    have e1 : c.length + (i * s + f) - c.length = i * s + f := by omega
    have e2 : c.length + (i * s + f) + ps.length - c.length = i * s + f + ps.length := by omega
    rw [e1, e2]
    simp

theorem vCells_pl {v : AV} (h : pl v = true) : vCells v = [v] := by
  cases v with
  | p v => cases v <;> first | rfl | (simp [pl] at h)
  | agg => simp [pl] at h
  | _ => rfl

theorem store_sound (h : R C Γ H w) {t : TypeId} {a x : AV} {a' x' : Value} (ha : VR Γ a a') (hx : VR Γ x x') {K : KH} (hv : eStore C t a x H K) :
    ∃ w', (Instr.storeAt t a' x').run C.P w = .ok () w' ∧ NV C Γ H w K undef w' := by
  unfold eStore at hv
  split at hv <;> try exact hv.elim
  rename_i s hs
  split at hv <;> try exact hv.elim
  rename_i hk
  simp only [Bool.and_eq_true] at hk
  obtain ⟨⟨h2, h3a⟩, h4⟩ := hk
  have h3 := Nat.eq_of_beq_eq_true h3a
  clear h3a
  have hvl : VRL Γ (vCells x) (rCells x') := vCells_VR hx h2
  have hsz : x'.cells.size = s := by
    rw [← Array.length_toList, rCells_eq, VRL_length hvl, h3]
  have hl : x'.cells.toList = rCells x' := rCells_eq x'
  have fin : ∀ {n : Nat} {o : AObj} {q : Pl} {k : Nat} {c' : Cn}, lget H.l n = some o → o.fr = false → isCells o.c = true → Γ.nm n = some q → q.nl = false → k + (vCells x).length ≤ (flat o.c).length → isCells c' = true → flat c' = spl (flat o.c) k (vCells x) → Sized q.s q.tc c' →
      K und { H with l := lset H.l n { o with c := c' } } → a' = .pointer (some ⟨q.blk, k, none⟩) → ∃ w', (Instr.storeAt t a' x').run C.P w = .ok () w' ∧ NV C Γ H w K undef w' := by
    intro n o q k c' hn hfr hc hq hnl hk hc' hf hz hK ha'
    obtain ⟨w', hr, hL⟩ := store_gen h hn hfr hc hq hnl hk hvl (pl_all hvl h4) hc' hf hz
    refine ⟨w', ?_, und, _, Γ, hK, VR_undef Γ, hL⟩
    subst ha'
    simp [Instr.storeAt, Instr.sureAddr, storeVar, run_szOf hs, hsz, hl, hr]
  have szd : ∀ {n : Nat} {o : AObj} {q : Pl}, lget H.l n = some o → isCells o.c = true → Γ.nm n = some q → q.nl = false → Sized q.s q.tc o.c := by
    intro n o q hn hc hq hnl
    obtain ⟨us, rest, z, g1, g2, g3, g3', g4, g5, g6, g7, g8⟩ := cellsOf h hn hc hq hnl
    exact g7
  split at hv
  · rename_i n i f
    simp only [VR] at ha
    obtain ⟨q, hq, hnl, ha'⟩ := ha
    split at hv <;> try exact hv.elim
    rename_i o ho
    split at hv <;> try exact hv.elim
    rename_i hfr
    split at hv <;> try exact hv.elim
    · rename_i cs hc
      split at hv <;> try exact hv.elim
      rename_i hcc
      simp only [Bool.and_eq_true] at hcc
      have hi := Nat.eq_of_beq_eq_true hcc.1
      have hle := Nat.le_of_ble_eq_true hcc.2
      subst hi
      have hS := szd ho (by rw [hc]; rfl) hq hnl
      rw [hc] at hS
      exact fin (k := f) (c' := .bx (spl cs f (vCells x))) ho hfr (by rw [hc]; rfl) hq hnl (by rw [hc, h3]; exact hle) rfl (by rw [hc]; rfl) ⟨by rw [spl_length]; exact hS.1, hS.2⟩ hv (by rw [ha']; simp)
    · rename_i xs hc
      split at hv <;> try exact hv.elim
      rename_i _ y hf0
      simp only [Bool.and_eq_true] at hf0
      have hcell : vCells (.p y) = [.p y] := vCells_pl hf0.2
      have hf0 := Nat.eq_of_beq_eq_true hf0.1
      subst hf0
      have hS := szd ho (by rw [hc]; rfl) hq hnl
      rw [hc] at hS
      simp only [Sized] at hS
      refine fin (k := i) ho hfr (by rw [hc]; rfl) hq hnl ?_ (c' := .pu (xs.set i y)) rfl ?_ hS hv.2 (by rw [ha', hS]; simp)
      · rw [hc, hcell]; simp only [flat, List.length_map, List.length_cons, List.length_nil]; have := hv.1; omega
      · rw [hc, hcell]; simp only [flat]; rw [spl_one, List.map_set]
    · rename_i xss hc
      split at hv <;> try exact hv.elim
      rename_i ps hps
      obtain ⟨cs, hcs, hle, hK⟩ := hv
      have hS := szd ho (by rw [hc]; rfl) hq hnl
      rw [hc] at hS
      simp only [Sized] at hS
      have hpl := allP_some hps
      have hlp : ps.length = s := by rw [← h3, hpl]; simp
      obtain ⟨e1, e2⟩ := flatten_get hS hcs
      have hcl : cs.length = q.s := hS cs (List.mem_of_getElem? hcs)
      refine fin (k := i * q.s + f) ho hfr (by rw [hc]; rfl) hq hnl ?_ (c' := .pus (xss.set i (spl cs f ps))) rfl ?_ ?_ hK ha'
      · rw [hc, h3]; simp only [flat, List.length_map]; omega
      · rw [hc]; simp only [flat]
        rw [flatten_set hS hcs (by omega), hpl]
        have : ∀ (l vs : List PV) (k : Nat), (spl l k vs).map AV.p = spl (l.map .p) k (vs.map .p) := by
          intro l vs k
          apply List.ext_getElem?
          intro j
          rw [List.getElem?_map, spl_get, spl_get]
          simp only [List.length_map, List.getElem?_map]
          split <;> rfl
        exact this _ _ _
      · intro c hcm
        obtain ⟨j, hj⟩ := List.getElem?_of_mem hcm
        rw [List.getElem?_set] at hj
        split at hj
        · split at hj
          · injection hj with hj; subst hj; rw [spl_length]; exact hcl
          · cases hj
        · exact hS c (List.mem_of_getElem? hj)
    · rename_i xs hc
      split at hv <;> try exact hv.elim
      rename_i hcc
      simp only [Bool.and_eq_true] at hcc
      have hf0 := Nat.eq_of_beq_eq_true hcc.1.1
      have hlt : i < xs.length := by simpa using hcc.1.2
      have hcell := vCells_pl hcc.2
      subst hf0
      have hS := szd ho (by rw [hc]; rfl) hq hnl
      rw [hc] at hS
      simp only [Sized] at hS
      refine fin (k := i) ho hfr (by rw [hc]; rfl) hq hnl ?_ (c' := .mx (spl xs i [x])) rfl ?_ hS hv (by rw [ha', hS]; simp)
      · rw [hc, hcell]; simp only [flat, List.length_cons, List.length_nil]; omega
      · rw [hc, hcell]; rfl
  · rename_i n i f
    simp only [VR] at ha
    obtain ⟨q, hq, hnl, ha'⟩ := ha
    split at hv <;> try exact hv.elim
    rename_i o ho
    split at hv <;> try exact hv.elim
    rename_i hfr
    split at hv <;> try exact hv.elim
    rename_i cs hc
    split at hv <;> try exact hv.elim
    rename_i hi
    have hi := Nat.eq_of_beq_eq_true hi
    subst hi
    have hS := szd ho (by rw [hc]; rfl) hq hnl
    rw [hc] at hS
    exact fin (k := f) (c' := .bx (spl cs f (vCells x))) ho hfr (by rw [hc]; rfl) hq hnl (by rw [hc, h3]; exact hv.1) rfl (by rw [hc]; rfl) ⟨by rw [spl_length]; exact hS.1, hS.2⟩ hv.2 (by rw [ha']; simp)
  · exact hv.elim
end
end Go.Proofs.YtemlkodkohgmmaaDoor.Y
