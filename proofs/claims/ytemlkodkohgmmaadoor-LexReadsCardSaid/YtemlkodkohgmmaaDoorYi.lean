/- make, composite slices, append. -/
import Derived.Test.YtemlkodkohgmmaaDoorYh
namespace Go.Proofs.YtemlkodkohgmmaaDoor.Y
open Go

section
variable {C : Cx} {Γ : Gm} {H : Hp} {w : World}

theorem mkz_length {α : Type} (n : Nat) (z : List α) : (mkz n z).length = n * z.length := by
  induction n with
  | zero => simp [mkz]
  | succ n ih => simp [mkz, ih, Nat.succ_mul, Nat.add_comm]
theorem mkz_get {α : Type} (n : Nat) (z : List α) (i : Nat) (h : i < n * z.length) : (mkz n z)[i]? = z[i % z.length]? := by
  induction n generalizing i with
  | zero => simp at h
  | succ n ih =>
    simp only [mkz]
    by_cases hi : i < z.length
    · rw [List.getElem?_append_left hi, Nat.mod_eq_of_lt hi]
    · rw [List.getElem?_append_right (by omega), ih _ (by rw [Nat.succ_mul] at h; omega)]
      congr 1
      rw [Nat.mod_eq_sub_mod (a := i) (by omega)]
theorem range_mkz (n : Nat) (z : Array Value) : ((Array.range (n * z.size)).map (z[· % z.size]!)).toList = mkz n z.toList := by
  apply List.ext_getElem?
  intro i
  have hl : (mkz n z.toList).length = n * z.size := by rw [mkz_length]; simp
  by_cases hi : i < n * z.size
  · rw [mkz_get n z.toList i (by simpa using hi)]
    have hp : 0 < z.size := by
      rcases Nat.eq_zero_or_pos z.size with h0 | h0
      · rw [h0] at hi; simp at hi
      · exact h0
    have hm : i % z.size < z.size := Nat.mod_lt _ hp
    simp [hi, hm]
  · rw [List.getElem?_eq_none (by simp; omega), List.getElem?_eq_none (by omega)]
theorem VRL_mkz {z : List AV} {z' : List Value} (h : VRL Γ z z') (n : Nat) : VRL Γ (mkz n z) (mkz n z') := by
  induction n with
  | zero => rfl
  | succ n ih => exact VRL_append h ih
theorem mkz_all {z : List AV} (h : z.all pl = true) (n : Nat) : (mkz n z).all pl = true := by
  induction n with
  | zero => rfl
  | succ n ih => simp [mkz, h, ih]
theorem mkz_take {α : Type} (z : List α) : ∀ (l c : Nat), l ≤ c → ∃ r, mkz c z = mkz l z ++ r ∧ r.length = (c - l) * z.length
  | 0, c, _ => ⟨mkz c z, by simp [mkz], by simp [mkz_length]⟩
  | l + 1, 0, h => by omega
  | l + 1, c + 1, h => by
    obtain ⟨r, h1, h2⟩ := mkz_take z l c (by omega)
    exact ⟨r, by simp [mkz, h1], by rw [h2]; congr 1; omega⟩

theorem chunks_flat {α : Type} {s : Nat} : ∀ (n : Nat) (l : List α), l.length = n * s → (chunks s n l).flatten = l ∧ ∀ c ∈ chunks s n l, c.length = s
  | 0, l, h => by simp at h; subst h; simp [chunks]
  | n + 1, l, h => by
    obtain ⟨h1, h2⟩ := chunks_flat (s := s) n (l.drop s) (by rw [List.length_drop, h, Nat.succ_mul]; omega)
    simp only [chunks, List.flatten_cons, h1, List.take_append_drop, true_and]
    intro c hc
    rcases List.mem_cons.1 hc with rfl | hc
    · rw [List.length_take, h, Nat.succ_mul]; omega
    · exact h2 c hc

theorem cnOf_spec {s len : Nat} {cs : List AV} {c : Cn} (h : cnOf s len cs = some c) (hl : cs.length = len * s) : isCells c = true ∧ flat c = cs ∧ ∀ tc, Sized s tc c := by
  unfold cnOf at h
  split at h
  · rename_i ps hps
    have e := allP_some hps
    split at h
    · rename_i hb
      injection h with h
      subst h
      exact ⟨rfl, e.symm, fun _ => Nat.eq_of_beq_eq_true hb⟩
    · injection h with h
      subst h
      obtain ⟨h1, h2⟩ := chunks_flat (s := s) len ps (by rw [← hl, e]; simp)
      exact ⟨rfl, by simp only [flat, h1, e], fun _ => h2⟩
  · split at h
    · rename_i hb
      injection h with h
      subst h
      exact ⟨rfl, rfl, fun _ => Nat.eq_of_beq_eq_true hb⟩
    · cases h

theorem bld_length {ev : Operand → AV} {place : Nat → Option (Nat × Nat)} : ∀ {parts : List (Nat × Operand)} {cs r : List AV}, bld ev place cs parts = some r → r.length = cs.length
  | [], cs, r, h => by simp only [bld, Option.some.injEq] at h; rw [h]
  | (i, x) :: rest, cs, r, h => by
    simp only [bld] at h
    split at h
    · cases h
    · split at h
      · rw [bld_length h, spl_length]
      · cases h

theorem buildSlice_sound (h : R C Γ H w) {t : TypeId} {len : Nat} {parts : Array (Nat × Operand)} {ev : Operand → AV} {ev' : Operand → Value} (hev : ∀ x, VR Γ (ev x) (ev' x)) {K : KH} (hv : eBuild C t len parts.toList ev H K) :
    ∃ v' w', (Instr.buildSlice t len (parts.map fun p => (p.1, ev' p.2))).run C.P w = .ok v' w' ∧ NV C Γ H w K v' w' := by
  unfold eBuild at hv
  split at hv <;> try exact hv.elim
  rename_i e hu
  split at hv <;> try exact hv.elim
  rename_i s z hs hz
  split at hv <;> try exact hv.elim
  rename_i hc
  simp only [Bool.and_eq_true] at hc
  obtain ⟨⟨⟨h1, h2⟩, h3⟩, h4⟩ := hc
  have h1 := Nat.le_of_ble_eq_true h1
  have h2 := Nat.eq_of_beq_eq_true h2
  have h3 : 0 < s := by simpa using h3
  split at hv <;> try exact hv.elim
  rename_i cs hb
  split at hv <;> try exact hv.elim
  rename_i c hpl hcn
  obtain ⟨z', hzr, hvz⟩ := zero_cells (Γ := Γ) hz w
  have hzs : z'.cells.size = s := by rw [← Array.length_toList, VRL_length hvz, h2]
  have hmk : VRL Γ (mkz len (vCells (.p z))) ((Array.range (len * s)).map (z'.cells[· % z'.cells.size]!)).toList := by
    have := range_mkz len z'.cells
    rw [hzs] at this
    rw [hzs, this]
    exact VRL_mkz hvz len
  obtain ⟨r', h5, h6⟩ := bld_sound (Γ := Γ) hev parts.toList (List.all_eq_true.1 h4) hmk hb
  have hcl : cs.length = len * s := by rw [bld_length hb, mkz_length, h2]
  obtain ⟨c1, c2, c3⟩ := cnOf_spec hcn hcl
  have hrl := VRL_length h6
  have hL := push_cells (rest := []) (tc := len) (c := c) (us := r'.toList) h c1 hs h3 (by rw [c2]; exact h6) (pl_all h6 hpl) (by simp; simp at hrl; omega) (c3 _)
  refine ⟨.slice (some ⟨w.heap.size, 0, none⟩) len len, w.alloc (.cells r' e), ?_, _, _, _, hv, VR_slNext ⟨w.heap.size, s, len, false⟩ H.next len rfl (Nat.le_refl _), by simpa using hL⟩
  have hnot : ¬ (len * s > 2 ^ 24) := by omega
  by_cases h0 : len * s = 0
  · have h5' : Instr.fill (fun i => some (i * s, s)) #[] (parts.map fun p => (p.1, ev' p.2)).toList = some r' := by
      rw [h0] at h5
      simpa [Array.range_zero'] using h5
    simp only [Array.toList_map] at h5'
    simp [Instr.buildSlice, run_underlying hu, run_szOf hs, h0, Array.range_zero', h5', run_newRow]
  · have h5' : Instr.fill (fun i => some (i * s, s)) ((Array.range (len * s)).map (z'.cells[· % z'.cells.size]!)) (parts.map fun p => (p.1, ev' p.2)).toList = some r' := by simpa using h5
    simp only [Array.toList_map] at h5'
    simp [Instr.buildSlice, run_underlying hu, run_szOf hs, hnot, hzr, h5', run_newRow]
    intro hc
    exact absurd hc h0

theorem info_of {t : TypeId} {s b : Nat} {z : PV} (hs : szOf C.P t = some s) (hz : zeroOf C.P t = some z) (hb : byOf C t = some b) : ∃ i z', C.P.info? t = some i ∧ i.size = s ∧ i.zero = some z' ∧ absV z' = some z ∧ i.bytes = b := by
  obtain ⟨i, h1, h2⟩ := szOf_info hs
  obtain ⟨i', z', h3, h4, h5⟩ := zero_info hz
  rw [h1] at h3
  injection h3 with h3
  subst h3
  refine ⟨i, z', h1, h2, h4, h5, ?_⟩
  unfold byOf at hb
  rw [h1] at hb
  simpa using hb

theorem abs_cells {z : PV} {z' : Value} (h : absV z' = some z) : VRL Γ (vCells (.p z)) z'.cells.toList := by
  rw [rCells_eq]; exact vCells_VR (by simp only [VR]; exact VP_abs _ _ _ h) rfl

theorem wrap_i64 {n : Int} (h0 : -9223372036854775808 ≤ n) (h1 : n ≤ 9223372036854775807) : n = IntKind.i64.wrap n := by
  rw [IntKind.wrap_i64]
  omega

theorem mkz_one {z : PV} (n : Nat) : mkz n [AV.p z] = (List.replicate n z).map .p := by
  induction n with
  | zero => rfl
  | succ n ih => simp [mkz, ih, List.replicate_succ]
theorem mkz_many {zs : List PV} (n : Nat) : mkz n (zs.map AV.p) = ((List.replicate n zs).flatten).map .p := by
  induction n with
  | zero => rfl
  | succ n ih => simp [mkz, ih, List.replicate_succ]
theorem vCells_pCells (z : PV) : vCells (.p z) = (pCells z).map .p := by cases z <;> rfl

theorem makeSlice_sound (h : R C Γ H w) {t : TypeId} {l c : AV} {l' c' : Value} (hl : VR Γ l l') (hc : VR Γ c c') {K : KH} (hv : eMake C t l c H K) :
    ∃ v' w', (Instr.makeSlice t l' c').run C.P w = .ok v' w' ∧ NV C Γ H w K v' w' := by
  unfold eMake at hv
  split at hv <;> try exact hv.elim
  rename_i e k l k' c hu
  simp only [VR, VP] at hl hc
  subst hl; subst hc
  split at hv <;> try exact hv.elim
  rename_i s z b hs hz hb
  split at hv <;> try exact hv.elim
  rename_i hcc
  simp only [Bool.and_eq_true] at hcc
  obtain ⟨⟨h1, h2⟩, h3⟩ := hcc
  have h1 := Nat.eq_of_beq_eq_true h1
  have h2 : 0 < s := by simpa using h2
  obtain ⟨⟨g0, g1, g2, g3⟩, hK⟩ := hv
  obtain ⟨i, z', i1, i2, i3, iz, i4⟩ := info_of hs hz hb
  have hvz : VRL Γ (vCells (.p z)) z'.cells.toList := abs_cells iz
  have hzs : z'.cells.size = s := by rw [← Array.length_toList, VRL_length hvz, h1]
  obtain ⟨r, hr1, hr2⟩ := mkz_take z'.cells.toList l.toNat c.toNat (by omega)
  have hr := run_make (P := C.P) w t e i z' hu i1 i3 k k' l c g0 g1 (by rw [i4, Int.mul_comm]; exact g2) (by omega)
  rw [i2] at hr
  have harr : ((Array.range (c.toNat * s)).map (z'.cells[· % z'.cells.size]!)) = ⟨mkz l.toNat z'.cells.toList ++ r⟩ := by
    apply Array.ext'
    have := range_mkz c.toNat z'.cells
    rw [hzs] at this
    rw [hzs, this, hr1]
  have hlen : (mkz l.toNat z'.cells.toList ++ r).length = c.toNat * s := by rw [← hr1, mkz_length]; simp [hzs]
  have key : ∀ (cn : Cn), isCells cn = true → flat cn = mkz l.toNat (vCells (.p z)) → Sized s c.toNat cn → K (.sl H.next s 0 l.toNat) (H.push ⟨e, false, cn⟩) → ∃ v' w', (Instr.makeSlice t (.int k l) (.int k' c)).run C.P w = .ok v' w' ∧ NV C Γ H w K v' w' := by
    intro cn c1 c2 c3 hK
    have hL := push_cells (rest := r) (tc := c.toNat) (c := cn) (us := mkz l.toNat z'.cells.toList) h c1 hs h2 (by rw [c2]; exact VRL_mkz hvz _) (pl_all (VRL_mkz hvz _) (mkz_all h3 _)) hlen c3
    refine ⟨_, _, hr, _, _, _, hK, VR_slNext (Γ := Γ) ⟨w.heap.size, s, c.toNat, false⟩ H.next l.toNat rfl (by show l.toNat ≤ c.toNat; omega), ?_⟩
    rw [show madeCells z'.cells (c.toNat * s) = ⟨mkz l.toNat z'.cells.toList ++ r⟩ from harr]
    exact hL
  split at hK
  · rename_i hb1
    simp only [Bool.and_eq_true] at hb1
    have this := vCells_pl hb1.2
    have hb1 := Nat.eq_of_beq_eq_true hb1.1
    subst hb1
    refine key (.pu (List.replicate l.toNat z)) rfl ?_ rfl hK
    rw [this, mkz_one]; rfl
  · refine key (.pus (List.replicate l.toNat (pCells z))) rfl ?_ ?_ hK
    · rw [vCells_pCells, mkz_many]; rfl
    · intro cs hcs
      rw [List.mem_replicate] at hcs
      rw [hcs.2, ← h1, vCells_pCells]
      simp

/-! ### Objects that nobody writes any more -/
theorem R.mark : ∀ {fs : List Nat} {Γ : Gm} {H : Hp}, R C Γ H w → marksOK H.l fs = true → ∃ Γ', Γ'.nm = Γ.nm ∧ Later C H.next Γ H w Γ' (H.mrk fs) w
  | [], Γ, H, h, _ => ⟨Γ, rfl, Later.refl h _ (Nat.le_refl _)⟩
  | n :: r, Γ, H, h, hm => by
    simp only [marksOK] at hm
    split at hm
    · rename_i o ho
      simp only [Bool.and_eq_true] at hm
      obtain ⟨Γ1, e1, hL1⟩ := h.freeze ho hm.1
      obtain ⟨Γ2, e2, hL2⟩ := R.mark (H := { H with l := lset H.l n { o with fr := true } }) hL1.1 hm.2
      refine ⟨Γ2, e2.trans e1, ?_⟩
      have := hL1.trans hL2
      simpa only [Hp.mrk, marks, ho] using this
    · cases hm

theorem VPL_nil {fz : Fzn} : VPL fz [] [] := by simp only [VPL]

theorem ResL_sound {f : AV → PV → Prop} (hf : ∀ v x v', f v x → VR Γ v v' → VP Γ.fz x v') : ∀ {vs : List AV} {ys : List PV} {vs' : List Value}, ResL f vs ys → VRL Γ vs vs' → VPL Γ.fz ys vs'
  | [], ys, vs', h, hv => by simp only [ResL] at h; simp only [VRL] at hv; subst h; subst hv; exact VPL_nil
  | v :: vs, ys, vs', h, hv => by
    simp only [ResL] at h
    simp only [VRL] at hv
    obtain ⟨y, ys', rfl, h1, h2⟩ := h
    obtain ⟨u, us, rfl, h3, h4⟩ := hv
    simp only [VPL]
    exact ⟨u, us, rfl, hf v y u h1 h3, ResL_sound hf h2 h4⟩

theorem flatten_length {α : Type} {s : Nat} {xss : List (List α)} (h : ∀ cs ∈ xss, cs.length = s) : xss.flatten.length = xss.length * s := by
  induction xss with
  | nil => simp
  | cons c xss ih =>
    rw [List.flatten_cons, List.length_append, ih (fun c hc => h c (by simp [hc])), h c (by simp), List.length_cons, Nat.succ_mul]
    omega

/-- Cells of a block that is not written any more. -/
theorem seg_of {us rest vs : List Value} {k n : Nat} (hp : ∀ u ∈ us, plainV u = true) (hv : vs = (us.drop k).take n) (hk : k ≤ us.length) : Seg (us ++ rest) k vs := by
  subst hv
  have : Seg (us ++ rest) 0 us := ⟨[], rest, rfl, rfl, hp⟩
  simpa using this.sub k n hk

theorem Res_sound (h : R C Γ H w) : ∀ (d : Nat) (v : AV) (x : PV) (v' : Value), Res H.l d v x → VR Γ v v' → VP Γ.fz x v'
  | 0, v, x, v', hr, hv => by
    cases v <;> simp only [Res] at hr
    subst hr
    simpa only [VR] using hv
  | d + 1, v, x, v', hr, hv => by
    have ihL : ∀ {vs : List AV} {ys : List PV} {vs' : List Value}, ResL (Res H.l d) vs ys → VRL Γ vs vs' → VPL Γ.fz ys vs' := fun a b => ResL_sound (Res_sound h d) a b
    cases v with
    | p y =>
      simp only [VR] at hv
      by_cases hy : y = .nils
      · subst hy
        simp only [Res] at hr
        simp only [VP] at hv
        subst hv
        rcases hr with rfl | rfl | ⟨s, rfl⟩
        · simp only [VP]
        · simp only [VP]; exact .inl ⟨trivial, _, _, rfl⟩
        · simp only [VP]; exact .inl ⟨trivial, _, _, rfl⟩
      · have : x = y := by cases y <;> simp only [Res] at hr <;> first | exact hr | exact absurd rfl hy
        subst this
        exact hv
    | sl n s off len =>
      simp only [Res] at hr
      simp only [VR] at hv
      obtain ⟨q, hq, hqs, hsl⟩ := hv
      split at hr <;> try exact hr.elim
      rename_i o ho
      split at hr <;> try exact hr.elim
      rename_i hfr
      split at hr <;> try exact hr.elim
      · rename_i xs hc
        obtain ⟨ys, rfl, hle, hys⟩ := hr
        have hylen : ys.length = len := by rw [hys]; simp; omega
        simp only [VP]
        rcases hsl with ⟨hnl, rfl, rfl, rfl⟩ | ⟨hnl, htc, o', rfl, ho'⟩
        · exact .inl ⟨List.eq_nil_of_length_eq_zero hylen, _, _, rfl⟩
        · obtain ⟨us, rest, z, h1, h2, h3, h3', h4, h5, h6, h7, h8⟩ := cellsOf h ho (by rw [hc]; rfl) hq hnl
          rw [hc] at h5 h7
          simp only [Sized] at h7
          simp only [flat] at h5
          rcases Nat.eq_zero_or_pos len with hz | hz
          · subst hz
            exact .inl ⟨List.eq_nil_of_length_eq_zero hylen, _, _, rfl⟩
          · have ho2 : o' = off := by
              rcases ho' with e | e
              · rw [e, h7]; simp
              · omega
            subst ho2
            have hul := VRL_length h5
            rw [List.length_map] at hul
            refine .inr ⟨q.blk, o', _, us ++ rest, (us.drop o').take len, by rw [hylen], by omega, h8 hfr, ?_, seg_of h6 rfl (by omega)⟩
            rw [hys]
            exact VPL_take _ (VPL_drop _ (VRL_p.1 h5))
      · rename_i xss hc
        obtain ⟨ys, rfl, hle, hys⟩ := hr
        have hylen : ys.length = len := by rw [hys]; simp; omega
        simp only [VP]
        rcases hsl with ⟨hnl, rfl, rfl, rfl⟩ | ⟨hnl, htc, o', rfl, ho'⟩
        · exact .inl ⟨List.eq_nil_of_length_eq_zero hylen, _, _, rfl⟩
        · obtain ⟨us, rest, z, h1, h2, h3, h3', h4, h5, h6, h7, h8⟩ := cellsOf h ho (by rw [hc]; rfl) hq hnl
          rw [hc] at h5 h7
          simp only [Sized] at h7
          simp only [flat] at h5
          rcases Nat.eq_zero_or_pos len with hz | hz
          · subst hz
            exact .inl ⟨List.eq_nil_of_length_eq_zero hylen, _, _, rfl⟩
          · have ho2 : o' = off * q.s := by
              rcases ho' with e | e
              · exact e
              · omega
            subst ho2
            have hul := VRL_length h5
            rw [List.length_map, flatten_length h7] at hul
            have hmul : off * q.s ≤ xss.length * q.s := Nat.mul_le_mul_right _ (by omega)
            refine .inr ⟨q.blk, off * q.s, _, us ++ rest, (us.drop (off * q.s)).take (len * q.s), by rw [hylen], by omega, h8 hfr, ?_, seg_of h6 rfl (by omega)⟩
            subst hqs
            refine VPLL_flat.2 ⟨?_, fun cs hcs => ?_⟩
            · rw [hys, flatten_sub h7 _ _ (by omega)]
              exact VPL_take _ (VPL_drop _ (VRL_p.1 h5))
            · rw [hys] at hcs
              exact h7 cs (List.mem_of_mem_drop (List.mem_of_mem_take hcs))
      · rename_i vs hc
        obtain ⟨us0, ys, hg, rfl, hres⟩ := hr
        obtain ⟨g1, g2, g3⟩ := getN_some hg
        simp only [VP]
        rcases hsl with ⟨hnl, rfl, rfl, rfl⟩ | ⟨hnl, htc, o', rfl, ho'⟩
        · have : us0 = [] := List.eq_nil_of_length_eq_zero g2
          subst this
          simp only [ResL] at hres
          exact .inl ⟨hres, _, _, rfl⟩
        · obtain ⟨us, rest, z, h1, h2, h3, h3', h4, h5, h6, h7, h8⟩ := cellsOf h ho (by rw [hc]; rfl) hq hnl
          rw [hc] at h5 h7
          simp only [Sized] at h7
          simp only [flat] at h5
          rcases Nat.eq_zero_or_pos len with hz | hz
          · subst hz
            have : us0 = [] := List.eq_nil_of_length_eq_zero g2
            subst this
            simp only [ResL] at hres
            exact .inl ⟨hres, _, _, rfl⟩
          · have ho2 : o' = off := by
              rcases ho' with e | e
              · rw [e, h7]; simp
              · omega
            subst ho2
            have hul := VRL_length h5
            have hv0 : VRL Γ us0 ((us.drop o').take len) := by rw [g1]; exact VRL_take _ (VRL_drop _ h5)
            have hy := ihL hres hv0
            have hyl : ys.length = len := by rw [← VPL_length hy, VRL_length hv0, g2]
            exact .inr ⟨q.blk, o', _, us ++ rest, (us.drop o').take len, by rw [hyl], by omega, h8 hfr, hy, seg_of h6 rfl (by have := g3 hz; omega)⟩
    | ptr n i f =>
      simp only [Res] at hr
      simp only [VR] at hv
      obtain ⟨q, hq, hnl, rfl⟩ := hv
      split at hr <;> try exact hr.elim
      rename_i o ho hb
      simp only [Bool.and_eq_true] at hb
      have hi := Nat.eq_of_beq_eq_true hb.1
      have hf := Nat.eq_of_beq_eq_true hb.2
      subst hi; subst hf
      split at hr <;> try exact hr.elim
      rename_i hfr
      split at hr <;> try exact hr.elim
      rename_i cs hc
      obtain ⟨ys, rfl, hres⟩ := hr
      obtain ⟨us, rest, z, h1, h2, h3, h3', h4, h5, h6, h7, h8⟩ := cellsOf h ho (by rw [hc]; rfl) hq hnl
      rw [hc] at h5
      simp only [VP]
      exact ⟨q.blk, 0, us ++ rest, us, by simp, h8 hfr, ihL hres h5, [], rest, rfl, rfl, h6⟩
    | fn f a b =>
      simp only [Res] at hr
      simp only [VR] at hv
      obtain ⟨hok, a', b', rfl, ha, hb⟩ := hr
      obtain ⟨f', fs', cs', rfl, hf, h1, h2⟩ := hv
      rw [FR_ok hok] at hf
      subst hf
      simp only [VP]
      exact ⟨hok, fs', cs', rfl, ihL ha h1, ihL hb h2⟩
    | iface t y =>
      simp only [Res] at hr
      simp only [VR] at hv
      obtain ⟨z, rfl, hz⟩ := hr
      obtain ⟨u, rfl, hu⟩ := hv
      simp only [VP]
      exact ⟨u, rfl, Res_sound h d _ _ _ hz hu⟩
    | agg cs =>
      simp only [Res] at hr
      simp only [VR] at hv
      obtain ⟨ys, rfl, hys⟩ := hr
      obtain ⟨cs', rfl, hcs⟩ := hv
      simp only [VP]
      exact ⟨cs', rfl, ihL hys hcs⟩
    | _ => simp only [Res] at hr
end
end Go.Proofs.YtemlkodkohgmmaaDoor.Y
