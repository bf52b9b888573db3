/- copy; unsafe.SliceData and unsafe.String; bytes of a string. -/
import Derived.Test.YtemlkodkohgmmaaDoorYj
import Derived.Lib.UnsafeStr
import Derived.Lib.ConvBytes
namespace Go.Proofs.YtemlkodkohgmmaaDoor.Y
open Go

section
variable {C : Cx} {Γ : Gm} {H : Hp} {w : World}

/-- A new block that nobody names. -/
theorem R.blank (h : R C Γ H w) (ob : Obj) : Later C H.next Γ H w Γ H (w.alloc ob) := by
  have hold : ∀ k, k < w.heap.size → (w.alloc ob).heap[k]? = w.heap[k]? := fun k hk => RowKit.Below.heap_alloc w _ k hk
  refine ⟨⟨h.glob, h.fresh, fun b arr hfz => ?_, fun n p hp => ?_, h.own, h.apart⟩, Ext.refl _ _, Nat.le_refl _, ⟨rfl, rfl, rfl, by simp, fun k hk _ => hold k hk, fun k hk => .inr hk, Fzn.le_refl _, fun k a hk => .inl hk⟩⟩
  · obtain ⟨t, z, e⟩ := h.fzok b arr hfz
    exact ⟨t, z, by rw [hold _ (fz_lt h hfz)]; exact e⟩
  · obtain ⟨q1, e1, e2⟩ := h.objs n p hp
    exact ⟨q1, e1, e2.ext (Gm.le_refl _) fun hnl => hold _ (e2.blk_lt hnl)⟩

/-- An object is forgotten; its block turns as it likes. -/
theorem R.lose (h : R C Γ H w) {n : Nat} {o : AObj} {q : Pl} {w' : World} (hn : lget H.l n = some o) (hfr : o.fr = false) (hq : Γ.nm n = some q) (hnl : q.nl = false) (h1 : w'.os = w.os) (h2 : w'.tape = w.tape) (h3 : w'.output = w.output)
    (h4 : w'.heap.size = w.heap.size) (h5 : ∀ k, k ≠ q.blk → w'.heap[k]? = w.heap[k]?) : Later C H.next Γ H w Γ { H with l := ldel H.l n } w' := by
  have hd := h.del n
  have hfz := h.own n o q hn hfr hq hnl
  have how : Own Γ H q.blk := ⟨n, o, q, hn, hfr, hq, hnl, rfl⟩
  refine ⟨⟨h.glob, h.fresh, fun b arr hb => ?_, fun m p hm => ?_, hd.1.own, hd.1.apart⟩, Ext.refl _ _, Nat.le_refl _, ⟨h1, h2, h3, by omega, fun k hk hno => ?_, hd.2.2.2.prov, Fzn.le_refl _, fun _ _ h => .inl h⟩⟩
  · obtain ⟨t, z, e⟩ := h.fzok b arr hb
    refine ⟨t, z, ?_⟩
    rw [h5 b fun e' => ?_]; exact e
    rw [e', hfz] at hb; cases hb
  · obtain ⟨hne, hm⟩ := lget_ldel.1 hm
    obtain ⟨q1, e1, e2⟩ := h.objs m p hm
    refine ⟨q1, e1, e2.ext (Gm.le_refl _) fun hnl1 => h5 _ fun e' => ?_⟩
    exact h.apart n o m p q q1 hn hm (Ne.symm hne) hq e1 hfr hnl hnl1 e'.symm
  · by_cases e : k = q.blk
    · exact absurd (e ▸ how) hno
    · exact h5 k e

theorem lset_self {l : List (Nat × AObj)} {n : Nat} {o : AObj} (h : lget l n = some o) : lset l n o = l := by
  induction l with
  | nil => rfl
  | cons p r ih =>
    obtain ⟨k, y⟩ := p
    by_cases hk : k = n
    · subst hk
      rw [lget_cons_same] at h
      injection h with h
      subst h
      simp [lset]
    · rw [lget_cons_ne hk] at h
      simp only [lset, beq_ne hk, ih h]
theorem spl_nil {α : Type} (l : List α) (k : Nat) : spl l k [] = l := by
  apply List.ext_getElem?
  intro i
  rw [spl_get]; simp; omega
theorem map_spl {α β : Type} (g : α → β) (l : List α) (k : Nat) (vs : List α) : (spl l k vs).map g = spl (l.map g) k (vs.map g) := by
  apply List.ext_getElem?
  intro i
  rw [List.getElem?_map, spl_get, spl_get]
  simp only [List.length_map, List.getElem?_map]
  split <;> rfl

theorem copy_sound (h : R C Γ H w) {t t' ty : TypeId} {x y : AV} {x' y' : Value} (hx : VR Γ x x') (hy : VR Γ y y') {K : KH} (hv : eCopy C t x y H K) :
    ∃ v' w', (Builtin.copy_ #[t, t'] ty #[x', y']).run C.P w = .ok v' w' ∧ NV C Γ H w K v' w' := by
  unfold eCopy at hv
  split at hv <;> try exact hv.elim
  rename_i e hu
  split at hv <;> try exact hv.elim
  rename_i s hs
  split at hv <;> try exact hv.elim
  rename_i n s' off len
  split at hv <;> try exact hv.elim
  rename_i hso
  simp only [Bool.and_eq_true] at hso
  have hs' := Nat.eq_of_beq_eq_true hso.1
  subst hs'
  have g2 : 0 < s := by simpa using hso.2
  obtain ⟨m, c1, H1, Γ1, us, hK, e1, hL, hl, hf, hvl, hpl, hE1, hcm⟩ := src_sound h g2 hy hv
  split at hK <;> try exact hK.elim
  rename_i o ho
  split at hK <;> try exact hK.elim
  rename_i hfr
  simp only [VR] at hx
  obtain ⟨q, hq, hqs, hsl⟩ := hx
  have hq1 : Γ1.nm n = some q := by rw [e1]; exact hq
  have hl' : (Builtin.lenOf y').run C.P w = .ok m w := hl w.drawn
  have hlus : us.length = m * s := by rw [VRL_length hvl, hE1.len, hcm]
  have hf' : (Builtin.firstCells s m y').run C.P w = .ok ⟨us⟩ w := hf w.drawn
  unfold putC at hK
  split at hK <;> try exact hK.elim
  rename_i xs ys hoc
  obtain ⟨⟨hle, hml⟩, zs, rfl, hK⟩ := hK
  have hs1 : s = 1 := hE1.sized 0
  subst hs1
  have hmin : Nat.min m len = m := Nat.min_eq_left hml
  have hym : ys.length = m := hcm
  rcases hsl with ⟨hnl, rfl, rfl, rfl⟩ | ⟨hnl, htc, o', rfl, ho'⟩
  · -- nothing
    have hm0 : m = 0 := by omega
    have hys : ys = [] := List.eq_nil_of_length_eq_zero (by omega)
    subst hm0; subst hys
    have hset : lset H1.l n { o with c := .pu (spl xs 0 []) } = H1.l := by
      have e0 : ({ o with c := .pu (spl xs 0 []) } : AObj) = o := by
        cases o; simp only at hoc; subst hoc; simp [spl, spl0]
      rw [e0]; exact lset_self ho
    rw [hset] at hK
    refine ⟨.int .i64 0, w, ?_, _, _, Γ1, hK, by simp only [VR, VP]; rfl, hL⟩
    simp [Builtin.copy_, run_underlying hu, hl', run_szOf hs, hf', goInt]
  · rcases Nat.eq_zero_or_pos m with hm0 | hm0
    · have hys : ys = [] := List.eq_nil_of_length_eq_zero (by omega)
      subst hm0; subst hys
      have hus : us = [] := List.eq_nil_of_length_eq_zero (by omega)
      subst hus
      have hset : lset H1.l n { o with c := .pu (spl xs off []) } = H1.l := by
        have e0 : ({ o with c := .pu (spl xs off []) } : AObj) = o := by
          cases o; simp only at hoc; subst hoc; simp [spl_nil]
        rw [e0]; exact lset_self ho
      rw [hset] at hK
      refine ⟨.int .i64 0, w, ?_, _, _, Γ1, hK, by simp only [VR, VP]; rfl, hL⟩
      simp [Builtin.copy_, run_underlying hu, hl', run_szOf hs, hf', goInt, storeCells]
    · have ho2 : o' = off := by
        rcases ho' with e' | e'
        · rw [e', hqs]; simp
        · omega
      subst ho2
      have hvy : VRL Γ1 (ys.map .p) us := hvl
      obtain ⟨w', hst, hL2⟩ := store_gen (k := o') (vs := ys.map .p) (vs' := us) (c' := .pu (spl xs o' ys)) hL.1 ho hfr (by rw [hoc]; rfl) hq1 hnl (by rw [hoc]; simp [flat]; omega) hvy hpl rfl (by
        rw [hoc]
        simp only [flat]
        exact map_spl _ _ _ _) (by rw [hqs]; rfl)
      refine ⟨.int .i64 m, w', ?_, _, _, Γ1, hK, by simp only [VR, VP], hL.trans (hL2.mono hL.2.2.1)⟩
      simp [Builtin.copy_, run_underlying hu, hl', run_szOf hs, hmin, hf', hst, goInt]

theorem data_sound (h : R C Γ H w) {ts : Array TypeId} {ty : TypeId} {x : AV} {x' : Value} (hx : VR Γ x x') {K : KH} (hv : eData C ty x H K) :
    ∃ v' w', (Builtin.unsafeSliceData_ ts ty #[x']).run C.P w = .ok v' w' ∧ NV C Γ H w K v' w' := by
  have hrefl := Later.refl h H.next (Nat.le_refl _)
  unfold eData at hv
  split at hv <;> try exact hv.elim
  rename_i e hu
  split at hv <;> try exact hv.elim
  · simp only [VR, VP] at hx
    subst hx
    exact ⟨_, _, Lib.run_unsafeSliceData_nil w ts ty 0 0, _, _, Γ, hv, by simp only [VR, VP], hrefl⟩
  · rename_i n s off len
    split at hv <;> try exact hv.elim
    rename_i o ho
    split at hv <;> try exact hv.elim
    rename_i hc
    simp only [VR] at hx
    obtain ⟨q, hq, hqs, hsl⟩ := hx
    rcases hsl with ⟨hnl, rfl, rfl, rfl⟩ | ⟨hnl, htc, o', rfl, ho'⟩
    · exact ⟨_, _, Lib.run_unsafeSliceData_nil w ts ty 0 0, _, _, Γ, hv.2 rfl, by simp only [VR]; exact ⟨_, rfl⟩, hrefl⟩
    · by_cases hcap : q.tc - off = 0
      · have hl0 : len = 0 := by omega
        rw [hcap]
        obtain ⟨us, rest, z, h1, _⟩ := cellsOf h ho hc hq hnl
        have hsh : w.shape? (⟨q.blk, o', none⟩ : Addr).block = some (o.t, (us ++ rest).length) := by simp [World.shape?, h1]
        exact ⟨_, _, Lib.run_unsafeSliceData_zero w ts ty e hu ⟨q.blk, o', none⟩ len _ hsh, _, _, Γ, hv.2 hl0, by simp only [VR]; exact ⟨_, rfl⟩, h.blank _⟩
      · rcases Nat.eq_zero_or_pos len with hl0 | hl0
        · exact ⟨_, _, Lib.run_unsafeSliceData_row w ts ty _ len _ hcap, _, _, Γ, hv.2 hl0, by simp only [VR]; exact ⟨_, rfl⟩, hrefl⟩
        · have ho2 : o' = off * q.s := by
            rcases ho' with e' | e'
            · exact e'
            · omega
          exact ⟨_, _, Lib.run_unsafeSliceData_row w ts ty _ len _ hcap, _, _, Γ, hv.1 hl0, by simp only [VR]; exact ⟨q, hq, hnl, by rw [ho2]; rfl⟩, hrefl⟩

theorem ustr_sound (h : R C Γ H w) {t t' ty : TypeId} {x y : AV} {x' y' : Value} (hx : VR Γ x x') (hy : VR Γ y y') {K : KH} (hv : eUStr C t x y H K) :
    ∃ v' w', (Builtin.unsafeString_ #[t, t'] ty #[x', y']).run C.P w = .ok v' w' ∧ NV C Γ H w K v' w' := by
  have hrefl := Later.refl h H.next (Nat.le_refl _)
  unfold eUStr at hv
  split at hv <;> try exact hv.elim
  rename_i k m
  split at hv <;> try exact hv.elim
  rename_i hk
  have hk : k = .i64 := by simpa using hk
  subst hk
  simp only [VR, VP] at hy
  subst hy
  split at hv <;> try exact hv.elim
  · obtain ⟨rfl, hv⟩ := hv
    simp only [VR, VP] at hx
    subst hx
    exact ⟨_, _, Lib.run_unsafeString_none w t t' ty none, _, _, Γ, hv, by simp only [VR, VP]; rfl, hrefl⟩
  · obtain ⟨rfl, hv⟩ := hv
    simp only [VR] at hx
    obtain ⟨a, rfl⟩ := hx
    exact ⟨_, _, Lib.run_unsafeString_none w t t' ty a, _, _, Γ, hv, by simp only [VR, VP]; rfl, hrefl⟩
  · rename_i a i f
    split at hv <;> try exact hv.elim
    rename_i o hb ho
    simp only [Bool.and_eq_true] at hb
    have hi := Nat.eq_of_beq_eq_true hb.1
    have hf := Nat.eq_of_beq_eq_true hb.2
    subst hi; subst hf
    split at hv <;> try exact hv.elim
    rename_i e hu
    split at hv <;> try exact hv.elim
    rename_i hcc
    simp only [Bool.or_eq_false_iff, Bool.not_eq_false'] at hcc
    obtain ⟨⟨hfr, hte⟩, hce⟩ := hcc
    have hte := Nat.eq_of_beq_eq_true hte
    have hce := Nat.eq_of_beq_eq_true hce
    split at hv <;> try exact hv.elim
    rename_i xs hoc
    obtain ⟨s, hs0, rfl, hs63, hsx, hsm, hv⟩ := hv
    simp only [VR] at hx
    obtain ⟨q, hq, hnl, rfl⟩ := hx
    simp only [Nat.zero_mul, Nat.add_zero]
    obtain ⟨us, rest, z, h1, h2, h3, h3', h4, h5, h6, h7, h8⟩ := cellsOf h ho (by rw [hoc]; rfl) hq hnl
    rw [hoc] at h5
    have h5 := VRL_p.1 h5
    have hlu := VPL_length h5
    have h5' := VPL_take s.length h5
    rw [hsm] at h5'
    have hus := VPL_ub h5'
    have hrun := Lib.run_unsafeString_row (P := C.P) w t t' ty e hu hce q.blk (us ++ rest).length (by simp [World.shape?, h1, hte]) s hs0 (by simp; omega) hs63 (by
      intro j x hj
      rw [add_spot _ rfl]
      simp only [Nat.zero_add]
      have hg : (us.take s.length)[j]? = some (.int .u8 (x.toNat : Int)) := by rw [hus, List.getElem?_map, hj]; rfl
      rw [List.getElem?_take] at hg
      split at hg
      · exact cells_at h1 hg
      · cases hg)
    refine ⟨_, _, hrun, _, _, Γ, hv, by simp only [VR, VP], h.lose ho hfr hq hnl ?_ ?_ ?_ ?_ ?_⟩
    all_goals unfold World.freeze
    all_goals split
    all_goals first | rfl | skip
    · simp
    · intro k hk; rfl
    · intro k hk
      simp [Array.getElem?_modify, Ne.symm hk]

theorem bytesWorld_alloc (w : World) (e : TypeId) (s : ByteArray) : Lib.bytesWorld w e s = w.drew.alloc (.cells (Lib.bytesCells w e s) e ((Lib.bytesCells w e s).size, (Lib.bytesCells w e s).size + 1)) := by
  have h1 := Lib.bytesWorld_at_new w e s
  have hh : (Lib.bytesWorld w e s).heap = (w.drew.alloc (.cells (Lib.bytesCells w e s) e ((Lib.bytesCells w e s).size, (Lib.bytesCells w e s).size + 1))).heap := by
    apply Array.ext_getElem?
    intro j
    by_cases hj : j < w.heap.size
    · rw [Lib.bytesWorld_at_old w e s j hj]
      exact (RowKit.Below.heap_alloc w.drew _ j hj).symm
    · by_cases hj2 : j = w.heap.size
      · subst hj2
        rw [h1]
        exact (heap_alloc_new w.drew _).symm
      · have hs := Lib.bytesWorld_size w e s
        rw [Array.getElem?_eq_none (by omega), Array.getElem?_eq_none]
        show (w.drew.heap.push _).size ≤ j
        rw [Array.size_push]
        show w.heap.size + 1 ≤ j
        omega
  have key : ∀ (a b : World), a.heap = b.heap → a = { b with heap := a.heap } → a = b := by
    intro a b h1 h2
    rw [h2, h1]
  exact key _ _ hh rfl

theorem bytes_sound (h : R C Γ H w) {s d e : TypeId} (hd : C.P.underlying d = some (.slice e)) {x : AV} {x' : Value} (hx : VR Γ x x') {K : KH} (hv : eBytes C s e x H K) :
    ∃ v' w', (convert s d x').run C.P w = .ok v' w' ∧ NV C Γ H w K v' w' := by
  unfold eBytes at hv
  split at hv <;> try exact hv.elim
  rename_i k z hs he hz
  split at hv <;> try exact hv.elim
  rename_i b hkz
  simp only [Bool.and_eq_true] at hkz
  have hk : k = .u8 := by simpa using hkz.1
  have hz1 := Nat.eq_of_beq_eq_true hkz.2
  subst hk; subst hz1
  simp only [VR, VP] at hx
  subst hx
  have hrun := Lib.run_convert_string_bytes (P := C.P) w s d e ⟨⟨b⟩⟩ hs hd he
  rw [bytesWorld_alloc] at hrun
  have hsz : (⟨⟨b⟩⟩ : ByteArray).size = b.length := rfl
  have hge : b.length ≤ grownCap w b.length 0 e := grownCap_ge w b.length 0 e
  have hcells : Lib.bytesCells w e ⟨⟨b⟩⟩ = ⟨(b.map fun c => Value.int .u8 (c.toNat : Int)) ++ List.replicate (grownCap w b.length 0 e - b.length) (.int .u8 0)⟩ := by
    apply Array.ext'
    simp [Lib.bytesCells, hsz]
  have hcs : (Lib.bytesCells w e ⟨⟨b⟩⟩).size = grownCap w b.length 0 e := by rw [hcells]; simp; omega
  have hvl : VRL Γ (flat (.pu (b.map ub))) (b.map fun c => Value.int .u8 (c.toNat : Int)) := by
    refine VRL_p.2 ?_
    clear hv hrun hsz hge hcells hcs
    induction b with
    | nil => simp only [List.map_nil, VPL]
    | cons c r ih => simp only [List.map_cons, VPL]; exact ⟨_, _, rfl, by simp only [ub, VP], ih⟩
  have hd1 := Later.drew h H.next (Nat.le_refl _)
  have hR : R C Γ H w.drew := hd1.1
  have hL2 := hR.push (q := ⟨w.heap.size, 1, grownCap w b.length 0 e, false⟩) (o := ⟨e, false, .pu (b.map ub)⟩) (ob := .cells (Lib.bytesCells w e ⟨⟨b⟩⟩) e ((Lib.bytesCells w e ⟨⟨b⟩⟩).size, (Lib.bytesCells w e ⟨⟨b⟩⟩).size + 1)) rfl rfl rfl
    ((ObjR_cells (o := ⟨e, false, .pu (b.map ub)⟩) rfl).2 (.inr ⟨rfl, b.map fun c => Value.int .u8 (c.toNat : Int), List.replicate (grownCap w b.length 0 e - b.length) (.int .u8 0), ((Lib.bytesCells w e ⟨⟨b⟩⟩).size, (Lib.bytesCells w e ⟨⟨b⟩⟩).size + 1), by
      rw [← hcells]; exact heap_alloc_new w.drew _, .inr (by simp only [hcs]; simp; omega), hz, Nat.one_pos, by simp; omega, VRL_mono (Gm.le_put (hR.fresh _ (Nat.le_refl _))) _ _ hvl, by
      intro u hu
      obtain ⟨c, _, rfl⟩ := List.mem_map.1 hu
      rfl, rfl, fun e => by cases e⟩))
  refine ⟨_, _, hrun, _, _, _, hv, ?_, hd1.trans hL2⟩
  exact VR_slNext (Γ := Γ) ⟨w.heap.size, 1, grownCap w b.length 0 e, false⟩ H.next b.length rfl hge
end
end Go.Proofs.YtemlkodkohgmmaaDoor.Y
