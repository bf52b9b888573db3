/- append. -/
import Derived.Test.YtemlkodkohgmmaaDoorYi
namespace Go.Proofs.YtemlkodkohgmmaaDoor.Y
open Go

section
variable {C : Cx} {Γ : Gm} {H : Hp} {w : World}

def cnt : Cn → Nat
  | .pu xs => xs.length
  | .pus xss => xss.length
  | .mx xs => xs.length
  | _ => 0

/-- A run of elements. -/
structure Elems (s : Nat) (c : Cn) : Prop where
  cells : isCells c = true
  sized : ∀ tc, Sized s tc c
  len : (flat c).length = cnt c * s
  empt : cnt c = 0 → Empt c

theorem elems_pu (xs : List PV) : Elems 1 (.pu xs) := ⟨rfl, fun _ => rfl, by simp [flat, cnt], fun h => List.eq_nil_of_length_eq_zero h⟩
theorem elems_mx (xs : List AV) : Elems 1 (.mx xs) := ⟨rfl, fun _ => rfl, by simp [flat, cnt], fun h => List.eq_nil_of_length_eq_zero h⟩
theorem elems_pus {s : Nat} {xss : List (List PV)} (h : ∀ cs ∈ xss, cs.length = s) : Elems s (.pus xss) :=
  ⟨rfl, fun _ => h, by simp only [flat, List.length_map, cnt]; exact flatten_length h, fun e => List.eq_nil_of_length_eq_zero e⟩

theorem part1_sound {c : Cn} {s tc off len : Nat} (hs : Sized s tc c) (hb : ∀ cs, c ≠ .bx cs) {K : Cn → Prop} (hk : part1 c off len K) :
    ∃ c', K c' ∧ Elems s c' ∧ cnt c' = len ∧ flat c' = ((flat c).drop (off * s)).take (len * s) ∧ off + len ≤ cnt c := by
  cases c with
  | pu xs =>
    simp only [Sized] at hs
    subst hs
    obtain ⟨hle, ys, hys, hK⟩ := hk
    exact ⟨_, hK, elems_pu _, by rw [hys]; simp [cnt]; omega, by rw [hys]; simp [flat, List.map_take, List.map_drop], hle⟩
  | pus xss =>
    simp only [Sized] at hs
    obtain ⟨hle, ys, hys, hK⟩ := hk
    refine ⟨_, hK, elems_pus (fun cs hcs => ?_), by rw [hys]; simp [cnt]; omega, ?_, hle⟩
    · rw [hys] at hcs
      exact hs cs (List.mem_of_mem_drop (List.mem_of_mem_take hcs))
    · rw [hys]
      simp only [flat]
      rw [flatten_sub hs _ _ (by omega), List.map_take, List.map_drop]
  | mx xs =>
    simp only [Sized] at hs
    subst hs
    simp only [part1] at hk
    split at hk <;> try exact hk.elim
    rename_i ys hg
    obtain ⟨g1, g2, g3⟩ := getN_some hg
    exact ⟨_, hk, elems_mx _, g2, by simp only [flat, Nat.mul_one]; exact g1, (getN_le hg).2.2⟩
  | bx cs => exact absurd rfl (hb cs)
  | lp => exact hs.elim
  | df => exact hs.elim

/-- What is appended: what it reads as in the world. -/
theorem src_sound (h : R C Γ H w) {s : Nat} (h0 : 0 < s) {x : AV} {x' : Value} (hx : VR Γ x x') {K : Nat → Cn → Hp → Prop} (hv : eSrc s x H K) :
    ∃ m c H1 Γ1 us, K m c H1 ∧ Γ1.nm = Γ.nm ∧ Later C H.next Γ H w Γ1 H1 w ∧ (∀ d, (Builtin.lenOf x').run C.P { w with drawn := d } = .ok m { w with drawn := d }) ∧ (∀ d, (Builtin.firstCells s m x').run C.P { w with drawn := d } = .ok ⟨us⟩ { w with drawn := d }) ∧
      VRL Γ1 (flat c) us ∧ (∀ v ∈ us, plainV v = true) ∧ Elems s c ∧ cnt c = m := by
  have hrefl := Later.refl h H.next (Nat.le_refl _)
  -- a real slice whose cells are known
  have sli : ∀ {b o n c : Nat} {us : List Value}, us.length = n * s → (∀ (j : Nat) (u : Value), us[j]? = some u → w.cell? ⟨b, o + j, none⟩ = some u) →
      (∀ d, (Builtin.lenOf (.slice (some ⟨b, o, none⟩) n c)).run C.P { w with drawn := d } = .ok n { w with drawn := d }) ∧ (∀ d, (Builtin.firstCells s n (.slice (some ⟨b, o, none⟩) n c)).run C.P { w with drawn := d } = .ok ⟨us⟩ { w with drawn := d }) := by
    intro b o n c us hl hc
    refine ⟨fun _ => rfl, fun d => ?_⟩
    have := run_loadN (P := C.P) (w := { w with drawn := d }) b o us hc
    rw [hl] at this
    exact this
  have emp : ∀ {a : Option Addr} {c : Nat}, (∀ d, (Builtin.lenOf (.slice a 0 c)).run C.P { w with drawn := d } = .ok 0 { w with drawn := d }) ∧ (∀ d, (Builtin.firstCells s 0 (.slice a 0 c)).run C.P { w with drawn := d } = .ok ⟨[]⟩ { w with drawn := d }) := by
    intro a c
    refine ⟨fun _ => rfl, fun d => ?_⟩
    cases a with
    | none => rfl
    | some a => simp only [Builtin.firstCells, Nat.zero_mul]; rfl
  have fzc : ∀ {b o : Nat} {arr us : List Value}, Γ.fz b = some arr → Seg arr o us → ∀ (j : Nat) (u : Value), us[j]? = some u → w.cell? ⟨b, o + j, none⟩ = some u := by
    intro b o arr us hfz hseg j u hj
    obtain ⟨t, z, hb⟩ := h.fzok b arr hfz
    simp only [World.cell?, hb, Option.isSome_none, Bool.false_eq_true, if_false, List.getElem?_toArray]
    exact hseg.get hj
  unfold eSrc at hv
  split at hv
  · simp only [VR, VP] at hx
    subst hx
    split at hv
    · rename_i hs
      have hs := Nat.eq_of_beq_eq_true hs
      subst hs
      exact ⟨0, _, H, Γ, [], hv, rfl, hrefl, emp.1, emp.2, rfl, by simp, elems_pu _, rfl⟩
    · exact ⟨0, _, H, Γ, [], hv, rfl, hrefl, emp.1, emp.2, rfl, by simp, elems_pus (by simp), rfl⟩
  · rename_i xs
    split at hv <;> try exact hv.elim
    rename_i hs
    have hs := Nat.eq_of_beq_eq_true hs
    subst hs
    simp only [VR, VP] at hx
    rcases hx with ⟨rfl, a, c, rfl⟩ | ⟨b, o, c, arr, us, rfl, hc, h1, h2, h3⟩
    · exact ⟨0, _, H, Γ, [], hv, rfl, hrefl, emp.1, emp.2, rfl, by simp, elems_pu _, rfl⟩
    · obtain ⟨r1, r2⟩ := sli (b := b) (o := o) (n := xs.length) (c := c) (us := us) (by rw [VPL_length h2]; simp) (fzc h1 h3)
      exact ⟨_, _, H, Γ, us, hv, rfl, hrefl, r1, r2, VRL_p.2 h2, h3.plain, elems_pu _, rfl⟩
  · rename_i s' xss
    split at hv <;> try exact hv.elim
    rename_i hs
    simp only [Bool.and_eq_true] at hs
    have hs := Nat.eq_of_beq_eq_true hs.1
    subst hs
    simp only [VR, VP] at hx
    rcases hx with ⟨rfl, a, c, rfl⟩ | ⟨b, o, c, arr, us, rfl, hc, h1, h2, h3⟩
    · exact ⟨0, _, H, Γ, [], hv, rfl, hrefl, emp.1, emp.2, rfl, by simp, elems_pus (by simp), rfl⟩
    · obtain ⟨g1, g2⟩ := VPLL_flat.1 h2
      obtain ⟨r1, r2⟩ := sli (b := b) (o := o) (n := xss.length) (c := c) (us := us) (by rw [VPL_length g1, flatten_length g2]) (fzc h1 h3)
      exact ⟨_, _, H, Γ, us, hv, rfl, hrefl, r1, r2, VRL_p.2 g1, h3.plain, elems_pus g2, rfl⟩
  · rename_i n s' off len
    split at hv <;> try exact hv.elim
    rename_i o ho hs
    have hs := Nat.eq_of_beq_eq_true hs
    subst hs
    simp only [VR] at hx
    obtain ⟨q, hq, hqs, hsl⟩ := hx
    -- the choice
    have key : ∀ c, Elems s c → cnt c = len → ∀ us, VRL Γ (flat c) us → (∀ v ∈ us, plainV v = true) → (∀ d, (Builtin.lenOf x').run C.P { w with drawn := d } = .ok len { w with drawn := d }) → (∀ d, (Builtin.firstCells s len x').run C.P { w with drawn := d } = .ok ⟨us⟩ { w with drawn := d }) →
        (match c with
          | .mx vs => (∃ fs ps, marksOK H.l fs = true ∧ ResL (Res (marks H.l fs) 5) vs ps ∧ K len (.pu ps) (H.mrk fs)) ∨ K len (.mx vs) H
          | c => K len c H) →
        ∃ m c H1 Γ1 us, K m c H1 ∧ Γ1.nm = Γ.nm ∧ Later C H.next Γ H w Γ1 H1 w ∧ (∀ d, (Builtin.lenOf x').run C.P { w with drawn := d } = .ok m { w with drawn := d }) ∧ (∀ d, (Builtin.firstCells s m x').run C.P { w with drawn := d } = .ok ⟨us⟩ { w with drawn := d }) ∧
          VRL Γ1 (flat c) us ∧ (∀ v ∈ us, plainV v = true) ∧ Elems s c ∧ cnt c = m := by
      intro c hE hcl us hus hpl hln hfc hK
      have direct : K len c H → ∃ m c H1 Γ1 us, K m c H1 ∧ Γ1.nm = Γ.nm ∧ Later C H.next Γ H w Γ1 H1 w ∧ (∀ d, (Builtin.lenOf x').run C.P { w with drawn := d } = .ok m { w with drawn := d }) ∧ (∀ d, (Builtin.firstCells s m x').run C.P { w with drawn := d } = .ok ⟨us⟩ { w with drawn := d }) ∧
          VRL Γ1 (flat c) us ∧ (∀ v ∈ us, plainV v = true) ∧ Elems s c ∧ cnt c = m := fun hK => ⟨len, c, H, Γ, us, hK, rfl, hrefl, hln, hfc, hus, hpl, hE, hcl⟩
      cases c with
      | mx vs =>
        rcases hK with ⟨fs, ps, hm, hres, hK⟩ | hK
        · obtain ⟨Γ1, e1, hL⟩ := h.mark hm
          have hle : Γ.le Γ1 := ⟨fun m q' e => by rw [e1]; exact e, hL.2.2.2.fz⟩
          have hs1 : s = 1 := hE.sized 0
          subst hs1
          have hp := ResL_sound (Res_sound hL.1 5) (show ResL (Res (H.mrk fs).l 5) vs ps from hres) (VRL_mono hle _ _ hus)
          refine ⟨len, .pu ps, H.mrk fs, Γ1, us, hK, e1, hL, hln, hfc, VRL_p.2 hp, hpl, elems_pu _, ?_⟩
          show ps.length = len
          rw [← VPL_length hp, VRL_length hus]
          exact hcl
        · exact direct hK
      | pu xs => exact direct hK
      | pus xs => exact direct hK
      | bx cs => exact direct hK
      | lp => exact direct hK
      | df => exact direct hK
    rcases hsl with ⟨hnl, rfl, rfl, rfl⟩ | ⟨hnl, htc, o', rfl, ho'⟩
    · obtain ⟨q', hq', hob⟩ := h.objs n o ho
      rw [hq] at hq'
      injection hq' with e
      subst e
      -- an empty object
      have hcell : isCells o.c = true := by
        cases hoc : o.c <;> first | rfl | (rw [hoc] at hv; simp [part1] at hv)
      have hbx : ∀ cs, o.c ≠ .bx cs := by
        intro cs e
        rw [e] at hv
        simp [part1] at hv
      rcases (ObjR_cells hcell).1 hob with ⟨_, he, hsz⟩ | ⟨e, _⟩
      · rw [hqs] at hsz
        obtain ⟨c', hK, hE, hcl, hfl, hle⟩ := part1_sound hsz hbx hv
        have hf0 : flat c' = [] := List.eq_nil_of_length_eq_zero (by rw [hE.len, hcl]; simp)
        exact key c' hE hcl [] (by rw [hf0]; rfl) (by simp) emp.1 emp.2 hK
      · rw [hnl] at e; cases e
    · have hcell : isCells o.c = true := by
        cases hoc : o.c <;> first | rfl | (rw [hoc] at hv; simp [part1] at hv)
      obtain ⟨us, rest, z, h1, h2, h3, h3', h4, h5, h6, h7, h8⟩ := cellsOf h ho hcell hq hnl
      rw [hqs] at h7
      have hbx : ∀ cs, o.c ≠ .bx cs := by
        intro cs e
        rw [e] at hv
        simp [part1] at hv
      obtain ⟨c', hK, hE, hcl, hfl, hle⟩ := part1_sound h7 hbx hv
      have hv1 : VRL Γ (flat c') ((us.drop (off * s)).take (len * s)) := by rw [hfl]; exact VRL_take _ (VRL_drop _ h5)
      have hp1 : ∀ v ∈ (us.drop (off * s)).take (len * s), plainV v = true := fun v hv => h6 v (List.mem_of_mem_drop (List.mem_of_mem_take hv))
      have hl1 : ((us.drop (off * s)).take (len * s)).length = len * s := by rw [VRL_length hv1, hE.len, hcl]
      rcases Nat.eq_zero_or_pos len with hz | hz
      · subst hz
        have e0 : (us.drop (off * s)).take (0 * s) = [] := by simp
        rw [e0] at hv1
        exact key c' hE hcl [] hv1 (by simp) emp.1 emp.2 hK
      · have ho2 : o' = off * s := by
          rcases ho' with e | e
          · rw [e, hqs]
          · omega
        subst ho2
        obtain ⟨r1, r2⟩ := sli (b := q.blk) (o := off * s) (n := len) (c := q.tc - off) hl1 (fun j u hj => by
          rw [List.getElem?_take] at hj
          split at hj
          · rw [List.getElem?_drop] at hj
            exact cells_at h1 hj
          · cases hj)
        exact key c' hE hcl _ hv1 hp1 r1 r2 hK
  · rename_i str
    simp only [VR, VP] at hx
    subst hx
    split at hv <;> try exact hv.elim
    rename_i hs
    have hs := Nat.eq_of_beq_eq_true hs
    subst hs
    have hsz : (⟨⟨str⟩⟩ : ByteArray).size = str.length := rfl
    refine ⟨str.length, _, H, Γ, str.map fun b => .int .u8 (b.toNat : Int), hv, rfl, hrefl, fun _ => rfl, fun d => ?_, ?_, ?_, elems_pu _, by simp [cnt]⟩
    · have he : (⟨⟨str⟩⟩ : ByteArray).extract 0 str.length = ⟨⟨str⟩⟩ := by rw [extract_bytes]; simp
      simp only [Builtin.firstCells, Sem.run_pure, he]
      congr 1
      apply Array.ext'
      simp
    · refine VRL_p.2 ?_
      clear hv hsz
      induction str with
      | nil => simp only [List.map_nil, VPL]
      | cons b r ih => simp only [List.map_cons, VPL]; exact ⟨_, _, rfl, by simp only [ub, VP], ih⟩
    · intro v hv
      obtain ⟨b, _, rfl⟩ := List.mem_map.1 hv
      rfl
  · exact hv.elim

theorem notInt_spec {t : TypeId} (h : notInt C t = true) : (∃ e, C.P.underlying t = some (.slice e)) ∨ C.P.underlying t = some .string := by
  unfold notInt at h
  split at h
  · exact .inl ⟨_, by assumption⟩
  · exact .inr (by assumption)
  · cases h

theorem run_append_fits {t t' ty e : TypeId} {s n c m : Nat} {a : Addr} {x : Value} {nc : List Value} (hu : C.P.underlying t = some (.slice e)) (ht' : notInt C t' = true) (hs : szOf C.P e = some s)
    (hl : (Builtin.lenOf x).run C.P w = .ok m w) (hf : (Builtin.firstCells s m x).run C.P w = .ok ⟨nc⟩ w) (hfit : n + m ≤ c) {w' : World} (hst : (storeCells (a.add (n * s)) nc).run C.P w = .ok () w') :
    (Builtin.append_ #[t, t'] ty #[.slice (some a) n c, x]).run C.P w = .ok (.slice (some a) (n + m) c) w' := by
  rcases notInt_spec ht' with ⟨e', hu'⟩ | hu' <;>
    simp [Builtin.append_, run_underlying hu, run_underlying hu', run_szOf hs, hl, hfit, hf, hst]

theorem run_append_nil {t t' ty e : TypeId} {s m : Nat} {x : Value} {nc : List Value} (hu : C.P.underlying t = some (.slice e)) (ht' : notInt C t' = true) (hs : szOf C.P e = some s)
    (hl : (Builtin.lenOf x).run C.P w = .ok m w) (hf : (Builtin.firstCells s m x).run C.P w = .ok ⟨nc⟩ w) (hm : m = 0) :
    (Builtin.append_ #[t, t'] ty #[.slice none 0 0, x]).run C.P w = .ok (.slice none 0 0) w := by
  subst hm
  rcases notInt_spec ht' with ⟨e', hu'⟩ | hu' <;>
    simp [Builtin.append_, run_underlying hu, run_underlying hu', run_szOf hs, hl, hf]

theorem run_append_grow {t t' ty e : TypeId} {s b n c m : Nat} {z : PV} {base : Option Addr} {x : Value} {old nc : List Value} (hu : C.P.underlying t = some (.slice e)) (ht' : notInt C t' = true)
    (hs : szOf C.P e = some s) (hz : zeroOf C.P e = some z) (hb : byOf C e = some b) (hb0 : 0 < b)
    (hl : (Builtin.lenOf x).run C.P w = .ok m w) (hfit : ¬ n + m ≤ c) (hroom : (n + m) * b ≤ 140737488355328)
    (hold : (Builtin.firstCells s n (.slice base n c)).run C.P { w with drawn := w.drawn + 1 } = .ok ⟨old⟩ { w with drawn := w.drawn + 1 })
    (hf : (Builtin.firstCells s m x).run C.P { w with drawn := w.drawn + 1 } = .ok ⟨nc⟩ { w with drawn := w.drawn + 1 }) :
    ∃ k z', absV z' = some z ∧ (Builtin.append_ #[t, t'] ty #[.slice base n c, x]).run C.P w = .ok (.slice (some ⟨w.heap.size, 0, none⟩) (n + m) (n + m + k))
      (({ w with drawn := w.drawn + 1 } : World).alloc (.cells ((⟨old⟩ : Array Value) ++ ⟨nc⟩ ++ Builtin.zeroCells z'.cells k) e)) := by
  obtain ⟨i, z', i1, i2, i3, iz, i4⟩ := info_of hs hz hb
  have hfits := growslice_fits (need := n + m) (old := c) (bytes := b) (by omega) hroom
  have h63 : n + m ≤ (n + m) * b := Nat.le_mul_of_pos_right _ hb0
  have h63' : ¬ (9223372036854775807 < ((n : Int) + (m : Int))) := by omega
  have h48' : ¬ (281474976710656 < Builtin.nextslicecap (n + m) c * i.bytes) := by rw [i4]; omega
  have hold' : (Builtin.firstCells s n (.slice base n c)).run C.P w.drew = .ok ⟨old⟩ w.drew := hold
  have hf' : (Builtin.firstCells s m x).run C.P w.drew = .ok ⟨nc⟩ w.drew := hf
  refine ⟨w.tape w.drawn (.appendCap (n + m) c e) % (2 ^ 63 - (n + m)), z', iz, ?_⟩
  show _ = Result.ok _ (w.drew.alloc _)
  have fin : ∀ (X : Array Value), X = (⟨old⟩ : Array Value) ++ ⟨nc⟩ ++ Builtin.zeroCells z'.cells (w.tape w.drawn (.appendCap (n + m) c e) % (2 ^ 63 - (n + m))) →
      (Builtin.append_ #[t, t'] ty #[.slice base n c, x]).run C.P w = .ok (.slice (some ⟨w.heap.size, 0, none⟩) (n + m) (n + m + w.tape w.drawn (.appendCap (n + m) c e) % (2 ^ 63 - (n + m)))) (w.drew.alloc (.cells X e)) := by
    intro X hX
    rcases notInt_spec ht' with ⟨e', hu'⟩ | hu' <;>
      (simp [Builtin.append_, run_underlying hu, run_underlying hu', run_szOf hs, hl, hfit, typeInfo, zeroValue, i1, i3, h63', h48', Question.forced, Question.cut, hold', hf', newRow, hX]
       congr 2
       apply Array.ext'
       simp)
  exact fin _ rfl

theorem zeroCells_mkz (z : Array Value) (k : Nat) : (Builtin.zeroCells z k).toList = mkz k z.toList := range_mkz k z

/-- The block that a growing append makes. -/
theorem grow_block (h : R C Γ H w) {e : TypeId} {s k m : Nat} {z : PV} {z' : Value} {c : Cn} {old nc : List Value} (hs : szOf C.P e = some s) (h0 : 0 < s) (hz : absV z' = some z) (hzl : (vCells (.p z)).length = s)
    (hE : Elems s c) (hc : cnt c = m) (hv : VRL Γ (flat c) (old ++ nc)) (hp : ∀ v ∈ old ++ nc, plainV v = true) :
    Later C H.next Γ H { w with drawn := w.drawn + 1 } (Γ.put H.next ⟨w.heap.size, s, m + k, false⟩) (H.push ⟨e, false, c⟩) (({ w with drawn := w.drawn + 1 } : World).alloc (.cells ((⟨old⟩ : Array Value) ++ ⟨nc⟩ ++ Builtin.zeroCells z'.cells k) e)) := by
  have hzs : z'.cells.toList.length = s := by rw [VRL_length (abs_cells (Γ := Γ) hz), hzl]
  have harr : ((⟨old⟩ : Array Value) ++ ⟨nc⟩ ++ Builtin.zeroCells z'.cells k) = ⟨(old ++ nc) ++ mkz k z'.cells.toList⟩ := by
    apply Array.ext'
    rw [Array.toList_append, Array.toList_append, zeroCells_mkz]
  rw [harr]
  have hlen := VRL_length hv
  have := push_cells (w := { w with drawn := w.drawn + 1 }) (rest := mkz k z'.cells.toList) (tc := m + k) h.drew hE.cells hs h0 hv hp (by rw [List.length_append, hlen, hE.len, hc, mkz_length, hzs, Nat.add_mul]) (hE.sized _)
  exact this

theorem join_sound {s : Nat} {a b : Cn} (ha : Elems s a) (hb : Elems s b) {K : Cn → Prop} (hk : joinC a b K) : ∃ c, K c ∧ Elems s c ∧ flat c = flat a ++ flat b ∧ cnt c = cnt a + cnt b := by
  unfold joinC at hk
  split at hk
  · obtain ⟨zs, rfl, hk⟩ := hk
    have : s = 1 := ha.sized 0
    subst this
    exact ⟨_, hk, elems_pu _, by simp [flat], by simp [cnt]⟩
  · obtain ⟨zs, rfl, hk⟩ := hk
    have h1 := ha.sized 0
    have h2 := hb.sized 0
    simp only [Sized] at h1 h2
    exact ⟨_, hk, elems_pus (fun cs hcs => (List.mem_append.1 hcs).elim (h1 cs) (h2 cs)), by simp [flat], by simp [cnt]⟩
  · have : s = 1 := ha.sized 0
    subst this
    exact ⟨_, hk, elems_mx _, by simp [flat], by simp [cnt]⟩
  · have : s = 1 := ha.sized 0
    subst this
    exact ⟨_, hk, elems_mx _, by simp [flat], by simp [cnt]⟩
  · exact hk.elim

theorem append_sound (h : R C Γ H w) {t t' ty : TypeId} {x y : AV} {x' y' : Value} (hx : VR Γ x x') (hy : VR Γ y y') (ht' : notInt C t' = true) {K : KH} (hv : eAppend C t x y H K) :
    ∃ v' w', (Builtin.append_ #[t, t'] ty #[x', y']).run C.P w = .ok v' w' ∧ NV C Γ H w K v' w' := by
  unfold eAppend at hv
  split at hv <;> try exact hv.elim
  rename_i e hu
  split at hv <;> try exact hv.elim
  rename_i s z b hs hz hb
  split at hv <;> try exact hv.elim
  rename_i hcc
  simp only [Bool.and_eq_true] at hcc
  obtain ⟨⟨⟨g1, g2⟩, g3⟩, g4⟩ := hcc
  have g1 := Nat.eq_of_beq_eq_true g1
  have g2 : 0 < s := by simpa using g2
  have g3 : 0 < b := by simpa using g3
  -- nothing was there
  have nilc : ∀ (m : Nat) (c : Cn) (H1 H2 : Hp) (Γ1 : Gm) (us : List Value), Later C H.next Γ H w Γ1 H2 w → H2.next = H1.next → (∀ d, (Builtin.lenOf y').run C.P { w with drawn := d } = .ok m { w with drawn := d }) → (∀ d, (Builtin.firstCells s m y').run C.P { w with drawn := d } = .ok ⟨us⟩ { w with drawn := d }) →
      VRL Γ1 (flat c) us → (∀ v ∈ us, plainV v = true) → Elems s c → cnt c = m → m * b ≤ 140737488355328 → K (.sl H1.next s 0 m) (H2.push ⟨e, false, c⟩) → ∃ v' w', (Builtin.append_ #[t, t'] ty #[.slice none 0 0, y']).run C.P w = .ok v' w' ∧ NV C Γ H w K v' w' := by
    intro m c H1 H2 Γ1 us hL hnx hl hf hvl hpl hE hcm hroom hK
    rw [← hnx] at hK
    by_cases hm : m = 0
    · subst hm
      have hL2 := hL.1.pushNil (q := ⟨0, s, 0, true⟩) (o := ⟨e, false, c⟩) rfl hE.cells (hE.empt hcm) (hE.sized _)
      refine ⟨_, _, run_append_nil hu ht' hs (hl w.drawn) (hf w.drawn) rfl, _, _, _, hK, ?_, hL.trans (hL2.mono hL.2.2.1)⟩
      simp only [VR]
      exact ⟨⟨0, s, 0, true⟩, Gm.put_same _ _ _, rfl, .inl ⟨rfl, rfl, rfl, rfl⟩⟩
    · obtain ⟨k, z', hz', hrun⟩ := run_append_grow (ty := ty) (base := none) (n := 0) (c := 0) (old := []) hu ht' hs hz hb g3 (hl w.drawn) (by omega) (by simpa using hroom) rfl (hf _)
      have hL2 := grow_block (k := k) (old := []) (nc := us) hL.1 hs g2 hz' g1 hE hcm hvl hpl
      have hd := Later.drew hL.1 H.next hL.2.2.1
      refine ⟨_, _, by simpa using hrun, _, _, _, hK, VR_slNext (Γ := Γ1) ⟨w.heap.size, s, m + k, false⟩ H2.next m rfl (Nat.le_add_right _ _), ?_⟩
      have := (hL.trans hd).trans (hL2.mono hL.2.2.1)
      simpa using this
  split at hv
  · -- nil
    simp only [VR, VP] at hx
    subst hx
    obtain ⟨m, c, H1, Γ1, us, ⟨hroom, hK⟩, e1, hL, hl, hf, hvl, hpl, hE, hcm⟩ := src_sound h g2 hy hv
    exact nilc m c H1 H1 Γ1 us hL rfl hl hf hvl hpl hE hcm hroom hK
  · -- a slice of the heap's own
    rename_i n s' off len
    split at hv <;> try exact hv.elim
    rename_i hso
    simp only [Bool.and_eq_true] at hso
    have hs' := Nat.eq_of_beq_eq_true hso.1
    have hoff := Nat.eq_of_beq_eq_true hso.2
    subst hs'; subst hoff
    obtain ⟨m, c1, H1, Γ1, us, hK, e1, hL, hl, hf, hvl, hpl, hE1, hcm⟩ := src_sound h g2 hy hv
    split at hK <;> try exact hK.elim
    rename_i o ho
    split at hK <;> try exact hK.elim
    rename_i hfr0
    simp only [Bool.or_eq_false_iff, Bool.not_eq_false'] at hfr0
    have hte := Nat.eq_of_beq_eq_true hfr0.2
    have hfr := hfr0.1
    clear hfr0
    simp only [VR] at hx
    obtain ⟨q, hq, hqs, hsl⟩ := hx
    have hq1 : Γ1.nm n = some q := by rw [e1]; exact hq
    have hcell : isCells o.c = true := by
      cases hoc : o.c <;> first | rfl | (rw [hoc] at hK; simp [part1] at hK)
    have hbx : ∀ cs, o.c ≠ .bx cs := by
      intro cs e
      rw [e] at hK
      simp [part1] at hK
    obtain ⟨q', hq', hob⟩ := hL.1.objs n o ho
    rw [hq1] at hq'
    injection hq' with eq
    subst eq
    have hdel := hL.1.del n
    rcases hsl with ⟨hnl, _, rfl, rfl⟩ | ⟨hnl, htc, o', rfl, ho'⟩
    · rcases (ObjR_cells hcell).1 hob with ⟨_, he, hsz⟩ | ⟨e, _⟩
      · rw [hqs] at hsz
        obtain ⟨c0, ⟨hroom, hK⟩, hE0, hc0, hf0, _⟩ := part1_sound hsz hbx hK
        obtain ⟨c, hK, hE, hfc, hcc⟩ := join_sound hE0 hE1 hK
        have hf00 : flat c0 = [] := List.eq_nil_of_length_eq_zero (by rw [hE0.len, hc0]; simp)
        refine nilc m c H1 { H1 with l := ldel H1.l n } Γ1 us (hL.trans (hdel.mono hL.2.2.1)) rfl hl hf ?_ hpl hE (by rw [hcc, hc0, hcm]; simp) (by simpa using hroom) ?_
        · rw [hfc, hf00]; exact hvl
        · rw [Nat.zero_add] at hK; exact hK
      · rw [hnl] at e; cases e
    · rcases (ObjR_cells hcell).1 hob with ⟨e, _⟩ | ⟨_, hcr⟩
      · rw [hnl] at e; cases e
      obtain ⟨us0, rest, zz, h1, h2, h3, h3', h4, h5, h6, h7, h8⟩ := hcr
      rw [hqs] at h7 h4
      obtain ⟨c0, ⟨hroom, hK⟩, hE0, hc0, hf0, hle0⟩ := part1_sound h7 hbx hK
      obtain ⟨c, hK, hE, hfc, hcc⟩ := join_sound hE0 hE1 hK
      simp only [Nat.zero_mul, List.drop_zero] at hf0
      have hlu := VRL_length h5
      have hv0 : VRL Γ1 (flat c0) (us0.take (len * s)) := by rw [hf0]; exact VRL_take _ h5
      have hl0 : (us0.take (len * s)).length = len * s := by rw [VRL_length hv0, hE0.len, hc0]
      have hp0 : ∀ v ∈ us0.take (len * s), plainV v = true := fun v hv => h6 v (List.mem_of_mem_take hv)
      have hlus : us.length = m * s := by rw [VRL_length hvl, hE1.len, hcm]
      have hvc : VRL Γ1 (flat c) (us0.take (len * s) ++ us) := by rw [hfc]; exact VRL_append hv0 hvl
      have hpc : ∀ v ∈ us0.take (len * s) ++ us, plainV v = true := by
        intro v hv
        rcases List.mem_append.1 hv with hv | hv
        · exact hp0 v hv
        · exact hpl v hv
      have hcnt : cnt c = len + m := by rw [hcc, hc0, hcm]
      simp only [Nat.sub_zero]
      by_cases hin : len + m ≤ q.tc
      · -- there is room
        have hren := hL.1.rename ho hq1
        have hgn : lget (Hp.push { H1 with l := ldel H1.l n } o).l H1.next = some o := lget_cons_same
        have hnm : (Γ1.put H1.next q).nm H1.next = some q := Gm.put_same _ _ _
        have hle1 : Γ1.le (Γ1.put H1.next q) := Gm.le_put (hL.1.fresh _ (Nat.le_refl _))
        have hmul : (len + m) * s ≤ q.tc * s := Nat.mul_le_mul_right _ hin
        rw [Nat.add_mul] at hmul
        have hrun := run_storeN (P := C.P) q.blk o.t zz us (len * s) 0 w ⟨us0 ++ rest⟩ h1 h2 (by simp only [List.size_toArray]; omega) hpl
        rw [Nat.add_zero] at hrun
        have htk : len * s ≤ us0.length := by rw [List.length_take] at hl0; omega
        have hsp : spl (us0 ++ rest) (len * s) us = (us0.take (len * s) ++ us) ++ (us0 ++ rest).drop (len * s + us.length) := by
          rw [spl_eq (by omega), List.take_append_of_le_length htk]
        simp only [hsp] at hrun
        have hst : (storeCells ((⟨q.blk, o', none⟩ : Addr).add (len * s)) us).run C.P w = .ok () (putBlk w q.blk (.cells ⟨(us0.take (len * s) ++ us) ++ (us0 ++ rest).drop (len * s + us.length)⟩ o.t zz)) := by
          rcases ho' with rfl | ho'
          · rw [add_spot _ rfl]
            simpa using hrun
          · have hm0 : m = 0 := by omega
            have hus : us = [] := List.eq_nil_of_length_eq_zero (by rw [hlus, hm0]; simp)
            subst hus
            exact hrun
        subst hte
        have hrep := hren.1.repl hgn hfr hnm hnl (o' := ⟨o.t, false, c⟩) rfl (x := .cells ⟨(us0.take (len * s) ++ us) ++ (us0 ++ rest).drop (len * s + us.length)⟩ o.t zz)
          ((ObjR_cells (o := ⟨o.t, false, c⟩) hE.cells).2 (.inr ⟨hnl, us0.take (len * s) ++ us, (us0 ++ rest).drop (len * s + us.length), zz, putBlk_same h1, by
            have : ((us0.take (len * s) ++ us) ++ (us0 ++ rest).drop (len * s + us.length)).length = (us0 ++ rest).length := by rw [← hsp, spl_length]
            rw [this]; exact h2, h3, h3', by
            have : ((us0.take (len * s) ++ us) ++ (us0 ++ rest).drop (len * s + us.length)).length = (us0 ++ rest).length := by rw [← hsp, spl_length]
            rw [this, h4, hqs], VRL_mono hle1 _ _ hvc, hpc, by rw [hqs]; exact hE.sized _, fun e => by cases e⟩))
        refine ⟨_, _, run_append_fits hu ht' hs (hl w.drawn) (hf w.drawn) hin hst, _, _, Γ1.put H1.next q, hK, ?_, ?_⟩
        · simp only [VR]
          refine ⟨q, Gm.put_same _ _ _, hqs, .inr ⟨hnl, by omega, o', rfl, ?_⟩⟩
          rcases ho' with e' | e'
          · left; simpa using e'
          · right; exact e'
        · have hx := (hL.trans (hren.mono hL.2.2.1)).trans (hrep.mono (by show H.next ≤ H1.next + 1; have := hL.2.2.1; omega))
          have hset : lset (Hp.push { H1 with l := ldel H1.l n } o).l H1.next ⟨o.t, false, c⟩ = (Hp.push { H1 with l := ldel H1.l n } ⟨o.t, false, c⟩).l := by
            simp [Hp.push, lset]
          rw [hset] at hx
          exact hx
      · -- a new block
        have hold : (Builtin.firstCells s len (.slice (some ⟨q.blk, o', none⟩) len q.tc)).run C.P { w with drawn := w.drawn + 1 } = .ok ⟨us0.take (len * s)⟩ { w with drawn := w.drawn + 1 } := by
          rcases Nat.eq_zero_or_pos len with hz0 | hz0
          · subst hz0
            simp only [Nat.zero_mul, List.take_zero, Builtin.firstCells]
            rfl
          · have ho2 : o' = 0 := by
              rcases ho' with e' | e'
              · simpa using e'
              · omega
            subst ho2
            have := run_loadN (P := C.P) (w := { w with drawn := w.drawn + 1 }) q.blk 0 (us0.take (len * s)) (fun j u hj => by
              rw [Nat.zero_add]
              rw [List.getElem?_take] at hj
              split at hj
              · exact cells_at (w := { w with drawn := w.drawn + 1 }) h1 hj
              · cases hj)
            rw [hl0] at this
            exact this
        obtain ⟨k, z', hz', hrun⟩ := run_append_grow (ty := ty) hu ht' hs hz hb g3 (hl w.drawn) hin hroom hold (hf _)
        have hL2 := grow_block (k := k) (m := len + m) (old := us0.take (len * s)) (nc := us) (hdel.1) hs g2 hz' g1 hE hcnt hvc hpc
        have hd := Later.drew hdel.1 H.next (by show H.next ≤ H1.next; exact hL.2.2.1)
        refine ⟨_, _, hrun, _, _, _, hK, VR_slNext (Γ := Γ1) ⟨w.heap.size, s, len + m + k, false⟩ H1.next (len + m) rfl (Nat.le_add_right _ _), ?_⟩
        exact ((hL.trans (hdel.mono hL.2.2.1)).trans hd).trans (hL2.mono hL.2.2.1)
  · exact hv.elim
end
end Go.Proofs.YtemlkodkohgmmaaDoor.Y
