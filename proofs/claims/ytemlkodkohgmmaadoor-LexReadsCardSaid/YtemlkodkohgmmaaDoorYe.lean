/- Operations that only compute or read: the rest, and all of them together. -/
import Derived.Test.YtemlkodkohgmmaaDoorYd
namespace Go.Proofs.YtemlkodkohgmmaaDoor.Y
open Go

section
variable {P : Program} {Γ : Gm} {w : World}

/-- A part of a value's cells. -/
theorem part_cells {t : TypeId} {cs : List AV} {cs' : Array Value} (hv : VRL Γ cs cs'.toList) {f : Nat} {v : AV} (hl : ldIn P t cs f = some v) :
    ∃ v', (part t cs' f).run P w = .ok v' w ∧ VR Γ v v' := by
  unfold ldIn at hl
  split at hl
  · rename_i s ht
    obtain ⟨ha, hsz⟩ := run_isAgg ht w
    split at hl
    · rename_i r hg
      injection hl with hl
      subst hl
      obtain ⟨h1, h2, h3⟩ := getN_some hg
      refine ⟨.agg (cs'.extract f (f + s)), by simp [part, ha, run_szOf (hsz s rfl)], VR_mkAgg.2 ?_⟩
      simp only [VR]
      refine ⟨_, rfl, ?_⟩
      have e : (cs'.extract f (f + s)).toList = (cs'.toList.drop f).take s := by
        simp [Array.toList_extract, List.extract_eq_take_drop]
      rw [e, h1]
      exact VRL_take _ (VRL_drop _ hv)
    · cases hl
  · rename_i ht
    obtain ⟨ha, _⟩ := run_isAgg ht w
    rw [nth_eq] at hl
    obtain ⟨v', h1, h2⟩ := VRL_get hv hl
    have h1' : cs'[f]? = some v' := by rw [← Array.getElem?_toList]; exact h1
    exact ⟨v', by simp [part, ha, h1'], h2⟩
  · cases hl

theorem field_sound {t : TypeId} {x : AV} {x' : Value} {v : AV} {f : Nat} (hx : VR Γ x x') (hv : (popField P t x f).Yld v) : ∃ v', (Instr.field t x' f).run P w = .ok v' w ∧ VR Γ v v' := by
  unfold popField at hv
  split at hv <;> try exact hv.elim
  rename_i fs hu
  split at hv <;> try exact hv.elim
  rename_i fd hfd
  rw [fnth_eq] at hfd
  have hfd' : fs[f]? = some fd := by rw [← Array.getElem?_toList]; exact hfd
  have go : ∀ (cs : List AV) (cs' : Array Value), VRL Γ cs cs'.toList → ldIn P fd.type cs fd.offset = some v → ∃ v', (Instr.field t (.agg cs') f).run P w = .ok v' w ∧ VR Γ v v' := by
    intro cs cs' h1 h2
    obtain ⟨v', h3, h4⟩ := part_cells (w := w) h1 h2
    exact ⟨v', by simp [Instr.field, run_underlying hu, hfd', asAgg, h3], h4⟩
  split at hv <;> try exact hv.elim
  · rename_i cs
    simp only [VR, VP] at hx
    obtain ⟨cs', rfl, hcs⟩ := hx
    unfold ofP at hv
    split at hv <;> try exact hv.elim
    rename_i u hu'
    simp only [PRes.Yld] at hv
    subst hv
    exact go _ cs' (VRL_p.2 hcs) (by rw [ldIn_p, hu']; rfl)
  · rename_i cs
    simp only [VR] at hx
    obtain ⟨cs', rfl, hcs⟩ := hx
    unfold ofO at hv
    split at hv <;> try exact hv.elim
    rename_i u hu'
    simp only [PRes.Yld] at hv
    subst hv
    exact go _ cs' hcs hu'

theorem run_fieldAt {s : TypeId} {f : Nat} {fs : Array Field} {fd : Field} {z b o : Nat} (hu : P.underlying s = some (.struct fs)) (hfd : fs[f]? = some fd) (hk : szOf P fd.type = some (z + 1)) :
    (Instr.fieldAt s (.pointer (some ⟨b, o, none⟩)) f).run P w = .ok (.pointer (some ⟨b, o + fd.offset, none⟩)) w := by
  have e := add_spot ⟨b, o, none⟩ rfl fd.offset
  simp [Instr.fieldAt, run_underlying hu, hfd, Instr.sureAddr, fieldPlace, run_szOf hk, e]

theorem fp_sub {fz : Fzn} {cs r : List PV} {b o k n : Nat} {v : Value} (h : VP fz (.fp cs) v) (hv : v = .pointer (some ⟨b, o, none⟩)) (hg : getN cs k n = some r) (hn : 0 < n) : VP fz (.fp r) (.pointer (some ⟨b, o + k, none⟩)) := by
  subst hv
  simp only [VP] at h ⊢
  obtain ⟨b', o', arr, us, e, h1, h2, h3⟩ := h
  simp only [Value.pointer.injEq, Option.some.injEq, Addr.mk.injEq, and_true] at e
  obtain ⟨rfl, rfl⟩ := e
  obtain ⟨g1, g2, g3⟩ := getN_some hg
  refine ⟨b, o + k, arr, _, rfl, h1, ?_, h3.sub k n ?_⟩
  · rw [g1]; exact VPL_take _ (VPL_drop _ h2)
  · rw [VPL_length h2]; have := g3 hn; omega

theorem fieldAddr_sound {s : TypeId} {x : AV} {x' : Value} {v : AV} {f : Nat} (hx : VR Γ x x') (hv : (popFieldAddr P s x f).Yld v) : ∃ v', (Instr.fieldAt s x' f).run P w = .ok v' w ∧ VR Γ v v' := by
  unfold popFieldAddr at hv
  split at hv <;> try exact hv.elim
  rename_i fs hu
  split at hv <;> try exact hv.elim
  rename_i fd hfd
  rw [fnth_eq] at hfd
  have hfd' : fs[f]? = some fd := by rw [← Array.getElem?_toList]; exact hfd
  split at hv <;> try exact hv.elim
  rename_i z hk
  split at hv <;> try exact hv.elim
  · rename_i n i f
    simp only [VR] at hx
    obtain ⟨q, hq, hnl, rfl⟩ := hx
    simp only [PRes.Yld] at hv
    subst hv
    exact ⟨_, run_fieldAt hu hfd' hk, by simp only [VR]; exact ⟨q, hq, hnl, by rw [Nat.add_assoc]⟩⟩
  · rename_i n i f
    simp only [VR] at hx
    obtain ⟨q, hq, hnl, rfl⟩ := hx
    simp only [PRes.Yld] at hv
    subst hv
    exact ⟨_, run_fieldAt hu hfd' hk, by simp only [VR]; exact ⟨q, hq, hnl, by rw [Nat.add_assoc]⟩⟩
  · rename_i cs
    split at hv <;> try exact hv.elim
    rename_i r hr
    simp only [PRes.Yld] at hv
    subst hv
    simp only [VR] at hx
    have hx' := hx
    simp only [VP] at hx
    obtain ⟨b, o, arr, us, e, _⟩ := hx
    rw [e]
    exact ⟨_, run_fieldAt hu hfd' hk, by simp only [VR]; exact fp_sub hx' e hr (by omega)⟩

theorem run_indexSlice {t e : TypeId} {s b o n c : Nat} {k : IntKind} {i : Int} (hu : P.underlying t = some (.slice e)) (hs : szOf P e = some s) (h0 : 0 ≤ i) (h1 : i < n) :
    (Instr.indexAt t (.slice (some ⟨b, o, none⟩) n c) (.int k i)).run P w = .ok (.pointer (some ⟨b, o + i.toNat * s, none⟩)) w := by
  have e' := add_spot ⟨b, o, none⟩ rfl (i.toNat * s)
  simp [Instr.indexAt, asIntOf, run_underlying hu, h0, h1, run_szOf hs, e']
theorem run_indexArray {t e : TypeId} {s b o n : Nat} {k : IntKind} {i : Int} (hu : P.underlying t = some (.array n e)) (hs : szOf P e = some s) (h0 : 0 ≤ i) (h1 : i < n) :
    (Instr.indexAt t (.pointer (some ⟨b, o, none⟩)) (.int k i)).run P w = .ok (.pointer (some ⟨b, o + i.toNat * s, none⟩)) w := by
  have e' := add_spot ⟨b, o, none⟩ rfl (i.toNat * s)
  simp [Instr.indexAt, asIntOf, run_underlying hu, Instr.sureAddr, h0, h1, run_szOf hs, e']

theorem indexAddr_sound {t : TypeId} {x i : AV} {x' i' : Value} {v : AV} (hx : VR Γ x x') (hi : VR Γ i i') (hv : (popIndexAddr P t x i).Yld v) : ∃ v', (Instr.indexAt t x' i').run P w = .ok v' w ∧ VR Γ v v' := by
  unfold popIndexAddr at hv
  split at hv <;> try exact hv.elim
  rename_i k i
  simp only [VR, VP] at hi
  subst hi
  split at hv <;> try exact hv.elim
  · rename_i e hu
    split at hv <;> try exact hv.elim
    rename_i s hs
    split at hv <;> try exact hv.elim
    · rename_i n s' off len
      split at hv <;> try exact hv.elim
      rename_i hb
      have hb := Nat.eq_of_beq_eq_true hb
      subst hb
      obtain ⟨⟨h0, h1⟩, rfl⟩ := hv
      simp only [VR] at hx
      obtain ⟨q, hq, hqs, ⟨_, _, rfl, _⟩ | ⟨hnl, htc, o, rfl, ho⟩⟩ := hx
      · exact absurd h1 (by simp; omega)
      · have ho : o = off * q.s := by
          rcases ho with ho | ho
          · exact ho
          · exact absurd h1 (by omega)
        subst ho
        refine ⟨_, run_indexSlice hu hs h0 h1, ?_⟩
        simp only [VR]
        exact ⟨q, hq, hnl, by rw [hqs, Nat.add_mul, Nat.add_zero]⟩
    · rename_i xs
      split at hv <;> try exact hv.elim
      rename_i hb
      have hb := Nat.eq_of_beq_eq_true hb
      subst hb
      obtain ⟨h0, y, hy, rfl⟩ := hv
      have hlt : i.toNat < xs.length := (List.getElem?_eq_some_iff.1 hy).1
      simp only [VR, VP] at hx
      rcases hx with ⟨rfl, _⟩ | ⟨b, o, c, arr, us, rfl, hc, h1, h2, h3⟩
      · simp at hlt
      · refine ⟨_, run_indexSlice hu hs h0 (by omega), ?_⟩
        obtain ⟨u, hu1, hu2⟩ := VPL_get h2 hy
        have hul : i.toNat < us.length := (List.getElem?_eq_some_iff.1 hu1).1
        simp only [VR, VP]
        refine ⟨b, _, arr, [u], rfl, h1, by simp only [VPL]; exact ⟨_, _, rfl, hu2, rfl⟩, ?_⟩
        have := h3.sub i.toNat 1 (by omega)
        rw [Nat.mul_one]
        rw [List.drop_eq_getElem_cons hul] at this
        have e : us[i.toNat] = u := by rw [List.getElem?_eq_getElem hul] at hu1; injection hu1
        simpa [e] using this
    · rename_i s' xss
      split at hv <;> try exact hv.elim
      rename_i hb
      have hb := Nat.eq_of_beq_eq_true hb
      subst hb
      obtain ⟨h0, cs, hy, rfl⟩ := hv
      have hlt : i.toNat < xss.length := (List.getElem?_eq_some_iff.1 hy).1
      simp only [VR, VP] at hx
      rcases hx with ⟨rfl, _⟩ | ⟨b, o, c, arr, us, rfl, hc, h1, h2, h3⟩
      · simp at hlt
      · refine ⟨_, run_indexSlice hu hs h0 (by omega), ?_⟩
        obtain ⟨g1, g2⟩ := VPLL_flat.1 h2
        obtain ⟨e1, e2⟩ := flatten_get g2 hy
        simp only [VR, VP]
        refine ⟨b, _, arr, (us.drop (i.toNat * s)).take s, rfl, h1, ?_, h3.sub _ _ ?_⟩
        · conv => arg 2; rw [e1]
          exact VPL_take _ (VPL_drop _ g1)
        · rw [VPL_length g1]; omega
  · rename_i n e hu
    split at hv <;> try exact hv.elim
    rename_i s hs
    split at hv <;> try exact hv.elim
    · rename_i m j f
      obtain ⟨⟨h0, h1⟩, rfl⟩ := hv
      simp only [VR] at hx
      obtain ⟨q, hq, hnl, rfl⟩ := hx
      exact ⟨_, run_indexArray hu hs h0 h1, by simp only [VR]; exact ⟨q, hq, hnl, by rw [Nat.add_assoc]⟩⟩
    · rename_i m j f
      obtain ⟨⟨h0, h1⟩, rfl⟩ := hv
      simp only [VR] at hx
      obtain ⟨q, hq, hnl, rfl⟩ := hx
      exact ⟨_, run_indexArray hu hs h0 h1, by simp only [VR]; exact ⟨q, hq, hnl, by rw [Nat.add_assoc]⟩⟩
    · rename_i cs
      obtain ⟨⟨h0, h1⟩, r, hr, rfl⟩ := hv
      simp only [VR] at hx
      have hx' := hx
      simp only [VP] at hx
      obtain ⟨b, o, arr, us, e, hx1, hx2, hx3⟩ := hx
      rw [e]
      refine ⟨_, run_indexArray hu hs h0 h1, ?_⟩
      simp only [VR]
      exact fp_sub hx' e hr (by omega)

theorem index_sound {t : TypeId} {x i : AV} {x' i' : Value} {v : AV} (hx : VR Γ x x') (hi : VR Γ i i') (hv : (popIndex P t x i).Yld v) : ∃ v', (Instr.index t x' i').run P w = .ok v' w ∧ VR Γ v v' := by
  unfold popIndex at hv
  split at hv <;> try exact hv.elim
  rename_i k i
  simp only [VR, VP] at hi
  subst hi
  split at hv <;> try exact hv.elim
  · rename_i hu
    split at hv <;> try exact hv.elim
    rename_i s
    simp only [VR, VP] at hx
    subst hx
    obtain ⟨h0, b, hb, rfl⟩ := hv
    refine ⟨.int .u8 (b.toNat : Int), ?_, by simp only [VR, VP]⟩
    have hlt : i.toNat < s.length := (List.getElem?_eq_some_iff.1 hb).1
    have hb' : (⟨⟨s⟩⟩ : ByteArray)[i.toNat]? = some b := by
      rw [getElem?_pos (⟨⟨s⟩⟩ : ByteArray) i.toNat hlt]
      rw [List.getElem?_eq_getElem hlt] at hb
      exact hb
    simp [Instr.index, asIntOf, run_underlying hu, h0, hb']
  · rename_i n e hu
    split at hv <;> try exact hv.elim
    rename_i s hs
    have go : ∀ (cs : List AV) (cs' : Array Value), VRL Γ cs cs'.toList → (0 ≤ i ∧ i < n) → ldIn P e cs (i.toNat * s) = some v → ∃ v', (Instr.index t (.agg cs') (.int k i)).run P w = .ok v' w ∧ VR Γ v v' := by
      intro cs cs' h1 ⟨h0, hn⟩ h2
      obtain ⟨v', h3, h4⟩ := part_cells (w := w) h1 h2
      exact ⟨v', by simp [Instr.index, asIntOf, run_underlying hu, h0, hn, run_szOf hs, h3], h4⟩
    split at hv <;> try exact hv.elim
    · rename_i cs
      simp only [VR, VP] at hx
      obtain ⟨cs', rfl, hcs⟩ := hx
      obtain ⟨hb, u, hl, rfl⟩ := hv
      exact go _ cs' (VRL_p.2 hcs) hb (by rw [ldIn_p, hl]; rfl)
    · rename_i cs
      simp only [VR] at hx
      obtain ⟨cs', rfl, hcs⟩ := hx
      exact go _ cs' hcs hv.1 hv.2

theorem bnd_some {lo : Option AV} {lo' : Option Value} {l : Option Int} (h : bnd lo = some l) (hr : ∀ v, lo = some v → ∃ v', lo' = some v' ∧ VR Γ v v') (hn : lo = none → lo' = none) :
    (lo' = none ∧ l = none) ∨ ∃ k x, lo' = some (.int k x) ∧ l = some x := by
  cases lo with
  | none => left; simp [bnd] at h; exact ⟨hn rfl, h.symm⟩
  | some v =>
    obtain ⟨v', h1, h2⟩ := hr v rfl
    cases v with
    | p x =>
      cases x <;> simp only [bnd, Option.some.injEq, reduceCtorEq] at h
      simp only [VR, VP] at h2
      subst h2; subst h
      exact .inr ⟨_, _, h1, rfl⟩
    | _ => simp [bnd] at h

theorem okSub_spec {n : Nat} {l h : Option Int} (hs : okSub n l h) : loN l ≤ hiN n h ∧ hiN n h ≤ n ∧ (∀ x, l = some x → 0 ≤ x) ∧ (∀ x, h = some x → 0 ≤ x) := by
  cases l <;> cases h <;> simp only [okSub] at hs <;> simp only [loN, hiN] <;>
    refine ⟨?_, ?_, ?_, ?_⟩ <;> first | omega | (intro x hx; injection hx with hx; omega) | (intro x hx; cases hx)
theorem sub_eq {α : Type} (s : List α) (l h : Option Int) : sub s l h = (s.drop (loN l)).take (hiN s.length h - loN l) := by
  cases l <;> cases h <;> simp [sub, loN, hiN]
  rw [List.take_of_length_le (by simp)]

theorem run_bounds (isSlice : Bool) {len cap : Nat} {lo hi : Option Value} {l h : Option Int} (hlo : (lo = none ∧ l = none) ∨ ∃ k x, lo = some (.int k x) ∧ l = some x) (hhi : (hi = none ∧ h = none) ∨ ∃ k x, hi = some (.int k x) ∧ h = some x)
    (hs : okSub len l h) (hc : len ≤ cap) : (Instr.sliceBounds isSlice len cap lo hi none).run P w = .ok (loN l, hiN len h, cap) w := by
  rcases hhi with ⟨rfl, rfl⟩ | ⟨k, x, rfl, rfl⟩ <;> rcases hlo with ⟨rfl, rfl⟩ | ⟨k', y, rfl, rfl⟩ <;> simp only [okSub] at hs
  · simp [Instr.sliceBounds, loN, hiN]
  · have h0 : 0 ≤ y := by omega
    have h1 : y ≤ (len : Int) := by omega
    simp [Instr.sliceBounds, Instr.sliceBound, asIntOf, h0, h1, loN, hiN]
  · have h0 : 0 ≤ x := by omega
    have h1 : x ≤ (cap : Int) := by omega
    simp [Instr.sliceBounds, Instr.sliceBound, asIntOf, h0, h1, loN, hiN]
  · have h0 : 0 ≤ y := by omega
    have h2 : x ≤ (cap : Int) := by omega
    have h3 : 0 ≤ x := by omega
    have h4 : y ≤ (x.toNat : Int) := by omega
    simp [Instr.sliceBounds, Instr.sliceBound, asIntOf, h0, h2, h3, h4, loN, hiN]
    intro hc
    exact absurd hc (by omega)

theorem extract_bytes (s : List UInt8) (a b : Nat) : (⟨⟨s⟩⟩ : ByteArray).extract a b = ⟨⟨(s.drop a).take (b - a)⟩⟩ := by
  apply ByteArray.ext
  rw [ByteArray.data_extract]
  simp [List.extract_eq_take_drop]

theorem run_sliceSlice {t e : TypeId} {s n c : Nat} {a : Option Addr} {lo hi : Option Value} {l h : Option Int} (hu : P.underlying t = some (.slice e)) (hs : szOf P e = some s)
    (hlo : (lo = none ∧ l = none) ∨ ∃ k x, lo = some (.int k x) ∧ l = some x) (hhi : (hi = none ∧ h = none) ∨ ∃ k x, hi = some (.int k x) ∧ h = some x) (ho : okSub n l h) (hc : n ≤ c) (ha : ∀ x, a = some x → x.spot = none) :
    ∃ a', (Instr.sliceAt t (.slice a n c) lo hi none).run P w = .ok (.slice a' (hiN n h - loN l) (c - loN l)) w ∧
      ((a = none ∧ a' = none) ∨ ∃ b o o', a = some ⟨b, o, none⟩ ∧ a' = some ⟨b, o', none⟩ ∧ (o' = o + loN l * s ∨ c = loN l)) := by
  have hb := run_bounds (P := P) (w := w) true (len := n) (cap := c) hlo hhi ho hc
  cases a with
  | none =>
    exact ⟨none, by simp [Instr.sliceAt, run_underlying hu, Instr.slice, hb, run_szOf hs], .inl ⟨rfl, rfl⟩⟩
  | some a =>
    obtain ⟨b, o, sp⟩ := a
    have := ha _ rfl
    simp only at this
    subst this
    by_cases hm : c = loN l
    · refine ⟨some ⟨b, o, none⟩, ?_, .inr ⟨b, o, o, rfl, rfl, .inr hm⟩⟩
      simp [Instr.sliceAt, run_underlying hu, Instr.slice, hb, run_szOf hs]
      simp [hm]
    · have e' := add_spot ⟨b, o, none⟩ rfl (loN l * s)
      refine ⟨some ⟨b, o + loN l * s, none⟩, ?_, .inr ⟨b, o, _, rfl, rfl, .inl rfl⟩⟩
      simp [Instr.sliceAt, run_underlying hu, Instr.slice, hb, run_szOf hs, hm, e']

theorem flatten_sub {α : Type} {s : Nat} : ∀ {xss : List (List α)}, (∀ cs ∈ xss, cs.length = s) → ∀ (k n : Nat), k ≤ xss.length → ((xss.drop k).take n).flatten = (xss.flatten.drop (k * s)).take (n * s)
  | [], _, k, n, h => by simp at h; subst h; simp
  | c :: xss, hs, 0, n, _ => by
    have hl := hs c (by simp)
    cases n with
    | zero => simp
    | succ n =>
      have := flatten_sub (fun c hc => hs c (by simp [hc])) 0 n (Nat.zero_le _) (xss := xss)
      simp only [List.drop_zero, Nat.zero_mul] at this
      simp only [List.drop_zero, List.take_succ_cons, List.flatten_cons, Nat.zero_mul, this]
      rw [List.take_append, show (n + 1) * s - c.length = n * s by rw [hl, Nat.succ_mul]; omega, List.take_of_length_le (l := c) (by rw [hl, Nat.succ_mul]; omega)]
  | c :: xss, hs, k + 1, n, h => by
    have hl := hs c (by simp)
    simp only [List.drop_succ_cons]
    rw [flatten_sub (fun c hc => hs c (by simp [hc])) k n (by simpa using h), List.flatten_cons]
    have e : (k + 1) * s = c.length + k * s := by rw [hl, Nat.succ_mul]; omega
    rw [e, List.drop_append, List.drop_eq_nil_of_le (as := c) (by omega), show c.length + k * s - c.length = k * s by omega]
    rfl

theorem run_slice0 {t e : TypeId} {s c : Nat} {a : Option Addr} {lo hi : Option Value} {l h : Option Int} (hu : P.underlying t = some (.slice e)) (hs : szOf P e = some s)
    (hlo : (lo = none ∧ l = none) ∨ ∃ k x, lo = some (.int k x) ∧ l = some x) (hhi : (hi = none ∧ h = none) ∨ ∃ k x, hi = some (.int k x) ∧ h = some x) (ho : okSub 0 l h) :
    (Instr.sliceAt t (.slice a 0 c) lo hi none).run P w = .ok (.slice a 0 c) w := by
  have hb := run_bounds (P := P) (w := w) true (len := 0) (cap := c) hlo hhi ho (Nat.zero_le _)
  obtain ⟨k1, k2, _⟩ := okSub_spec ho
  have e1 : loN l = 0 := by omega
  have e2 : hiN 0 h = 0 := by omega
  rw [e1, e2] at hb
  cases a with
  | none => simp [Instr.sliceAt, run_underlying hu, Instr.slice, hb, run_szOf hs]
  | some a =>
    simp [Instr.sliceAt, run_underlying hu, Instr.slice, hb, run_szOf hs, Addr.add]

theorem slice_sound {t : TypeId} {x : AV} {x' : Value} {v : AV} {lo hi mx : Option AV} {lo' hi' mx' : Option Value} (hx : VR Γ x x')
    (hlo : ∀ v, lo = some v → ∃ v', lo' = some v' ∧ VR Γ v v') (hlo0 : lo = none → lo' = none)
    (hhi : ∀ v, hi = some v → ∃ v', hi' = some v' ∧ VR Γ v v') (hhi0 : hi = none → hi' = none) (hmx0 : mx = none → mx' = none)
    (hv : (popSlice P t x lo hi mx).Yld v) : ∃ v', (Instr.sliceAt t x' lo' hi' mx').run P w = .ok v' w ∧ VR Γ v v' := by
  unfold popSlice at hv
  split at hv <;> try exact hv.elim
  have hm : mx' = none := hmx0 rfl
  subst hm
  split at hv <;> try exact hv.elim
  rename_i l h hl hh
  have hL := bnd_some hl hlo hlo0
  have hH := bnd_some hh hhi hhi0
  split at hv <;> try exact hv.elim
  · rename_i hu
    split at hv <;> try exact hv.elim
    rename_i s
    simp only [VR, VP] at hx
    subst hx
    obtain ⟨ho, rfl⟩ := hv
    have hb := run_bounds (P := P) (w := w) false (len := s.length) (cap := s.length) hL hH ho (Nat.le_refl _)
    refine ⟨.string ⟨⟨sub s l h⟩⟩, ?_, by simp only [VR, VP]⟩
    have hsz : (⟨⟨s⟩⟩ : ByteArray).size = s.length := rfl
    rw [sub_eq, ← extract_bytes]
    simp [Instr.sliceAt, run_underlying hu, Instr.slice, hsz, hb]
  · rename_i e hu
    split at hv <;> try exact hv.elim
    rename_i s hs
    split at hv <;> try exact hv.elim
    · rename_i n s' off len
      split at hv <;> try exact hv.elim
      rename_i hb
      have hb := Nat.eq_of_beq_eq_true hb
      subst hb
      obtain ⟨ho, rfl⟩ := hv
      obtain ⟨k1, k2, _⟩ := okSub_spec ho
      simp only [VR] at hx
      obtain ⟨q, hq, hqs, ⟨hnl, rfl, rfl, rfl⟩ | ⟨hnl, htc, o, rfl, ho'⟩⟩ := hx
      · obtain ⟨a', hr, ⟨_, rfl⟩ | ⟨_, _, _, e, _⟩⟩ := run_sliceSlice (w := w) (c := 0) (a := none) hu hs hL hH ho (Nat.le_refl _) (fun x e => by cases e)
        · refine ⟨_, hr, ?_⟩
          have e1 : hiN 0 h - loN l = 0 := by omega
          have e2 : loN l = 0 := by omega
          simp only [VR]
          rw [e1, e2]
          exact ⟨q, hq, hqs, .inl ⟨hnl, rfl, rfl, rfl⟩⟩
        · cases e
      · obtain ⟨a', hr, ⟨e, _⟩ | ⟨b, o1, o2, e, rfl, he⟩⟩ := run_sliceSlice (w := w) (a := some ⟨q.blk, o, none⟩) (c := q.tc - off) hu hs hL hH ho (by omega) (fun x e => by injection e with e; subst e; rfl)
        · cases e
        · injection e with e
          injection e with e1 e2
          subst e1; subst e2
          refine ⟨_, hr, ?_⟩
          simp only [VR]
          refine ⟨q, hq, hqs, .inr ⟨hnl, by omega, o2, by rw [Nat.sub_sub], ?_⟩⟩
          rcases he with he | he
          · rcases ho' with ho' | ho'
            · left; rw [he, ho', hqs, Nat.add_mul]
            · right; omega
          · right; omega
    · rename_i xs
      split at hv <;> try exact hv.elim
      rename_i hb
      have hb := Nat.eq_of_beq_eq_true hb
      subst hb
      obtain ⟨ho, rfl⟩ := hv
      obtain ⟨k1, k2, _⟩ := okSub_spec ho
      have hlen : (sub xs l h).length = hiN xs.length h - loN l := by rw [sub_eq]; simp; omega
      simp only [VR, VP] at hx
      rcases hx with ⟨rfl, a, c, rfl⟩ | ⟨b, o, c, arr, us, rfl, hc, h1, h2, h3⟩
      · refine ⟨_, run_slice0 hu hs hL hH ho, ?_⟩
        simp only [VR, VP]
        exact .inl ⟨List.eq_nil_of_length_eq_zero (by rw [hlen]; simp only [List.length_nil] at k2 ⊢; omega), a, c, rfl⟩
      · obtain ⟨a', hr, ⟨e, _⟩ | ⟨b', o1, o2, e, rfl, he⟩⟩ := run_sliceSlice (w := w) (a := some ⟨b, o, none⟩) (c := c) hu hs hL hH ho hc (fun x e => by injection e with e; subst e; rfl)
        · cases e
        · injection e with e
          injection e with e1 e2
          subst e1; subst e2
          refine ⟨_, hr, ?_⟩
          simp only [VR, VP]
          rcases Nat.eq_zero_or_pos (hiN xs.length h - loN l) with hz | hz
          · left
            exact ⟨List.eq_nil_of_length_eq_zero (by rw [hlen, hz]), _, _, by rw [hz]⟩
          · right
            have ho2 : o2 = o + loN l := by
              rcases he with he | he
              · simpa using he
              · omega
            subst ho2
            refine ⟨b, _, _, arr, (us.drop (loN l)).take (hiN xs.length h - loN l), by rw [hlen], by omega, h1, ?_, h3.sub _ _ (by rw [VPL_length h2]; omega)⟩
            rw [sub_eq]
            exact VPL_take _ (VPL_drop _ h2)
    · rename_i s' xss
      split at hv <;> try exact hv.elim
      rename_i hb
      have hb := Nat.eq_of_beq_eq_true hb
      subst hb
      obtain ⟨ho, rfl⟩ := hv
      obtain ⟨k1, k2, _⟩ := okSub_spec ho
      have hlen : (sub xss l h).length = hiN xss.length h - loN l := by rw [sub_eq]; simp; omega
      simp only [VR, VP] at hx
      rcases hx with ⟨rfl, a, c, rfl⟩ | ⟨b, o, c, arr, us, rfl, hc, h1, h2, h3⟩
      · refine ⟨_, run_slice0 hu hs hL hH ho, ?_⟩
        simp only [VR, VP]
        exact .inl ⟨List.eq_nil_of_length_eq_zero (by rw [hlen]; simp only [List.length_nil] at k2 ⊢; omega), a, c, rfl⟩
      · obtain ⟨a', hr, ⟨e, _⟩ | ⟨b', o1, o2, e, rfl, he⟩⟩ := run_sliceSlice (w := w) (a := some ⟨b, o, none⟩) (c := c) hu hs hL hH ho hc (fun x e => by injection e with e; subst e; rfl)
        · cases e
        · injection e with e
          injection e with e1 e2
          subst e1; subst e2
          refine ⟨_, hr, ?_⟩
          simp only [VR, VP]
          rcases Nat.eq_zero_or_pos (hiN xss.length h - loN l) with hz | hz
          · left
            exact ⟨List.eq_nil_of_length_eq_zero (by rw [hlen, hz]), _, _, by rw [hz]⟩
          · right
            have ho2 : o2 = o + loN l * s := by
              rcases he with he | he
              · exact he
              · omega
            subst ho2
            obtain ⟨g1, g2⟩ := VPLL_flat.1 h2
            have hmul : loN l * s ≤ xss.flatten.length := by
              have hfl : xss.flatten.length = xss.length * s := by
                clear hlen hz hr ho h2 g1 k1 k2 hc
                induction xss with
                | nil => simp
                | cons c xss ih =>
                  rw [List.flatten_cons, List.length_append, ih (fun c hc => g2 c (by simp [hc])), g2 c (by simp), List.length_cons, Nat.succ_mul]
                  omega
              rw [hfl]
              exact Nat.mul_le_mul_right _ (by omega)
            refine ⟨b, _, _, arr, (us.drop (loN l * s)).take ((hiN xss.length h - loN l) * s), by rw [hlen], by omega, h1, VPLL_flat.2 ⟨?_, ?_⟩, h3.sub _ _ (by rw [VPL_length g1]; exact hmul)⟩
            · rw [sub_eq, flatten_sub g2 _ _ (by omega)]
              exact VPL_take _ (VPL_drop _ g1)
            · intro cs hcs
              rw [sub_eq] at hcs
              exact g2 cs (List.mem_of_mem_drop (List.mem_of_mem_take hcs))
    · obtain ⟨ho, rfl⟩ := hv
      obtain ⟨k1, k2, _⟩ := okSub_spec ho
      simp only [VR, VP] at hx
      subst hx
      obtain ⟨a', hr, ⟨_, rfl⟩ | ⟨_, _, _, e, _⟩⟩ := run_sliceSlice (w := w) (c := 0) (a := none) hu hs hL hH ho (Nat.le_refl _) (fun x e => by cases e)
      · refine ⟨_, hr, ?_⟩
        have e1 : hiN 0 h - loN l = 0 := by omega
        simp only [VR, VP]
        rw [e1, Nat.zero_sub]
      · cases e
end
end Go.Proofs.YtemlkodkohgmmaaDoor.Y
