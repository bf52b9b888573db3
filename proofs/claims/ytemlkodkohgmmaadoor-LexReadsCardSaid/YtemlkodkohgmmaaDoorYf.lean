/- Operations that only compute or read: the rest, and all of them together. -/
import Derived.Test.YtemlkodkohgmmaaDoorYe
import Derived.Laws.BytesString
import Derived.Lib.Builder
namespace Go.Proofs.YtemlkodkohgmmaaDoor.Y
open Go

section
variable {P : Program} {Γ : Gm} {w : World}

theorem len_sound {t ty : TypeId} {x : AV} {x' : Value} {v : AV} (hx : VR Γ x x') (hv : (popLen P t x).Yld v) : ∃ v', (Builtin.len_ #[t] ty #[x']).run P w = .ok v' w ∧ VR Γ v v' := by
  have sl : ∀ {e : TypeId} {a : Option Addr} {n c : Nat}, P.underlying t = some (.slice e) → ∃ v', (Builtin.len_ #[t] ty #[.slice a n c]).run P w = .ok v' w ∧ VR Γ (vI .i64 n) v' := by
    intro e a n c hu
    exact ⟨.int .i64 n, by simp [Builtin.len_, run_underlying hu, goInt], by simp only [VR, VP]⟩
  unfold popLen at hv
  split at hv <;> try exact hv.elim
  · rename_i hu
    split at hv <;> try exact hv.elim
    rename_i s
    simp only [VR, VP] at hx
    simp only [PRes.Yld] at hv
    subst hx; subst hv
    have hsz : (⟨⟨s⟩⟩ : ByteArray).size = s.length := rfl
    exact ⟨.int .i64 s.length, by simp [Builtin.len_, run_underlying hu, goInt, hsz], by simp only [VR, VP]⟩
  · rename_i e hu
    split at hv <;> try exact hv.elim
    · simp only [PRes.Yld] at hv
      subst hv
      simp only [VR] at hx
      obtain ⟨q, hq, _, ⟨_, _, rfl, rfl⟩ | ⟨_, _, o, rfl, _⟩⟩ := hx
      · exact sl hu
      · exact sl hu
    · simp only [PRes.Yld] at hv
      subst hv
      simp only [VR, VP] at hx
      rcases hx with ⟨rfl, a, c, rfl⟩ | ⟨b, o, c, arr, us, rfl, _⟩
      · exact sl hu
      · exact sl hu
    · simp only [PRes.Yld] at hv
      subst hv
      simp only [VR, VP] at hx
      rcases hx with ⟨rfl, a, c, rfl⟩ | ⟨b, o, c, arr, us, rfl, _⟩
      · exact sl hu
      · exact sl hu
    · simp only [PRes.Yld] at hv
      subst hv
      simp only [VR, VP] at hx
      subst hx
      exact sl hu
  · rename_i n e hu
    simp only [PRes.Yld] at hv
    subst hv
    exact ⟨.int .i64 n, by simp [Builtin.len_, run_underlying hu, goInt], by simp only [VR, VP]⟩

theorem foldl_bytes : ∀ (l : List UInt8) (acc : ByteArray), (l.map fun b => (b.toNat : Int)).foldl (fun r n => r.push (UInt8.ofNat n.toNat)) acc = ⟨acc.data ++ ⟨l⟩⟩
  | [], acc => by cases acc; simp
  | b :: l, acc => by
    have hb : UInt8.ofNat (Int.toNat (b.toNat : Int)) = b := by simp
    simp only [List.map_cons, List.foldl_cons]
    rw [hb, foldl_bytes l]
    cases acc
    simp [ByteArray.push]

theorem VPL_ub {fz : Fzn} : ∀ {l : List UInt8} {us : List Value}, VPL fz (l.map ub) us → us = l.map fun b => .int .u8 (b.toNat : Int)
  | [], us, h => by simpa only [List.map_nil, VPL] using h
  | b :: l, us, h => by
    simp only [List.map_cons, VPL, ub, VP] at h
    obtain ⟨u, us', rfl, rfl, h⟩ := h
    rw [VPL_ub h]; rfl

theorem run_bytes {b o n c : Nat} {l : List UInt8} (hl : l.length = n) (h : ∀ (j : Nat) (u : Value), (l.map fun b => (Value.int .u8 (b.toNat : Int)))[j]? = some u → w.cell? ⟨b, o + j, none⟩ = some u) :
    (Conv.bytesToString (.slice (some ⟨b, o, none⟩) n c)).run P w = .ok (.string ⟨⟨l⟩⟩) w := by
  have h1 := run_loadN (P := P) b o (l.map fun b => (Value.int .u8 (b.toNat : Int))) h
  rw [List.length_map, hl] at h1
  have := run_bytesToString (P := P) w ⟨b, o, none⟩ n c (l.map fun b => (b.toNat : Int)) (by rw [h1]; simp [Function.comp_def])
  rw [this, foldl_bytes]
  simp

theorem strOf_sound {C : Cx} {H : Hp} (h : R C Γ H w) {x : AV} {x' : Value} {v : AV} (hx : VR Γ x x') (hv : (popStrOf x (lget H.l)).Yld v) : ∃ v', (Conv.bytesToString x').run C.P w = .ok v' w ∧ VR Γ v v' := by
  have emp : ∀ {a : Option Addr} {c : Nat}, (Conv.bytesToString (.slice a 0 c)).run C.P w = .ok (.string .empty) w := by
    intro a c
    cases a with
    | none => rfl
    | some a =>
      have := run_bytesToString (P := C.P) w a 0 c [] (by rfl)
      exact this
  unfold popStrOf at hv
  split at hv <;> try exact hv.elim
  · simp only [VR, VP] at hx
    simp only [PRes.Yld] at hv
    subst hx; subst hv
    exact ⟨_, emp, by simp only [VR, VP]; rfl⟩
  · rename_i xs
    obtain ⟨s, rfl, rfl⟩ := hv
    simp only [VR, VP] at hx
    rcases hx with ⟨e, a, c, rfl⟩ | ⟨b, o, c, arr, us, rfl, hc, h1, h2, h3⟩
    · have : s = [] := by simpa using e
      subst this
      exact ⟨_, emp, by simp only [VR, VP]; rfl⟩
    · have := VPL_ub h2
      subst this
      obtain ⟨t, z, hb⟩ := h.fzok b arr h1
      refine ⟨_, run_bytes (l := s) (by simp) fun j u hj => ?_, by simp only [VR, VP]⟩
      simp only [World.cell?, hb, Option.isSome_none, Bool.false_eq_true, if_false, List.getElem?_toArray]
      exact h3.get hj
  · rename_i n s off len
    split at hv <;> try exact hv.elim
    rename_i o ho hs
    have hs := Nat.eq_of_beq_eq_true hs
    subst hs
    split at hv <;> try exact hv.elim
    rename_i xs hoc
    obtain ⟨hle, l, hl, rfl⟩ := hv
    have hll : l.length = len := by
      have := congrArg List.length hl
      simp at this
      omega
    simp only [VR] at hx
    obtain ⟨q, hq, hqs, hsl⟩ := hx
    rcases hsl with ⟨hnl, rfl, rfl, rfl⟩ | ⟨hnl, htc, o', rfl, ho'⟩
    · have : l = [] := List.eq_nil_of_length_eq_zero hll
      subst this
      exact ⟨_, emp, by simp only [VR, VP]; rfl⟩
    · rcases Nat.eq_zero_or_pos len with h0 | h0
      · subst h0
        have : l = [] := List.eq_nil_of_length_eq_zero hll
        subst this
        exact ⟨_, emp, by simp only [VR, VP]; rfl⟩
      · obtain ⟨q', hq', hob⟩ := h.objs n o ho
        rw [hq] at hq'
        injection hq' with e
        subst e
        rcases (ObjR_cells (by rw [hoc]; rfl)).1 hob with ⟨e, _⟩ | ⟨_, us, rest, z, h1, h2, h3, h3', h4, h5, h6, h7, h8⟩
        · rw [hnl] at e; cases e
        · rw [hoc] at h5
          have h5 := VRL_p.1 h5
          have h5' := VPL_take len (VPL_drop off h5)
          rw [hl] at h5'
          have hus := VPL_ub h5'
          have ho2 : o' = off := by
            rcases ho' with e | e
            · rw [e, hqs]; simp
            · omega
          subst ho2
          refine ⟨_, run_bytes hll fun j u hj => ?_, by simp only [VR, VP]⟩
          rw [← hus, List.getElem?_take] at hj
          split at hj
          · rw [List.getElem?_drop] at hj
            exact cells_at h1 hj
          · cases hj

theorem cellsOf0 {C : Cx} {H : Hp} (h : R C Γ H w) {n : Nat} {o : AObj} {q : Pl} (hn : lget H.l n = some o) (hc : isCells o.c = true) (hq : Γ.nm n = some q) (hnl : q.nl = false) : CellsR C.P Γ w q o := by
  obtain ⟨q', e1, e2⟩ := h.objs n o hn
  rw [hq] at e1
  injection e1 with e1
  subst e1
  rcases (ObjR_cells hc).1 e2 with ⟨e, _⟩ | ⟨_, e⟩
  · rw [hnl] at e; cases e
  · exact e

theorem liesAt_self {P : Program} {u : TypeId} {z : Nat} (hc : P.cellsOf u = z + 1) : liesAt P P.depth u 1 0 u 1 = true := by
  have hd : P.depth = (2 * (P.types.size + Made.depth) + 1) + 1 := rfl
  rw [hd]
  simp only [liesAt, Bool.or_eq_true]
  left
  rw [hd]
  simp [rowAt, hc, sameLayout]

theorem conv_sound {C : Cx} {H : Hp} (h : R C Γ H w) {s d : TypeId} {x : AV} {x' : Value} {v : AV} (hx : VR Γ x x') (hv : (popConv C.P s d x (lget H.l)).Yld v) : ∃ v', (convert s d x').run C.P w = .ok v' w ∧ VR Γ v v' := by
  unfold popConv at hv
  split at hv <;> try exact hv.elim
  · rename_i a k hs hd
    split at hv <;> try exact hv.elim
    simp only [VR, VP] at hx
    simp only [PRes.Yld] at hv
    rename_i k' n
    subst hx; subst hv
    refine ⟨.int k (k.wrap n), ?_, by simp only [VR, VP]⟩
    cases a <;> simp [convert, run_underlying hs, run_underlying hd, Conv.intToInt]
  · rename_i a hs hd
    split at hv <;> try exact hv.elim
    · simp only [VR, VP] at hx
      simp only [PRes.Yld] at hv
      rename_i b
      subst hx; subst hv
      refine ⟨.string ⟨⟨b⟩⟩, ?_, by simp only [VR, VP]⟩
      cases a <;> simp [convert, run_underlying hs, run_underlying hd]
    · split at hv <;> try exact hv.elim
      rename_i hb
      unfold isBytes at hb
      split at hb <;> try (cases hb; done)
      rename_i e
      split at hb <;> try (cases hb; done)
      rename_i k he
      have hk : k = .u8 := by simpa using hb
      subst hk
      obtain ⟨v', h1, h2⟩ := strOf_sound h hx hv
      refine ⟨v', ?_, h2⟩
      have hsl : ∃ a n c, x' = .slice a n c := by
        unfold popStrOf at hv
        split at hv <;> try exact hv.elim
        · simp only [VR, VP] at hx; exact ⟨_, _, _, hx⟩
        · simp only [VR, VP] at hx
          rcases hx with ⟨_, _, _, rfl⟩ | ⟨_, _, _, _, _, rfl, _⟩ <;> exact ⟨_, _, _, rfl⟩
        · simp only [VR, SlR] at hx
          obtain ⟨_, _, _, ⟨_, _, _, rfl⟩ | ⟨_, _, _, rfl, _⟩⟩ := hx <;> exact ⟨_, _, _, rfl⟩
      obtain ⟨a, n, c, rfl⟩ := hsl
      simp [convert, run_underlying hs, run_underlying hd, run_underlying he, h1]
  · rename_i t hs hd
    split at hv <;> try exact hv.elim
    rename_i n i f
    split at hv <;> try exact hv.elim
    rename_i o z hi ho hz
    have hi := Nat.eq_of_beq_eq_true hi
    subst hi
    split at hv <;> try exact hv.elim
    rename_i cs hoc
    split at hv <;> try exact hv.elim
    rename_i hf
    have hf : f < cs.length := by simpa using hf
    simp only [PRes.Yld] at hv; subst hv
    have hx0 := hx
    simp only [VR] at hx
    obtain ⟨q, hq, hnl, rfl⟩ := hx
    obtain ⟨us, rest, zz, h1, h2, h3, h3', h4, h5, h6, h7, h8⟩ := cellsOf0 h ho (by rw [hoc]; rfl) hq hnl
    rw [hoc] at h5
    have hlu := VRL_length h5
    simp only [flat] at hlu
    obtain ⟨j, hj, hjs⟩ := szOf_info hz
    exact ⟨_, Lib.run_to_unsafe w _ hs hd hj (by rw [hjs]; simp) (by simp only [World.shape?, h1]; rfl) (by simp; omega), hx0⟩
  · rename_i u hs hd
    split at hv <;> try exact hv.elim
    rename_i n i f
    split at hv <;> try exact hv.elim
    rename_i o z hi ho hz
    simp only [Bool.and_eq_true] at hi
    have hi1 := Nat.eq_of_beq_eq_true hi.1
    have hi2 := Nat.eq_of_beq_eq_true hi.2
    subst hi1; subst hi2
    split at hv <;> try exact hv.elim
    rename_i cs hoc htu
    have htu := Nat.eq_of_beq_eq_true htu
    simp only [PRes.Yld] at hv; subst hv
    have hx0 := hx
    simp only [VR] at hx
    obtain ⟨q, hq, hnl, rfl⟩ := hx
    obtain ⟨us, rest, zz, h1, h2, h3, h3', h4, h5, h6, h7, h8⟩ := cellsOf0 h ho (by rw [hoc]; rfl) hq hnl
    rw [hoc] at h7
    obtain ⟨_, htc⟩ := h7
    obtain ⟨j, hj, hjs⟩ := szOf_info hz
    have hce : C.P.cellsOf u = z + 1 := by simp [Program.cellsOf, hj, hjs]
    have hqs : q.s = z + 1 := by
      rw [htu] at h3
      have := h3.symm.trans hz
      injection this
    refine ⟨_, Lib.run_from_unsafe w _ hs hd hj (by simp only [World.shape?, h1]; rfl) ?_, hx0⟩
    rw [htu, hce]
    have hn : (us ++ rest).toArray.size / (z + 1) = 1 := by
      rw [List.size_toArray, h4, htc, hqs]; simp
    rw [hn]
    simp only [Nat.zero_mul, Nat.add_zero]
    exact liesAt_self hce

theorem VR_bool {b : Bool} {v : Value} (h : VR Γ (vB b) v) : v = .bool b := by simpa only [VR, VP] using h
theorem VR_int {k : IntKind} {n : Int} {v : Value} (h : VR Γ (vI k n) v) : v = .int k n := by simpa only [VR, VP] using h

theorem VR_tup2 {a b : AV} {a' b' : Value} (ha : VR Γ a a') (hb : VR Γ b b') : VR Γ (.tup [a, b]) (.tuple #[a', b']) := by
  simp only [VR]
  exact ⟨_, rfl, by simp only [VRL]; exact ⟨_, _, rfl, ha, _, _, rfl, hb, rfl⟩⟩

theorem ifParts_sound {x : AV} {x' : Value} (hx : VR Γ x x') : (ifParts x = some none → x' = .nilIface) ∧ (∀ t v, ifParts x = some (some (t, v)) → ∃ u, x' = .iface t u ∧ VR Γ v u) := by
  cases x with
  | p x =>
    cases x <;> simp only [ifParts, reduceCtorEq, false_implies, implies_true, and_true, Option.some.injEq, Prod.mk.injEq, true_and, and_self, forall_const]
    · rintro t v ⟨rfl, rfl⟩
      simp only [VR, VP] at hx
      obtain ⟨u, h1, h2⟩ := hx
      exact ⟨u, h1, by simp only [VR]; exact h2⟩
    · simpa only [VR, VP] using hx
  | iface t v =>
    simp only [ifParts, reduceCtorEq, false_implies, Option.some.injEq, Prod.mk.injEq, true_and]
    rintro t v ⟨rfl, rfl⟩
    simpa only [VR] using hx
  | _ => simp [ifParts]

theorem assert_sound {x : AV} {x' : Value} {v : AV} {xt t : TypeId} {ok : Bool} (hx : VR Γ x x') (hv : (popAssert P x t ok).Yld v) : ∃ v', (Instr.typeAssert x' xt t ok).run P w = .ok v' w ∧ VR Γ v v' := by
  obtain ⟨hn, hi⟩ := ifParts_sound hx
  have hb (b : Bool) : VR Γ (vB b) (.bool b) := by simp only [VR, VP]
  unfold popAssert at hv
  split at hv <;> try exact hv.elim
  rename_i d hu
  split at hv <;> try exact hv.elim
  rename_i hc
  split at hv <;> try exact hv.elim
  · rename_i u y e
    obtain ⟨y', rfl, hy⟩ := hi _ _ e
    split at hv <;> try exact hv.elim
    · rename_i hbq
      simp only [PRes.Yld] at hv
      subst hv
      have hbq := Nat.eq_of_beq_eq_true hbq
      subst hbq
      refine ⟨.tuple #[y', .bool true], ?_, VR_tup2 hy (hb _)⟩
      cases d <;> first | (simp [conc] at hc; done) | simp [Instr.typeAssert, run_underlying hu]
    · rename_i z hbq hz
      simp only [PRes.Yld] at hv
      subst hv
      obtain ⟨z', hzr, hzc⟩ := run_zero hz w Γ
      have hbq : u ≠ t := by
        intro e; subst e
        simp at hbq
      refine ⟨.tuple #[z', .bool false], ?_, VR_tup2 hzc (hb _)⟩
      cases d <;> first | (simp [conc] at hc; done) | simp [Instr.typeAssert, run_underlying hu, hbq, hzr]
  · rename_i u y e
    obtain ⟨y', rfl, hy⟩ := hi _ _ e
    split at hv <;> try exact hv.elim
    rename_i hbq
    simp only [PRes.Yld] at hv
    subst hv
    have hbq := Nat.eq_of_beq_eq_true hbq
    subst hbq
    refine ⟨y', ?_, hy⟩
    cases d <;> first | (simp [conc] at hc; done) | simp [Instr.typeAssert, run_underlying hu]
  · rename_i e
    have := hn e
    subst this
    split at hv <;> try exact hv.elim
    rename_i z hz
    simp only [PRes.Yld] at hv
    subst hv
    obtain ⟨z', hzr, hzc⟩ := run_zero hz w Γ
    refine ⟨.tuple #[z', .bool false], ?_, VR_tup2 hzc (hb _)⟩
    cases d <;> first | (simp [conc] at hc; done) | simp [Instr.typeAssert, run_underlying hu, hzr]

theorem minI_sound {k : IntKind} : ∀ {l : List AV} {l' : List Value} {a m : Int}, VRL Γ l l' → minI a l = some m → (l'.foldlM Builtin.min2 (.int k a)).run P w = .ok (.int k m) w
  | [], _, a, m, h, hm => by
    simp only [VRL] at h
    subst h
    simp only [minI, Option.some.injEq] at hm
    subst hm
    rfl
  | v :: vs, _, a, m, h, hm => by
    simp only [VRL] at h
    obtain ⟨u, us, rfl, h1, h2⟩ := h
    cases v with
    | p v =>
      cases v <;> simp only [minI, reduceCtorEq] at hm
      simp only [VR, VP] at h1
      subst h1
      rw [List.foldlM_cons, Sem.run_bind]
      simp only [Builtin.min2, Sem.run_pure, Result.andThen_ok]
      exact minI_sound h2 hm
    | _ => simp [minI] at hm
theorem maxI_sound {k : IntKind} : ∀ {l : List AV} {l' : List Value} {a m : Int}, VRL Γ l l' → maxI a l = some m → (l'.foldlM Builtin.max2 (.int k a)).run P w = .ok (.int k m) w
  | [], _, a, m, h, hm => by
    simp only [VRL] at h
    subst h
    simp only [maxI, Option.some.injEq] at hm
    subst hm
    rfl
  | v :: vs, _, a, m, h, hm => by
    simp only [VRL] at h
    obtain ⟨u, us, rfl, h1, h2⟩ := h
    cases v with
    | p v =>
      cases v <;> simp only [maxI, reduceCtorEq] at hm
      simp only [VR, VP] at h1
      subst h1
      rw [List.foldlM_cons, Sem.run_bind]
      simp only [Builtin.max2, Sem.run_pure, Result.andThen_ok]
      exact maxI_sound h2 hm
    | _ => simp [maxI] at hm

/-! ### Building structs and arrays -/
def rCells : Value → List Value
  | .agg cs => cs.toList
  | v => [v]
theorem rCells_eq (v : Value) : v.cells.toList = rCells v := by cases v <;> rfl

theorem VP_notagg {fz : Fzn} {v : PV} {cs : Array Value} (h : VP fz v (.agg cs)) : ∃ l, v = .agg l := by
  cases v <;> simp [VP] at h
  exact ⟨_, rfl⟩
theorem VR_notagg {v : AV} {cs : Array Value} (h : VR Γ v (.agg cs)) : known v = false ∨ (∃ l, v = .agg l) ∨ ∃ l, v = .p (.agg l) := by
  cases v with
  | p v => simp only [VR] at h; obtain ⟨l, rfl⟩ := VP_notagg h; exact .inr (.inr ⟨l, rfl⟩)
  | agg l => exact .inr (.inl ⟨l, rfl⟩)
  | junk => exact .inl rfl
  | ptr => simp [VR, PtrR] at h
  | ptd => simp [VR, PtrR] at h
  | sl => simp [VR, SlR] at h
  | mp => simp [VR] at h
  | fn => simp [VR] at h
  | iface => simp [VR] at h
  | tup => simp [VR] at h
  | anyp => simp [VR] at h

theorem vCells_VR {v : AV} {v' : Value} (h : VR Γ v v') (hk : known v = true) : VRL Γ (vCells v) (rCells v') := by
  by_cases ha : ∃ cs, v' = .agg cs
  · obtain ⟨cs', rfl⟩ := ha
    rcases VR_notagg h with e | ⟨l, rfl⟩ | ⟨l, rfl⟩
    · rw [hk] at e; cases e
    · simp only [VR] at h
      obtain ⟨cs'', e, h2⟩ := h
      injection e with e
      subst e
      exact h2
    · simp only [VR, VP] at h
      obtain ⟨cs'', e, h2⟩ := h
      injection e with e
      subst e
      simp only [vCells, rCells]
      exact VRL_p.2 h2
  · have h2 : rCells v' = [v'] := by
      cases v' <;> first | rfl | exact absurd ⟨_, rfl⟩ ha
    have h1 : vCells v = [v] := by
      cases v with
      | p v =>
        cases v <;> first | rfl | skip
        simp only [VR, VP] at h
        obtain ⟨cs', e, _⟩ := h
        exact absurd ⟨_, e⟩ ha
      | agg l =>
        simp only [VR] at h
        obtain ⟨cs', e, _⟩ := h
        exact absurd ⟨_, e⟩ ha
      | _ => rfl
    rw [h1, h2]
    simp only [VRL]
    exact ⟨v', [], rfl, h, rfl⟩

theorem fill_spl (cells : Array Value) (off : Nat) : ∀ (vs : List Value) (k : Nat) (cs : Array Value), cs.toList = cells.toList →
    ((vs.zipIdx k).foldl (fun cs (c : Value × Nat) => cs.setIfInBounds (off + c.2) c.1) cs).toList = spl cells.toList (off + k) vs := by
  intro vs
  induction vs generalizing cells with
  | nil =>
    intro k cs h
    simp only [List.zipIdx_nil, List.foldl_nil, h]
    apply List.ext_getElem?
    intro i
    rw [spl_get]
    simp
    omega
  | cons v vs ih =>
    intro k cs h
    simp only [List.zipIdx_cons, List.foldl_cons]
    rw [ih (cs.setIfInBounds (off + k) v) (k + 1) _ rfl]
    have : (cs.setIfInBounds (off + k) v).toList = cells.toList.set (off + k) v := by simp [h]
    rw [this, show off + (k + 1) = off + k + 1 by omega, setList_spl]

theorem bld_sound {ev : Operand → AV} {ev' : Operand → Value} (hev : ∀ x, VR Γ (ev x) (ev' x)) {place : Nat → Option (Nat × Nat)} : ∀ (parts : List (Nat × Operand)) {cs : List AV} {cs' : Array Value} {r : List AV},
    (∀ p ∈ parts, known (ev p.2) = true) → VRL Γ cs cs'.toList → bld ev place cs parts = some r →
    ∃ r', Instr.fill place cs' (parts.map fun p => (p.1, ev' p.2)) = some r' ∧ VRL Γ r r'.toList
  | [], cs, cs', r, _, hc, hb => by
    simp only [bld, Option.some.injEq] at hb
    subst hb
    exact ⟨cs', rfl, hc⟩
  | (i, x) :: rest, cs, cs', r, hk, hc, hb => by
    simp only [bld] at hb
    split at hb
    · cases hb
    · rename_i off s hp
      split at hb
      · rename_i hcond
        simp only [Bool.and_eq_true] at hcond
        have h1 := Nat.eq_of_beq_eq_true hcond.1
        have h2 := Nat.le_of_ble_eq_true hcond.2
        have hx := vCells_VR (hev x) (hk (i, x) (by simp))
        have hlx := VRL_length hx
        have hlc := VRL_length hc
        have hlc' : cs'.size = cs.length := by simpa using hlc
        have hcx : (ev' x).cells.size = s := by
          have := rCells_eq (ev' x)
          rw [← Array.length_toList, this, hlx, h1]
        have hsp : VRL Γ (spl cs off (vCells (ev x))) (((ev' x).cells.zipIdx.foldl (fun cs (c : Value × Nat) => cs.setIfInBounds (off + c.2) c.1) cs')).toList := by
          have e : ((ev' x).cells.zipIdx.foldl (fun cs (c : Value × Nat) => cs.setIfInBounds (off + c.2) c.1) cs').toList = spl cs'.toList off (rCells (ev' x)) := by
            have := fill_spl cs' off (rCells (ev' x)) 0 cs' rfl
            rw [← rCells_eq] at this ⊢
            rw [← Array.foldl_toList, Array.toList_zipIdx]
            simpa using this
          rw [e]
          exact VRL_spl _ hc hx
        obtain ⟨r', h3, h4⟩ := bld_sound hev rest (fun p hp => hk p (by simp [hp])) hsp hb
        refine ⟨r', ?_, h4⟩
        simp only [List.map_cons, Instr.fill, hp]
        rw [if_neg (by simp [hcx]; omega)]
        exact h3
      · cases hb

theorem run_places : ∀ (fs : List Field), allSized P fs = true → (fs.mapM (fun (f : Field) => (Prod.mk f.offset <$> sizeOf f.type : Sem (Nat × Nat)))).run P w = .ok (fs.map fun f => (f.offset, (szOf P f.type).getD 0)) w
  | [], _ => rfl
  | f :: fs, h => by
    simp only [allSized, Bool.and_eq_true] at h
    obtain ⟨s, hs⟩ := Option.isSome_iff_exists.1 h.1
    have ih := run_places fs h.2
    rw [List.mapM_cons]
    simp [run_szOf hs, ih, hs]

theorem zero_cells {t : TypeId} {z : PV} (hz : zeroOf P t = some z) (w : World) : ∃ z', (zeroValue t).run P w = .ok z' w ∧ VRL Γ (vCells (.p z)) z'.cells.toList := by
  obtain ⟨z', hzr, hzc⟩ := run_zero hz w Γ
  exact ⟨z', hzr, by rw [rCells_eq]; exact vCells_VR hzc rfl⟩

theorem build_sound {t : TypeId} {parts : Array (Nat × Operand)} {ev : Operand → AV} {ev' : Operand → Value} (hev : ∀ x, VR Γ (ev x) (ev' x)) {v : AV} (hv : (popBuild P t parts.toList ev).Yld v) :
    ∃ v', (Instr.build t (parts.map fun p => (p.1, ev' p.2))).run P w = .ok v' w ∧ VR Γ v v' := by
  unfold popBuild at hv
  split at hv <;> try exact hv.elim
  · rename_i z fs hz hu hk
    obtain ⟨z', hzr, hz0⟩ := zero_cells (Γ := Γ) hz w
    split at hv <;> try exact hv.elim
    rename_i cs ha hb
    simp only [PRes.Yld] at hv
    subst hv
    have hk' : ∀ p ∈ parts.toList, known (ev p.2) = true := List.all_eq_true.1 hk
    obtain ⟨r', h1, h2⟩ := bld_sound (Γ := Γ) hev parts.toList hk' hz0 hb
    refine ⟨.agg r', ?_, VR_mkAgg.2 (by simp only [VR]; exact ⟨r', rfl, h2⟩)⟩
    have hpl : (fs.mapM (fun (f : Field) => (Prod.mk f.offset <$> sizeOf f.type : Sem (Nat × Nat)))).run P w = .ok (fs.map fun f => (f.offset, (szOf P f.type).getD 0)) w := by
      obtain ⟨fl⟩ := fs
      have := run_places (w := w) fl ha
      rw [List.mapM_toArray]
      simp [this]
    have hfill : Instr.fill ((fs.map fun f => (f.offset, (szOf P f.type).getD 0))[·]?) z'.cells (parts.map fun p => (p.1, ev' p.2)).toList = some r' := by
      have : ((fs.map fun f => (f.offset, (szOf P f.type).getD 0))[·]? : Nat → Option (Nat × Nat)) = structPlace P fs.toList := by
        funext i
        unfold structPlace
        rw [fnth_eq, Array.getElem?_map, ← Array.getElem?_toList (xs := fs)]
        cases hi : fs.toList[i]? with
        | none => rfl
        | some f =>
          simp only [Option.map_some]
          have hs : (szOf P f.type).isSome = true := by
            have hm : f ∈ fs.toList := List.mem_of_getElem? hi
            clear hb h1 hpl hi hu
            generalize fs.toList = fl at ha hm
            induction fl with
            | nil => simp at hm
            | cons g gs ih =>
              simp only [allSized, Bool.and_eq_true] at ha
              rcases List.mem_cons.1 hm with rfl | hm
              · exact ha.1
              · exact ih ha.2 hm
          obtain ⟨s, hs⟩ := Option.isSome_iff_exists.1 hs
          simp [hs]
      rw [this]
      simpa using h1
    simp only [Array.getElem?_map, Array.toList_map] at hfill
    simp [Instr.build, hzr, run_underlying hu, hpl, hfill]
  · rename_i z n e hz hu hk
    obtain ⟨z', hzr, hz0⟩ := zero_cells (Γ := Γ) hz w
    split at hv <;> try exact hv.elim
    rename_i s hs
    split at hv <;> try exact hv.elim
    rename_i cs hb
    simp only [PRes.Yld] at hv
    subst hv
    have hk' : ∀ p ∈ parts.toList, known (ev p.2) = true := List.all_eq_true.1 hk
    obtain ⟨r', h1, h2⟩ := bld_sound (Γ := Γ) hev parts.toList hk' hz0 hb
    refine ⟨.agg r', ?_, VR_mkAgg.2 (by simp only [VR]; exact ⟨r', rfl, h2⟩)⟩
    have hfill : Instr.fill (fun i => some (i * s, s)) z'.cells (parts.map fun p => (p.1, ev' p.2)).toList = some r' := by simpa using h1
    simp only [Array.toList_map] at hfill
    simp [Instr.build, hzr, run_underlying hu, run_szOf hs, hfill]

theorem kd_ptr {x : AV} {x' : Value} (h : VR Γ x x') (hk : kd x = .ptr) : ∃ a, x' = .pointer (some a) := by
  have := kd_sound h
  rw [hk] at this
  exact this

variable {C : Cx} {H : Hp}
theorem pop_sound (h : R C Γ H w) {ev : Operand → AV} {ev' : Operand → Value} (hev : ∀ x, VR Γ (ev x) (ev' x)) (o : Oper) {v : AV} (hv : (pop C.P o.op ev (lget H.l)).Yld v) :
    ∃ v', (execOp ev' o).run C.P w = .ok (.value v') w ∧ VR Γ v v' := by
  have lift : ∀ {s : Sem Value}, (∃ v', s.run C.P w = .ok v' w ∧ VR Γ v v') → ∃ v', (do pure (.value (← s)) : Sem Next).run C.P w = .ok (.value v') w ∧ VR Γ v v' := by
    rintro s ⟨v', h1, h2⟩
    exact ⟨v', by simp [h1], h2⟩
  obtain ⟨dst, op, type, pos, after, guard⟩ := o
  simp only at hv
  unfold pop at hv
  split at hv
  · rename_i x
    simp only [PRes.Yld] at hv; subst hv
    exact ⟨_, rfl, hev x⟩
  · rename_i x
    simp only [PRes.Yld] at hv; subst hv
    exact ⟨_, rfl, hev x⟩
  · rename_i c a b
    have hc := hev c
    split at hv
    · rename_i e
      rw [e] at hc
      have hc := VR_bool hc
      simp only [PRes.Yld] at hv; subst hv
      exact ⟨ev' a, by simp [execOp, hc, asBool], hev a⟩
    · rename_i e
      rw [e] at hc
      have hc := VR_bool hc
      simp only [PRes.Yld] at hv; subst hv
      exact ⟨ev' b, by simp [execOp, hc, asBool], hev b⟩
    · exact hv.elim
  · rename_i t a
    exact lift (load_sound h (hev a) hv)
  · rename_i x
    have hx := hev x
    split at hv
    · rename_i e
      obtain ⟨a, e'⟩ := kd_ptr hx e
      simp only [PRes.Yld] at hv; subst hv
      refine ⟨ev' x, ?_, hx⟩
      simp [execOp, e']
    · split at hv
      · rename_i f a b e
        rw [e] at hx
        simp only [PRes.Yld] at hv; subst hv
        refine ⟨ev' x, ?_, hx⟩
        simp only [VR, FR] at hx
        obtain ⟨fn', fs', cs', e', rfl, _⟩ := hx
        simp [execOp, e']
      · rename_i f a b e
        rw [e] at hx
        simp only [PRes.Yld] at hv; subst hv
        refine ⟨ev' x, ?_, hx⟩
        simp only [VR, VP] at hx
        obtain ⟨_, fs', cs', e', _⟩ := hx
        simp [execOp, e']
      · exact hv.elim
  · rename_i op t x y ty
    exact lift (bin_sound (hev x) (hev y) hv)
  · rename_i op t x
    have hx := hev x
    split at hv
    · rename_i b e
      rw [e] at hx
      have hx := VR_bool hx
      simp only [PRes.Yld] at hv; subst hv
      exact ⟨.bool (!b), by simp [execOp, hx, Op.unary], by simp only [VR, VP]⟩
    · rename_i k n e
      rw [e] at hx
      have hx := VR_int hx
      simp only [PRes.Yld] at hv; subst hv
      exact ⟨.int k (k.wrap (0 - n)), by simp [execOp, hx, Op.unary, Op.intArith], by simp only [VR, VP]⟩
    · exact hv.elim
  · rename_i s d x
    exact lift (conv_sound h (hev x) hv)
  · rename_i t x
    split at hv
    · exact hv.elim
    · rename_i d hnot hu
      simp only [PRes.Yld] at hv; subst hv
      refine lift ⟨.iface t (ev' x), ?_, VR_mkIf.2 (by simp only [VR]; exact ⟨_, rfl, hev x⟩)⟩
      cases d <;> first | (exact absurd rfl (hnot _)) | simp [Instr.makeInterface, run_underlying hu]
    · exact hv.elim
  · rename_i fn first cap
    split at hv
    · rename_i hny
      simp only [PRes.Yld] at hv; subst hv
      refine ⟨.func fn (first.map ev') (cap.map ev'), rfl, VR_mkFn.2 ?_⟩
      simp only [VR]
      refine ⟨fn, _, _, rfl, (FR_ok hny).2 rfl, ?_, ?_⟩
      · simpa using VRL_map hev first.toList
      · simpa using VRL_map hev cap.toList
    · exact hv.elim
  · exact lift (fieldAddr_sound (hev _) hv)
  · exact lift (field_sound (hev _) hv)
  · exact lift (indexAddr_sound (hev _) (hev _) hv)
  · exact lift (index_sound (hev _) (hev _) hv)
  · rename_i t x lo hi mx
    refine lift (slice_sound (hev x) ?_ ?_ ?_ ?_ ?_ hv)
    · intro v e; cases lo with
      | none => cases e
      | some z => injection e with e; subst e; exact ⟨_, rfl, hev z⟩
    · intro e; cases lo with
      | none => rfl
      | some z => cases e
    · intro v e; cases hi with
      | none => cases e
      | some z => injection e with e; subst e; exact ⟨_, rfl, hev z⟩
    · intro e; cases hi with
      | none => rfl
      | some z => cases e
    · intro e; cases mx with
      | none => rfl
      | some z => cases e
  · rename_i x i
    have hx := hev x
    split at hv <;> try exact hv.elim
    rename_i vs e
    rw [e] at hx
    simp only [VR] at hx
    obtain ⟨vs', e', hvs⟩ := hx
    unfold ofO at hv
    split at hv <;> try exact hv.elim
    rename_i u hu
    simp only [PRes.Yld] at hv; subst hv
    rw [nth_eq] at hu
    obtain ⟨u', h1, h2⟩ := VRL_get hvs hu
    refine lift ⟨u', ?_, h2⟩
    have h1' : vs'[i]? = some u' := by rw [← Array.getElem?_toList]; exact h1
    simp [e', Instr.extract, h1']
  · rename_i t parts
    exact lift (build_sound hev hv)
  · exact lift (assert_sound (hev _) hv)
  · rename_i b args argTypes
    obtain ⟨args⟩ := args
    obtain ⟨argTypes⟩ := argTypes
    simp only at hv
    split at hv
    · rename_i x t
      obtain ⟨v', h1, h2⟩ := len_sound (w := w) (ty := type) (hev x) hv
      refine ⟨v', ?_, h2⟩
      simp [execOp, resolve, invoke, builtin, h1]
    · rename_i x t
      have hx := hev x
      unfold popCap at hv
      split at hv <;> try exact hv.elim
      rename_i e hu
      split at hv <;> try exact hv.elim
      rename_i ex
      rw [ex] at hx
      simp only [VR, VP] at hx
      simp only [PRes.Yld] at hv; subst hv
      refine ⟨.int .i64 0, ?_, by simp only [VR, VP]⟩
      simp [execOp, resolve, invoke, builtin, Builtin.cap_, run_underlying hu, hx, goInt]
    · rename_i x r
      have hx := hev x
      split at hv <;> try exact hv.elim
      rename_i k a e
      rw [e] at hx
      have hx := VR_int hx
      split at hv <;> try exact hv.elim
      rename_i m hm
      simp only [PRes.Yld] at hv; subst hv
      have := minI_sound (P := C.P) (w := w) (k := k) (VRL_map hev r) hm
      refine ⟨.int k m, ?_, by simp only [VR, VP]⟩
      simp [execOp, resolve, invoke, builtin, Builtin.min_, hx, this]
    · rename_i x r
      have hx := hev x
      split at hv <;> try exact hv.elim
      rename_i k a e
      rw [e] at hx
      have hx := VR_int hx
      split at hv <;> try exact hv.elim
      rename_i m hm
      simp only [PRes.Yld] at hv; subst hv
      have := maxI_sound (P := C.P) (w := w) (k := k) (VRL_map hev r) hm
      refine ⟨.int k m, ?_, by simp only [VR, VP]⟩
      simp [execOp, resolve, invoke, builtin, Builtin.max_, hx, this]
    · exact hv.elim
  · exact hv.elim
end
end Go.Proofs.YtemlkodkohgmmaaDoor.Y
