/- Operations that only compute or read do in the world what they do on abstract values: loads, arithmetic, equality. -/
import Derived.Test.YtemlkodkohgmmaaDoorYc
import Derived.Laws.StructEq
import Derived.LaidEql
namespace Go.Proofs.YtemlkodkohgmmaaDoor.Y
open Go

section
variable {P : Program} {Γ : Gm} {w : World}

theorem szOf_info {t : TypeId} {s : Nat} (h : szOf P t = some s) : ∃ i, P.info? t = some i ∧ i.size = s := by
  unfold szOf at h
  cases hi : P.info? t with
  | none => rw [hi] at h; cases h
  | some i => rw [hi] at h; injection h with h; exact ⟨i, rfl, h⟩
theorem run_szOf {t : TypeId} {s : Nat} (h : szOf P t = some s) (w : World) : (sizeOf t).run P w = .ok s w := by
  obtain ⟨i, h1, h2⟩ := szOf_info h
  simp [sizeOf, typeInfo, program, Sem.run, h1, h2]
theorem zero_info {t : TypeId} {z : PV} (h : zeroOf P t = some z) : ∃ i z', P.info? t = some i ∧ i.zero = some z' ∧ absV z' = some z := by
  unfold zeroOf at h
  cases hi : P.info? t with
  | none => rw [hi] at h; cases h
  | some i =>
    rw [hi] at h
    simp only at h
    cases hz : i.zero with
    | none => rw [hz] at h; cases h
    | some z' => rw [hz] at h; exact ⟨i, z', rfl, hz, h⟩
theorem run_zero {t : TypeId} {z : PV} (h : zeroOf P t = some z) (w : World) (Γ : Gm) : ∃ z', (zeroValue t).run P w = .ok z' w ∧ VR Γ (.p z) z' := by
  obtain ⟨i, z', h1, h2, h3⟩ := zero_info h
  exact ⟨z', by simp [zeroValue, typeInfo, program, Sem.run, h1, h2], by simp only [VR]; exact VP_abs _ _ _ h3⟩
theorem run_isAgg {t : TypeId} {o : Option Nat} (h : aggSz P t = some o) (w : World) : (isAgg t).run P w = .ok o.isSome w ∧ ∀ s, o = some s → szOf P t = some s := by
  unfold aggSz at h
  cases hu : P.underlying t with
  | none => rw [hu] at h; cases h
  | some d =>
    rw [hu] at h
    have hr : (isAgg t).run P w = .ok (match d with | .struct _ | .array _ _ => true | _ => false) w := by
      unfold isAgg
      simp only [Sem.run_bind, run_underlying hu, Result.andThen_ok]
      cases d <;> rfl
    rw [hr]
    cases d <;> simp only [Option.map_eq_some_iff] at h <;>
      first
        | (obtain ⟨a, h1, rfl⟩ := h; exact ⟨rfl, fun s e => by injection e with e; rw [← e]; exact h1⟩)
        | (injection h with h; subst h; exact ⟨rfl, fun s e => by cases e⟩)

/-- A load, where the cells are known. -/
theorem load_cells {t : TypeId} {b o : Nat} {cs : List AV} {us : List Value} (hv : VRL Γ cs us) (hc : ∀ (j : Nat) (u : Value), us[j]? = some u → w.cell? ⟨b, o + j, none⟩ = some u) {f : Nat} {v : AV} (hl : ldIn P t cs f = some v) :
    ∃ v', (Instr.loadAt t (.pointer (some ⟨b, o + f, none⟩))).run P w = .ok v' w ∧ VR Γ v v' := by
  unfold ldIn at hl
  split at hl
  · rename_i s ht
    obtain ⟨hagg, hsz⟩ := run_isAgg ht w
    split at hl
    · rename_i r hg
      injection hl with hl
      subst hl
      obtain ⟨hr1, hr2, hr3⟩ := getN_some hg
      have hvr : VRL Γ r ((us.drop f).take s) := by rw [hr1]; exact VRL_take _ (VRL_drop _ hv)
      have hlen := VRL_length hvr
      have hrun := run_loadN (P := P) (w := w) b (o + f) ((us.drop f).take s) (fun j u hj => by
        rw [List.getElem?_take] at hj
        split at hj
        · rw [List.getElem?_drop] at hj
          rw [Nat.add_assoc]
          exact hc _ _ hj
        · cases hj)
      rw [hlen, hr2] at hrun
      refine ⟨.agg ⟨(us.drop f).take s⟩, ?_, VR_mkAgg.2 (by simp only [VR]; exact ⟨_, rfl, hvr⟩)⟩
      simp [Instr.loadAt, Instr.sureAddr, loadVar, hagg, run_szOf (hsz s rfl), hrun]
    · cases hl
  · rename_i ht
    obtain ⟨hagg, _⟩ := run_isAgg ht w
    rw [nth_eq] at hl
    obtain ⟨u', h1, h2⟩ := VRL_get hv hl
    refine ⟨u', ?_, h2⟩
    simp [Instr.loadAt, Instr.sureAddr, loadVar, hagg, load, Sem.run, hc _ _ h1]
  · cases hl

theorem getN0_map {α β : Type} (g : α → β) : ∀ (l : List α) (n : Nat), getN0 (l.map g) n = (getN0 l n).map (List.map g)
  | l, 0 => by simp [getN0]
  | [], n + 1 => by simp [getN0]
  | x :: l, n + 1 => by
    simp only [List.map_cons, getN0, getN0_map g l n]
    cases getN0 l n <;> simp
theorem getN_map {α β : Type} (g : α → β) : ∀ (l : List α) (k n : Nat), getN (l.map g) k n = (getN l k n).map (List.map g)
  | l, 0, n => getN0_map g l n
  | [], k + 1, n => by simp [getN]
  | x :: l, k + 1, n => by simp only [List.map_cons, getN, getN_map g l k n]
theorem nth_map {α β : Type} (g : α → β) (l : List α) (n : Nat) : nth (l.map g) n = (nth l n).map g := by
  rw [nth_eq, nth_eq, List.getElem?_map]
theorem allP_map : ∀ (l : List PV), allP (l.map .p) = some l
  | [] => rfl
  | x :: l => by simp [allP, allP_map l]
theorem ldIn_p {t : TypeId} {cs : List PV} {f : Nat} : ldIn P t (cs.map .p) f = (ldInP P t cs f).map .p := by
  unfold ldIn ldInP
  split
  · rw [getN_map]
    cases getN cs _ _ <;> simp [mkAgg, allP_map]
  · rw [nth_map]
  · rfl

theorem cells_at {us rest : List Value} {b : Nat} {t : TypeId} {z : Nat × Nat} (h : w.heap[b]? = some (.cells ⟨us ++ rest⟩ t z)) {j : Nat} {u : Value} (hj : us[j]? = some u) : w.cell? ⟨b, j, none⟩ = some u := by
  have hl : j < us.length := (List.getElem?_eq_some_iff.1 hj).1
  simp only [World.cell?, h, Option.isSome_none, Bool.false_eq_true, if_false, List.getElem?_toArray]
  rw [List.getElem?_append_left hl]; exact hj

theorem flatten_get {α : Type} {s : Nat} : ∀ {xss : List (List α)}, (∀ cs ∈ xss, cs.length = s) → ∀ {i : Nat} {cs : List α}, xss[i]? = some cs → cs = (xss.flatten.drop (i * s)).take s ∧ i * s + s ≤ xss.flatten.length
  | [], _, i, cs, h => by simp at h
  | c :: xss, hs, 0, cs, h => by
    simp only [List.getElem?_cons_zero, Option.some.injEq] at h
    subst h
    have hl := hs c (by simp)
    simp [← hl]
  | c :: xss, hs, i + 1, cs, h => by
    simp only [List.getElem?_cons_succ] at h
    obtain ⟨h1, h2⟩ := flatten_get (fun c hc => hs c (by simp [hc])) h
    have hl := hs c (by simp)
    have e : (i + 1) * s = c.length + i * s := by rw [hl, Nat.succ_mul]; omega
    refine ⟨?_, ?_⟩
    · rw [List.flatten_cons, e, List.drop_append, List.drop_eq_nil_of_le (by omega)]
      simpa using h1
    · rw [List.flatten_cons, List.length_append, e]
      omega

variable {C : Cx} {H : Hp}

theorem load_sound (h : R C Γ H w) {t : TypeId} {x : AV} {x' : Value} {v : AV} (hx : VR Γ x x') (hy : (popLoad C.P t x (lget H.l)).Yld v) :
    ∃ v', (Instr.loadAt t x').run C.P w = .ok v' w ∧ VR Γ v v' := by
  have cell : ∀ {n : Nat} {o : AObj} {q : Pl}, lget H.l n = some o → isCells o.c = true → Γ.nm n = some q → q.nl = false → CellsR C.P Γ w q o := by
    intro n o q hn hc hq hnl
    obtain ⟨q', hq', ho⟩ := h.objs n o hn
    rw [hq] at hq'
    injection hq' with e
    subst e
    rcases (ObjR_cells hc).1 ho with ⟨e, _⟩ | ⟨_, e⟩
    · rw [hnl] at e; cases e
    · exact e
  unfold popLoad at hy
  split at hy
  · rename_i n i f
    simp only [VR] at hx
    obtain ⟨q, hq, hnl, rfl⟩ := hx
    split at hy <;> try exact hy.elim
    rename_i o ho
    split at hy <;> try exact hy.elim
    · rename_i cs hc
      obtain ⟨us, rest, z, h1, h2, h3, h3', h4, h5, h6, h7, _⟩ := cell ho (by rw [hc]; rfl) hq hnl
      rw [hc] at h5
      split at hy <;> try exact hy.elim
      rename_i u hi hl
      have hi := Nat.eq_of_beq_eq_true hi
      subst hi
      simp only [PRes.Yld] at hy
      subst hy
      have := load_cells (P := C.P) (w := w) (b := q.blk) (o := 0) h5 (fun j u hj => by rw [Nat.zero_add]; exact cells_at h1 hj) hl
      simpa using this
    · rename_i xs hc
      obtain ⟨us, rest, z, h1, h2, h3, h3', h4, h5, h6, h7, _⟩ := cell ho (by rw [hc]; rfl) hq hnl
      rw [hc] at h5 h7
      simp only [Sized] at h7
      split at hy <;> try exact hy.elim
      rename_i hf ht
      have hf := Nat.eq_of_beq_eq_true hf
      subst hf
      obtain ⟨x, hx, rfl⟩ := hy
      have hl : ldIn C.P t (flat (.pu xs)) i = some (.p x) := by
        simp only [ldIn, ht, flat]
        rw [nth_eq, List.getElem?_map, hx]
        rfl
      have := load_cells (P := C.P) (w := w) (b := q.blk) (o := 0) h5 (fun j u hj => by rw [Nat.zero_add]; exact cells_at h1 hj) hl
      simpa [h7] using this
    · rename_i xss hc
      obtain ⟨us, rest, z, h1, h2, h3, h3', h4, h5, h6, h7, _⟩ := cell ho (by rw [hc]; rfl) hq hnl
      rw [hc] at h5 h7
      simp only [Sized] at h7
      obtain ⟨cs, x, hx, hl, rfl⟩ := hy
      obtain ⟨e1, e2⟩ := flatten_get h7 hx
      have hcs : VRL Γ (cs.map .p) ((us.drop (i * q.s)).take q.s) := by
        have : cs.map AV.p = ((flat (.pus xss)).drop (i * q.s)).take q.s := by
          conv => lhs; rw [e1]
          simp only [flat]
          rw [← List.map_drop, ← List.map_take]
        rw [this]
        exact VRL_take _ (VRL_drop _ h5)
      have hl' : ldIn C.P t (cs.map .p) f = some (.p x) := by rw [ldIn_p, hl]; rfl
      exact load_cells (P := C.P) (w := w) (b := q.blk) (o := i * q.s) hcs (fun j u hj => by
        rw [List.getElem?_take] at hj
        split at hj
        · rw [List.getElem?_drop] at hj
          exact cells_at h1 hj
        · cases hj) hl'
    · rename_i xs hc
      obtain ⟨us, rest, z, h1, h2, h3, h3', h4, h5, h6, h7, _⟩ := cell ho (by rw [hc]; rfl) hq hnl
      rw [hc] at h5 h7
      simp only [Sized] at h7
      split at hy <;> try exact hy.elim
      rename_i x hf ht hx
      have hf := Nat.eq_of_beq_eq_true hf
      subst hf
      simp only [PRes.Yld] at hy
      subst hy
      have hl : ldIn C.P t (flat (.mx xs)) i = some v := by simp only [ldIn, ht, flat]; exact hx
      have := load_cells (P := C.P) (w := w) (b := q.blk) (o := 0) h5 (fun j u hj => by rw [Nat.zero_add]; exact cells_at h1 hj) hl
      simpa [h7] using this
  · rename_i n i f
    simp only [VR] at hx
    obtain ⟨q, hq, hnl, rfl⟩ := hx
    split at hy <;> try exact hy.elim
    rename_i o ho
    split at hy <;> try exact hy.elim
    rename_i cs hc
    obtain ⟨us, rest, z, h1, h2, h3, h3', h4, h5, h6, h7, _⟩ := cell ho (by rw [hc]; rfl) hq hnl
    rw [hc] at h5
    split at hy <;> try exact hy.elim
    rename_i hi
    have hi := Nat.eq_of_beq_eq_true hi
    subst hi
    simp only [PRes.Yld] at hy
    have := load_cells (P := C.P) (w := w) (b := q.blk) (o := 0) h5 (fun j u hj => by rw [Nat.zero_add]; exact cells_at h1 hj) hy
    simpa using this
  · rename_i cs
    simp only [VR, VP] at hx
    obtain ⟨b, o, arr, us, rfl, hfz, hus, hseg⟩ := hx
    split at hy <;> try exact hy.elim
    rename_i x hl
    simp only [PRes.Yld] at hy
    subst hy
    obtain ⟨t', z, hb⟩ := h.fzok b arr hfz
    have hl' : ldIn C.P t (cs.map .p) 0 = some (.p x) := by rw [ldIn_p, hl]; rfl
    have := load_cells (P := C.P) (w := w) (b := b) (o := o) (VRL_p.2 hus) (fun j u hj => by
      have := hseg.get hj
      simp only [World.cell?, hb, Option.isSome_none, Bool.false_eq_true, if_false, List.getElem?_toArray]
      exact this) hl'
    simpa using this
  · exact hy.elim

theorem str_inj {a b : List UInt8} : ((⟨⟨a⟩⟩ : ByteArray).toList == (⟨⟨b⟩⟩ : ByteArray).toList) = decide (a = b) := by
  rw [ByteArray.toList_mk, ByteArray.toList_mk, Bool.eq_iff_iff]
  simp

theorem int_sound {op : BinOp} {k : IntKind} {t : TypeId} {a b : Int} {v : AV} (hy : (popInt op k a b).Yld v) :
    ∃ v', (binOp op t (.int k a) (.int k b)).run P w = .ok v' w ∧ VR Γ v v' := by
  cases op <;> simp only [popInt, PRes.Yld] at hy <;> try exact hy.elim
  all_goals simp only [binOp, ne_eq, not_true_eq_false, if_false, Op.intArith, Op.intDiv, Op.intBits, Op.intCmp]
  all_goals
    first
      | (subst hy; exact ⟨_, rfl, by simp only [VR, VP]⟩)
      | (obtain ⟨hc, rfl⟩ := hy; rw [if_neg hc]; exact ⟨_, rfl, by simp only [VR, VP]⟩)
      | (rcases hy with ⟨hc, rfl⟩ | ⟨hc, rfl⟩ <;> exact ⟨_, rfl, by simp [VR, VP, hc, bne]⟩)

theorem append_bytes (a b : List UInt8) : (⟨⟨a⟩⟩ : ByteArray) ++ ⟨⟨b⟩⟩ = ⟨⟨a ++ b⟩⟩ := by
  apply ByteArray.ext
  rw [ByteArray.data_append]
  simp

theorem str_sound {op : BinOp} {t : TypeId} {a b : List UInt8} {v : AV} (hy : (popStr op a b).Yld v) :
    ∃ v', (binOp op t (.string ⟨⟨a⟩⟩) (.string ⟨⟨b⟩⟩)).run P w = .ok v' w ∧ VR Γ v v' := by
  have hsa : (⟨⟨a⟩⟩ : ByteArray).size = a.length := rfl
  have hsb : (⟨⟨b⟩⟩ : ByteArray).size = b.length := rfl
  cases op <;> simp only [popStr, PRes.Yld] at hy <;> try exact hy.elim
  all_goals simp only [binOp, Op.stringOp, str_inj]
  all_goals try simp only [ByteArray.toList_mk]
  all_goals
    first
      | (obtain ⟨hc, rfl⟩ := hy; rw [if_neg (by rw [show IntKind.i64.max = 9223372036854775807 from rfl, hsa, hsb]; omega)]; exact ⟨_, rfl, by simp only [VR, VP, append_bytes]⟩)
      | (rcases hy with ⟨hc, rfl⟩ | ⟨hc, rfl⟩ <;> refine ⟨_, rfl, ?_⟩ <;> simp only [VR, VP, Value.bool.injEq] <;> (first | (simp_all; done) | (rcases hc with hc | hc <;> simp_all)))

/-! ### Equality -/
/-- The real value of a scalar. -/
def real : PV → Value
  | .int k n => .int k n
  | .str s => .string ⟨⟨s⟩⟩
  | .bool b => .bool b
  | _ => undef
theorem sameKind_real {fz : Fzn} {x y : PV} {x' y' : Value} (hs : sameKind x y = true) (hx : VP fz x x') (hy : VP fz y y') : x' = real x ∧ y' = real y := by
  unfold sameKind at hs
  split at hs <;> first | (exact absurd hs (by decide)) | (simp only [VP] at hx hy; exact ⟨hx, hy⟩)
theorem sameKinds_real {fz : Fzn} : ∀ {xs ys : List PV} {xs' ys' : List Value}, sameKinds xs ys = true → VPL fz xs xs' → VPL fz ys ys' → xs' = xs.map real ∧ ys' = ys.map real
  | [], [], _, _, _, hx, hy => by simp only [VPL] at hx hy; exact ⟨hx, hy⟩
  | x :: xs, y :: ys, _, _, hs, hx, hy => by
    simp only [sameKinds, Bool.and_eq_true] at hs
    simp only [VPL] at hx hy
    obtain ⟨u, us, rfl, h1, h2⟩ := hx
    obtain ⟨v, vs, rfl, h3, h4⟩ := hy
    obtain ⟨rfl, rfl⟩ := sameKind_real hs.1 h1 h3
    obtain ⟨rfl, rfl⟩ := sameKinds_real hs.2 h2 h4
    exact ⟨rfl, rfl⟩
  | [], _ :: _, _, _, hs, _, _ => by simp [sameKinds] at hs
  | _ :: _, [], _, _, hs, _, _ => by simp [sameKinds] at hs

theorem fits_int {t : TypeId} {k : IntKind} {a : Int} (h : fits P t (.int k a) = true) : ∃ k', P.underlying t = some (.int k') := by
  simp only [fits] at h
  split at h
  · exact ⟨_, by assumption⟩
  · cases h
theorem fits_string {t : TypeId} {a : List UInt8} (h : fits P t (.str a) = true) : P.underlying t = some .string := by
  simp only [fits] at h
  split at h
  · assumption
  · cases h
theorem fits_bool {t : TypeId} {a : Bool} (h : fits P t (.bool a) = true) : P.underlying t = some .bool := by
  simp only [fits] at h
  split at h
  · assumption
  · cases h
theorem fits_kind {t : TypeId} {x : PV} (h : fits P t x = true) : (∃ k a, x = .int k a) ∨ (∃ a, x = .str a) ∨ (∃ a, x = .bool a) := by
  unfold fits at h
  split at h
  · exact .inr (.inl ⟨_, rfl⟩)
  · exact .inl ⟨_, _, rfl⟩
  · exact .inr (.inr ⟨_, rfl⟩)
  · cases h

theorem run_part_fit {t : TypeId} {x : PV} (hf : fits P t x = true) {cs : Array Value} {n : Nat} (hv : cs[n]? = some (real x)) : (part t cs n).run P w = .ok (real x) w := by
  have ha : (isAgg t).run P w = .ok false w := by
    unfold isAgg
    rcases fits_kind hf with ⟨k, a, rfl⟩ | ⟨a, rfl⟩ | ⟨a, rfl⟩
    · obtain ⟨k', hu⟩ := fits_int hf
      simp only [Sem.run_bind, run_underlying hu, Result.andThen_ok]; rfl
    · simp only [Sem.run_bind, run_underlying (fits_string hf), Result.andThen_ok]; rfl
    · simp only [Sem.run_bind, run_underlying (fits_bool hf), Result.andThen_ok]; rfl
  unfold part
  simp [ha, hv]

theorem run_eqFit {t : TypeId} {x y : PV} (hf : fits P t x = true) (hs : sameKind x y = true) (d : Nat) : ∃ b, (Op.equalIn (d + 1) t (real x) (real y)).run P w = .ok b w ∧ (b = true ↔ x = y) := by
  rcases fits_kind hf with ⟨k, a, rfl⟩ | ⟨a, rfl⟩ | ⟨a, rfl⟩
  · cases y <;> try (simp [sameKind] at hs; done)
    rename_i k' b
    simp only [sameKind, beq_iff_eq] at hs
    subst hs
    obtain ⟨k', hu⟩ := fits_int hf
    exact ⟨a == b, by simp [real, Op.equalIn, run_underlying hu], by simp⟩
  · cases y <;> try (simp [sameKind] at hs; done)
    rename_i b
    have hu := fits_string hf
    exact ⟨(⟨⟨a⟩⟩ : ByteArray).toList == (⟨⟨b⟩⟩ : ByteArray).toList, by simp [real, Op.equalIn, run_underlying hu, beq_toListBytes], by simp [str_inj]⟩
  · cases y <;> try (simp [sameKind] at hs; done)
    rename_i b
    have hu := fits_bool hf
    exact ⟨a == b, by simp [real, Op.equalIn, run_underlying hu], by simp⟩

theorem run_eqFields : ∀ (fs : List Field) (xs ys : List PV) (pre pre' : List Value), pre'.length = pre.length → fitAll P fs xs pre.length = true → sameKinds xs ys = true → ∀ (d : Nat),
    ∃ b, (Op.eqFields (d + 1) ⟨pre ++ xs.map real⟩ ⟨pre' ++ ys.map real⟩ fs).run P w = .ok b w ∧ (b = true ↔ xs = ys)
  | [], [], [], _, _, _, _, _, d => ⟨true, by simp [Op.eqFields], by simp⟩
  | [], [], _ :: _, _, _, _, _, hs, d => by simp [sameKinds] at hs
  | [], _ :: _, _, _, _, _, hf, _, d => by simp [fitAll] at hf
  | _ :: _, [], _, _, _, _, hf, _, d => by simp [fitAll] at hf
  | f :: fs, x :: xs, [], _, _, _, _, hs, d => by simp [sameKinds] at hs
  | f :: fs, x :: xs, y :: ys, pre, pre', hl, hf, hs, d => by
    simp only [fitAll, Bool.and_eq_true, bne_iff_ne, ne_eq] at hf
    obtain ⟨⟨⟨h1, h2⟩, h3⟩, h4⟩ := hf
    have h1 := Nat.eq_of_beq_eq_true h1
    simp only [sameKinds, Bool.and_eq_true] at hs
    obtain ⟨b, hb, hbx⟩ := run_eqFit (w := w) h3 hs.1 d
    have hpx : (part f.type ⟨pre ++ (x :: xs).map real⟩ f.offset).run P w = .ok (real x) w := run_part_fit h3 (by rw [h1]; simp)
    have hfy : fits P f.type y = true := by
      rcases fits_kind h3 with ⟨k, a, rfl⟩ | ⟨a, rfl⟩ | ⟨a, rfl⟩
      · cases y <;> try (simp [sameKind] at hs; done)
        obtain ⟨k', hu⟩ := fits_int h3
        simp [fits, hu]
      · cases y <;> try (simp [sameKind] at hs; done)
        simp [fits, fits_string h3]
      · cases y <;> try (simp [sameKind] at hs; done)
        simp [fits, fits_bool h3]
    have hpy : (part f.type ⟨pre' ++ (y :: ys).map real⟩ f.offset).run P w = .ok (real y) w := run_part_fit hfy (by rw [h1, ← hl]; simp)
    obtain ⟨b', hb', hbx'⟩ := run_eqFields fs xs ys (pre ++ [real x]) (pre' ++ [real y]) (by simp [hl]) (by simpa using h4) hs.2 d
    simp only [List.append_assoc, List.singleton_append] at hb'
    simp only [List.map_cons] at hpx hpy ⊢
    cases b with
    | true =>
      refine ⟨b', ?_, ?_⟩
      · simp [Op.eqFields, h2, hpx, hpy, hb, hb']
      · rw [hbx']; simp [hbx.1 rfl]
    | false =>
      refine ⟨false, ?_, ?_⟩
      · simp [Op.eqFields, h2, hpx, hpy, hb]
      · simp
        intro e
        have := hbx.2 e
        simp at this

def eqKind : Value → Bool
  | .bool _ | .pointer _ | .nilIface | .iface _ _ | .agg _ => true
  | _ => false
def plainPair : Value → Value → Bool
  | .nilIface, .nilIface => false
  | .agg _, .agg _ => false
  | _, _ => true
theorem run_eqlVals (t : TypeId) {x y : Value} {b : Bool} (h : (Op.equalIn 10000 t x y).run P w = .ok b w) (hk : eqKind x = true) :
    (binOp .eql t x y).run P w = .ok (.bool b) w ∧ (binOp .neq t x y).run P w = .ok (.bool (!b)) w := by
  constructor <;> cases x <;> first | (simp [eqKind] at hk; done) | simp [binOp, Op.equal, Op.maxDepth, h]

theorem guard_plain (op : BinOp) (t : TypeId) (X Y : Operand) {x y : Value} (h : plainPair x y = true) : (eqGuard op t X Y x y).run P w = .ok () w := by
  cases op <;> simp only [eqGuard, Bool.not_true, Bool.not_false, Bool.false_eq_true, if_false, if_true]
  all_goals first | rfl | (split <;> first | (simp [plainPair] at h; done) | rfl)

section
variable (d : Nat) {t e : TypeId} {ms : Array (String × TypeId)}
theorem eqi_bool (a b : Bool) (hu : P.underlying t = some .bool) : (Op.equalIn (d + 1) t (.bool a) (.bool b)).run P w = .ok (a == b) w := by simp [Op.equalIn, run_underlying hu]
theorem eqi_nn (hu : P.underlying t = some (.pointer e)) : (Op.equalIn (d + 1) t (.pointer none) (.pointer none)).run P w = .ok true w := by simp [Op.equalIn, run_underlying hu]
theorem eqi_sn (a : Addr) (hu : P.underlying t = some (.pointer e)) : (Op.equalIn (d + 1) t (.pointer (some a)) (.pointer none)).run P w = .ok false w := by simp [Op.equalIn, run_underlying hu]
theorem eqi_ns (a : Addr) (hu : P.underlying t = some (.pointer e)) : (Op.equalIn (d + 1) t (.pointer none) (.pointer (some a))).run P w = .ok false w := by simp [Op.equalIn, run_underlying hu]
theorem eqi_inn (hu : P.underlying t = some (.interface ms)) : (Op.equalIn (d + 1) t .nilIface .nilIface).run P w = .ok true w := by simp [Op.equalIn, run_underlying hu]
theorem eqi_isn (u : TypeId) (x : Value) (hu : P.underlying t = some (.interface ms)) : (Op.equalIn (d + 1) t (.iface u x) .nilIface).run P w = .ok false w := by simp [Op.equalIn, run_underlying hu]
theorem eqi_ins (u : TypeId) (x : Value) (hu : P.underlying t = some (.interface ms)) : (Op.equalIn (d + 1) t .nilIface (.iface u x)).run P w = .ok false w := by simp [Op.equalIn, run_underlying hu]
end

theorem eqi_same {P : Program} {w : World} {t e : TypeId} (d : Nat) (a : Addr) {s : Nat} (hu : P.underlying t = some (.pointer e)) (hs : szOf P e = some s) : (Op.equalIn (d + 1) t (.pointer (some a)) (.pointer (some a))).run P w = .ok true w := by
  obtain ⟨i, hi, _⟩ := szOf_info hs
  simp [Op.equalIn, run_underlying hu, sizeOf, typeInfo, hi, run_sameAddr_same]

/-- What a kind says of the real value. -/
def KdR : Kd → Value → Prop
  | .nilp, v => v = .pointer none
  | .ptr, v => ∃ a, v = .pointer (some a)
  | .nili, v => v = .nilIface
  | .ifc, v => ∃ t u, v = .iface t u
  | .other, _ => True
theorem kd_sound {x : AV} {x' : Value} (h : VR Γ x x') : KdR (kd x) x' := by
  cases x with
  | p v => cases v <;> simp only [VR, VP] at h <;> simp only [kd, KdR] <;>
      first
        | exact h
        | (obtain ⟨b, o, arr, us, rfl, _⟩ := h; exact ⟨_, rfl⟩)
        | (obtain ⟨u, rfl, _⟩ := h; exact ⟨_, _, rfl⟩)
  | ptr n i f => simp only [VR] at h; obtain ⟨q, _, _, rfl⟩ := h; exact ⟨_, rfl⟩
  | ptd n i f => simp only [VR] at h; obtain ⟨q, _, _, rfl⟩ := h; exact ⟨_, rfl⟩
  | iface t v => simp only [VR] at h; obtain ⟨u, rfl, _⟩ := h; exact ⟨_, _, rfl⟩
  | _ => simp only [kd, KdR]

theorem eq_sound {t : TypeId} {x y : AV} {x' y' : Value} {v : AV} {neg : Bool} {X Y : Operand} (hx : VR Γ x x') (hy : VR Γ y y')
    (hv : (popEq P t x y neg (isC X || isC Y)).Yld v) :
    ∃ v', (do eqGuard (if neg then .neq else .eql) t X Y x' y'; binOp (if neg then .neq else .eql) t x' y' : Sem Value).run P w = .ok v' w ∧ VR Γ v v' := by
  have fin : ∀ (b : Bool), (eqGuard (if neg then .neq else .eql) t X Y x' y').run P w = .ok () w → (Op.equalIn 10000 t x' y').run P w = .ok b w → eqKind x' = true →
      v = vB (if neg then !b else b) → ∃ v', (do eqGuard (if neg then .neq else .eql) t X Y x' y'; binOp (if neg then .neq else .eql) t x' y' : Sem Value).run P w = .ok v' w ∧ VR Γ v v' := by
    intro b hg he hk hvb
    obtain ⟨h1, h2⟩ := run_eqlVals t he hk
    rw [Sem.run_bind, hg]
    subst hvb
    refine ⟨.bool (if neg then !b else b), ?_, by simp only [VR, VP]⟩
    cases neg
    · simpa using h1
    · simpa using h2
  unfold popEq at hv
  split at hv
  · rename_i a b
    simp only [VR, VP] at hx hy
    subst hx; subst hy
    split at hv
    · rename_i hu
      refine fin (a == b) (guard_plain _ _ _ _ rfl) (eqi_bool 9999 a b hu) rfl ?_
      rcases hv with ⟨hc, rfl⟩ | ⟨hc, rfl⟩ <;> cases neg <;> simp [hc]
    · exact hv.elim
  · rename_i xs ys
    split at hv
    · rename_i hc
      simp only [Bool.and_eq_true] at hc
      obtain ⟨h1, h2⟩ := hc
      obtain ⟨⟨h3, h4⟩, hv⟩ := hv
      simp only [VR, VP] at hx hy
      obtain ⟨xs', rfl, hxs⟩ := hx
      obtain ⟨ys', rfl, hys⟩ := hy
      obtain ⟨e1, e2⟩ := sameKinds_real h2 hxs hys
      obtain ⟨lx'⟩ := xs'
      obtain ⟨ly'⟩ := ys'
      simp only at e1 e2 h1 h2
      subst e1; subst e2
      unfold flatOK at h1
      split at h1
      · rename_i fs hu
        have hfo : P.fieldsOf t = fs := by simp [Program.fieldsOf, hu]
        obtain ⟨b, hb, hbx⟩ := run_eqFields (P := P) (w := w) fs.toList xs ys [] [] rfl (by simpa using h1) h2 9998
        refine fin b (run_eqGuard_agg w _ _ _ _ _ _ h4) ?_ rfl ?_
        · rw [run_equalIn_struct w 9999 t _ _ (by rw [hfo]; exact hu) h3, hfo]
          simpa using hb
        · rcases hv with ⟨hc, rfl⟩ | ⟨hc, rfl⟩
          · have := hbx.2 hc
            subst this
            cases neg <;> rfl
          · have : b = false := by
              cases hbb : b with
              | false => rfl
              | true => exact absurd (hbx.1 hbb) hc
            subst this
            cases neg <;> rfl
      · cases h1
    · exact hv.elim
  · have kx := kd_sound hx
    have ky := kd_sound hy
    unfold popEqN at hv
    split at hv <;> try exact hv.elim
    · split at hv <;> try exact hv.elim
      rename_i e hsm hu
      split at hv <;> try exact hv.elim
      rename_i s hs
      have hsame : ∃ a, x' = .pointer (some a) ∧ y' = .pointer (some a) := by
        unfold samePtr at hsm
        split at hsm <;> try (cases hsm; done)
        rename_i n i f n' i' f'
        simp only [Bool.and_eq_true] at hsm
        have h1 := Nat.eq_of_beq_eq_true hsm.1.1
        have h2 := Nat.eq_of_beq_eq_true hsm.1.2
        have h3 := Nat.eq_of_beq_eq_true hsm.2
        subst h1; subst h2; subst h3
        simp only [VR] at hx hy
        obtain ⟨q, k1, _, rfl⟩ := hx
        obtain ⟨q', k2, _, rfl⟩ := hy
        rw [k1] at k2
        injection k2 with k2
        subst k2
        exact ⟨_, rfl, rfl⟩
      obtain ⟨a, rfl, rfl⟩ := hsame
      refine fin true (guard_plain _ _ _ _ rfl) (eqi_same 9999 a hu hs) rfl ?_
      simp only [PRes.Yld] at hv; subst hv; cases neg <;> rfl
    · rename_i e1 e2
      rw [e1] at kx; rw [e2] at ky
      simp only [KdR] at kx ky
      subst kx; subst ky
      split at hv
      · rename_i hu
        refine fin true (guard_plain _ _ _ _ rfl) (eqi_nn 9999 hu) rfl ?_
        simp only [PRes.Yld] at hv; subst hv; cases neg <;> rfl
      · exact hv.elim
    · rename_i e1 e2
      rw [e1] at kx; rw [e2] at ky
      simp only [KdR] at kx ky
      obtain ⟨a, rfl⟩ := kx; subst ky
      split at hv
      · rename_i hu
        refine fin false (guard_plain _ _ _ _ rfl) (eqi_sn 9999 _ hu) rfl ?_
        simp only [PRes.Yld] at hv; subst hv; cases neg <;> rfl
      · exact hv.elim
    · rename_i e1 e2
      rw [e1] at kx; rw [e2] at ky
      simp only [KdR] at kx ky
      obtain ⟨a, rfl⟩ := ky; subst kx
      split at hv
      · rename_i hu
        refine fin false (guard_plain _ _ _ _ rfl) (eqi_ns 9999 _ hu) rfl ?_
        simp only [PRes.Yld] at hv; subst hv; cases neg <;> rfl
      · exact hv.elim
    · rename_i e1 e2
      rw [e1] at kx; rw [e2] at ky
      simp only [KdR] at kx ky
      subst kx; subst ky
      split at hv
      · rename_i hc hu
        refine fin true ?_ (eqi_inn 9999 hu) rfl ?_
        · have hc' : (match X with | .const _ => true | _ => false) = true ∨ (match Y with | .const _ => true | _ => false) = true := by
            simp only [Bool.or_eq_true] at hc
            rcases hc with hc | hc
            · left; cases X <;> first | rfl | cases hc
            · right; cases Y <;> first | rfl | cases hc
          have hor : ∀ op : BinOp, (eqGuard op t X Y .nilIface .nilIface).run P w = .ok () w := by
            intro op
            rcases hc' with hc' | hc'
            · cases X <;> first | (simp at hc'; done) | (cases op <;> simp [eqGuard])
            · cases Y <;> first | (simp at hc'; done) | (cases op <;> simp [eqGuard])
          exact hor _
        · simp only [PRes.Yld] at hv; subst hv; cases neg <;> rfl
      · exact hv.elim
    · rename_i e1 e2
      rw [e1] at kx; rw [e2] at ky
      simp only [KdR] at kx ky
      obtain ⟨_, _, rfl⟩ := kx; subst ky
      split at hv
      · rename_i hu
        refine fin false (guard_plain _ _ _ _ rfl) (eqi_isn 9999 _ _ hu) rfl ?_
        simp only [PRes.Yld] at hv; subst hv; cases neg <;> rfl
      · exact hv.elim
    · rename_i e1 e2
      rw [e1] at kx; rw [e2] at ky
      simp only [KdR] at kx ky
      obtain ⟨_, _, rfl⟩ := ky; subst kx
      split at hv
      · rename_i hu
        refine fin false (guard_plain _ _ _ _ rfl) (eqi_ins 9999 _ _ hu) rfl ?_
        simp only [PRes.Yld] at hv; subst hv; cases neg <;> rfl
      · exact hv.elim

theorem bin_sound {op : BinOp} {t : TypeId} {x y : AV} {x' y' : Value} {v : AV} {X Y : Operand} (hx : VR Γ x x') (hy : VR Γ y y')
    (hv : (popBin P op t x y (isC X || isC Y)).Yld v) :
    ∃ v', (do eqGuard op t X Y x' y'; binOp op t x' y' : Sem Value).run P w = .ok v' w ∧ VR Γ v v' := by
  unfold popBin at hv
  split at hv
  · rename_i k a k' b
    simp only [VR, VP] at hx hy
    subst hx; subst hy
    rw [Sem.run_bind, guard_plain _ _ _ _ rfl]
    simp only [Result.andThen_ok]
    split at hv
    · obtain ⟨hc, rfl⟩ := hv
      simp only [binOp, Op.shift]
      rw [if_neg (by omega)]
      exact ⟨_, rfl, by simp only [VR, VP]⟩
    · obtain ⟨hc, rfl⟩ := hv
      simp only [binOp, Op.shift]
      rw [if_neg (by omega)]
      exact ⟨_, rfl, by simp only [VR, VP]⟩
    · split at hv
      · rename_i hk
        have hk : k = k' := by simpa using hk
        subst hk
        exact int_sound hv
      · exact hv.elim
  · rename_i a b
    simp only [VR, VP] at hx hy
    subst hx; subst hy
    rw [Sem.run_bind, guard_plain _ _ _ _ rfl]
    exact str_sound hv
  · split at hv
    · exact eq_sound (neg := false) hx hy hv
    · exact eq_sound (neg := true) hx hy hv
    · exact hv.elim
end
end Go.Proofs.YtemlkodkohgmmaaDoor.Y
