/- Cells of lists; runs; steps from one state to the next. -/
import Derived.Test.YtemlkodkohgmmaaDoorYa
namespace Go.Proofs.YtemlkodkohgmmaaDoor.Y
open Go

section
variable {α : Type}
/-- Some cells of a list. -/
def getN0 : List α → Nat → Option (List α)
  | _, 0 => some []
  | [], _ + 1 => none
  | x :: l, n + 1 => match getN0 l n with
    | some r => some (x :: r)
    | none => none
termination_by structural _ n => n
def getN : List α → Nat → Nat → Option (List α)
  | l, 0, n => getN0 l n
  | [], _ + 1, _ => none
  | _ :: l, k + 1, n => getN l k n
termination_by structural _ k _ => k

/-- A list with some cells written. -/
def spl0 : List α → List α → List α
  | l, [] => l
  | [], _ :: _ => []
  | _ :: l, v :: vs => v :: spl0 l vs
termination_by structural _ vs => vs
def spl : List α → Nat → List α → List α
  | l, 0, vs => spl0 l vs
  | [], _ + 1, _ => []
  | x :: l, k + 1, vs => x :: spl l k vs
termination_by structural _ k _ => k

def nth : List α → Nat → Option α
  | [], _ => none
  | x :: _, 0 => some x
  | _ :: l, n + 1 => nth l n
theorem nth_eq (l : List α) (n : Nat) : nth l n = l[n]? := by
  induction l generalizing n with
  | nil => rfl
  | cons x l ih => cases n with
    | zero => rfl
    | succ n => simpa [nth] using ih n

theorem getN0_some : ∀ {l : List α} {n : Nat} {r : List α}, getN0 l n = some r → r = l.take n ∧ r.length = n ∧ n ≤ l.length
  | l, 0, r, h => by simp only [getN0, Option.some.injEq] at h; subst h; simp
  | [], n + 1, r, h => by simp [getN0] at h
  | x :: l, n + 1, r, h => by
    simp only [getN0] at h
    cases hg : getN0 l n with
    | none => rw [hg] at h; cases h
    | some r' =>
      rw [hg] at h
      injection h with h
      subst h
      obtain ⟨h1, h2, h3⟩ := getN0_some hg
      exact ⟨by rw [h1]; simp, by simp [h2], by simp; omega⟩
theorem getN_le : ∀ {l : List α} {k n : Nat} {r : List α}, getN l k n = some r → r = (l.drop k).take n ∧ r.length = n ∧ k + n ≤ l.length
  | l, 0, n, r, h => by
    simp only [getN] at h
    obtain ⟨h1, h2, h3⟩ := getN0_some h
    exact ⟨by simpa using h1, h2, by omega⟩
  | [], k + 1, n, r, h => by simp [getN] at h
  | x :: l, k + 1, n, r, h => by
    simp only [getN] at h
    obtain ⟨h1, h2, h3⟩ := getN_le h
    exact ⟨by simpa using h1, h2, by simp; omega⟩
theorem getN_some {l : List α} {k n : Nat} {r : List α} (h : getN l k n = some r) : r = (l.drop k).take n ∧ r.length = n ∧ (0 < n → k + n ≤ l.length) :=
  let ⟨h1, h2, h3⟩ := getN_le h; ⟨h1, h2, fun _ => h3⟩
theorem getN0_of_le : ∀ {l : List α} {n : Nat}, n ≤ l.length → getN0 l n = some (l.take n)
  | l, 0, _ => by simp [getN0]
  | [], n + 1, h => by simp at h
  | x :: l, n + 1, h => by
    simp only [getN0]
    rw [getN0_of_le (by simpa using h)]
    simp
theorem getN_of_le : ∀ {l : List α} {k n : Nat}, k + n ≤ l.length → getN l k n = some ((l.drop k).take n)
  | l, 0, n, h => by simp only [getN]; rw [getN0_of_le (by omega)]; simp
  | [], k + 1, n, h => by simp at h
  | x :: l, k + 1, n, h => by
    simp only [getN]
    rw [getN_of_le (by simp at h; omega)]
    simp

theorem spl0_length : ∀ (l vs : List α), (spl0 l vs).length = l.length
  | l, [] => by simp [spl0]
  | [], _ :: _ => by simp [spl0]
  | x :: l, v :: vs => by simp [spl0, spl0_length l vs]
theorem spl_length : ∀ (l : List α) (k : Nat) (vs : List α), (spl l k vs).length = l.length
  | l, 0, vs => spl0_length l vs
  | [], k + 1, _ => by simp [spl]
  | x :: l, k + 1, vs => by simp [spl, spl_length l k vs]

theorem spl0_get : ∀ (l vs : List α) (i : Nat), (spl0 l vs)[i]? = if i < vs.length ∧ i < l.length then vs[i]? else l[i]?
  | l, [], i => by simp [spl0]
  | [], v :: vs, i => by simp [spl0]
  | x :: l, v :: vs, 0 => by simp [spl0]
  | x :: l, v :: vs, i + 1 => by
    simp only [spl0, List.getElem?_cons_succ, spl0_get l vs i]
    simp
theorem spl_get : ∀ (l : List α) (k : Nat) (vs : List α) (i : Nat),
    (spl l k vs)[i]? = if k ≤ i ∧ i < k + vs.length ∧ i < l.length then vs[i - k]? else l[i]?
  | l, 0, vs, i => by
    simp only [spl, spl0_get, Nat.zero_add, Nat.zero_le, true_and, Nat.sub_zero]
  | [], k + 1, vs, i => by simp [spl]
  | x :: l, k + 1, vs, 0 => by simp [spl]
  | x :: l, k + 1, vs, i + 1 => by
    simp only [spl, List.getElem?_cons_succ, spl_get l k vs i]
    have : (k + 1 ≤ i + 1 ∧ i + 1 < k + 1 + vs.length ∧ i + 1 < (x :: l).length) ↔ (k ≤ i ∧ i < k + vs.length ∧ i < l.length) := by simp; omega
    simp only [this]
    have e : i + 1 - (k + 1) = i - k := by omega
    rw [e]

theorem spl_one (l : List α) (k : Nat) (v : α) : spl l k [v] = l.set k v := by
  apply List.ext_getElem?
  intro i
  rw [spl_get, List.getElem?_set]
  by_cases h : k = i
  · subst h
    by_cases h2 : k < l.length
    · simp [h2]
    · simp [h2, List.getElem?_eq_none (Nat.le_of_not_lt h2)]
  · have : ¬ (k ≤ i ∧ i < k + [v].length ∧ i < l.length) := by simp; omega
    rw [if_neg this, if_neg h]

theorem spl_eq {l : List α} {k : Nat} {vs : List α} (h : k + vs.length ≤ l.length) : spl l k vs = l.take k ++ vs ++ l.drop (k + vs.length) := by
  apply List.ext_getElem?
  intro i
  rw [spl_get]
  by_cases h1 : i < k
  · rw [if_neg (by omega), List.append_assoc, List.getElem?_append_left (by simp; omega), List.getElem?_take, if_pos h1]
  · by_cases h2 : i < k + vs.length
    · rw [if_pos (by omega), List.append_assoc, List.getElem?_append_right (by simp; omega), List.getElem?_append_left (by simp; omega)]
      congr 1; simp; omega
    · rw [if_neg (by omega), List.append_assoc, List.getElem?_append_right (by simp; omega), List.getElem?_append_right (by simp; omega), List.getElem?_drop]
      congr 1; simp; omega

theorem setList_spl (l : List α) (k : Nat) (v : α) (vs : List α) : spl (l.set k v) (k + 1) vs = spl l k (v :: vs) := by
  apply List.ext_getElem?
  intro i
  rw [spl_get, spl_get, List.getElem?_set]
  simp only [List.length_set, List.length_cons]
  by_cases h1 : k + 1 ≤ i ∧ i < k + 1 + vs.length ∧ i < l.length
  · rw [if_pos h1, if_pos (by omega), show i - k = (i - (k + 1)) + 1 by omega, List.getElem?_cons_succ]
  · rw [if_neg h1]
    by_cases h2 : k = i
    · subst h2
      rw [if_pos rfl]
      by_cases h3 : k < l.length
      · rw [if_pos h3, if_pos (by omega), Nat.sub_self]; rfl
      · rw [if_neg h3, if_neg (by omega), List.getElem?_eq_none (by omega)]
    · rw [if_neg h2, if_neg (by omega)]
end

theorem VRL_spl {Γ : Gm} {l vs : List AV} {l' vs' : List Value} (k : Nat) (h : VRL Γ l l') (hv : VRL Γ vs vs') : VRL Γ (spl l k vs) (spl l' k vs') := by
  have hl := VRL_length h
  have hlv := VRL_length hv
  refine VRL_mk (by rw [spl_length, spl_length, hl]) fun j v hj => ?_
  rw [spl_get] at hj ⊢
  split at hj
  · rename_i hin
    rw [if_pos (by rw [hlv, hl]; exact hin)]
    exact VRL_get hv hj
  · rename_i hin
    rw [if_neg (by rw [hlv, hl]; exact hin)]
    exact VRL_get h hj

theorem Seg.get {arr us : List Value} {o : Nat} (h : Seg arr o us) {j : Nat} {v : Value} (hj : us[j]? = some v) : arr[o + j]? = some v := by
  obtain ⟨pre, post, rfl, rfl, _⟩ := h
  have hl : j < us.length := (List.getElem?_eq_some_iff.1 hj).1
  rw [List.append_assoc, List.getElem?_append_right (by omega), List.getElem?_append_left (by omega)]
  rw [← hj]; congr 1; omega
theorem Seg.mk' {arr us : List Value} {o : Nat} (h : us = (arr.drop o).take us.length) (ho : o ≤ arr.length) (hp : ∀ u ∈ us, plainV u = true) : Seg arr o us := by
  refine ⟨arr.take o, (arr.drop o).drop us.length, ?_, by simp; omega, hp⟩
  rw [List.append_assoc]
  have : us ++ (arr.drop o).drop us.length = arr.drop o := by
    have h2 : (arr.drop o).take us.length ++ (arr.drop o).drop us.length = arr.drop o := List.take_append_drop _ _
    rw [← h] at h2
    exact h2
  rw [this, List.take_append_drop]
theorem Seg.sub {arr us : List Value} {o : Nat} (h : Seg arr o us) (k n : Nat) (hk : k ≤ us.length) : Seg arr (o + k) ((us.drop k).take n) := by
  obtain ⟨pre, post, rfl, rfl, hp⟩ := h
  refine ⟨pre ++ us.take k, (us.drop k).drop n ++ post, ?_, by simp; omega, fun u hu => hp u (List.mem_of_mem_drop (List.mem_of_mem_take hu))⟩
  simp only [List.append_assoc]
  congr 1
  rw [← List.append_assoc ((us.drop k).take n), List.take_append_drop, ← List.append_assoc, List.take_append_drop]
theorem Seg.plain {arr us : List Value} {o : Nat} (h : Seg arr o us) : ∀ u ∈ us, plainV u = true := by
  obtain ⟨pre, post, _, _, hp⟩ := h; exact hp

/-! ### Runs -/
section
variable {P : Program} {w : World}

theorem add_spot (a : Addr) (h : a.spot = none) (n : Nat) : a.add n = ⟨a.block, a.off + n, none⟩ := by
  obtain ⟨b, o, s⟩ := a
  simp only at h
  subst h
  unfold Addr.add
  by_cases hn : n = 0
  · simp [hn]
  · simp [hn]

theorem run_loadFrom (b o : Nat) : ∀ (vs : List Value) (i : Nat) (acc : Array Value), (∀ (j : Nat) (v : Value), vs[j]? = some v → w.cell? ⟨b, o + i + j, none⟩ = some v) →
    (loadCellsFrom ⟨b, o, none⟩ i vs.length acc).run P w = .ok (acc ++ ⟨vs⟩) w
  | [], i, acc, _ => by simp [loadCellsFrom]
  | v :: vs, i, acc, h => by
    have h0 := h 0 v (by simp)
    have hr := run_loadFrom b o vs (i + 1) (acc.push v) (fun j u hj => by
      have := h (j + 1) u (by simpa using hj)
      rw [← this]; congr 2; omega)
    have e : (acc.push v ++ (⟨vs⟩ : Array Value)) = acc ++ ⟨v :: vs⟩ := by
      apply Array.ext'
      simp
    rw [e] at hr
    show (Sem.bind (load _) _).run P w = _
    rw [add_spot _ rfl]
    simp only [load, Sem.bind, Sem.run]
    simp only [Nat.add_zero] at h0
    rw [h0]
    exact hr

theorem run_loadN (b o : Nat) (vs : List Value) (h : ∀ (j : Nat) (v : Value), vs[j]? = some v → w.cell? ⟨b, o + j, none⟩ = some v) :
    (loadCells ⟨b, o, none⟩ vs.length).run P w = .ok ⟨vs⟩ w := by
  have := run_loadFrom (P := P) (w := w) b o vs 0 #[] (by simpa using h)
  simpa [loadCells] using this

/-- The world with a block's cells written. -/
def putBlk (w : World) (b : Nat) (o : Obj) : World := { w with heap := w.heap.setIfInBounds b o }

theorem putBlk_same {b : Nat} {o o' : Obj} (h : w.heap[b]? = some o) : (putBlk w b o').heap[b]? = some o' := by
  have hb : b < w.heap.size := (Array.getElem?_eq_some_iff.1 h).1
  simp [putBlk, Array.getElem?_setIfInBounds, hb]
theorem putBlk_other {b k : Nat} {o' : Obj} (h : k ≠ b) : (putBlk w b o').heap[k]? = w.heap[k]? := by
  simp [putBlk, Array.getElem?_setIfInBounds_ne (Ne.symm h)]

theorem setCell_putBlk {b i : Nat} {arr : Array Value} {t : TypeId} {fz : Nat × Nat} {v : Value} (h : w.heap[b]? = some (.cells arr t fz)) :
    w.setCell ⟨b, i, none⟩ v = putBlk w b (.cells (arr.setIfInBounds i v) t fz) := by
  have hb : b < w.heap.size := (Array.getElem?_eq_some_iff.1 h).1
  unfold World.setCell putBlk
  congr 1
  apply Array.ext_getElem?
  intro j
  by_cases hj : b = j
  · subst hj
    rw [Array.getElem?_modify, if_pos rfl, h, Array.getElem?_setIfInBounds_self_of_lt hb]
    rfl
  · rw [Array.getElem?_modify, if_neg hj, Array.getElem?_setIfInBounds_ne hj]

theorem putBlk_putBlk {b : Nat} {o o' : Obj} : putBlk (putBlk w b o) b o' = putBlk w b o' := by
  simp [putBlk, Array.setIfInBounds_setIfInBounds]

theorem run_store_plain (a : Addr) (v : Value) (hv : plainV v = true) (k : Sem Unit) {u : Value} (hc : w.cell? a = some u) (hf : w.frozen? a = false) :
    (Sem.store .plain a v k).run P w = k.run P (w.setCell a v) := by
  cases v <;> simp_all [plainV, Sem.run]

theorem run_storeN (b : Nat) (t : TypeId) (fz : Nat × Nat) : ∀ (vs : List Value) (o i : Nat) (w : World) (arr : Array Value), w.heap[b]? = some (.cells arr t fz) → Free fz arr.size → o + i + vs.length ≤ arr.size → (∀ v ∈ vs, plainV v = true) →
    (storeCells ⟨b, o, none⟩ vs i).run P w = .ok () (putBlk w b (.cells ⟨spl arr.toList (o + i) vs⟩ t fz))
  | [], o, i, w, arr, h, _, _, _ => by
    simp only [storeCells]
    have : spl arr.toList (o + i) [] = arr.toList := by
      apply List.ext_getElem?
      intro j
      rw [spl_get]; simp; omega
    rw [this]
    have e : putBlk w b (.cells ⟨arr.toList⟩ t fz) = w := by
      unfold putBlk
      have hb : b < w.heap.size := (Array.getElem?_eq_some_iff.1 h).1
      have : w.heap.setIfInBounds b (.cells arr t fz) = w.heap := by
        apply Array.ext_getElem?
        intro j
        by_cases hj : b = j
        · subst hj; rw [Array.getElem?_setIfInBounds_self_of_lt hb, h]
        · simp [Array.getElem?_setIfInBounds_ne hj]
      simp [this]
    rw [e]
    rfl
  | v :: vs, o, i, w, arr, h, hfz, hl, hp => by
    have hlt : o + i < arr.size := by simp at hl; omega
    have hc : w.cell? ⟨b, o + i, none⟩ = some arr[o + i] := by simp [World.cell?, h, hlt]
    have hf : w.frozen? ⟨b, o + i, none⟩ = false := by
      obtain ⟨lo, hi⟩ := fz
      rcases hfz with hfz | hfz <;> simp only at hfz <;> simp only [World.frozen?, h] <;> simp <;> omega
    have ih := run_storeN b t fz vs o (i + 1) (putBlk w b (.cells (arr.setIfInBounds (o + i) v) t fz)) (arr.setIfInBounds (o + i) v) (putBlk_same h) (by simpa using hfz) (by simp at hl ⊢; omega) (fun u hu => hp u (by simp [hu]))
    show (Sem.bind (store _ v) _).run P w = _
    rw [add_spot _ rfl]
    simp only [store, Sem.bind]
    rw [run_store_plain _ _ (hp v (by simp)) _ hc hf, setCell_putBlk h]
    refine ih.trans ?_
    rw [putBlk_putBlk]
    congr 4
    have : (arr.setIfInBounds (o + i) v).toList = arr.toList.set (o + i) v := by simp
    rw [this, show o + (i + 1) = (o + i) + 1 by omega, setList_spl]
end

/-! ### Steps -/
def Ext (n : Nat) (a b : Gm) : Prop := ∀ m, m < n → b.nm m = a.nm m
theorem Ext.refl (n : Nat) (a : Gm) : Ext n a a := fun _ _ => rfl
theorem Ext.trans {n : Nat} {a b c : Gm} (h : Ext n a b) (k : Ext n b c) : Ext n a c := fun m hm => (k m hm).trans (h m hm)
theorem Ext.mono {n m : Nat} {a b : Gm} (h : Ext n a b) (hm : m ≤ n) : Ext m a b := fun k hk => h k (by omega)

section
variable {C : Cx} {Γ : Gm} {H : Hp} {w : World}

/-- A later state. -/
def Later (C : Cx) (n0 : Nat) (Γ : Gm) (H : Hp) (w : World) (Γ' : Gm) (H' : Hp) (w' : World) : Prop :=
  R C Γ' H' w' ∧ Ext n0 Γ Γ' ∧ n0 ≤ H'.next ∧ Tr Γ H w Γ' H' w'

theorem Later.refl (h : R C Γ H w) (n0 : Nat) (hn : n0 ≤ H.next) : Later C n0 Γ H w Γ H w := ⟨h, Ext.refl _ _, hn, Tr.refl _ _ _⟩
theorem Later.trans {n0 : Nat} {Γ1 Γ2 : Gm} {H1 H2 : Hp} {w1 w2 : World} (h : Later C n0 Γ H w Γ1 H1 w1) (k : Later C n0 Γ1 H1 w1 Γ2 H2 w2) : Later C n0 Γ H w Γ2 H2 w2 :=
  ⟨k.1, h.2.1.trans k.2.1, k.2.2.1, h.2.2.2.trans k.2.2.2⟩
theorem Later.mono {n0 n1 : Nat} {Γ1 : Gm} {H1 : Hp} {w1 : World} (h : Later C n1 Γ H w Γ1 H1 w1) (hn : n0 ≤ n1) : Later C n0 Γ H w Γ1 H1 w1 :=
  ⟨h.1, h.2.1.mono hn, Nat.le_trans hn h.2.2.1, h.2.2.2⟩
theorem Later.drew (h : R C Γ H w) (n0 : Nat) (hn : n0 ≤ H.next) : Later C n0 Γ H w Γ H { w with drawn := w.drawn + 1 } := ⟨h.drew, Ext.refl _ _, hn, Tr.drew _ _ _⟩

theorem Later.le {Γ1 : Gm} {H1 : Hp} {w1 : World} (hR : R C Γ H w) (h : Later C H.next Γ H w Γ1 H1 w1) : Γ.le Γ1 := by
  refine ⟨fun n q hq => ?_, h.2.2.2.fz⟩
  have hn : n < H.next := by
    rcases Nat.lt_or_ge n H.next with h1 | h1
    · exact h1
    · rw [hR.fresh n h1] at hq; cases hq
  rw [h.2.1 n hn]; exact hq

theorem push_get {o : AObj} {n : Nat} {p : AObj} (h : lget (H.push o).l n = some p) : (n = H.next ∧ p = o) ∨ (n ≠ H.next ∧ lget H.l n = some p) := by
  simp only [Hp.push] at h
  by_cases e : H.next = n
  · subst e; rw [lget_cons_same] at h; injection h with h; exact .inl ⟨rfl, h.symm⟩
  · rw [lget_cons_ne e] at h; exact .inr ⟨fun e' => e e'.symm, h⟩

/-- A new block. -/
theorem R.push (h : R C Γ H w) {ob : Obj} {q : Pl} {o : AObj} (hb : q.blk = w.heap.size) (hn : q.nl = false) (hf : o.fr = false) (ho : ObjR C.P (Γ.put H.next q) (w.alloc ob) q o) :
    Later C H.next Γ H w (Γ.put H.next q) (H.push o) (w.alloc ob) := by
  have hle : Γ.le (Γ.put H.next q) := Gm.le_put (h.fresh _ (Nat.le_refl _))
  have hold : ∀ k, k < w.heap.size → (w.alloc ob).heap[k]? = w.heap[k]? := fun k hk => RowKit.Below.heap_alloc w _ k hk
  have hlt : ∀ (m : Nat) (p : AObj) (q' : Pl), lget H.l m = some p → Γ.nm m = some q' → q'.nl = false → q'.blk < w.heap.size := by
    intro m p q' hm hq' hnl
    obtain ⟨q1, e1, e2⟩ := h.objs m p hm
    rw [hq'] at e1
    injection e1 with e1
    subst e1
    exact e2.blk_lt hnl
  refine ⟨⟨fun g cs hg => VP_mono hle.fz _ _ (h.glob g cs hg), fun n hn => ?_, fun b arr hfz => ?_, fun n p hp => ?_, fun n p q1 hp hfr hq1 hnl => ?_, fun n p m p' q1 q2 hp hp' hne hq1 hq2 hfr hnl hnl' => ?_⟩, fun m hm => Gm.put_other _ _ (by omega), by simp [Hp.push], ⟨rfl, rfl, rfl, by simp, fun k hk _ => hold k hk, fun k hk => ?_, Fzn.le_refl _, fun k a hk => .inl hk⟩⟩
  · simp only [Hp.push] at hn
    rw [Gm.put_other _ _ (by omega)]
    exact h.fresh n (by omega)
  · obtain ⟨t, z, e⟩ := h.fzok b arr hfz
    exact ⟨t, z, by rw [hold _ (fz_lt h hfz)]; exact e⟩
  · rcases push_get hp with ⟨rfl, rfl⟩ | ⟨hne, hp⟩
    · exact ⟨q, Gm.put_same _ _ _, ho⟩
    · obtain ⟨q1, e1, e2⟩ := h.objs n p hp
      exact ⟨q1, hle.nm _ _ e1, e2.ext hle fun hnl => hold _ (hlt n p q1 hp e1 hnl)⟩
  · rcases push_get hp with ⟨rfl, rfl⟩ | ⟨hne, hp⟩
    · rw [Gm.put_same] at hq1
      injection hq1 with e
      subst e
      show Γ.fz q.blk = none
      cases hx : Γ.fz q.blk with
      | none => rfl
      | some a => have := fz_lt h hx; omega
    · rw [Gm.put_other _ _ hne] at hq1
      exact h.own n p q1 hp hfr hq1 hnl
  · rcases push_get hp with ⟨rfl, rfl⟩ | ⟨hn1, hp⟩
    · rcases push_get hp' with ⟨rfl, rfl⟩ | ⟨hn2, hp'⟩
      · exact absurd rfl hne
      · rw [Gm.put_same] at hq1
        injection hq1 with e
        subst e
        rw [Gm.put_other _ _ hn2] at hq2
        have := hlt m p' q2 hp' hq2 hnl'
        omega
    · rw [Gm.put_other _ _ hn1] at hq1
      have hlq := hlt n p q1 hp hq1 hnl
      rcases push_get hp' with ⟨rfl, rfl⟩ | ⟨hn2, hp'⟩
      · rw [Gm.put_same] at hq2
        injection hq2 with e
        subst e
        omega
      · rw [Gm.put_other _ _ hn2] at hq2
        exact h.apart n p m p' q1 q2 hp hp' hne hq1 hq2 hfr hnl hnl'
  · obtain ⟨n, p, q1, h1, h2, h3, h4, rfl⟩ := hk
    rcases push_get h1 with ⟨rfl, rfl⟩ | ⟨hne, hp⟩
    · rw [Gm.put_same] at h3; injection h3 with h3; subst h3; exact .inl (by omega)
    · rw [Gm.put_other _ _ hne] at h3
      exact .inr ⟨n, p, q1, hp, h2, h3, h4, rfl⟩

/-- A name for a nil slice. -/
theorem R.pushNil (h : R C Γ H w) {q : Pl} {o : AObj} (hn : q.nl = true) (hc : isCells o.c = true) (he : Empt o.c) (hsz : Sized q.s q.tc o.c) :
    Later C H.next Γ H w (Γ.put H.next q) (H.push o) w := by
  have hle : Γ.le (Γ.put H.next q) := Gm.le_put (h.fresh _ (Nat.le_refl _))
  refine ⟨⟨fun g cs hg => VP_mono hle.fz _ _ (h.glob g cs hg), fun n hn => ?_, h.fzok, fun n p hp => ?_, fun n p q1 hp hfr hq1 hnl => ?_, fun n p m p' q1 q2 hp hp' hne hq1 hq2 hfr hnl hnl' => ?_⟩, fun m hm => Gm.put_other _ _ (by omega), by simp [Hp.push], ⟨rfl, rfl, rfl, Nat.le_refl _, fun k hk _ => rfl, fun k hk => ?_, Fzn.le_refl _, fun k a hk => .inl hk⟩⟩
  · simp only [Hp.push] at hn
    rw [Gm.put_other _ _ (by omega)]
    exact h.fresh n (by omega)
  · rcases push_get hp with ⟨rfl, rfl⟩ | ⟨hne, hp⟩
    · exact ⟨q, Gm.put_same _ _ _, (ObjR_cells hc).2 (.inl ⟨hn, he, hsz⟩)⟩
    · obtain ⟨q1, e1, e2⟩ := h.objs n p hp
      exact ⟨q1, hle.nm _ _ e1, e2.ext hle fun hnl => rfl⟩
  · rcases push_get hp with ⟨rfl, rfl⟩ | ⟨hne, hp⟩
    · rw [Gm.put_same] at hq1
      injection hq1 with e
      subst e
      rw [hn] at hnl; cases hnl
    · rw [Gm.put_other _ _ hne] at hq1
      exact h.own n p q1 hp hfr hq1 hnl
  · rcases push_get hp with ⟨rfl, rfl⟩ | ⟨hn1, hp⟩
    · rw [Gm.put_same] at hq1
      injection hq1 with e
      subst e
      rw [hn] at hnl; cases hnl
    · rw [Gm.put_other _ _ hn1] at hq1
      rcases push_get hp' with ⟨rfl, rfl⟩ | ⟨hn2, hp'⟩
      · rw [Gm.put_same] at hq2
        injection hq2 with e
        subst e
        rw [hn] at hnl'; cases hnl'
      · rw [Gm.put_other _ _ hn2] at hq2
        exact h.apart n p m p' q1 q2 hp hp' hne hq1 hq2 hfr hnl hnl'
  · obtain ⟨n, p, q1, h1, h2, h3, h4, rfl⟩ := hk
    rcases push_get h1 with ⟨rfl, rfl⟩ | ⟨hne, hp⟩
    · rw [Gm.put_same] at h3; injection h3 with h3; subst h3; rw [hn] at h4; cases h4
    · rw [Gm.put_other _ _ hne] at h3
      exact .inr ⟨n, p, q1, hp, h2, h3, h4, rfl⟩

/-- An owned object's block is written. -/
theorem R.repl (h : R C Γ H w) {n : Nat} {o o' : AObj} {q : Pl} {x : Obj} (hn : lget H.l n = some o) (hfr : o.fr = false) (hq : Γ.nm n = some q) (hnl : q.nl = false) (hfr' : o'.fr = false)
    (ho : ObjR C.P Γ (putBlk w q.blk x) q o') :
    Later C H.next Γ H w Γ { H with l := lset H.l n o' } (putBlk w q.blk x) := by
  have hget : ∀ m p, lget (lset H.l n o') m = some p → (m = n ∧ p = o') ∨ (m ≠ n ∧ lget H.l m = some p) := by
    intro m p hm
    by_cases e : m = n
    · subst e; rw [lget_lset_same hn] at hm; injection hm with hm; exact .inl ⟨rfl, hm.symm⟩
    · rw [lget_lset_other e] at hm; exact .inr ⟨e, hm⟩
  have hownq : Own Γ H q.blk := ⟨n, o, q, hn, hfr, hq, hnl, rfl⟩
  refine ⟨⟨h.glob, h.fresh, fun b arr hfz => ?_, fun m p hp => ?_, fun m p q1 hp hf hq1 hl => ?_, fun m p m' p' q1 q2 hp hp' hne hq1 hq2 hf hl hl' => ?_⟩, Ext.refl _ _, Nat.le_refl _, ⟨rfl, rfl, rfl, by simp [putBlk], fun k hk hno => putBlk_other (fun e => hno (e ▸ hownq)), fun k hk => ?_, Fzn.le_refl _, fun k a hk => .inl hk⟩⟩
  · obtain ⟨t, z, e⟩ := h.fzok b arr hfz
    refine ⟨t, z, ?_⟩
    rw [putBlk_other (fun e' => ?_)]
    · exact e
    · subst e'; rw [h.own n o q hn hfr hq hnl] at hfz; cases hfz
  · rcases hget m p hp with ⟨rfl, rfl⟩ | ⟨hne, hp⟩
    · exact ⟨q, hq, ho⟩
    · obtain ⟨q1, e1, e2⟩ := h.objs m p hp
      exact ⟨q1, e1, e2.ext (Gm.le_refl _) fun hl => putBlk_other (Ne.symm (h.apart n o m p q q1 hn hp (Ne.symm hne) hq e1 hfr hnl hl))⟩
  · rcases hget m p hp with ⟨rfl, rfl⟩ | ⟨hne, hp⟩
    · exact h.own _ o q1 hn hfr hq1 hl
    · exact h.own m p q1 hp hf hq1 hl
  · rcases hget m p hp with ⟨rfl, rfl⟩ | ⟨hn1, hp⟩
    · rcases hget m' p' hp' with ⟨rfl, rfl⟩ | ⟨hn2, hp'⟩
      · exact absurd rfl hne
      · exact h.apart m o m' p' q1 q2 hn hp' hne hq1 hq2 hfr hl hl'
    · have hx := h.apart m p n o q1 q2 hp hn
      rcases hget m' p' hp' with ⟨rfl, rfl⟩ | ⟨hn2, hp'⟩
      · exact hx hne hq1 hq2 hf hl hl'
      · exact h.apart m p m' p' q1 q2 hp hp' hne hq1 hq2 hf hl hl'
  · obtain ⟨m, p, q1, h1, h2, h3, h4, rfl⟩ := hk
    rcases hget m p h1 with ⟨rfl, rfl⟩ | ⟨hne, hp⟩
    · exact .inr ⟨m, o, q1, hn, hfr, h3, h4, rfl⟩
    · exact .inr ⟨m, p, q1, hp, h2, h3, h4, rfl⟩

theorem R.del (h : R C Γ H w) (n : Nat) : Later C H.next Γ H w Γ { H with l := ldel H.l n } w := by
  refine ⟨⟨h.glob, h.fresh, h.fzok, fun m o hm => h.objs m o (lget_ldel.1 hm).2, fun m o q hm => h.own m o q (lget_ldel.1 hm).2, fun m o k p q q' hm hk => h.apart m o k p q q' (lget_ldel.1 hm).2 (lget_ldel.1 hk).2⟩, Ext.refl _ _, Nat.le_refl _, ⟨rfl, rfl, rfl, Nat.le_refl _, fun _ _ _ => rfl, ?_, Fzn.le_refl _, fun _ _ h => .inl h⟩⟩
  rintro k ⟨m, o, q, h1, h2⟩
  exact .inr ⟨m, o, q, (lget_ldel.1 h1).2, h2⟩

/-- An owned object moves to a new name. -/
theorem R.rename (h : R C Γ H w) {n : Nat} {o : AObj} {q : Pl} (hn : lget H.l n = some o) (hq : Γ.nm n = some q) :
    Later C H.next Γ H w (Γ.put H.next q) (Hp.push { H with l := ldel H.l n } o) w := by
  have hle : Γ.le (Γ.put H.next q) := Gm.le_put (h.fresh _ (Nat.le_refl _))
  have hget : ∀ m p, lget (Hp.push { H with l := ldel H.l n } o).l m = some p → (m = H.next ∧ p = o) ∨ (m ≠ H.next ∧ m ≠ n ∧ lget H.l m = some p) := by
    intro m p hm
    rcases push_get hm with ⟨rfl, rfl⟩ | ⟨hne, hp⟩
    · exact .inl ⟨rfl, rfl⟩
    · obtain ⟨a1, a2⟩ := lget_ldel.1 hp
      exact .inr ⟨hne, a1, a2⟩
  refine ⟨⟨fun g cs hg => VP_mono hle.fz _ _ (h.glob g cs hg), fun m hm => ?_, h.fzok, fun m p hp => ?_, fun m p q1 hp hfr hq1 hnl => ?_, fun m p m' p' q1 q2 hp hp' hne hq1 hq2 hfr hnl hnl' => ?_⟩, fun m hm => Gm.put_other _ _ (by omega), by simp [Hp.push], ⟨rfl, rfl, rfl, Nat.le_refl _, fun k hk _ => rfl, fun k hk => ?_, Fzn.le_refl _, fun k a hk => .inl hk⟩⟩
  · simp only [Hp.push] at hm
    rw [Gm.put_other _ _ (by omega)]
    exact h.fresh m (by omega)
  · rcases hget m p hp with ⟨rfl, rfl⟩ | ⟨h1, h2, h3⟩
    · obtain ⟨q1, e1, e2⟩ := h.objs n p hn
      rw [hq] at e1; injection e1 with e1; subst e1
      exact ⟨q, Gm.put_same _ _ _, e2.ext hle fun _ => rfl⟩
    · obtain ⟨q1, e1, e2⟩ := h.objs m p h3
      exact ⟨q1, hle.nm _ _ e1, e2.ext hle fun hnl => rfl⟩
  · rcases hget m p hp with ⟨rfl, rfl⟩ | ⟨h1, h2, h3⟩
    · rw [Gm.put_same] at hq1
      injection hq1 with e
      subst e
      exact h.own n p q hn hfr hq hnl
    · rw [Gm.put_other _ _ h1] at hq1
      exact h.own m p q1 h3 hfr hq1 hnl
  · rcases hget m p hp with ⟨rfl, rfl⟩ | ⟨h1, h2, h3⟩
    · rcases hget m' p' hp' with ⟨rfl, rfl⟩ | ⟨h1', h2', h3'⟩
      · exact absurd rfl hne
      · rw [Gm.put_same] at hq1
        injection hq1 with e
        subst e
        rw [Gm.put_other _ _ h1'] at hq2
        exact h.apart n p m' p' q q2 hn h3' (Ne.symm h2') hq hq2 hfr hnl hnl'
    · rw [Gm.put_other _ _ h1] at hq1
      rcases hget m' p' hp' with ⟨rfl, rfl⟩ | ⟨h1', h2', h3'⟩
      · rw [Gm.put_same] at hq2
        injection hq2 with e
        subst e
        exact h.apart m p n p' q1 q h3 hn h2 hq1 hq hfr hnl hnl'
      · rw [Gm.put_other _ _ h1'] at hq2
        exact h.apart m p m' p' q1 q2 h3 h3' hne hq1 hq2 hfr hnl hnl'
  · obtain ⟨m, p, q1, h1, h2, h3, h4, rfl⟩ := hk
    rcases hget m p h1 with ⟨rfl, rfl⟩ | ⟨k1, k2, k3⟩
    · rw [Gm.put_same] at h3; injection h3 with h3; subst h3
      exact .inr ⟨n, p, q, hn, h2, hq, h4, rfl⟩
    · rw [Gm.put_other _ _ k1] at h3
      exact .inr ⟨m, p, q1, k3, h2, h3, h4, rfl⟩

/-- An object becomes one that nobody writes. -/
def Gm.frz (Γ : Gm) (b : Nat) (a : List Value) : Gm := ⟨Γ.nm, fun k => match Nat.beq k b with | true => some a | false => Γ.fz k⟩
theorem Gm.frz_same (Γ : Gm) (b : Nat) (a : List Value) : (Γ.frz b a).fz b = some a := by simp [Gm.frz]
theorem Gm.frz_other (Γ : Gm) {b k : Nat} (a : List Value) (h : k ≠ b) : (Γ.frz b a).fz k = Γ.fz k := by simp only [Gm.frz, beq_ne h]
theorem R.freeze (h : R C Γ H w) {n : Nat} {o : AObj} (hn : lget H.l n = some o) (hc : isCells o.c = true) :
    ∃ Γ', Γ'.nm = Γ.nm ∧ Later C H.next Γ H w Γ' { H with l := lset H.l n { o with fr := true } } w := by
  obtain ⟨q, hq, ho⟩ := h.objs n o hn
  have hget : ∀ m p, lget (lset H.l n { o with fr := true }) m = some p → (m = n ∧ p = { o with fr := true }) ∨ (m ≠ n ∧ lget H.l m = some p) := by
    intro m p hm
    by_cases e : m = n
    · subst e; rw [lget_lset_same hn] at hm; injection hm with hm; exact .inl ⟨rfl, hm.symm⟩
    · rw [lget_lset_other e] at hm; exact .inr ⟨e, hm⟩
  -- the general step
  have key : ∀ Γ' : Gm, Γ'.nm = Γ.nm → Γ.fz.le Γ'.fz → (∀ b a, Γ'.fz b = some a → Γ.fz b = some a ∨ (o.fr = false ∧ q.nl = false ∧ b = q.blk ∧ ∃ t z, w.heap[b]? = some (.cells ⟨a⟩ t z))) → ObjR C.P Γ' w q { o with fr := true } →
      Later C H.next Γ H w Γ' { H with l := lset H.l n { o with fr := true } } w := by
    intro Γ' hnm hfz hfz' hob
    have hle : Γ.le Γ' := ⟨fun m q' e => by rw [hnm]; exact e, hfz⟩
    refine ⟨⟨fun g cs hg => VP_mono hfz _ _ (h.glob g cs hg), fun m hm => by rw [hnm]; exact h.fresh m hm, fun b arr hb => ?_, fun m p hp => ?_, fun m p q1 hp hf hq1 hl => ?_, fun m p m' p' q1 q2 hp hp' hne hq1 hq2 hf hl hl' => ?_⟩, fun m hm => by rw [hnm], Nat.le_refl _, ⟨rfl, rfl, rfl, Nat.le_refl _, fun k hk _ => rfl, fun k hk => ?_, hfz, fun k a hk => ?_⟩⟩
    · rcases hfz' b arr hb with e | ⟨_, _, _, e⟩
      · exact h.fzok b arr e
      · exact e
    · rcases hget m p hp with ⟨rfl, rfl⟩ | ⟨hne, hp⟩
      · exact ⟨q, by rw [hnm]; exact hq, hob⟩
      · obtain ⟨q1, e1, e2⟩ := h.objs m p hp
        exact ⟨q1, by rw [hnm]; exact e1, e2.ext hle fun _ => rfl⟩
    · rw [hnm] at hq1
      rcases hget m p hp with ⟨rfl, rfl⟩ | ⟨hne, hp⟩
      · cases hf
      · have h0 := h.own m p q1 hp hf hq1 hl
        cases hx : Γ'.fz q1.blk with
        | none => rfl
        | some a =>
          rcases hfz' _ _ hx with e | ⟨e1, e2, e3, _⟩
          · rw [h0] at e; cases e
          · exact absurd e3 (h.apart m p n o q1 q hp hn hne hq1 hq hf hl e2)
    · rw [hnm] at hq1 hq2
      rcases hget m p hp with ⟨rfl, rfl⟩ | ⟨hn1, hp⟩
      · cases hf
      · have hx := h.apart m p n o q1 q2 hp hn
        rcases hget m' p' hp' with ⟨rfl, rfl⟩ | ⟨hn2, hp'⟩
        · exact hx hne hq1 hq2 hf hl hl'
        · exact h.apart m p m' p' q1 q2 hp hp' hne hq1 hq2 hf hl hl'
    · obtain ⟨m, p, q1, h1, h2, h3, h4, rfl⟩ := hk
      rw [hnm] at h3
      rcases hget m p h1 with ⟨rfl, rfl⟩ | ⟨hne, hp⟩
      · cases h2
      · exact .inr ⟨m, p, q1, hp, h2, h3, h4, rfl⟩
    · rcases hfz' k a hk with e | ⟨e1, e2, e3, _⟩
      · exact .inl e
      · exact .inr (.inr ⟨n, o, q, hn, e1, hq, e2, e3.symm⟩)
  rcases (ObjR_cells hc).1 ho with ⟨hnl, he⟩ | ⟨hnl, us, rest, z, h1, h2, h3, h3', h4, h5, h6, h7, h8⟩
  · exact ⟨Γ, rfl, key Γ rfl (Fzn.le_refl _) (fun b a e => .inl e) ((ObjR_cells (o := { o with fr := true }) hc).2 (.inl ⟨hnl, he⟩))⟩
  · cases hfr : o.fr with
    | true => exact ⟨Γ, rfl, key Γ rfl (Fzn.le_refl _) (fun b a e => .inl e) ((ObjR_cells (o := { o with fr := true }) hc).2 (.inr ⟨hnl, us, rest, z, h1, h2, h3, h3', h4, h5, h6, h7, fun _ => h8 hfr⟩))⟩
    | false =>
      have h0 := h.own n o q hn hfr hq hnl
      have hle : Γ.fz.le (Γ.frz q.blk (us ++ rest)).fz := by
        intro k x hk
        by_cases e : k = q.blk
        · subst e; rw [h0] at hk; cases hk
        · rw [Gm.frz_other _ _ e]; exact hk
      refine ⟨Γ.frz q.blk (us ++ rest), rfl, key _ rfl hle (fun b a e => ?_) ((ObjR_cells (o := { o with fr := true }) hc).2 (.inr ⟨hnl, us, rest, z, h1, h2, h3, h3', h4, VRL_mono (a := Γ) (b := Γ.frz q.blk (us ++ rest)) ⟨fun _ _ e => e, hle⟩ _ _ h5, h6, h7, fun _ => Gm.frz_same _ _ _⟩))⟩
      by_cases e' : b = q.blk
      · subst e'
        rw [Gm.frz_same] at e
        injection e with e
        subst e
        exact .inr ⟨hfr, hnl, rfl, _, _, h1⟩
      · rw [Gm.frz_other _ _ e'] at e
        exact .inl e
end
end Go.Proofs.YtemlkodkohgmmaaDoor.Y
