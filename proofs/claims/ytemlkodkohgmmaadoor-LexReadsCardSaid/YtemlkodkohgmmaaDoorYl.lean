/- Regions that draw their order: sound. -/
import Derived.Test.YtemlkodkohgmmaaDoorYk
import Derived.OrdersIn
namespace Go.Proofs.YtemlkodkohgmmaaDoor.Y
open Go

theorem elemN_iff {n : Nat} {l : List Nat} : elemN n l = true ↔ n ∈ l := by
  induction l with
  | nil => simp [elemN]
  | cons m r ih =>
    simp only [elemN]
    by_cases e : n = m
    · subst e; simp
    · have : Nat.beq n m = false := by
        cases h : Nat.beq n m
        · rfl
        · exact absurd (Nat.eq_of_beq_eq_true h) e
      rw [this]
      simp [ih, e]
theorem elemN_false {n : Nat} {l : List Nat} : elemN n l = false ↔ n ∉ l := by
  rw [← elemN_iff]; simp

/-- One comes ahead of another. -/
inductive Bef (all : List Oper) : Nat → Nat → Prop
  | one {i j : Nat} {o : Oper} : onth all i = some o → j ∈ dps o → Bef all i j
  | more {i k j : Nat} {o : Oper} : onth all i = some o → k ∈ dps o → Bef all k j → Bef all i j

def Clo (all : List Oper) (S : Nat → Bool) : Prop := ∀ i o, S i = true → onth all i = some o → ∀ d ∈ dps o, S d = true

theorem Bef.mem {all : List Oper} {S : Nat → Bool} (hS : Clo all S) {i j : Nat} (h : Bef all i j) : (∀ o, onth all i = some o → ∀ d ∈ dps o, S d = true) → S j = true := by
  induction h with
  | one h1 h2 => exact fun h => h _ h1 _ h2
  | more h1 h2 _ ih => exact fun h => ih fun o ho => hS _ o (h _ h1 _ h2) ho

theorem nthN_append (a : List Nat) (m i : Nat) : nthN (a ++ [m]) i = if i = a.length then m else nthN a i := by
  induction a generalizing i with
  | nil => cases i <;> simp [nthN]
  | cons x r ih =>
    cases i with
    | zero => simp [nthN]
    | succ i => simp [nthN, ih]

theorem maskOf_spec {acc : List Nat} {j : Nat} : ∀ {l : List Nat}, (maskOf acc l).testBit j = true → ∃ d ∈ l, j = d ∨ (nthN acc d).testBit j = true
  | [], h => by simp [maskOf] at h
  | d :: r, h => by
    simp only [maskOf, Nat.testBit_or, Bool.or_eq_true, Nat.testBit_two_pow, decide_eq_true_eq] at h
    rcases h with (h | h) | h
    · exact ⟨d, by simp, .inl h.symm⟩
    · exact ⟨d, by simp, .inr h⟩
    · obtain ⟨d', h1, h2⟩ := maskOf_spec h
      exact ⟨d', List.mem_cons_of_mem _ h1, h2⟩

theorem masks_sound {all : List Oper} : ∀ (r pre : List Oper) (acc : List Nat), all = pre ++ r → acc.length = pre.length → (∀ i j, (nthN acc i).testBit j = true → Bef all i j) → ∀ i j, (nthN (masks r acc) i).testBit j = true → Bef all i j
  | [], _, _, _, _, h, i, j, hm => h i j hm
  | o :: r, pre, acc, ha, hl, h, i, j, hm => by
    refine masks_sound r (pre ++ [o]) _ (by rw [ha]; simp) (by simp [hl]) (fun i j hij => ?_) i j hm
    rw [nthN_append] at hij
    split at hij
    · rename_i e
      have ho : onth all i = some o := by rw [onth_eq, ha, e, hl]; simp
      obtain ⟨d, h1, rfl | h2⟩ := maskOf_spec hij
      · exact .one ho h1
      · exact .more ho h1 (h _ _ h2)
    · exact h i j hij

theorem allIx_spec {f : Nat → Oper → Bool} : ∀ {l : List Oper} {k : Nat}, allIx f k l = true → ∀ {i : Nat} {o : Oper}, onth l i = some o → f (k + i) o = true
  | [], _, _, i, o, ho => by simp [onth] at ho
  | x :: l, k, h, i, o, ho => by
    simp only [allIx, Bool.and_eq_true] at h
    cases i with
    | zero => simp only [onth, Option.some.injEq] at ho; subst ho; exact h.1
    | succ i =>
      have := allIx_spec h.2 (i := i) (o := o) (by simpa [onth] using ho)
      rwa [show k + 1 + i = k + (i + 1) by omega] at this

def SO (N : Nat) (all : List Oper) : Prop := (∀ j oj d, onth all j = some oj → oj.dst = some d → d < N) ∧
  ∀ i j oi oj d, onth all i = some oi → onth all j = some oj → i ≠ j → oj.dst = some d → (d ∈ looks all oi ∨ oi.dst = some d) → Bef all i j ∨ Bef all j i

theorem slotsOK_spec {N : Nat} {all : List Oper} (h : slotsOK N all (masks all []) = true) : SO N all := by
  have hm : ∀ i j, (nthN (masks all []) i).testBit j = true → Bef all i j := masks_sound all [] [] rfl rfl (by intro i j hij; simp [nthN] at hij)
  refine ⟨fun j oj d h1 h2 => ?_, fun i j oi oj d h1 h2 hne h3 h4 => ?_⟩
  · have := allIx_spec h h1
    simp only [h2, Bool.and_eq_true] at this
    exact Nat.lt_of_lt_of_le (Nat.lt_succ_self d) (Nat.le_of_ble_eq_true this.1)
  · have := allIx_spec h h2
    simp only [h3, Bool.and_eq_true] at this
    have := allIx_spec this.2 h1
    simp only [Nat.zero_add, Bool.or_eq_true, Bool.not_eq_true', Bool.or_eq_false_iff] at this
    rcases this with ((h5 | h5) | h5) | h5
    · exact absurd (Nat.eq_of_beq_eq_true h5) hne
    · exfalso
      rcases h4 with h4 | h4
      · rw [elemN_iff.2 h4] at h5; cases h5.1
      · rw [h4] at h5; simp at h5
    · exact .inl (hm _ _ h5)
    · exact .inr (hm _ _ h5)

/-! ### What has been gone through -/
def dm (L : List En) : List Nat := L.map (·.i)

def LOK (all : List Oper) : List En → Prop
  | [] => True
  | e :: L => onth all e.i = some e.o ∧ (∀ d ∈ dps e.o, d ∈ dm L) ∧ e.i ∉ dm L ∧ LOK all L

theorem LOK.tail {all : List Oper} {A B : List En} (h : LOK all (A ++ B)) : LOK all B := by
  induction A with
  | nil => exact h
  | cons x r ih => exact ih h.2.2.2

theorem LOK.notin {all : List Oper} {A B : List En} (h : LOK all (A ++ B)) {x : En} (hx : x ∈ A) : x.i ∉ dm B := by
  induction A with
  | nil => simp at hx
  | cons y r ih =>
    rcases List.mem_cons.1 hx with rfl | hx
    · intro hm
      refine h.2.2.1 ?_
      show x.i ∈ dm (r ++ B)
      simp only [dm, List.map_append, List.mem_append] at hm ⊢
      exact Or.inr hm
    · exact ih h.2.2.2 hx

theorem LOK.get {all : List Oper} {L : List En} (h : LOK all L) {x : En} (hx : x ∈ L) : onth all x.i = some x.o ∧ ∀ d ∈ dps x.o, d ∈ dm L := by
  induction L with
  | nil => simp at hx
  | cons y r ih =>
    rcases List.mem_cons.1 hx with rfl | hx
    · exact ⟨h.1, fun d hd => List.mem_cons_of_mem _ (h.2.1 d hd)⟩
    · obtain ⟨h1, h2⟩ := ih h.2.2.2 hx
      exact ⟨h1, fun d hd => List.mem_cons_of_mem _ (h2 d hd)⟩

theorem LOK.clo {all : List Oper} {L : List En} (h : LOK all L) : Clo all (fun i => elemN i (dm L)) := by
  intro i o hi ho d hd
  obtain ⟨x, hx, rfl⟩ := List.mem_map.1 (elemN_iff.1 hi)
  obtain ⟨h1, h2⟩ := h.get hx
  rw [h1] at ho
  injection ho with ho
  subst ho
  exact elemN_iff.2 (h2 d hd)

theorem ap_skip {σ0 : Sg} {t : Nat} {A B : List En} (h : ∀ x ∈ A, x.o.dst ≠ some t) : ap σ0 (A ++ B) t = ap σ0 B t := by
  induction A with
  | nil => rfl
  | cons x r ih =>
    simp only [List.cons_append, ap]
    have hx := h x (by simp)
    have ih := ih fun y hy => h y (List.mem_cons_of_mem _ hy)
    cases e : x.o.dst with
    | none => exact ih
    | some d =>
      have hne : t ≠ d := fun e' => hx (by rw [e, e'])
      simp only [upd_other _ _ hne, ih]

theorem ap_mid {σ0 : Sg} {t : Nat} {A B : List En} {e : En} (h : e.o.dst ≠ some t) : ap σ0 (A ++ e :: B) t = ap σ0 (A ++ B) t := by
  induction A with
  | nil =>
    simp only [List.nil_append, ap]
    cases e' : e.o.dst with
    | none => rfl
    | some d =>
      have hne : t ≠ d := fun k => h (by rw [e', k])
      simp only [upd_other _ _ hne]
  | cons x r ih =>
    simp only [List.cons_append, ap]
    cases x.o.dst with
    | none => exact ih
    | some d =>
      simp only [upd]
      split
      · rfl
      · exact ih

theorem ap_filter {σ0 : Sg} {t : Nat} {S : Nat → Bool} {L : List En} (h : ∀ x ∈ L, x.o.dst = some t → S x.i = true) : ap σ0 (L.filter fun e => S e.i) t = ap σ0 L t := by
  induction L with
  | nil => rfl
  | cons x r ih =>
    have ih := ih fun y hy => h y (List.mem_cons_of_mem _ hy)
    have hx := h x (by simp)
    by_cases hs : S x.i = true
    · rw [List.filter_cons_of_pos (p := fun e : En => S e.i) hs]
      simp only [ap]
      cases x.o.dst with
      | none => exact ih
      | some d =>
        simp only [upd]
        split
        · rfl
        · exact ih
    · rw [List.filter_cons_of_neg (p := fun e : En => S e.i) hs, ih]
      simp only [ap]
      cases e : x.o.dst with
      | none => rfl
      | some d =>
        have hne : t ≠ d := fun k => hs (hx (by rw [e, k]))
        simp only [upd_other _ _ hne]

section
variable {N : Nat} {all : List Oper} {S : Nat → Bool} {L1 L2 : List En} {e : En} {σ0 : Sg}

theorem later_no (hso : SO N all) (hl : LOK all (L1 ++ e :: L2)) (hS : Clo all S) (he : S e.i = false) {d : Nat} (hd : d ∈ looks all e.o ∨ e.o.dst = some d) {x : En} (hx : x ∈ L1) (hxS : S x.i = true) : x.o.dst ≠ some d := by
  intro hxd
  have hle := hl.tail
  have hx1 := hl.get (List.mem_append_left _ hx)
  have hne : e.i ≠ x.i := fun k => hl.notin hx (by rw [← k]; simp [dm])
  rcases hso.2 _ _ _ _ d hle.1 hx1.1 hne hxd hd with h | h
  · have := h.mem hle.2.2.2.clo (fun o ho dd hdd => by
      rw [hle.1] at ho; injection ho with ho; subst ho
      exact elemN_iff.2 (hle.2.1 dd hdd))
    exact hl.notin hx (by simp only [dm, List.map_cons]; exact List.mem_cons_of_mem _ (elemN_iff.1 this))
  · have := h.mem hS (fun o ho dd hdd => hS _ _ hxS ho dd hdd)
    rw [he] at this
    cases this

/-- An operation that comes up sees what it saw ahead. -/
theorem view (hso : SO N all) (hl : LOK all (L1 ++ e :: L2)) (hS : Clo all S) (he : S e.i = false) (hd : ∀ d ∈ dps e.o, S d = true) {t : Nat} (ht : t ∈ looks all e.o) :
    ap σ0 ((L1 ++ e :: L2).filter fun x => S x.i) t = ap σ0 L2 t := by
  have hle := hl.tail
  rw [List.filter_append, ap_skip, List.filter_cons_of_neg (by rw [he]; simp), ap_filter]
  · intro x hx hxd
    have hx1 := hle.2.2.2.get hx
    have hne : e.i ≠ x.i := fun k => hle.2.2.1 (by rw [k]; exact List.mem_map.2 ⟨x, hx, rfl⟩)
    rcases hso.2 _ _ _ _ t hle.1 hx1.1 hne hxd (.inl ht) with h | h
    · exact h.mem hS (fun o ho dd hdd => by
        rw [hle.1] at ho; injection ho with ho; subst ho
        exact hd dd hdd)
    · have := h.mem hle.2.2.2.clo (fun o ho dd hdd => by
        rw [hx1.1] at ho; injection ho with ho; subst ho
        exact elemN_iff.2 (hx1.2 dd hdd))
      exact absurd (elemN_iff.1 this) hle.2.2.1
  · intro x hx
    obtain ⟨h1, h2⟩ := List.mem_filter.1 hx
    exact later_no hso hl hS he (.inl ht) h1 h2

/-- When it has come up, its slot holds its value and the others what they held. -/
theorem filter_put (hso : SO N all) (hl : LOK all (L1 ++ e :: L2)) (hS : Clo all S) (he : S e.i = false) {S' : Nat → Bool} (hS' : ∀ i, S' i = (S i || Nat.beq i e.i)) (t : Nat) :
    ap σ0 ((L1 ++ e :: L2).filter fun x => S' x.i) t = (match e.o.dst with | none => ap σ0 ((L1 ++ e :: L2).filter fun x => S x.i) | some d => upd (ap σ0 ((L1 ++ e :: L2).filter fun x => S x.i)) d e.v) t := by
  have hle := hl.tail
  have f1 : ∀ (M : List En), (∀ x ∈ M, x.i ≠ e.i) → M.filter (fun x => S' x.i) = M.filter fun x => S x.i := by
    intro M hM
    apply List.filter_congr
    intro x hx
    rw [hS']
    have : Nat.beq x.i e.i = false := by
      cases h : Nat.beq x.i e.i
      · rfl
      · exact absurd (Nat.eq_of_beq_eq_true h) (hM x hx)
    simp [this]
  have h1 : ∀ x ∈ L1, x.i ≠ e.i := fun x hx k => hl.notin hx (by rw [k]; simp [dm])
  have h2 : ∀ x ∈ L2, x.i ≠ e.i := fun x hx k => hle.2.2.1 (by rw [← k]; exact List.mem_map.2 ⟨x, hx, rfl⟩)
  rw [List.filter_append, List.filter_append, List.filter_cons_of_pos (by rw [hS']; simp), List.filter_cons_of_neg (by rw [he]; simp), f1 _ h1, f1 _ h2]
  cases hd : e.o.dst with
  | none => exact ap_mid (by rw [hd]; simp)
  | some d =>
    simp only
    by_cases k : t = d
    · subst k
      rw [upd_same, ap_skip]
      · simp only [ap, hd, upd_same]
      · intro x hx
        obtain ⟨h1, h2⟩ := List.mem_filter.1 hx
        exact later_no hso hl hS he (.inr hd) h1 h2
    · rw [upd_other _ _ k]
      exact ap_mid (by rw [hd]; intro k'; injection k' with k'; exact k k'.symm)

theorem first_missing (h : LOK all L1) (hm : ∃ e ∈ L1, S e.i = false) : ∃ A e B, L1 = A ++ e :: B ∧ S e.i = false ∧ ∀ x ∈ B, S x.i = true := by
  induction L1 with
  | nil => obtain ⟨e, he, _⟩ := hm; simp at he
  | cons x r ih =>
    by_cases hr : ∃ e ∈ r, S e.i = false
    · obtain ⟨A, e, B, h1, h2, h3⟩ := ih h.2.2.2 hr
      exact ⟨x :: A, e, B, by rw [h1]; rfl, h2, h3⟩
    · obtain ⟨e, he, hs⟩ := hm
      rcases List.mem_cons.1 he with rfl | he
      · refine ⟨[], e, r, rfl, hs, fun y hy => ?_⟩
        cases hy' : S y.i
        · exact absurd ⟨y, hy, hy'⟩ hr
        · rfl
      · exact absurd ⟨e, he, hs⟩ hr
end
end Go.Proofs.YtemlkodkohgmmaaDoor.Y
