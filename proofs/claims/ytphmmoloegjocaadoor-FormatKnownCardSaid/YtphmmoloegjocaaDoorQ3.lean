/- Part 3 of the proof: Tb Tc Td Te Tf Tg Th Ti Tj Tk Ba Ua Ub Uc Ud Ue Va Vb Vc Vd Ve Vf Vg Vh Vi Vj Vk Vl Bb Vm Vn Vo Vp Vq -/
import Derived.Lib.MakeNoZero
import Derived.Laws.Externs
import Derived.Lib.Bytealg
import Derived.Test.YtphmmoloegjocaaDoorQ2
/- The reference's small functions on networks. -/
namespace Go.Proofs.YtphmmoloegjocaaDoor
open Go Y
set_option maxRecDepth 100000
set_option maxHeartbeats 4000000

abbrev TI : TypeId := 39
abbrev TN : TypeId := 3
abbrev TU : TypeId := 50
abbrev TNet : TypeId := 29
abbrev TNode : TypeId := 42
def iO (l : List Int) : AObj := ⟨TN, false, .pu (l.map i64)⟩
def uO (l : List Nat) : AObj := ⟨TU, false, .pu (l.map u64)⟩
def ntO (n : Nt) : AObj := ⟨TNet, false, .bx (n.cells.map .p)⟩
def ndO (x : Nd) : AObj := ⟨TNode, false, .bx (x.cells.map .p)⟩
def prevN (vars : List Int) (k : Nat) : Int := if k = 0 then -1 else vars.getD (k - 1) 0
def listP (n : Int) (vars : List Int) : Prop := ∀ i, i < vars.length → prevN vars i < vars.getD i 0 ∧ vars.getD i 0 < n
instance (n : Int) (vars : List Int) : Decidable (listP n vars) := inferInstanceAs (Decidable (∀ i, i < vars.length → _))
theorem list_ge {n : Int} {vars : List Int} (h : listP n vars) : ∀ i, i < vars.length → (i : Int) ≤ vars.getD i 0
  | 0, hi => by
    have h1 := (h 0 hi).1
    have h2 : prevN vars 0 = -1 := rfl
    rw [h2] at h1
    omega
  | i + 1, hi => by
    have h1 := list_ge h i (by omega)
    have h2 := (h (i + 1) hi).1
    rw [prevN, if_neg (by omega), show i + 1 - 1 = i by omega] at h2
    omega
theorem list_len {n : Nat} {vars : List Int} (h : listP n vars) : vars.length ≤ n := by
  rcases Nat.eq_zero_or_pos vars.length with h0 | h0
  · omega
  · have h1 := list_ge h (vars.length - 1) (by omega)
    have h2 := (h (vars.length - 1) (by omega)).2
    omega
theorem list_mem {n : Nat} {vars : List Int} (h : listP n vars) : ∀ v ∈ vars, 0 ≤ v ∧ v < n := by
  intro v hv
  obtain ⟨i, hi, rfl⟩ := mem_getD 0 hv
  have h1 := list_ge h i hi
  have h2 := (h i hi).2
  omega

/-! ### Cards, elements at places, products -/
def cardsN (n : Nt) : List Int := n.nodes.map Nd.card
def atN (l ps : List Int) : List Int := ps.map fun p => l.getD p.toNat 0
def prodN (l : List Int) : Int := l.foldl (· * ·) 1
def okCard (c : Int) : Prop := 1 ≤ c ∧ c ≤ 4
theorem prod_step {l : List Int} {k : Nat} (h : k < l.length) : prodN (l.take (k + 1)) = prodN (l.take k) * l.getD k 0 := by
  rw [take_succ_getD 0 h, prodN, List.foldl_append]; rfl
theorem pow4 : ∀ i ≤ 9, (4 : Int) ^ i ≤ 262144 := by decide
theorem prod_take {l : List Int} (h : ∀ c ∈ l, okCard c) : ∀ k, k ≤ l.length → 1 ≤ prodN (l.take k) ∧ prodN (l.take k) ≤ 4 ^ k
  | 0, _ => by simp [prodN]
  | k + 1, hk => by
    obtain ⟨h1, h2⟩ := prod_take h k (by omega)
    obtain ⟨c1, c2⟩ := h _ (getD_memL 0 (show k < l.length by omega))
    rw [prod_step (by omega), Int.pow_succ]
    refine ⟨?_, Int.mul_le_mul h2 c2 (by omega) (by exact_mod_cast Nat.zero_le (4 ^ k))⟩
    have := Int.mul_le_mul h1 c1 (by omega) (by omega)
    omega

/-- The cards of a node's parents. -/
def pcardsN (n : Nt) (v : Nat) : List Int := atN (cardsN n) (n.nodes.getD v nd0).parents
/-- Parents as a set. -/
def setN (ps : List Int) : Nat := ps.foldl (fun s p => s ||| 2 ^ p.toNat) 0
def setsN (n : Nt) : List Nat := n.nodes.map fun x => setN x.parents
theorem set_step {l : List Int} {k : Nat} (h : k < l.length) : setN (l.take (k + 1)) = setN (l.take k) ||| 2 ^ (l.getD k 0).toNat := by
  rw [take_succ_getD 0 h, setN, List.foldl_append]; rfl
theorem set_take {l : List Int} {n : Nat} (h : ∀ p ∈ l, 0 ≤ p ∧ p < (n : Int)) : ∀ k, k ≤ l.length → setN (l.take k) < 2 ^ n
  | 0, _ => by simp only [List.take_zero]; exact Nat.pow_pos (by decide)
  | k + 1, hk => by
    have h1 := set_take h k (by omega)
    obtain ⟨c1, c2⟩ := h _ (getD_memL 0 (show k < l.length by omega))
    rw [set_step (by omega)]
    exact Nat.or_lt_two_pow h1 (Nat.pow_lt_pow_right (by decide) (by omega))
theorem set_lt {l : List Int} {n : Nat} (h : ∀ p ∈ l, 0 ≤ p ∧ p < (n : Int)) : setN l < 2 ^ n := by
  have := set_take h l.length (Nat.le_refl _)
  rwa [take_all (Nat.le_refl _)] at this
theorem set_bit {l : List Int} (h : ∀ p ∈ l, 0 ≤ p) {q : Nat} : (setN l).testBit q = true ↔ (q : Int) ∈ l := by
  have key : ∀ k, k ≤ l.length → ((setN (l.take k)).testBit q = true ↔ (q : Int) ∈ l.take k) := by
    intro k
    induction k with
    | zero => intro _; simp [setN]
    | succ k ih =>
      intro hk
      have h1 := h _ (getD_memL 0 (show k < l.length by omega))
      rw [set_step (by omega), test_or, test_pow, Bool.or_eq_true, ih (by omega), take_succ_getD 0 (by omega), List.mem_append, decide_eq_true_iff]
      simp only [List.mem_singleton]
      constructor
      · rintro (h | h)
        · exact .inl h
        · exact .inr (by omega)
      · rintro (h | h)
        · exact .inl h
        · exact .inr (by omega)
  have := key l.length (Nat.le_refl _)
  rwa [take_all (Nat.le_refl _)] at this
def placedP (n : Nt) : Prop := ∀ x ∈ n.nodes, listP n.nodes.length x.parents
theorem sets_ok {n : Nt} (h : placedP n) : okPar (setsN n) := by
  intro v hv
  have hl : (setsN n).length = n.nodes.length := List.length_map ..
  rw [hl] at hv ⊢
  rw [parAt, setsN, getD_map nd0 0 hv]
  exact set_lt (list_mem (h _ (getD_memL nd0 hv)))

end Go.Proofs.YtphmmoloegjocaaDoor

/- Which networks are valid; the reference's Right. -/
namespace Go.Proofs.YtphmmoloegjocaaDoor
open Go Y
set_option maxRecDepth 100000
set_option maxHeartbeats 40000000

def sumN (l : List Int) : Int := l.foldl (· + ·) 0
theorem sum_step {l : List Int} {k : Nat} (h : k < l.length) : sumN (l.take (k + 1)) = sumN (l.take k) + l.getD k 0 := by
  rw [take_succ_getD 0 h, sumN, List.foldl_append]; rfl
def rowP (g c : Int) (r : List Int) : Prop := (r.length : Int) = c ∧ (∀ w ∈ r, 0 ≤ w ∧ w ≤ g) ∧ sumN r = g
def nodeP (n : Nt) (v : Nat) : Prop := ((n.nodes.getD v nd0).rows.length : Int) = prodN (pcardsN n v) ∧ ∀ r ∈ (n.nodes.getD v nd0).rows, rowP n.grain (n.nodes.getD v nd0).card r
structure validP (n : Nt) : Prop where
  grain : 1 ≤ n.grain ∧ n.grain ≤ 60
  len : 1 ≤ n.nodes.length ∧ n.nodes.length ≤ 8
  cards : ∀ x ∈ n.nodes, okCard x.card
  placed : placedP n
  prod : prodN (cardsN n) ≤ 1024
  acyc : acycP (setsN n)
  node : ∀ v, v < n.nodes.length → nodeP n v
noncomputable instance (n : Nt) : Decidable (validP n) := Classical.propDecidable _
/-- Lengths that can be. -/
structure BigN (n : Nt) : Prop where
  nodes : n.nodes.length ≤ 9223372036854775807
  par : ∀ x ∈ n.nodes, x.parents.length ≤ 9223372036854775807
  rows : ∀ x ∈ n.nodes, x.rows.length ≤ 9223372036854775807
  row : ∀ x ∈ n.nodes, ∀ r ∈ x.rows, r.length ≤ 9223372036854775807

theorem prod_take' {l : List Int} {k : Nat} (h : ∀ c ∈ l.take k, okCard c) (hk : k ≤ l.length) : 1 ≤ prodN (l.take k) ∧ prodN (l.take k) ≤ 4 ^ k := by
  have := prod_take h k (by rw [List.length_take]; omega)
  rwa [List.take_take, Nat.min_self] at this
theorem mem_take {α : Type} {l : List α} {k : Nat} {P : α → Prop} (d : α) (h : k < l.length) (h1 : ∀ x ∈ l.take k, P x) (h2 : P (l.getD k d)) : ∀ x ∈ l.take (k + 1), P x := by
  rw [take_succ_getD d h]
  intro x hx
  rcases List.mem_append.1 hx with hx | hx
  · exact h1 x hx
  · simp only [List.mem_singleton] at hx; rw [hx]; exact h2
theorem atN_ok {l ps : List Int} (hc : ∀ c ∈ l, okCard c) (hm : ∀ p ∈ ps, 0 ≤ p ∧ p < (l.length : Int)) : ∀ c ∈ atN l ps, okCard c := by
  intro c h
  obtain ⟨p, hp, rfl⟩ := List.mem_map.1 h
  have := hm p hp
  exact hc _ (getD_memL 0 (by omega))

end Go.Proofs.YtphmmoloegjocaaDoor

/- Package net: rows, filled. -/
namespace Go.Proofs.YtphmmoloegjocaaDoor
open Go Y
set_option maxRecDepth 100000
set_option maxHeartbeats 40000000

abbrev TW : TypeId := 80
def dfO : AObj := ⟨0, false, .df⟩
def lpO (st : LoopState) (pd : Option Code) (lim N : Nat) (σ : Sg) (ps : List Tmp) (ac bd : Code) : AObj := ⟨0, false, .lp st pd lim N σ ps ac bd lim⟩
def bO (b : Bool) : AObj := ⟨4, false, .bx [.p (.bool b)]⟩
/-- A network with what has been found out about it. -/
def nwCells (n : Nt) (sets : List Nat) (ord : PV) : List PV := [i64 n.grain, .lsts 3 (n.nodes.map Nd.cells), ints (cardsN n), usets sets, ord]
def nwO (n : Nt) (sets : List Nat) (ord : PV) : AObj := ⟨TW, false, .bx ((nwCells n sets ord).map .p)⟩

theorem rows_c (x : Nd) : Pure cx 65 [x.pv] (· = .ret [.fn (.func 72) [] [.fp x.cells]]) := by
  refine pure_of_vc Tryd.func65 rfl rfl rfl ?_
  exact end1 _ rfl ⟨rfl, _, _, rfl, rfl, ⟨_, _, rfl, ⟨_, rfl, _, _, rfl, rfl, _, _, rfl, rfl, _, _, rfl, rfl, rfl⟩, rfl⟩⟩ rfl

/-- The heap of filled in its range. -/
def flL (n : Nt) (sets : List Nat) (x : Nd) (st : LoopState) (pd : Option Code) (N : Nat) (σ : Sg) (ps : List Tmp) (ac bd : Code) : List (Nat × AObj) :=
  [(4, lpO st pd 3 N σ ps ac bd), (3, dfO), (2, bO false), (1, ndO x), (0, nwO n sets .nils)]

theorem iterR_c (n : Nt) (sets : List Nat) (x : Nd) (g c : Int) (hx : x.rows.length ≤ 9223372036854775807) (N : Nat) (σ σ1 : Sg) (ds : List AD) (ps : List Tmp) (ac bd : Code) (Q : KQ)
    (hok : (∀ r ∈ x.rows, rowP g c r) → Q .normal σ1 ds ⟨5, flL n sets x .exhausted none N σ ps ac bd⟩)
    (hno : ¬ (∀ r ∈ x.rows, rowP g c r) → Q .ret σ1 ds ⟨5, flL n sets x .exhausted (some .ret) N σ ps ac bd⟩)
    (hrd : ∀ (k : Nat) (r : List Int) (K : AE → Hp → Prop), r ∈ x.rows → (rowP g c r → K (.returned (vB true)) ⟨5, flL n sets x .ready none N σ ps ac bd⟩) → (¬ rowP g c r → K (.returned (vB false)) ⟨5, flL n sets x .done (some .ret) N σ ps ac bd⟩) → RoundH cx 4 [.p (i64 k), .p (ints r)] ⟨5, flL n sets x .ready none N σ ps ac bd⟩ K) :
    HoldsG cx 72 [.fn (.yield 4) [] [], .p (.fp x.cells)] ⟨5, flL n sets x .ready none N σ ps ac bd⟩ (RangeQ 4 σ1 ds Q) := by
  refine holdsN_of_vc Tryd.func72 rfl rfl rfl ?_
  refine ⟨Nat, fun k => [(0, .fn (.yield 4) [] []), (6, .p (.lst (x.rows.map ints))), (7, .p (i64 x.rows.length)), (8, .p (i64 k))], fun _ => ⟨5, flL n sets x .ready none N σ ps ac bd⟩,
    fun k => k ≤ x.rows.length ∧ ∀ r ∈ x.rows.take k, rowP g c r, fun k => x.rows.length - k, ?_, ?_⟩
  · exact ⟨0, ⟨by omega, by simp⟩, ent_of [] [] [] rfl ⟨⟨rfl, _, _, rfl, rfl, rfl⟩, rfl, lenM ints x.rows, rfl, trivial⟩ ⟨⟨_, rfl, rfl, rfl, rfl, rfl, rfl⟩, ⟨_, rfl, rfl, rfl, rfl⟩, ⟨_, rfl, rfl, rfl, _, rfl, by (repeat' first | exact trivial | exact rfl | exact ⟨rfl, rfl⟩ | exact .inl rfl | refine ⟨_, rfl, rfl, rfl, ?_⟩ | refine ⟨_, _, rfl, ?_, ?_⟩ | refine ⟨_, rfl, ?_⟩ | refine And.intro ?_ ?_)⟩, ⟨_, rfl, rfl, rfl, _, rfl, by (repeat' first | exact trivial | exact rfl | exact ⟨rfl, rfl⟩ | exact .inl rfl | refine ⟨_, rfl, rfl, rfl, ?_⟩ | refine ⟨_, _, rfl, ?_, ?_⟩ | refine ⟨_, rfl, ?_⟩ | refine And.intro ?_ ?_)⟩, ⟨_, rfl, rfl, rfl, _, rfl, _, _, rfl, res_p _ _, _, _, rfl, res_p _ _, _, _, rfl, res_p _ _, _, _, rfl, res_p _ _, _, _, rfl, res_p _ _, rfl⟩, trivial⟩ rfl⟩
  rintro k ⟨g1, g2⟩
  (first | refine brLt (fun h1 => ?_) (fun h1 => ?_) | refine brLe (fun h1 => ?_) (fun h1 => ?_) | refine brEq (fun h1 => ?_) (fun h1 => ?_))
  · have h1 : (k : Int) < (x.rows.length : Nat) := h1
    have hk : k < x.rows.length := by omega
    obtain ⟨r, hr⟩ : ∃ r, r = x.rows.getD k [] := ⟨_, rfl⟩
    have hrm : r ∈ x.rows := by rw [hr]; exact getD_memL [] hk
    refine ⟨_, ⟨by omega, ints r, by rw [hr]; exact ccell hk, rfl⟩, ?_⟩
    refine hrd k r _ hrm (fun h => ?_) (fun h => ?_)
    · refine ⟨(k : Int) + 1, wrap_i64 (by omega) (by omega), ?_⟩
      exact ⟨k + 1, ⟨by omega, mem_take [] hk g2 (by rw [← hr]; exact h)⟩, ent_of [] [] [] rfl ⟨⟨rfl, _, _, rfl, rfl, rfl⟩, rfl, rfl, rfl, trivial⟩ ⟨⟨_, rfl, rfl, rfl, rfl, rfl, rfl⟩, ⟨_, rfl, rfl, rfl, rfl⟩, ⟨_, rfl, rfl, rfl, _, rfl, by (repeat' first | exact trivial | exact rfl | exact ⟨rfl, rfl⟩ | exact .inl rfl | refine ⟨_, rfl, rfl, rfl, ?_⟩ | refine ⟨_, _, rfl, ?_, ?_⟩ | refine ⟨_, rfl, ?_⟩ | refine And.intro ?_ ?_)⟩, ⟨_, rfl, rfl, rfl, _, rfl, by (repeat' first | exact trivial | exact rfl | exact ⟨rfl, rfl⟩ | exact .inl rfl | refine ⟨_, rfl, rfl, rfl, ?_⟩ | refine ⟨_, _, rfl, ?_, ?_⟩ | refine ⟨_, rfl, ?_⟩ | refine And.intro ?_ ?_)⟩, ⟨_, rfl, rfl, rfl, _, rfl, _, _, rfl, res_p _ _, _, _, rfl, res_p _ _, _, _, rfl, res_p _ _, _, _, rfl, res_p _ _, _, _, rfl, res_p _ _, rfl⟩, trivial⟩ rfl, by show x.rows.length - (k + 1) < x.rows.length - k; omega⟩
    · exact ⟨[], [], [], .returned und, ⟨5, flL n sets x .done (some .ret) N σ ps ac bd⟩, rfl, by (repeat' first | exact trivial | exact rfl | exact ⟨rfl, rfl⟩ | exact .inl rfl | refine ⟨_, rfl, rfl, rfl, ?_⟩ | refine ⟨_, _, rfl, ?_, ?_⟩ | refine ⟨_, rfl, ?_⟩ | refine And.intro ?_ ?_), ⟨⟨_, rfl, rfl, rfl, rfl, rfl, rfl⟩, ⟨_, rfl, rfl, rfl, rfl⟩, ⟨_, rfl, rfl, rfl, _, rfl, by (repeat' first | exact trivial | exact rfl | exact ⟨rfl, rfl⟩ | exact .inl rfl | refine ⟨_, rfl, rfl, rfl, ?_⟩ | refine ⟨_, _, rfl, ?_, ?_⟩ | refine ⟨_, rfl, ?_⟩ | refine And.intro ?_ ?_)⟩, ⟨_, rfl, rfl, rfl, _, rfl, by (repeat' first | exact trivial | exact rfl | exact ⟨rfl, rfl⟩ | exact .inl rfl | refine ⟨_, rfl, rfl, rfl, ?_⟩ | refine ⟨_, _, rfl, ?_, ?_⟩ | refine ⟨_, rfl, ?_⟩ | refine And.intro ?_ ?_)⟩, ⟨_, rfl, rfl, rfl, _, rfl, _, _, rfl, res_p _ _, _, _, rfl, res_p _ _, _, _, rfl, res_p _ _, _, _, rfl, res_p _ _, _, _, rfl, res_p _ _, rfl⟩, trivial⟩, hno fun hh => h (hh r hrm)⟩
  · have h1 : ¬ (k : Int) < (x.rows.length : Nat) := h1
    rw [take_all (by omega)] at g2
    exact ⟨[], [], [], .returned und, ⟨5, flL n sets x .ready none N σ ps ac bd⟩, rfl, by (repeat' first | exact trivial | exact rfl | exact ⟨rfl, rfl⟩ | exact .inl rfl | refine ⟨_, rfl, rfl, rfl, ?_⟩ | refine ⟨_, _, rfl, ?_, ?_⟩ | refine ⟨_, rfl, ?_⟩ | refine And.intro ?_ ?_), ⟨⟨_, rfl, rfl, rfl, rfl, rfl, rfl⟩, ⟨_, rfl, rfl, rfl, rfl⟩, ⟨_, rfl, rfl, rfl, _, rfl, by (repeat' first | exact trivial | exact rfl | exact ⟨rfl, rfl⟩ | exact .inl rfl | refine ⟨_, rfl, rfl, rfl, ?_⟩ | refine ⟨_, _, rfl, ?_, ?_⟩ | refine ⟨_, rfl, ?_⟩ | refine And.intro ?_ ?_)⟩, ⟨_, rfl, rfl, rfl, _, rfl, by (repeat' first | exact trivial | exact rfl | exact ⟨rfl, rfl⟩ | exact .inl rfl | refine ⟨_, rfl, rfl, rfl, ?_⟩ | refine ⟨_, _, rfl, ?_, ?_⟩ | refine ⟨_, rfl, ?_⟩ | refine And.intro ?_ ?_)⟩, ⟨_, rfl, rfl, rfl, _, rfl, _, _, rfl, res_p _ _, _, _, rfl, res_p _ _, _, _, rfl, res_p _ _, _, _, rfl, res_p _ _, _, _, rfl, res_p _ _, rfl⟩, trivial⟩, hok g2⟩

theorem sum_app (l : List Int) : ∀ a : Int, l.foldl (· + ·) a = a + sumN l := by
  induction l with
  | nil => intro a; simp [sumN]
  | cons x r ih => intro a; rw [sumN, List.foldl_cons, List.foldl_cons, ih, ih (0 + x)]; omega
theorem sum_nonneg {l : List Int} (h : ∀ w ∈ l, 0 ≤ w) : 0 ≤ sumN l := by
  induction l with
  | nil => simp [sumN]
  | cons x r ih =>
    have h1 := h x (by simp)
    have h2 := ih fun w hw => h w (by simp [hw])
    rw [sumN, List.foldl_cons, sum_app]; omega
theorem sum_split (l : List Int) (k : Nat) : sumN l = sumN (l.take k) + sumN (l.drop k) := by
  conv => lhs; rw [← List.take_append_drop k l]
  rw [sumN, List.foldl_append, sum_app]; rfl
theorem sum_take_le {l : List Int} (h : ∀ w ∈ l, 0 ≤ w) (k : Nat) : sumN (l.take k) ≤ sumN l := by
  have := sum_split l k
  have := sum_nonneg (l := l.drop k) fun w hw => h w (List.mem_of_mem_drop hw)
  omega

def fillP (n : Nt) (x : Nd) : Prop := (x.rows.length : Int) = prodN (atN (cardsN n) x.parents) ∧ ∀ r ∈ x.rows, rowP n.grain x.card r
noncomputable instance (n : Nt) (x : Nd) : Decidable (fillP n x) := Classical.propDecidable _
theorem filled_c (n : Nt) (sets : List Nat) (x : Nd) (hg : 1 ≤ n.grain ∧ n.grain ≤ 60) (hl : n.nodes.length ≤ 8) (hc : ∀ c ∈ cardsN n, okCard c) (hp : listP n.nodes.length x.parents)
    (hr : x.rows.length ≤ 9223372036854775807) (hrr : ∀ r ∈ x.rows, r.length ≤ 9223372036854775807) :
    Pure cx 56 [.agg (nwCells n sets .nils), x.pv] (· = .ret [.bool (decide (fillP n x))]) := by
  refine pure_of_vc Tryd.func56 rfl rfl rfl ?_
  have hcl : (cardsN n).length = n.nodes.length := List.length_map ..
  have hxl := list_len hp
  have hxm := list_mem hp
  have hal : (atN (cardsN n) x.parents).length = x.parents.length := List.length_map ..
  have hac := atN_ok (ps := x.parents) hc (by rw [hcl]; exact hxm)
  refine ⟨Nat, fun k => [(2, .ptr 0 0 0), (3, .ptr 1 0 0), (4, .ptr 2 0 0), (5, .p (i64 (prodN ((atN (cardsN n) x.parents).take k)))), (14, .p (ints x.parents)), (15, .p (i64 x.parents.length)), (16, .p (i64 k))], fun _ => ⟨3, [(2, bO false), (1, ndO x), (0, nwO n sets .nils)]⟩, fun k => k ≤ x.parents.length, fun k => x.parents.length - k, ?_, ?_⟩
  · exact ⟨0, by omega, ent_of [] [] [] rfl ⟨⟨rfl, rfl⟩, ⟨rfl, rfl⟩, ⟨rfl, rfl⟩, rfl, rfl, lenM i64 x.parents, rfl, trivial⟩ ⟨⟨_, rfl, rfl, rfl, _, rfl, by (repeat' first | exact trivial | exact rfl | exact ⟨rfl, rfl⟩ | exact .inl rfl | refine ⟨_, rfl, rfl, rfl, ?_⟩ | refine ⟨_, _, rfl, ?_, ?_⟩ | refine ⟨_, rfl, ?_⟩ | refine And.intro ?_ ?_)⟩, ⟨_, rfl, rfl, rfl, _, rfl, by (repeat' first | exact trivial | exact rfl | exact ⟨rfl, rfl⟩ | exact .inl rfl | refine ⟨_, rfl, rfl, rfl, ?_⟩ | refine ⟨_, _, rfl, ?_, ?_⟩ | refine ⟨_, rfl, ?_⟩ | refine And.intro ?_ ?_)⟩, ⟨_, rfl, rfl, rfl, _, rfl, _, _, rfl, res_p _ _, _, _, rfl, res_p _ _, _, _, rfl, res_p _ _, _, _, rfl, res_p _ _, _, _, rfl, res_p _ _, rfl⟩, trivial⟩ rfl⟩
  intro k hk
  obtain ⟨p1, p2⟩ := prod_take hac k (by omega)
  have p3 := pow4 k (by omega)
  (first | refine brLt (fun h1 => ?_) (fun h1 => ?_) | refine brLe (fun h1 => ?_) (fun h1 => ?_) | refine brEq (fun h1 => ?_) (fun h1 => ?_))
  · have h1 : (k : Int) < (x.parents.length : Nat) := h1
    have hkl : k < x.parents.length := by omega
    obtain ⟨m1, m2⟩ := hxm _ (getD_memL 0 hkl)
    have e : (atN (cardsN n) x.parents).getD k 0 = (cardsN n).getD (x.parents.getD k 0).toNat 0 := by rw [atN, getD_map 0 0 hkl]
    obtain ⟨q1, q2⟩ := prod_take hac (k + 1) (by omega)
    have q3 := pow4 (k + 1) (by omega)
    rw [prod_step (by omega), e] at q1 q2
    refine ⟨_, ⟨by omega, i64 (x.parents.getD k 0), icell hkl, rfl⟩, ?_⟩
    refine ⟨_, ⟨m1, i64 ((cardsN n).getD (x.parents.getD k 0).toNat 0), icell (by omega), rfl⟩, ?_⟩
    refine ⟨prodN ((atN (cardsN n) x.parents).take k) * (cardsN n).getD (x.parents.getD k 0).toNat 0, wrap_i64 (by omega) (by omega), ?_⟩
    refine ⟨_, wrap_i64 (by omega) (by omega), ?_⟩
    exact ⟨k + 1, by omega, ent_of [] [] [] rfl ⟨⟨rfl, rfl⟩, ⟨rfl, rfl⟩, ⟨rfl, rfl⟩, by rw [prod_step (by omega), e]; rfl, rfl, rfl, rfl, trivial⟩ ⟨⟨_, rfl, rfl, rfl, _, rfl, by (repeat' first | exact trivial | exact rfl | exact ⟨rfl, rfl⟩ | exact .inl rfl | refine ⟨_, rfl, rfl, rfl, ?_⟩ | refine ⟨_, _, rfl, ?_, ?_⟩ | refine ⟨_, rfl, ?_⟩ | refine And.intro ?_ ?_)⟩, ⟨_, rfl, rfl, rfl, _, rfl, by (repeat' first | exact trivial | exact rfl | exact ⟨rfl, rfl⟩ | exact .inl rfl | refine ⟨_, rfl, rfl, rfl, ?_⟩ | refine ⟨_, _, rfl, ?_, ?_⟩ | refine ⟨_, rfl, ?_⟩ | refine And.intro ?_ ?_)⟩, ⟨_, rfl, rfl, rfl, _, rfl, _, _, rfl, res_p _ _, _, _, rfl, res_p _ _, _, _, rfl, res_p _ _, _, _, rfl, res_p _ _, _, _, rfl, res_p _ _, rfl⟩, trivial⟩ rfl, by show x.parents.length - (k + 1) < x.parents.length - k; omega⟩
  have h1 : ¬ (k : Int) < (x.parents.length : Nat) := h1
  have hk : k = x.parents.length := by omega
  subst hk
  have htk : (atN (cardsN n) x.parents).take x.parents.length = atN (cardsN n) x.parents := take_all (by omega)
  (first | refine brLt (fun h2 => ?_) (fun h2 => ?_) | refine brLe (fun h2 => ?_) (fun h2 => ?_) | refine brEq (fun h2 => ?_) (fun h2 => ?_))
  rotate_left
  · have h2 : ¬ (((x.rows.map ints).length : Nat) : Int) = prodN ((atN (cardsN n) x.parents).take x.parents.length) := h2
    rw [List.length_map, htk] at h2
    exact end1 (.bool false) rfl rfl (retB (decide_eq_false fun h => h2 h.1).symm)
  have h2 : (((x.rows.map ints).length : Nat) : Int) = prodN ((atN (cardsN n) x.parents).take x.parents.length) := h2
  rw [List.length_map, htk] at h2
  refine (rows_c x).eq rfl ?_
  refine range_of ?_
  intro σ' ps ac bd e1 e2 e3 e4
  refine iterR_c n sets x n.grain x.card hr _ σ' _ _ ps ac bd _ (fun h => ?_) (fun h => ?_) ?_
  · exact end1 (.bool true) rfl rfl (retB (decide_eq_true ⟨h2, h⟩).symm)
  · exact end1 (.bool false) rfl rfl (retB (decide_eq_false fun hh => h hh.2).symm)
  intro k r K hrm hyes hno
  have hrl := hrr r hrm
  subst e1 e2 e3 e4
  refine round_of_vc rfl rfl rfl ?_
  apply loop_rec (C := cx) (α := Nat) (fun i => [(3, .ptr 1 0 0), (4, .ptr 2 0 0), (9, .p (ints r)), (10, .p (i64 (n.grain - sumN (r.take i)))), (40, .p (ints r)), (41, .p (i64 r.length)), (42, .p (i64 i))]) (fun N σ ps ac bd _ => ⟨5, flL n sets x .busy none N σ ps ac bd⟩) (fun i => i ≤ r.length ∧ (∀ w ∈ r.take i, 0 ≤ w) ∧ 0 ≤ sumN (r.take i) ∧ sumN (r.take i) ≤ n.grain) (fun i => r.length - i)
  · exact ⟨0, ⟨by omega, by simp, by simp [sumN], by simp [sumN]; omega⟩, ent_of [] [] [] rfl ⟨⟨rfl, rfl⟩, ⟨rfl, rfl⟩, rfl, congrArg (fun m => i64 m) (show n.grain - 0 = n.grain by omega), rfl, lenM i64 r, rfl, trivial⟩ ⟨⟨_, rfl, rfl, rfl, rfl, rfl, rfl⟩, ⟨_, rfl, rfl, rfl, rfl⟩, ⟨_, rfl, rfl, rfl, _, rfl, by (repeat' first | exact trivial | exact rfl | exact ⟨rfl, rfl⟩ | exact .inl rfl | refine ⟨_, rfl, rfl, rfl, ?_⟩ | refine ⟨_, _, rfl, ?_, ?_⟩ | refine ⟨_, rfl, ?_⟩ | refine And.intro ?_ ?_)⟩, ⟨_, rfl, rfl, rfl, _, rfl, by (repeat' first | exact trivial | exact rfl | exact ⟨rfl, rfl⟩ | exact .inl rfl | refine ⟨_, rfl, rfl, rfl, ?_⟩ | refine ⟨_, _, rfl, ?_, ?_⟩ | refine ⟨_, rfl, ?_⟩ | refine And.intro ?_ ?_)⟩, ⟨_, rfl, rfl, rfl, _, rfl, _, _, rfl, res_p _ _, _, _, rfl, res_p _ _, _, _, rfl, res_p _ _, _, _, rfl, res_p _ _, _, _, rfl, res_p _ _, rfl⟩, trivial⟩ rfl⟩
  rintro i ⟨i1, i2, i3, i4⟩
  (first | refine brLt (fun k1 => ?_) (fun k1 => ?_) | refine brLe (fun k1 => ?_) (fun k1 => ?_) | refine brEq (fun k1 => ?_) (fun k1 => ?_))
  · have k1 : (i : Int) < (r.length : Nat) := k1
    have hi : i < r.length := by omega
    have hwm := getD_memL 0 hi
    refine ⟨_, ⟨by omega, i64 (r.getD i 0), icell hi, rfl⟩, ?_⟩
    (first | refine brLt (fun k2 => ?_) (fun k2 => ?_) | refine brLe (fun k2 => ?_) (fun k2 => ?_) | refine brEq (fun k2 => ?_) (fun k2 => ?_))
    · exact hno fun h => by have k2 : r.getD i 0 < 0 := k2; have := (h.2.1 _ hwm).1; omega
    have k2 : ¬ r.getD i 0 < 0 := k2
    (first | refine brLt (fun k3 => ?_) (fun k3 => ?_) | refine brLe (fun k3 => ?_) (fun k3 => ?_) | refine brEq (fun k3 => ?_) (fun k3 => ?_))
    · have k3 : n.grain - sumN (r.take i) < r.getD i 0 := k3
      refine hno fun h => ?_
      have h1 := sum_take_le (l := r) (fun w hw => (h.2.1 w hw).1) (i + 1)
      rw [sum_step hi, h.2.2] at h1
      omega
    have k3 : ¬ n.grain - sumN (r.take i) < r.getD i 0 := k3
    refine ⟨n.grain - sumN (r.take (i + 1)), ?_, ?_⟩
    · rw [sum_step hi]
      show _ = IntKind.i64.wrap (n.grain - sumN (r.take i) - r.getD i 0)
      rw [show n.grain - (sumN (r.take i) + r.getD i 0) = n.grain - sumN (r.take i) - r.getD i 0 by omega]
      exact wrap_i64 (by omega) (by omega)
    refine ⟨(i : Int) + 1, wrap_i64 (by omega) (by omega), ?_⟩
    exact ⟨i + 1, ⟨by omega, mem_take 0 hi i2 (by omega), by rw [sum_step hi]; omega, by rw [sum_step hi]; omega⟩, ent_of [] [] [] rfl ⟨⟨rfl, rfl⟩, ⟨rfl, rfl⟩, rfl, rfl, rfl, rfl, rfl, trivial⟩ ⟨⟨_, rfl, rfl, rfl, rfl, rfl, rfl⟩, ⟨_, rfl, rfl, rfl, rfl⟩, ⟨_, rfl, rfl, rfl, _, rfl, by (repeat' first | exact trivial | exact rfl | exact ⟨rfl, rfl⟩ | exact .inl rfl | refine ⟨_, rfl, rfl, rfl, ?_⟩ | refine ⟨_, _, rfl, ?_, ?_⟩ | refine ⟨_, rfl, ?_⟩ | refine And.intro ?_ ?_)⟩, ⟨_, rfl, rfl, rfl, _, rfl, by (repeat' first | exact trivial | exact rfl | exact ⟨rfl, rfl⟩ | exact .inl rfl | refine ⟨_, rfl, rfl, rfl, ?_⟩ | refine ⟨_, _, rfl, ?_, ?_⟩ | refine ⟨_, rfl, ?_⟩ | refine And.intro ?_ ?_)⟩, ⟨_, rfl, rfl, rfl, _, rfl, _, _, rfl, res_p _ _, _, _, rfl, res_p _ _, _, _, rfl, res_p _ _, _, _, rfl, res_p _ _, _, _, rfl, res_p _ _, rfl⟩, trivial⟩ rfl, by show r.length - (i + 1) < r.length - i; omega⟩
  · have k1 : ¬ (i : Int) < (r.length : Nat) := k1
    have hrt : r.take i = r := take_all (by omega)
    rw [hrt] at i2 i3 i4
    (first | refine brLt (fun k2 => ?_) (fun k2 => ?_) | refine brLe (fun k2 => ?_) (fun k2 => ?_) | refine brEq (fun k2 => ?_) (fun k2 => ?_))
    rotate_left
    · exact hno fun h => by
        have k2 : ¬ (((r.map i64).length : Nat) : Int) = x.card := k2
        rw [List.length_map] at k2
        exact k2 h.1
    have k2 : (((r.map i64).length : Nat) : Int) = x.card := k2
    rw [List.length_map] at k2
    (first | refine brLt (fun k3 => ?_) (fun k3 => ?_) | refine brLe (fun k3 => ?_) (fun k3 => ?_) | refine brEq (fun k3 => ?_) (fun k3 => ?_))
    rotate_left
    · exact hno fun h => by
        have k3 : ¬ n.grain - sumN (r.take i) = 0 := k3
        rw [hrt, h.2.2] at k3
        exact k3 (by omega)
    have k3 : n.grain - sumN (r.take i) = 0 := k3
    rw [hrt] at k3
    refine hyes ⟨k2, fun w hw => ⟨i2 w hw, ?_⟩, by omega⟩
    obtain ⟨j, hj, rfl⟩ := mem_getD 0 hw
    have s1 := sum_take_le i2 (j + 1)
    have s2 := sum_nonneg (l := r.take j) fun w hw => i2 w (List.mem_of_mem_take hw)
    rw [sum_step hj] at s1
    omega
end Go.Proofs.YtphmmoloegjocaaDoor

/- Package net: sorted. -/
namespace Go.Proofs.YtphmmoloegjocaaDoor
open Go Y
set_option maxRecDepth 100000
set_option maxHeartbeats 40000000

def ofN (l : List Nat) : List Int := l.map (fun (v : Nat) => (v : Int))
theorem ofN_len (l : List Nat) : (ofN l).length = l.length := List.length_map ..
theorem ofN_snoc (l : List Nat) (v : Nat) : ofN (l ++ [v]) = ofN l ++ [(v : Int)] := by simp [ofN]
theorem sorted_c (par : List Nat) (hn : par.length ≤ 60) (hp : okPar par) : Pure cx 57 [usets par] fun r => (acycP par ∧ ∃ l : List Int, r = .ret [ints l, .bool true]) ∨ (¬ acycP par ∧ r = .ret [.nils, .bool false]) := by
  refine pure_of_vc Tryd.func57 rfl rfl rfl ?_
  have h64 : 2 ^ par.length < 18446744073709551616 := pow64 (by omega)
  refine ⟨by show (0 : Int) ≤ 0 ∧ (0 : Int) ≤ ((par.map u64).length : Nat) ∧ (((par.map u64).length : Nat) : Int) * 8 ≤ 281474976710656 ∧ (((par.map u64).length : Nat) : Int) ≤ 281474976710656; rw [List.length_map]; omega, ?_⟩
  refine ⟨List Nat × Nat, fun x => [(0, .p (usets par)), (4, .sl 0 1 0 x.1.length), (5, .p (u64 x.2))], fun x => ⟨1, [(0, iO (ofN x.1))]⟩, fun x => Srt par x.1 x.2, fun x => par.length - x.1.length, ?_, ?_⟩
  · exact ⟨([], 0), Srt.zero par, ent_of [] [] [] rfl (by (repeat' first | exact trivial | exact rfl | exact ⟨rfl, rfl⟩ | exact .inl rfl | refine ⟨_, rfl, rfl, rfl, ?_⟩ | refine ⟨_, _, rfl, ?_, ?_⟩ | refine ⟨_, rfl, ?_⟩ | refine And.intro ?_ ?_)) ⟨⟨_, rfl, rfl, rfl, rfl⟩, trivial⟩ rfl⟩
  rintro ⟨l, d⟩ g
  simp only [] at g
  have hd := Nat.lt_trans g.lt h64
  have hll := g.len
  have hcl := card_le par.length d
  (first | refine brLt (fun h1 => ?_) (fun h1 => ?_) | refine brLe (fun h1 => ?_) (fun h1 => ?_) | refine brEq (fun h1 => ?_) (fun h1 => ?_))
  · have h1 : (l.length : Int) < ((par.map u64).length : Nat) := h1
    rw [List.length_map] at h1
    refine ⟨Nat, fun v => [(0, .p (usets par)), (4, .sl 0 1 0 l.length), (5, .p (u64 d)), (16, .p (usets par)), (17, .p (i64 par.length)), (18, .p (i64 v))], fun _ => ⟨1, [(0, iO (ofN l))]⟩, fun v => v ≤ par.length ∧ ∀ u, u < v → ¬ freeP par d u, fun v => par.length - v, ?_, ?_⟩
    · exact ⟨0, ⟨by omega, fun u hu => by omega⟩, ent_of [] [] [] rfl ⟨rfl, rfl, rfl, rfl, lenM u64 par, rfl, trivial⟩ (by (repeat' first | exact trivial | exact rfl | exact ⟨rfl, rfl⟩ | exact .inl rfl | refine ⟨_, rfl, rfl, rfl, ?_⟩ | refine ⟨_, _, rfl, ?_, ?_⟩ | refine ⟨_, rfl, ?_⟩ | refine And.intro ?_ ?_)) rfl⟩
    rintro v ⟨v1, v2⟩
    (first | refine brLt (fun h2 => ?_) (fun h2 => ?_) | refine brLe (fun h2 => ?_) (fun h2 => ?_) | refine brEq (fun h2 => ?_) (fun h2 => ?_))
    · have h2 : (v : Int) < (par.length : Nat) := h2
      have hv : v < par.length := by omega
      have hpv := Nat.lt_trans (hp v hv) h64
      have next : ¬ freeP par d v → ∀ u, u < v + 1 → ¬ freeP par d u := fun h u hu => by
        rcases Nat.lt_or_ge u v with hh | hh
        · exact v2 u hh
        · have : u = v := by omega
          subst this; exact h
      refine ⟨_, ⟨by omega, u64 (parAt par v), scell hv, rfl⟩, ?_⟩
      refine ⟨by show (0 : Int) ≤ v; omega, ?_⟩
      refine ⟨_, (and1_u64 (k := v) hd).trans (by rw [← shr_u64 (show v < 64 by omega)]; rfl), ?_⟩
      (first | refine brLt (fun h3 => ?_) (fun h3 => ?_) | refine brLe (fun h3 => ?_) (fun h3 => ?_) | refine brEq (fun h3 => ?_) (fun h3 => ?_))
      · have hb : d.testBit v = false := by
          cases e : d.testBit v
          · rfl
          · rw [e] at h3; exact absurd h3 (by decide)
        refine ⟨_, rfl, ?_⟩
        (first | refine brLt (fun h4 => ?_) (fun h4 => ?_) | refine brLe (fun h4 => ?_) (fun h4 => ?_) | refine brEq (fun h4 => ?_) (fun h4 => ?_))
        · have h4 := (andNot_zero hpv hd).1 h4
          have hf : freeP par d v := ⟨hb, h4⟩
          have g' := g.next hv hf
          refine ⟨by show 0 + 1 ≤ 1; omega, [i64 v], rfl, ?_⟩
          refine ⟨by show 0 + l.length ≤ ((ofN l).map i64).length; simp [ofN_len], (ofN l).map i64, takeAll (by simp [ofN_len]), by show (l.length + 1) * 8 ≤ 140737488355328; omega, (ofN (l ++ [v])).map i64, by rw [ofN_snoc, List.map_append]; rfl, ?_⟩
          refine ⟨by show (0 : Int) ≤ v; omega, _, shl_u64 (k := v) (by omega), ?_⟩
          refine ⟨_, or_u64 (b := 2 ^ v) hd (pow64 (by omega)), ?_⟩
          refine ⟨(l ++ [v], d ||| 2 ^ v), g', ent_of [] [(0, 2)] [] rfl ⟨rfl, congrArg (fun m => AV.sl 2 1 0 m) (snoc_len l v).symm, rfl, trivial⟩ ⟨⟨_, rfl, rfl, rfl, rfl⟩, trivial⟩ rfl, ?_⟩
          show par.length - (l ++ [v]).length < par.length - l.length
          rw [snoc_len]; omega
        · refine ⟨_, wrap_i64 (by omega) (by omega), ?_⟩
          exact ⟨v + 1, ⟨by omega, next fun h => h4 ((andNot_zero hpv hd).2 h.2)⟩, ent_of [] [] [] rfl (by (repeat' first | exact trivial | exact rfl | exact ⟨rfl, rfl⟩ | exact .inl rfl | refine ⟨_, rfl, rfl, rfl, ?_⟩ | refine ⟨_, _, rfl, ?_, ?_⟩ | refine ⟨_, rfl, ?_⟩ | refine And.intro ?_ ?_)) (by (repeat' first | exact trivial | exact rfl | exact ⟨rfl, rfl⟩ | exact .inl rfl | refine ⟨_, rfl, rfl, rfl, ?_⟩ | refine ⟨_, _, rfl, ?_, ?_⟩ | refine ⟨_, rfl, ?_⟩ | refine And.intro ?_ ?_)) rfl, by show par.length - (v + 1) < par.length - v; omega⟩
      · refine ⟨_, wrap_i64 (by omega) (by omega), ?_⟩
        exact ⟨v + 1, ⟨by omega, next fun h => by rw [h.1] at h3; exact h3 rfl⟩, ent_of [] [] [] rfl (by (repeat' first | exact trivial | exact rfl | exact ⟨rfl, rfl⟩ | exact .inl rfl | refine ⟨_, rfl, rfl, rfl, ?_⟩ | refine ⟨_, _, rfl, ?_, ?_⟩ | refine ⟨_, rfl, ?_⟩ | refine And.intro ?_ ?_)) (by (repeat' first | exact trivial | exact rfl | exact ⟨rfl, rfl⟩ | exact .inl rfl | refine ⟨_, rfl, rfl, rfl, ?_⟩ | refine ⟨_, _, rfl, ?_, ?_⟩ | refine ⟨_, rfl, ?_⟩ | refine And.intro ?_ ?_)) rfl, by show par.length - (v + 1) < par.length - v; omega⟩
    · have h2 : ¬ (v : Int) < (par.length : Nat) := h2
      exact end2 .nils (.bool false) rfl (.inl rfl) rfl (.inr ⟨g.stuck hp (by omega) fun u hu => v2 u (by omega), rfl⟩)
  · have h1 : ¬ (l.length : Int) < ((par.map u64).length : Nat) := h1
    rw [List.length_map] at h1
    refine end2 (ints (ofN l)) (.bool true) rfl ⟨_, rfl, by show 0 + l.length ≤ ((ofN l).map i64).length; simp [ofN_len], takeAll (by simp [ofN_len])⟩ rfl (.inl ⟨g.done (by omega), _, rfl⟩)
end Go.Proofs.YtphmmoloegjocaaDoor

/- Package net: read, Check. -/
namespace Go.Proofs.YtphmmoloegjocaaDoor
open Go Y
set_option maxRecDepth 100000
set_option maxHeartbeats 40000000

def nwZ : List PV := [i64 0, .nils, .nils, .nils, .nils]
def zwO : AObj := ⟨TW, false, .bx (nwZ.map .p)⟩
def nwS (n : Nt) : AObj := ⟨TW, false, .bx [.p (i64 n.grain), .p (.lsts 3 (n.nodes.map Nd.cells)), .sl 2 1 0 n.nodes.length, .sl 3 1 0 n.nodes.length, .p .nils]⟩
def rdL (n : Nt) (cs : List Int) (ss : List Nat) : List (Nat × AObj) := [(4, nwS n), (3, uO ss), (2, iO cs), (1, zwO), (0, ntO n)]

/-- The first ones, and zeros. -/
def upTo {α : Type} (z : α) (l : List α) (k : Nat) : List α := l.take k ++ List.replicate (l.length - k) z
theorem upTo_len {α : Type} {z : α} {l : List α} {k : Nat} (h : k ≤ l.length) : (upTo z l k).length = l.length := by
  rw [upTo, List.length_append, List.length_take, List.length_replicate]; omega
theorem upTo_zero {α : Type} {z : α} {l : List α} : upTo z l 0 = List.replicate l.length z := by simp [upTo]
theorem upTo_all {α : Type} {z : α} {l : List α} : upTo z l l.length = l := by simp [upTo]
theorem upTo_set {α : Type} {z : α} {l : List α} {k : Nat} (h : k < l.length) : (upTo z l k).set k (l.getD k z) = upTo z l (k + 1) := by
  have hk : (l.take k).length = k := by rw [List.length_take]; omega
  rw [upTo, upTo, take_succ_getD z h, List.set_append_right _ _ (by omega), hk, Nat.sub_self, show l.length - k = (l.length - (k + 1)) + 1 by omega, List.replicate_succ, List.set_cons_zero, List.append_assoc]
  rfl
theorem upTo_get {α : Type} {z : α} {l : List α} {k : Nat} (h : k < l.length) : (upTo z l k).getD k z = z := by
  have hk : (l.take k).length = k := by rw [List.length_take]; omega
  rw [upTo, List.getD_eq_getElem?_getD, List.getElem?_append_right (by omega), hk, Nat.sub_self, show l.length - k = (l.length - (k + 1)) + 1 by omega, List.replicate_succ]
  rfl

theorem no_self {n : Nt} (h : validP n) {v : Nat} (hv : v < n.nodes.length) : (v : Int) ∉ (n.nodes.getD v nd0).parents := by
  intro hm
  obtain ⟨rank, hr⟩ := h.acyc
  have hl : (setsN n).length = n.nodes.length := List.length_map ..
  have hp := h.placed _ (getD_memL nd0 hv)
  have hb : (parAt (setsN n) v).testBit v = true := by
    rw [parAt, setsN, getD_map nd0 0 hv]
    exact (set_bit fun p hp' => (list_mem hp p hp').1).2 hm
  have := hr v (by omega) v (by omega) hb
  omega


theorem read_c (n : Nt) (hb : BigN n) : Pure cx 39 [n.pv] fun r => (validP n ∧ ∃ l : List Int, r = .ret [.agg (nwCells n (setsN n) (ints l)), i64 0]) ∨ (¬ validP n ∧ r = .ret [.agg nwZ, i64 50]) := by
  refine pure_of_vc Tryd.func39 rfl rfl rfl ?_
  have no : ¬ validP n → (validP n ∧ ∃ l : List Int, PEnd.ret [.agg nwZ, i64 50] = .ret [.agg (nwCells n (setsN n) (ints l)), i64 0]) ∨ (¬ validP n ∧ PEnd.ret [.agg nwZ, i64 50] = .ret [.agg nwZ, i64 50]) := fun h => .inr ⟨h, rfl⟩
  have hcl : (cardsN n).length = n.nodes.length := List.length_map ..
  have hsl : (setsN n).length = n.nodes.length := List.length_map ..
  (first | refine brLt (fun h1 => ?_) (fun h1 => ?_) | refine brLe (fun h1 => ?_) (fun h1 => ?_) | refine brEq (fun h1 => ?_) (fun h1 => ?_))
  · exact end2 (.agg nwZ) (i64 50) rfl rfl rfl (no fun h => by have := h.grain; have h1 : n.grain < 1 := h1; omega)
  have h1 : ¬ n.grain < 1 := h1
  (first | refine brLt (fun h2 => ?_) (fun h2 => ?_) | refine brLe (fun h2 => ?_) (fun h2 => ?_) | refine brEq (fun h2 => ?_) (fun h2 => ?_))
  · exact end2 (.agg nwZ) (i64 50) rfl rfl rfl (no fun h => by have := h.grain; have h2 : 60 < n.grain := h2; omega)
  have h2 : ¬ 60 < n.grain := h2
  (first | refine brLt (fun h3 => ?_) (fun h3 => ?_) | refine brLe (fun h3 => ?_) (fun h3 => ?_) | refine brEq (fun h3 => ?_) (fun h3 => ?_))
  · have h3 : ((n.nodes.map Nd.cells).length : Int) < 1 := h3
    rw [List.length_map] at h3
    exact end2 (.agg nwZ) (i64 50) rfl rfl rfl (no fun h => by have := h.len; omega)
  have h3 : ¬ ((n.nodes.map Nd.cells).length : Int) < 1 := h3
  rw [List.length_map] at h3
  (first | refine brLt (fun h4 => ?_) (fun h4 => ?_) | refine brLe (fun h4 => ?_) (fun h4 => ?_) | refine brEq (fun h4 => ?_) (fun h4 => ?_))
  · have h4 : (8 : Int) < ((n.nodes.map Nd.cells).length : Nat) := h4
    rw [List.length_map] at h4
    exact end2 (.agg nwZ) (i64 50) rfl rfl rfl (no fun h => by have := h.len; omega)
  have h4 : ¬ (8 : Int) < ((n.nodes.map Nd.cells).length : Nat) := h4
  rw [List.length_map] at h4
  refine VDraw.altTo [(1, .ptr 0 0 0), (2, .ptr 1 0 0), (4, .ptr 4 0 0)] ⟨5, rdL n (upTo 0 (cardsN n) 0) (upTo 0 (setsN n) 0)⟩ rfl ?_ ?_
  · refine And.intro ?_ (And.intro ?_ ?_)
    · refine ⟨by show (0 : Int) ≤ ((n.nodes.map Nd.cells).length : Nat) ∧ (((n.nodes.map Nd.cells).length : Nat) : Int) ≤ ((n.nodes.map Nd.cells).length : Nat) ∧ (((n.nodes.map Nd.cells).length : Nat) : Int) * 8 ≤ 281474976710656 ∧ (((n.nodes.map Nd.cells).length : Nat) : Int) ≤ 281474976710656; rw [List.length_map]; omega, ?_⟩
      refine ⟨by (repeat' first | exact trivial | exact rfl | exact ⟨rfl, rfl⟩ | exact .inl rfl | refine ⟨_, rfl, rfl, rfl, ?_⟩ | refine ⟨_, _, rfl, ?_, ?_⟩ | refine ⟨_, rfl, ?_⟩ | refine And.intro ?_ ?_), ?_⟩
      refine And.intro ?_ ?_
      · refine ⟨by show (0 : Int) ≤ ((n.nodes.map Nd.cells).length : Nat) ∧ (((n.nodes.map Nd.cells).length : Nat) : Int) ≤ ((n.nodes.map Nd.cells).length : Nat) ∧ (((n.nodes.map Nd.cells).length : Nat) : Int) * 8 ≤ 281474976710656 ∧ (((n.nodes.map Nd.cells).length : Nat) : Int) ≤ 281474976710656; rw [List.length_map]; omega, ?_⟩
        refine ⟨by (repeat' first | exact trivial | exact rfl | exact ⟨rfl, rfl⟩ | exact .inl rfl | refine ⟨_, rfl, rfl, rfl, ?_⟩ | refine ⟨_, _, rfl, ?_, ?_⟩ | refine ⟨_, rfl, ?_⟩ | refine And.intro ?_ ?_), ?_⟩
        refine ⟨by (repeat' first | exact trivial | exact rfl | exact ⟨rfl, rfl⟩ | exact .inl rfl | refine ⟨_, rfl, rfl, rfl, ?_⟩ | refine ⟨_, _, rfl, ?_, ?_⟩ | refine ⟨_, rfl, ?_⟩ | refine And.intro ?_ ?_), ?_⟩
        refine ent_of [] [] [] rfl ⟨⟨rfl, rfl⟩, ⟨rfl, rfl⟩, ⟨rfl, rfl⟩, trivial⟩ ⟨⟨_, rfl, rfl, rfl, _, rfl, _, _, rfl, rfl, _, _, rfl, res_p _ _, _, _, rfl, congrArg (fun m => AV.sl 2 1 0 m) (List.length_map ..), _, _, rfl, congrArg (fun m => AV.sl 3 1 0 m) (List.length_map ..), _, _, rfl, .inl rfl, rfl⟩, ⟨_, rfl, rfl, rfl, ?_⟩, ⟨_, rfl, rfl, rfl, ?_⟩, ⟨_, rfl, rfl, rfl, _, rfl, by (repeat' first | exact trivial | exact rfl | exact ⟨rfl, rfl⟩ | exact .inl rfl | refine ⟨_, rfl, rfl, rfl, ?_⟩ | refine ⟨_, _, rfl, ?_, ?_⟩ | refine ⟨_, rfl, ?_⟩ | refine And.intro ?_ ?_)⟩, ⟨_, rfl, rfl, rfl, _, rfl, by (repeat' first | exact trivial | exact rfl | exact ⟨rfl, rfl⟩ | exact .inl rfl | refine ⟨_, rfl, rfl, rfl, ?_⟩ | refine ⟨_, _, rfl, ?_, ?_⟩ | refine ⟨_, rfl, ?_⟩ | refine And.intro ?_ ?_)⟩, trivial⟩ rfl
        · show List.replicate (n.nodes.map Nd.cells).length (u64 0) = _
          rw [List.length_map, upTo_zero, List.map_replicate, setsN, List.length_map]
        · show List.replicate (n.nodes.map Nd.cells).length (i64 0) = _
          rw [List.length_map, upTo_zero, List.map_replicate, cardsN, List.length_map]
      · refine ⟨by (repeat' first | exact trivial | exact rfl | exact ⟨rfl, rfl⟩ | exact .inl rfl | refine ⟨_, rfl, rfl, rfl, ?_⟩ | refine ⟨_, _, rfl, ?_, ?_⟩ | refine ⟨_, rfl, ?_⟩ | refine And.intro ?_ ?_), ?_⟩
        refine ⟨by show (0 : Int) ≤ ((n.nodes.map Nd.cells).length : Nat) ∧ (((n.nodes.map Nd.cells).length : Nat) : Int) ≤ ((n.nodes.map Nd.cells).length : Nat) ∧ (((n.nodes.map Nd.cells).length : Nat) : Int) * 8 ≤ 281474976710656 ∧ (((n.nodes.map Nd.cells).length : Nat) : Int) ≤ 281474976710656; rw [List.length_map]; omega, ?_⟩
        refine ⟨by (repeat' first | exact trivial | exact rfl | exact ⟨rfl, rfl⟩ | exact .inl rfl | refine ⟨_, rfl, rfl, rfl, ?_⟩ | refine ⟨_, _, rfl, ?_, ?_⟩ | refine ⟨_, rfl, ?_⟩ | refine And.intro ?_ ?_), ?_⟩
        refine ent_of [] [(3, 4), (4, 3)] [] rfl ⟨⟨rfl, rfl⟩, ⟨rfl, rfl⟩, ⟨rfl, rfl⟩, trivial⟩ ⟨⟨_, rfl, rfl, rfl, _, rfl, _, _, rfl, rfl, _, _, rfl, res_p _ _, _, _, rfl, congrArg (fun m => AV.sl 2 1 0 m) (List.length_map ..), _, _, rfl, congrArg (fun m => AV.sl 4 1 0 m) (List.length_map ..), _, _, rfl, .inl rfl, rfl⟩, ⟨_, rfl, rfl, rfl, ?_⟩, ⟨_, rfl, rfl, rfl, ?_⟩, ⟨_, rfl, rfl, rfl, _, rfl, by (repeat' first | exact trivial | exact rfl | exact ⟨rfl, rfl⟩ | exact .inl rfl | refine ⟨_, rfl, rfl, rfl, ?_⟩ | refine ⟨_, _, rfl, ?_, ?_⟩ | refine ⟨_, rfl, ?_⟩ | refine And.intro ?_ ?_)⟩, ⟨_, rfl, rfl, rfl, _, rfl, by (repeat' first | exact trivial | exact rfl | exact ⟨rfl, rfl⟩ | exact .inl rfl | refine ⟨_, rfl, rfl, rfl, ?_⟩ | refine ⟨_, _, rfl, ?_, ?_⟩ | refine ⟨_, rfl, ?_⟩ | refine And.intro ?_ ?_)⟩, trivial⟩ rfl
        · show List.replicate (n.nodes.map Nd.cells).length (u64 0) = _
          rw [List.length_map, upTo_zero, List.map_replicate, setsN, List.length_map]
        · show List.replicate (n.nodes.map Nd.cells).length (i64 0) = _
          rw [List.length_map, upTo_zero, List.map_replicate, cardsN, List.length_map]
    · refine ⟨by show (0 : Int) ≤ ((n.nodes.map Nd.cells).length : Nat) ∧ (((n.nodes.map Nd.cells).length : Nat) : Int) ≤ ((n.nodes.map Nd.cells).length : Nat) ∧ (((n.nodes.map Nd.cells).length : Nat) : Int) * 8 ≤ 281474976710656 ∧ (((n.nodes.map Nd.cells).length : Nat) : Int) ≤ 281474976710656; rw [List.length_map]; omega, ?_⟩
      refine ⟨by (repeat' first | exact trivial | exact rfl | exact ⟨rfl, rfl⟩ | exact .inl rfl | refine ⟨_, rfl, rfl, rfl, ?_⟩ | refine ⟨_, _, rfl, ?_, ?_⟩ | refine ⟨_, rfl, ?_⟩ | refine And.intro ?_ ?_), ?_⟩
      refine And.intro ?_ ?_
      · refine ⟨by show (0 : Int) ≤ ((n.nodes.map Nd.cells).length : Nat) ∧ (((n.nodes.map Nd.cells).length : Nat) : Int) ≤ ((n.nodes.map Nd.cells).length : Nat) ∧ (((n.nodes.map Nd.cells).length : Nat) : Int) * 8 ≤ 281474976710656 ∧ (((n.nodes.map Nd.cells).length : Nat) : Int) ≤ 281474976710656; rw [List.length_map]; omega, ?_⟩
        refine ⟨by (repeat' first | exact trivial | exact rfl | exact ⟨rfl, rfl⟩ | exact .inl rfl | refine ⟨_, rfl, rfl, rfl, ?_⟩ | refine ⟨_, _, rfl, ?_, ?_⟩ | refine ⟨_, rfl, ?_⟩ | refine And.intro ?_ ?_), ?_⟩
        refine ⟨by (repeat' first | exact trivial | exact rfl | exact ⟨rfl, rfl⟩ | exact .inl rfl | refine ⟨_, rfl, rfl, rfl, ?_⟩ | refine ⟨_, _, rfl, ?_, ?_⟩ | refine ⟨_, rfl, ?_⟩ | refine And.intro ?_ ?_), ?_⟩
        refine ent_of [] [(2, 3), (3, 2)] [] rfl ⟨⟨rfl, rfl⟩, ⟨rfl, rfl⟩, ⟨rfl, rfl⟩, trivial⟩ ⟨⟨_, rfl, rfl, rfl, _, rfl, _, _, rfl, rfl, _, _, rfl, res_p _ _, _, _, rfl, congrArg (fun m => AV.sl 3 1 0 m) (List.length_map ..), _, _, rfl, congrArg (fun m => AV.sl 2 1 0 m) (List.length_map ..), _, _, rfl, .inl rfl, rfl⟩, ⟨_, rfl, rfl, rfl, ?_⟩, ⟨_, rfl, rfl, rfl, ?_⟩, ⟨_, rfl, rfl, rfl, _, rfl, by (repeat' first | exact trivial | exact rfl | exact ⟨rfl, rfl⟩ | exact .inl rfl | refine ⟨_, rfl, rfl, rfl, ?_⟩ | refine ⟨_, _, rfl, ?_, ?_⟩ | refine ⟨_, rfl, ?_⟩ | refine And.intro ?_ ?_)⟩, ⟨_, rfl, rfl, rfl, _, rfl, by (repeat' first | exact trivial | exact rfl | exact ⟨rfl, rfl⟩ | exact .inl rfl | refine ⟨_, rfl, rfl, rfl, ?_⟩ | refine ⟨_, _, rfl, ?_, ?_⟩ | refine ⟨_, rfl, ?_⟩ | refine And.intro ?_ ?_)⟩, trivial⟩ rfl
        · show List.replicate (n.nodes.map Nd.cells).length (u64 0) = _
          rw [List.length_map, upTo_zero, List.map_replicate, setsN, List.length_map]
        · show List.replicate (n.nodes.map Nd.cells).length (i64 0) = _
          rw [List.length_map, upTo_zero, List.map_replicate, cardsN, List.length_map]
      · refine ⟨by (repeat' first | exact trivial | exact rfl | exact ⟨rfl, rfl⟩ | exact .inl rfl | refine ⟨_, rfl, rfl, rfl, ?_⟩ | refine ⟨_, _, rfl, ?_, ?_⟩ | refine ⟨_, rfl, ?_⟩ | refine And.intro ?_ ?_), ?_⟩
        refine ⟨by show (0 : Int) ≤ ((n.nodes.map Nd.cells).length : Nat) ∧ (((n.nodes.map Nd.cells).length : Nat) : Int) ≤ ((n.nodes.map Nd.cells).length : Nat) ∧ (((n.nodes.map Nd.cells).length : Nat) : Int) * 8 ≤ 281474976710656 ∧ (((n.nodes.map Nd.cells).length : Nat) : Int) ≤ 281474976710656; rw [List.length_map]; omega, ?_⟩
        refine ⟨by (repeat' first | exact trivial | exact rfl | exact ⟨rfl, rfl⟩ | exact .inl rfl | refine ⟨_, rfl, rfl, rfl, ?_⟩ | refine ⟨_, _, rfl, ?_, ?_⟩ | refine ⟨_, rfl, ?_⟩ | refine And.intro ?_ ?_), ?_⟩
        refine ent_of [] [(2, 4), (3, 2), (4, 3)] [] rfl ⟨⟨rfl, rfl⟩, ⟨rfl, rfl⟩, ⟨rfl, rfl⟩, trivial⟩ ⟨⟨_, rfl, rfl, rfl, _, rfl, _, _, rfl, rfl, _, _, rfl, res_p _ _, _, _, rfl, congrArg (fun m => AV.sl 4 1 0 m) (List.length_map ..), _, _, rfl, congrArg (fun m => AV.sl 2 1 0 m) (List.length_map ..), _, _, rfl, .inl rfl, rfl⟩, ⟨_, rfl, rfl, rfl, ?_⟩, ⟨_, rfl, rfl, rfl, ?_⟩, ⟨_, rfl, rfl, rfl, _, rfl, by (repeat' first | exact trivial | exact rfl | exact ⟨rfl, rfl⟩ | exact .inl rfl | refine ⟨_, rfl, rfl, rfl, ?_⟩ | refine ⟨_, _, rfl, ?_, ?_⟩ | refine ⟨_, rfl, ?_⟩ | refine And.intro ?_ ?_)⟩, ⟨_, rfl, rfl, rfl, _, rfl, by (repeat' first | exact trivial | exact rfl | exact ⟨rfl, rfl⟩ | exact .inl rfl | refine ⟨_, rfl, rfl, rfl, ?_⟩ | refine ⟨_, _, rfl, ?_, ?_⟩ | refine ⟨_, rfl, ?_⟩ | refine And.intro ?_ ?_)⟩, trivial⟩ rfl
        · show List.replicate (n.nodes.map Nd.cells).length (u64 0) = _
          rw [List.length_map, upTo_zero, List.map_replicate, setsN, List.length_map]
        · show List.replicate (n.nodes.map Nd.cells).length (i64 0) = _
          rw [List.length_map, upTo_zero, List.map_replicate, cardsN, List.length_map]
    · refine ⟨by (repeat' first | exact trivial | exact rfl | exact ⟨rfl, rfl⟩ | exact .inl rfl | refine ⟨_, rfl, rfl, rfl, ?_⟩ | refine ⟨_, _, rfl, ?_, ?_⟩ | refine ⟨_, rfl, ?_⟩ | refine And.intro ?_ ?_), ?_⟩
      refine And.intro ?_ ?_
      · refine ⟨by show (0 : Int) ≤ ((n.nodes.map Nd.cells).length : Nat) ∧ (((n.nodes.map Nd.cells).length : Nat) : Int) ≤ ((n.nodes.map Nd.cells).length : Nat) ∧ (((n.nodes.map Nd.cells).length : Nat) : Int) * 8 ≤ 281474976710656 ∧ (((n.nodes.map Nd.cells).length : Nat) : Int) ≤ 281474976710656; rw [List.length_map]; omega, ?_⟩
        refine ⟨by (repeat' first | exact trivial | exact rfl | exact ⟨rfl, rfl⟩ | exact .inl rfl | refine ⟨_, rfl, rfl, rfl, ?_⟩ | refine ⟨_, _, rfl, ?_, ?_⟩ | refine ⟨_, rfl, ?_⟩ | refine And.intro ?_ ?_), ?_⟩
        refine ⟨by show (0 : Int) ≤ ((n.nodes.map Nd.cells).length : Nat) ∧ (((n.nodes.map Nd.cells).length : Nat) : Int) ≤ ((n.nodes.map Nd.cells).length : Nat) ∧ (((n.nodes.map Nd.cells).length : Nat) : Int) * 8 ≤ 281474976710656 ∧ (((n.nodes.map Nd.cells).length : Nat) : Int) ≤ 281474976710656; rw [List.length_map]; omega, ?_⟩
        refine ⟨by (repeat' first | exact trivial | exact rfl | exact ⟨rfl, rfl⟩ | exact .inl rfl | refine ⟨_, rfl, rfl, rfl, ?_⟩ | refine ⟨_, _, rfl, ?_, ?_⟩ | refine ⟨_, rfl, ?_⟩ | refine And.intro ?_ ?_), ?_⟩
        refine ent_of [] [(2, 3), (3, 4), (4, 2)] [] rfl ⟨⟨rfl, rfl⟩, ⟨rfl, rfl⟩, ⟨rfl, rfl⟩, trivial⟩ ⟨⟨_, rfl, rfl, rfl, _, rfl, _, _, rfl, rfl, _, _, rfl, res_p _ _, _, _, rfl, congrArg (fun m => AV.sl 3 1 0 m) (List.length_map ..), _, _, rfl, congrArg (fun m => AV.sl 4 1 0 m) (List.length_map ..), _, _, rfl, .inl rfl, rfl⟩, ⟨_, rfl, rfl, rfl, ?_⟩, ⟨_, rfl, rfl, rfl, ?_⟩, ⟨_, rfl, rfl, rfl, _, rfl, by (repeat' first | exact trivial | exact rfl | exact ⟨rfl, rfl⟩ | exact .inl rfl | refine ⟨_, rfl, rfl, rfl, ?_⟩ | refine ⟨_, _, rfl, ?_, ?_⟩ | refine ⟨_, rfl, ?_⟩ | refine And.intro ?_ ?_)⟩, ⟨_, rfl, rfl, rfl, _, rfl, by (repeat' first | exact trivial | exact rfl | exact ⟨rfl, rfl⟩ | exact .inl rfl | refine ⟨_, rfl, rfl, rfl, ?_⟩ | refine ⟨_, _, rfl, ?_, ?_⟩ | refine ⟨_, rfl, ?_⟩ | refine And.intro ?_ ?_)⟩, trivial⟩ rfl
        · show List.replicate (n.nodes.map Nd.cells).length (u64 0) = _
          rw [List.length_map, upTo_zero, List.map_replicate, setsN, List.length_map]
        · show List.replicate (n.nodes.map Nd.cells).length (i64 0) = _
          rw [List.length_map, upTo_zero, List.map_replicate, cardsN, List.length_map]
      · refine ⟨by show (0 : Int) ≤ ((n.nodes.map Nd.cells).length : Nat) ∧ (((n.nodes.map Nd.cells).length : Nat) : Int) ≤ ((n.nodes.map Nd.cells).length : Nat) ∧ (((n.nodes.map Nd.cells).length : Nat) : Int) * 8 ≤ 281474976710656 ∧ (((n.nodes.map Nd.cells).length : Nat) : Int) ≤ 281474976710656; rw [List.length_map]; omega, ?_⟩
        refine ⟨by (repeat' first | exact trivial | exact rfl | exact ⟨rfl, rfl⟩ | exact .inl rfl | refine ⟨_, rfl, rfl, rfl, ?_⟩ | refine ⟨_, _, rfl, ?_, ?_⟩ | refine ⟨_, rfl, ?_⟩ | refine And.intro ?_ ?_), ?_⟩
        refine ⟨by show (0 : Int) ≤ ((n.nodes.map Nd.cells).length : Nat) ∧ (((n.nodes.map Nd.cells).length : Nat) : Int) ≤ ((n.nodes.map Nd.cells).length : Nat) ∧ (((n.nodes.map Nd.cells).length : Nat) : Int) * 8 ≤ 281474976710656 ∧ (((n.nodes.map Nd.cells).length : Nat) : Int) ≤ 281474976710656; rw [List.length_map]; omega, ?_⟩
        refine ⟨by (repeat' first | exact trivial | exact rfl | exact ⟨rfl, rfl⟩ | exact .inl rfl | refine ⟨_, rfl, rfl, rfl, ?_⟩ | refine ⟨_, _, rfl, ?_, ?_⟩ | refine ⟨_, rfl, ?_⟩ | refine And.intro ?_ ?_), ?_⟩
        refine ent_of [] [(2, 4), (3, 3), (4, 2)] [] rfl ⟨⟨rfl, rfl⟩, ⟨rfl, rfl⟩, ⟨rfl, rfl⟩, trivial⟩ ⟨⟨_, rfl, rfl, rfl, _, rfl, _, _, rfl, rfl, _, _, rfl, res_p _ _, _, _, rfl, congrArg (fun m => AV.sl 4 1 0 m) (List.length_map ..), _, _, rfl, congrArg (fun m => AV.sl 3 1 0 m) (List.length_map ..), _, _, rfl, .inl rfl, rfl⟩, ⟨_, rfl, rfl, rfl, ?_⟩, ⟨_, rfl, rfl, rfl, ?_⟩, ⟨_, rfl, rfl, rfl, _, rfl, by (repeat' first | exact trivial | exact rfl | exact ⟨rfl, rfl⟩ | exact .inl rfl | refine ⟨_, rfl, rfl, rfl, ?_⟩ | refine ⟨_, _, rfl, ?_, ?_⟩ | refine ⟨_, rfl, ?_⟩ | refine And.intro ?_ ?_)⟩, ⟨_, rfl, rfl, rfl, _, rfl, by (repeat' first | exact trivial | exact rfl | exact ⟨rfl, rfl⟩ | exact .inl rfl | refine ⟨_, rfl, rfl, rfl, ?_⟩ | refine ⟨_, _, rfl, ?_, ?_⟩ | refine ⟨_, rfl, ?_⟩ | refine And.intro ?_ ?_)⟩, trivial⟩ rfl
        · show List.replicate (n.nodes.map Nd.cells).length (u64 0) = _
          rw [List.length_map, upTo_zero, List.map_replicate, setsN, List.length_map]
        · show List.replicate (n.nodes.map Nd.cells).length (i64 0) = _
          rw [List.length_map, upTo_zero, List.map_replicate, cardsN, List.length_map]
  refine ⟨Nat, fun k => [(2, .ptr 1 0 0), (4, .ptr 4 0 0), (5, .p (i64 (prodN ((cardsN n).take k)))), (48, .p (.lsts 3 (n.nodes.map Nd.cells))), (49, .p (i64 n.nodes.length)), (50, .p (i64 k))], fun k => ⟨5, rdL n (upTo 0 (cardsN n) k) (upTo 0 (setsN n) 0)⟩, fun k => k ≤ n.nodes.length ∧ ∀ c ∈ (cardsN n).take k, okCard c, fun k => n.nodes.length - k, ?_, ?_⟩
  · exact ⟨0, ⟨by omega, by simp⟩, ent_of [] [] [] rfl ⟨⟨rfl, rfl⟩, ⟨rfl, rfl⟩, rfl, rfl, lenM Nd.cells n.nodes, rfl, trivial⟩ ⟨⟨_, rfl, rfl, rfl, _, rfl, by (repeat' first | exact trivial | exact rfl | exact ⟨rfl, rfl⟩ | exact .inl rfl | refine ⟨_, rfl, rfl, rfl, ?_⟩ | refine ⟨_, _, rfl, ?_, ?_⟩ | refine ⟨_, rfl, ?_⟩ | refine And.intro ?_ ?_)⟩, ⟨_, rfl, rfl, rfl, rfl⟩, ⟨_, rfl, rfl, rfl, rfl⟩, ⟨_, rfl, rfl, rfl, _, rfl, by (repeat' first | exact trivial | exact rfl | exact ⟨rfl, rfl⟩ | exact .inl rfl | refine ⟨_, rfl, rfl, rfl, ?_⟩ | refine ⟨_, _, rfl, ?_, ?_⟩ | refine ⟨_, rfl, ?_⟩ | refine And.intro ?_ ?_)⟩, ⟨_, rfl, rfl, rfl, _, rfl, by (repeat' first | exact trivial | exact rfl | exact ⟨rfl, rfl⟩ | exact .inl rfl | refine ⟨_, rfl, rfl, rfl, ?_⟩ | refine ⟨_, _, rfl, ?_, ?_⟩ | refine ⟨_, rfl, ?_⟩ | refine And.intro ?_ ?_)⟩, trivial⟩ rfl⟩
  rintro k ⟨g1, g2⟩
  obtain ⟨p1, p2⟩ := prod_take' g2 (by omega)
  have p3 := pow4 k (by omega)
  (first | refine brLt (fun h5 => ?_) (fun h5 => ?_) | refine brLe (fun h5 => ?_) (fun h5 => ?_) | refine brEq (fun h5 => ?_) (fun h5 => ?_))
  · have h5 : (k : Int) < (n.nodes.length : Nat) := h5
    have hk : k < n.nodes.length := by omega
    obtain ⟨x, hx⟩ : ∃ x, x = n.nodes.getD k nd0 := ⟨_, rfl⟩
    have hxm : x ∈ n.nodes := by rw [hx]; exact getD_memL nd0 hk
    have hcell : (n.nodes.map Nd.cells)[k]? = some x.cells := by rw [hx]; exact ncell hk
    have hck : (cardsN n).getD k 0 = x.card := by rw [cardsN, getD_map nd0 0 hk, hx]
    refine ⟨_, ⟨by omega, x.cells, hcell, rfl⟩, ?_⟩
    (first | refine brLt (fun h6 => ?_) (fun h6 => ?_) | refine brLe (fun h6 => ?_) (fun h6 => ?_) | refine brEq (fun h6 => ?_) (fun h6 => ?_))
    · exact end2 (.agg nwZ) (i64 50) rfl rfl rfl (no fun h => by have := (h.cards x hxm).1; have h6 : x.card < 1 := h6; omega)
    have h6 : ¬ x.card < 1 := h6
    (first | refine brLt (fun h7 => ?_) (fun h7 => ?_) | refine brLe (fun h7 => ?_) (fun h7 => ?_) | refine brEq (fun h7 => ?_) (fun h7 => ?_))
    · exact end2 (.agg nwZ) (i64 50) rfl rfl rfl (no fun h => by have := (h.cards x hxm).2; have h7 : 4 < x.card := h7; omega)
    have h7 : ¬ 4 < x.card := h7
    have g2' := mem_take 0 (show k < (cardsN n).length by omega) g2 (by rw [hck]; exact ⟨by omega, by omega⟩)
    obtain ⟨q1, q2⟩ := prod_take' g2' (by omega)
    have q3 := pow4 (k + 1) (by omega)
    rw [prod_step (by omega), hck] at q1 q2
    have hul : (upTo 0 (cardsN n) k).length = n.nodes.length := by rw [upTo_len (by omega), hcl]
    refine ⟨by show (0 : Int) ≤ (k : Nat) ∧ (k : Int) < (n.nodes.length : Nat); omega, ?_⟩
    refine ⟨by show 0 + ((k : Nat) : Int).toNat < ((upTo 0 (cardsN n) k).map i64).length; rw [List.length_map, hul]; omega, ?_⟩
    refine ⟨prodN ((cardsN n).take k) * x.card, wrap_i64 (by omega) (by omega), ?_⟩
    refine ⟨_, wrap_i64 (by omega) (by omega), ?_⟩
    refine ⟨k + 1, ⟨by omega, g2'⟩, ent_of [] [] [] rfl ⟨⟨rfl, rfl⟩, ⟨rfl, rfl⟩, by rw [prod_step (by omega), hck]; rfl, rfl, rfl, rfl, trivial⟩ ⟨⟨_, rfl, rfl, rfl, _, rfl, by (repeat' first | exact trivial | exact rfl | exact ⟨rfl, rfl⟩ | exact .inl rfl | refine ⟨_, rfl, rfl, rfl, ?_⟩ | refine ⟨_, _, rfl, ?_, ?_⟩ | refine ⟨_, rfl, ?_⟩ | refine And.intro ?_ ?_)⟩, ⟨_, rfl, rfl, rfl, rfl⟩, ⟨_, rfl, rfl, rfl, ?_⟩, ⟨_, rfl, rfl, rfl, _, rfl, by (repeat' first | exact trivial | exact rfl | exact ⟨rfl, rfl⟩ | exact .inl rfl | refine ⟨_, rfl, rfl, rfl, ?_⟩ | refine ⟨_, _, rfl, ?_, ?_⟩ | refine ⟨_, rfl, ?_⟩ | refine And.intro ?_ ?_)⟩, ⟨_, rfl, rfl, rfl, _, rfl, by (repeat' first | exact trivial | exact rfl | exact ⟨rfl, rfl⟩ | exact .inl rfl | refine ⟨_, rfl, rfl, rfl, ?_⟩ | refine ⟨_, _, rfl, ?_, ?_⟩ | refine ⟨_, rfl, ?_⟩ | refine And.intro ?_ ?_)⟩, trivial⟩ rfl, by show n.nodes.length - (k + 1) < n.nodes.length - k; omega⟩
    show ((upTo 0 (cardsN n) k).map i64).set (0 + ((k : Nat) : Int).toNat) (i64 x.card) = (upTo 0 (cardsN n) (k + 1)).map i64
    rw [Nat.zero_add, Int.toNat_natCast, ← upTo_set (by omega), hck, List.map_set]
  have h5 : ¬ (k : Int) < (n.nodes.length : Nat) := h5
  have hk : k = n.nodes.length := by omega
  subst hk
  have htk : (cardsN n).take n.nodes.length = cardsN n := take_all (by omega)
  rw [htk] at g2 p1 p2
  have hua : upTo 0 (cardsN n) n.nodes.length = cardsN n := by rw [← hcl]; exact upTo_all
  have hcards : ∀ x ∈ n.nodes, okCard x.card := fun x hx => g2 _ (List.mem_map.2 ⟨x, hx, rfl⟩)
  (first | refine brLt (fun h6 => ?_) (fun h6 => ?_) | refine brLe (fun h6 => ?_) (fun h6 => ?_) | refine brEq (fun h6 => ?_) (fun h6 => ?_))
  · exact end2 (.agg nwZ) (i64 50) rfl rfl rfl (no fun h => by have := h.prod; have h6 : 1024 < prodN ((cardsN n).take n.nodes.length) := h6; rw [htk] at h6; omega)
  have h6 : ¬ 1024 < prodN ((cardsN n).take n.nodes.length) := h6
  rw [htk] at h6
  refine ⟨Nat, fun v => [(2, .ptr 1 0 0), (4, .ptr 4 0 0), (80, .p (.lsts 3 (n.nodes.map Nd.cells))), (81, .p (i64 n.nodes.length)), (82, .p (i64 v))], fun v => ⟨5, rdL n (cardsN n) (upTo 0 (setsN n) v)⟩, fun v => v ≤ n.nodes.length ∧ (∀ x ∈ n.nodes.take v, listP n.nodes.length x.parents) ∧ ∀ u, u < v → nodeP n u, fun v => n.nodes.length - v, ?_, ?_⟩
  · exact ⟨0, ⟨by omega, by simp, fun u hu => by omega⟩, ent_of [] [] [] rfl ⟨⟨rfl, rfl⟩, ⟨rfl, rfl⟩, rfl, lenM Nd.cells n.nodes, rfl, trivial⟩ ⟨⟨_, rfl, rfl, rfl, _, rfl, by (repeat' first | exact trivial | exact rfl | exact ⟨rfl, rfl⟩ | exact .inl rfl | refine ⟨_, rfl, rfl, rfl, ?_⟩ | refine ⟨_, _, rfl, ?_, ?_⟩ | refine ⟨_, rfl, ?_⟩ | refine And.intro ?_ ?_)⟩, ⟨_, rfl, rfl, rfl, rfl⟩, ⟨_, rfl, rfl, rfl, congrArg (List.map i64) hua⟩, ⟨_, rfl, rfl, rfl, _, rfl, by (repeat' first | exact trivial | exact rfl | exact ⟨rfl, rfl⟩ | exact .inl rfl | refine ⟨_, rfl, rfl, rfl, ?_⟩ | refine ⟨_, _, rfl, ?_, ?_⟩ | refine ⟨_, rfl, ?_⟩ | refine And.intro ?_ ?_)⟩, ⟨_, rfl, rfl, rfl, _, rfl, by (repeat' first | exact trivial | exact rfl | exact ⟨rfl, rfl⟩ | exact .inl rfl | refine ⟨_, rfl, rfl, rfl, ?_⟩ | refine ⟨_, _, rfl, ?_, ?_⟩ | refine ⟨_, rfl, ?_⟩ | refine And.intro ?_ ?_)⟩, trivial⟩ rfl⟩
  rintro v ⟨v1, v2, v3⟩
  (first | refine brLt (fun h7 => ?_) (fun h7 => ?_) | refine brLe (fun h7 => ?_) (fun h7 => ?_) | refine brEq (fun h7 => ?_) (fun h7 => ?_))
  · have h7 : (v : Int) < (n.nodes.length : Nat) := h7
    have hv : v < n.nodes.length := by omega
    obtain ⟨x, hx⟩ : ∃ x, x = n.nodes.getD v nd0 := ⟨_, rfl⟩
    have hxm : x ∈ n.nodes := by rw [hx]; exact getD_memL nd0 hv
    have hcell : (n.nodes.map Nd.cells)[v]? = some x.cells := by rw [hx]; exact ncell hv
    have hsv : (setsN n).getD v 0 = setN x.parents := by rw [setsN, getD_map nd0 0 hv, hx]
    have hul : (upTo 0 (setsN n) v).length = n.nodes.length := by rw [upTo_len (by omega), hsl]
    have hpb := hb.par x hxm
    refine ⟨_, ⟨by omega, x.cells, hcell, rfl⟩, ?_⟩
    refine ⟨Nat, fun j => [(2, .ptr 1 0 0), (4, .ptr 4 0 0), (8, .p (i64 v)), (9, .ptr 5 0 0), (10, .p (i64 (prevN x.parents j))), (80, .p (.lsts 3 (n.nodes.map Nd.cells))), (81, .p (i64 n.nodes.length)), (82, .p (i64 v)), (88, .p (ints x.parents)), (89, .p (i64 x.parents.length)), (90, .p (i64 j))], fun j => ⟨6, (5, ndO x) :: rdL n (cardsN n) ((upTo 0 (setsN n) v).set v (setN (x.parents.take j)))⟩,
      fun j => j ≤ x.parents.length ∧ ∀ i, i < j → prevN x.parents i < x.parents.getD i 0 ∧ x.parents.getD i 0 < (n.nodes.length : Int), fun j => x.parents.length - j, ?_, ?_⟩
    · refine ⟨0, ⟨by omega, fun i hi => by omega⟩, ent_of [] [] [] rfl ⟨⟨rfl, rfl⟩, ⟨rfl, rfl⟩, rfl, ⟨rfl, rfl⟩, rfl, rfl, rfl, rfl, rfl, lenM i64 x.parents, rfl, trivial⟩ ⟨⟨_, rfl, rfl, rfl, _, rfl, by (repeat' first | exact trivial | exact rfl | exact ⟨rfl, rfl⟩ | exact .inl rfl | refine ⟨_, rfl, rfl, rfl, ?_⟩ | refine ⟨_, _, rfl, ?_, ?_⟩ | refine ⟨_, rfl, ?_⟩ | refine And.intro ?_ ?_)⟩, ⟨_, rfl, rfl, rfl, _, rfl, by (repeat' first | exact trivial | exact rfl | exact ⟨rfl, rfl⟩ | exact .inl rfl | refine ⟨_, rfl, rfl, rfl, ?_⟩ | refine ⟨_, _, rfl, ?_, ?_⟩ | refine ⟨_, rfl, ?_⟩ | refine And.intro ?_ ?_)⟩, ⟨_, rfl, rfl, rfl, congrArg (List.map u64) ?_⟩, ⟨_, rfl, rfl, rfl, rfl⟩, ⟨_, rfl, rfl, rfl, _, rfl, by (repeat' first | exact trivial | exact rfl | exact ⟨rfl, rfl⟩ | exact .inl rfl | refine ⟨_, rfl, rfl, rfl, ?_⟩ | refine ⟨_, _, rfl, ?_, ?_⟩ | refine ⟨_, rfl, ?_⟩ | refine And.intro ?_ ?_)⟩, ⟨_, rfl, rfl, rfl, _, rfl, by (repeat' first | exact trivial | exact rfl | exact ⟨rfl, rfl⟩ | exact .inl rfl | refine ⟨_, rfl, rfl, rfl, ?_⟩ | refine ⟨_, _, rfl, ?_, ?_⟩ | refine ⟨_, rfl, ?_⟩ | refine And.intro ?_ ?_)⟩, trivial⟩ rfl⟩
      refine List.ext_getElem (by rw [List.length_set]) fun i i1 i2 => ?_
      rw [List.getElem_set]
      split
      · subst v
        have := upTo_get (z := 0) (l := setsN n) (k := i) (by omega)
        rw [List.getD_eq_getElem?_getD, List.getElem?_eq_getElem i1] at this
        exact this
      · rfl
    rintro j ⟨j1, j2⟩
    have hxm' : ∀ i, i < j → 0 ≤ x.parents.getD i 0 := by
      intro i
      induction i with
      | zero => intro hi; have := (j2 0 hi).1; rw [prevN, if_pos rfl] at this; omega
      | succ i ih => intro hi; have := (j2 (i + 1) hi).1; rw [prevN, if_neg (by omega), show i + 1 - 1 = i by omega] at this; have := ih (by omega); omega
    have hst : setN (x.parents.take j) < 2 ^ n.nodes.length := by
      have := set_take (l := x.parents.take j) (n := n.nodes.length) (fun p hp => by
        obtain ⟨i, hi, rfl⟩ := mem_getD 0 hp
        rw [List.length_take] at hi
        have e : (x.parents.take j).getD i 0 = x.parents.getD i 0 := by
          rw [List.getD_eq_getElem?_getD, List.getElem?_take, if_pos (by omega), ← List.getD_eq_getElem?_getD]
        rw [e]
        exact ⟨hxm' i (by omega), (j2 i (by omega)).2⟩) j (by rw [List.length_take]; omega)
      rwa [List.take_take, Nat.min_self] at this
    have h64 : 2 ^ n.nodes.length < 18446744073709551616 := pow64 (by omega)
    (first | refine brLt (fun h8 => ?_) (fun h8 => ?_) | refine brLe (fun h8 => ?_) (fun h8 => ?_) | refine brEq (fun h8 => ?_) (fun h8 => ?_))
    · have h8 : (j : Int) < (x.parents.length : Nat) := h8
      have hj : j < x.parents.length := by omega
      have bad : ¬ (prevN x.parents j < x.parents.getD j 0 ∧ x.parents.getD j 0 < (n.nodes.length : Int)) → ¬ validP n := fun h hv => h (hv.placed x hxm j hj)
      refine ⟨_, ⟨by omega, i64 (x.parents.getD j 0), icell hj, rfl⟩, ?_⟩
      (first | refine brLt (fun h9 => ?_) (fun h9 => ?_) | refine brLe (fun h9 => ?_) (fun h9 => ?_) | refine brEq (fun h9 => ?_) (fun h9 => ?_))
      · exact end2 (.agg nwZ) (i64 50) rfl rfl rfl (no (bad fun h => by have h9 : x.parents.getD j 0 ≤ prevN x.parents j := h9; omega))
      have h9 : ¬ x.parents.getD j 0 ≤ prevN x.parents j := h9
      (first | refine brLt (fun ha => ?_) (fun ha => ?_) | refine brLe (fun ha => ?_) (fun ha => ?_) | refine brEq (fun ha => ?_) (fun ha => ?_))
      · exact end2 (.agg nwZ) (i64 50) rfl rfl rfl (no (bad fun h => by
          have ha : (((n.nodes.map Nd.cells).length : Nat) : Int) ≤ x.parents.getD j 0 := ha
          rw [List.length_map] at ha
          omega))
      have ha : ¬ (((n.nodes.map Nd.cells).length : Nat) : Int) ≤ x.parents.getD j 0 := ha
      rw [List.length_map] at ha
      (first | refine brLt (fun hbb => ?_) (fun hbb => ?_) | refine brLe (fun hbb => ?_) (fun hbb => ?_) | refine brEq (fun hbb => ?_) (fun hbb => ?_))
      · have hbb : x.parents.getD j 0 = (v : Int) := hbb
        exact end2 (.agg nwZ) (i64 50) rfl rfl rfl (no fun h => no_self h hv (by rw [← hx, ← hbb]; exact getD_memL 0 hj))
      have j2' : ∀ i, i < j + 1 → prevN x.parents i < x.parents.getD i 0 ∧ x.parents.getD i 0 < (n.nodes.length : Int) := fun i hi => by
        rcases Nat.lt_or_ge i j with hh | hh
        · exact j2 i hh
        · have : i = j := by omega
          subst this; exact ⟨by omega, by omega⟩
      have hp0 : 0 ≤ x.parents.getD j 0 := by
        by_cases e : j = 0
        · subst e
          rw [prevN, if_pos rfl] at h9
          omega
        · rw [prevN, if_neg e] at h9
          have := hxm' (j - 1) (by omega)
          omega
      obtain ⟨p, hp⟩ : ∃ p : Nat, x.parents.getD j 0 = p := ⟨(x.parents.getD j 0).toNat, by omega⟩
      have hp60 : p < 64 := by omega
      have hprev : prevN x.parents (j + 1) = x.parents.getD j 0 := by rw [prevN, if_neg (by omega)]; rfl
      have hset : ((upTo 0 (setsN n) v).set v (setN (x.parents.take j))).getD v 0 = setN (x.parents.take j) := by
        rw [List.getD_eq_getElem?_getD, List.getElem?_set_self (by omega)]; rfl
      refine VDraw.seq rfl ?_
      refine ⟨by show (0 : Int) ≤ (v : Nat) ∧ (v : Int) < (n.nodes.length : Nat); omega, ?_⟩
      obtain ⟨S, hS⟩ : ∃ S, S = setN (x.parents.take j) := ⟨_, rfl⟩
      obtain ⟨B, hB⟩ : ∃ B : Nat, B = 2 ^ p := ⟨_, rfl⟩
      have hS64 : S < 18446744073709551616 := by rw [hS]; exact Nat.lt_trans hst h64
      have hB64 : B < 18446744073709551616 := by rw [hB]; exact pow64 hp60
      refine ⟨_, ⟨u64 S, by
        show (((upTo 0 (setsN n) v).set v (setN (x.parents.take j))).map u64)[0 + ((v : Nat) : Int).toNat]? = _
        rw [Nat.zero_add, Int.toNat_natCast, scell (by rw [List.length_set]; omega), hset, hS], rfl⟩, ?_⟩
      refine ⟨by show (0 : Int) ≤ x.parents.getD j 0; omega, (B : Int), by rw [hp, hB]; exact shl_u64 (k := p) hp60, ?_⟩
      refine ⟨((S ||| B : Nat) : Int), or_u64 hS64 hB64, ?_⟩
      refine ⟨by show (0 : Int) ≤ (v : Nat) ∧ (v : Int) < (n.nodes.length : Nat); omega, ?_⟩
      refine ⟨by show 0 + ((v : Nat) : Int).toNat < (((upTo 0 (setsN n) v).set v (setN (x.parents.take j))).map u64).length; rw [List.length_map, List.length_set, hul]; omega, ?_⟩
      refine ⟨_, wrap_i64 (by omega) (by omega), ?_⟩
      refine ⟨j + 1, ⟨by omega, j2'⟩, ent_of [] [] [] rfl ⟨⟨rfl, rfl⟩, ⟨rfl, rfl⟩, rfl, ⟨rfl, rfl⟩, congrArg i64 hprev, rfl, rfl, rfl, rfl, rfl, rfl, trivial⟩ ⟨⟨_, rfl, rfl, rfl, _, rfl, by (repeat' first | exact trivial | exact rfl | exact ⟨rfl, rfl⟩ | exact .inl rfl | refine ⟨_, rfl, rfl, rfl, ?_⟩ | refine ⟨_, _, rfl, ?_, ?_⟩ | refine ⟨_, rfl, ?_⟩ | refine And.intro ?_ ?_)⟩, ⟨_, rfl, rfl, rfl, _, rfl, by (repeat' first | exact trivial | exact rfl | exact ⟨rfl, rfl⟩ | exact .inl rfl | refine ⟨_, rfl, rfl, rfl, ?_⟩ | refine ⟨_, _, rfl, ?_, ?_⟩ | refine ⟨_, rfl, ?_⟩ | refine And.intro ?_ ?_)⟩, ⟨_, rfl, rfl, rfl, ?_⟩, ⟨_, rfl, rfl, rfl, rfl⟩, ⟨_, rfl, rfl, rfl, _, rfl, by (repeat' first | exact trivial | exact rfl | exact ⟨rfl, rfl⟩ | exact .inl rfl | refine ⟨_, rfl, rfl, rfl, ?_⟩ | refine ⟨_, _, rfl, ?_, ?_⟩ | refine ⟨_, rfl, ?_⟩ | refine And.intro ?_ ?_)⟩, ⟨_, rfl, rfl, rfl, _, rfl, by (repeat' first | exact trivial | exact rfl | exact ⟨rfl, rfl⟩ | exact .inl rfl | refine ⟨_, rfl, rfl, rfl, ?_⟩ | refine ⟨_, _, rfl, ?_, ?_⟩ | refine ⟨_, rfl, ?_⟩ | refine And.intro ?_ ?_)⟩, trivial⟩ rfl, by show x.parents.length - (j + 1) < x.parents.length - j; omega⟩
      show (((upTo 0 (setsN n) v).set v (setN (x.parents.take j))).map u64).set (0 + ((v : Nat) : Int).toNat) (u64 (S ||| B)) = ((upTo 0 (setsN n) v).set v (setN (x.parents.take (j + 1)))).map u64
      rw [Nat.zero_add, Int.toNat_natCast, set_step hj, hp, Int.toNat_natCast, List.map_set, List.map_set, List.set_set, hS, hB]
    have h8 : ¬ (j : Int) < (x.parents.length : Nat) := h8
    have hj : j = x.parents.length := by omega
    subst hj
    have hxl : listP n.nodes.length x.parents := j2
    have htp : x.parents.take x.parents.length = x.parents := take_all (Nat.le_refl _)
    have hss : (upTo 0 (setsN n) v).set v (setN (x.parents.take x.parents.length)) = upTo 0 (setsN n) (v + 1) := by rw [htp, ← hsv]; exact upTo_set (by omega)
    have hF := filled_c n (upTo 0 (setsN n) (v + 1)) x ⟨by omega, by omega⟩ (by omega) g2 hxl (hb.rows x hxm) (hb.row x hxm)
    have harg : ResL (Res (marks (rdL n (cardsN n) (upTo 0 (setsN n) (v + 1))) [2, 3]) 5) [.agg [.p (i64 n.grain), .p (.lsts 3 (n.nodes.map Nd.cells)), .sl 2 1 0 n.nodes.length, .sl 3 1 0 n.nodes.length, .p .nils], .p x.pv] [.agg (nwCells n (upTo 0 (setsN n) (v + 1)) .nils), x.pv] := by
      refine ⟨_, _, rfl, ⟨_, rfl, _, _, rfl, rfl, _, _, rfl, rfl, _, _, rfl, ⟨_, rfl, by show 0 + n.nodes.length ≤ ((cardsN n).map i64).length; rw [List.length_map]; omega, takeAll (by rw [List.length_map]; omega)⟩, _, _, rfl, ⟨_, rfl, by show 0 + n.nodes.length ≤ ((upTo 0 (setsN n) (v + 1)).map u64).length; rw [List.length_map, upTo_len (by omega)]; omega, takeAll (by rw [List.length_map, upTo_len (by omega)]; omega)⟩, _, _, rfl, .inl rfl, rfl⟩, _, _, rfl, res_p _ _, rfl⟩
    by_cases hf : fillP n x
    · rw [decide_eq_true hf] at hF
      refine hF.lends [2, 3] rfl ?_ ?_
      · show ResL (Res (marks ((5, ndO x) :: rdL n (cardsN n) ((upTo 0 (setsN n) v).set v (setN (x.parents.take x.parents.length)))) [2, 3]) 5) _ _
        rw [hss]
        exact harg
      refine ⟨_, wrap_i64 (by omega) (by omega), ?_⟩
      refine ⟨v + 1, ⟨by omega, mem_take nd0 hv v2 (by rw [← hx]; exact hxl), fun u hu => ?_⟩, ent_of [] [] [] rfl ⟨⟨rfl, rfl⟩, ⟨rfl, rfl⟩, rfl, rfl, rfl, trivial⟩ ⟨⟨_, rfl, rfl, rfl, _, rfl, by (repeat' first | exact trivial | exact rfl | exact ⟨rfl, rfl⟩ | exact .inl rfl | refine ⟨_, rfl, rfl, rfl, ?_⟩ | refine ⟨_, _, rfl, ?_, ?_⟩ | refine ⟨_, rfl, ?_⟩ | refine And.intro ?_ ?_)⟩, ⟨_, rfl, rfl, rfl, ?_⟩, ⟨_, rfl, rfl, rfl, rfl⟩, ⟨_, rfl, rfl, rfl, _, rfl, by (repeat' first | exact trivial | exact rfl | exact ⟨rfl, rfl⟩ | exact .inl rfl | refine ⟨_, rfl, rfl, rfl, ?_⟩ | refine ⟨_, _, rfl, ?_, ?_⟩ | refine ⟨_, rfl, ?_⟩ | refine And.intro ?_ ?_)⟩, ⟨_, rfl, rfl, rfl, _, rfl, by (repeat' first | exact trivial | exact rfl | exact ⟨rfl, rfl⟩ | exact .inl rfl | refine ⟨_, rfl, rfl, rfl, ?_⟩ | refine ⟨_, _, rfl, ?_, ?_⟩ | refine ⟨_, rfl, ?_⟩ | refine And.intro ?_ ?_)⟩, trivial⟩ rfl, by show n.nodes.length - (v + 1) < n.nodes.length - v; omega⟩
      · rcases Nat.lt_or_ge u v with hh | hh
        · exact v3 u hh
        · have : u = v := by omega
          subst this
          rw [hx] at hf
          exact hf
      · exact congrArg (List.map u64) hss
    · rw [decide_eq_false hf] at hF
      refine hF.lends [2, 3] rfl ?_ ?_
      · show ResL (Res (marks ((5, ndO x) :: rdL n (cardsN n) ((upTo 0 (setsN n) v).set v (setN (x.parents.take x.parents.length)))) [2, 3]) 5) _ _
        rw [hss]
        exact harg
      exact end2 (.agg nwZ) (i64 50) rfl rfl rfl (no fun h => hf (by rw [hx]; exact h.node v hv))
  have h7 : ¬ (v : Int) < (n.nodes.length : Nat) := h7
  have hv : v = n.nodes.length := by omega
  subst hv
  have hus : upTo 0 (setsN n) n.nodes.length = setsN n := by rw [← hsl]; exact upTo_all
  rw [take_all (Nat.le_refl _)] at v2
  have hS := sorted_c (setsN n) (by omega) (sets_ok v2)
  refine hS.use [3] rfl ?_ fun r hr => ?_
  · refine ⟨_, _, rfl, ⟨_, rfl, ?_, ?_⟩, rfl⟩
    · show 0 + n.nodes.length ≤ ((upTo 0 (setsN n) n.nodes.length).map u64).length
      rw [hus, List.length_map]; omega
    · show (setsN n).map u64 = (((upTo 0 (setsN n) n.nodes.length).map u64).drop 0).take n.nodes.length
      rw [hus]
      exact takeAll (by rw [List.length_map, hsl])
  rcases hr with ⟨ha, l, rfl⟩ | ⟨ha, rfl⟩
  · refine end2 (.agg (nwCells n (setsN n) (ints l))) (i64 0) rfl ⟨_, rfl, _, _, rfl, rfl, _, _, rfl, rfl, _, _, rfl, ⟨_, rfl, ?_, ?_⟩, _, _, rfl, ⟨_, rfl, ?_, ?_⟩, _, _, rfl, rfl, rfl⟩ rfl (.inl ⟨⟨⟨by omega, by omega⟩, ⟨by omega, by omega⟩, hcards, v2, by omega, ha, v3⟩, l, rfl⟩)
    · show 0 + n.nodes.length ≤ ((cardsN n).map i64).length
      rw [List.length_map]; omega
    · exact takeAll (by rw [List.length_map, hcl])
    · show 0 + n.nodes.length ≤ ((upTo 0 (setsN n) n.nodes.length).map u64).length
      rw [hus, List.length_map]; omega
    · show (setsN n).map u64 = (((upTo 0 (setsN n) n.nodes.length).map u64).drop 0).take n.nodes.length
      rw [hus]
      exact takeAll (by rw [List.length_map, hsl])
  · exact end2 (.agg nwZ) (i64 50) rfl rfl rfl (no fun h => ha h.acyc)

noncomputable def checkN (n : Nt) : Int := if validP n then 0 else 50
theorem check_c (n : Nt) (hb : BigN n) : Pure cx 17 [n.pv] (· = .ret [i64 (checkN n)]) := by
  refine pure_of_vc Tryd.func17 rfl rfl rfl ?_
  refine (read_c n hb).at fun r hr => ?_
  rcases hr with ⟨h, l, rfl⟩ | ⟨h, rfl⟩
  · exact end1 _ rfl rfl (by rw [checkN, if_pos h])
  · exact end1 _ rfl rfl (by rw [checkN, if_neg h])
end Go.Proofs.YtphmmoloegjocaaDoor

/- The drafts of networks: rows, permutations. -/
namespace Go.Proofs.YtphmmoloegjocaaDoor
open Go Y
set_option maxRecDepth 100000
set_option maxHeartbeats 40000000

abbrev bytes (l : List UInt8) : PV := .lst (l.map u8)
theorem set_getD {l : List Int} {k i : Nat} {x : Int} (hk : k < l.length) : (l.set k x).getD i 0 = if i = k then x else l.getD i 0 := by
  rw [List.getD_eq_getElem?_getD, List.getElem?_set, List.getD_eq_getElem?_getD]
  by_cases e : k = i
  · subst e; rw [if_pos rfl, if_pos hk, if_pos rfl]; rfl
  · rw [if_neg e, if_neg (fun h => e h.symm)]
end Go.Proofs.YtphmmoloegjocaaDoor

/- Drafted permutations. -/
namespace Go.Proofs.YtphmmoloegjocaaDoor
open Go Y
set_option maxRecDepth 100000
set_option maxHeartbeats 40000000

end Go.Proofs.YtphmmoloegjocaaDoor

/- Nodes in a slice that is written; the cards of parents as a new object. -/
namespace Go.Proofs.YtphmmoloegjocaaDoor
open Go Y
set_option maxRecDepth 100000
set_option maxHeartbeats 40000000

/-- A node's cells: whole, or not yet given parents and rows. -/
def rowAV (x : Nd) (b : Bool) : List AV := if b then x.cells.map .p else [.p (i64 x.card), .p .nils, .p .nils]
def rowsAV (L : List (Nd × Bool)) : List (List AV) := L.map fun p => rowAV p.1 p.2
theorem seeL_p {ρ : Nat → Nat} {ni : List (Nat × Nat)} {L : List (Nat × AObj)} : ∀ xs : List PV, SeeL ρ ni L (xs.map .p) (xs.map .p)
  | [] => rfl
  | x :: xs => ⟨_, _, rfl, by simp only [See]; exact res_p _ _, seeL_p xs⟩
theorem seeLL_p {ρ : Nat → Nat} {ni : List (Nat × Nat)} {L : List (Nat × AObj)} : ∀ xss : List (List PV), SeeLL ρ ni L (mapsP xss) (mapsP xss)
  | [] => rfl
  | x :: xss => ⟨_, _, rfl, seeL_p x, seeLL_p xss⟩
theorem rows_len (L : List (Nd × Bool)) : (rowsAV L).length = L.length := List.length_map ..
def rO (rs : List (List Int)) : AObj := ⟨TI, false, .pu (rs.map ints)⟩
def mO (xs : List (List AV)) : AObj := ⟨TNode, false, .mxs xs⟩

end Go.Proofs.YtphmmoloegjocaaDoor

/- Drafted networks. -/
namespace Go.Proofs.YtphmmoloegjocaaDoor
open Go Y
set_option maxRecDepth 100000
set_option maxHeartbeats 40000000

structure Pc where
  card : UInt8
  par : UInt8
  w : List UInt8
abbrev Pc.cells (p : Pc) : List PV := [u8 p.card, u8 p.par, bytes p.w]
structure D5 where
  grain : UInt8
  nodes : List Pc
  order : List UInt8
abbrev D5.cells (D : D5) : List PV := [u8 D.grain, .lsts 3 (D.nodes.map Pc.cells), bytes D.order]
abbrev D5.pv (D : D5) : PV := .agg D.cells
def znO : AObj := ⟨TNet, false, .bx [.p (i64 0), .p .nils]⟩
structure OkD5 (D : D5) : Prop where
  nodes : D.nodes.length ≤ 9223372036854775807
  order : D.order.length ≤ 9223372036854775807
  w : ∀ p ∈ D.nodes, p.w.length ≤ 9223372036854775807
theorem prod_snoc (l : List Int) (x : Int) : prodN (l ++ [x]) = prodN l * x := by rw [prodN, List.foldl_append]; rfl
theorem nat_getD {l : List Nat} {n j : Nat} (h : l.Perm (List.range n)) (hj : j < n) : l.getD j 0 < n := by
  have hl : l.length = n := by rw [h.length_eq, List.length_range]
  have := h.mem_iff.1 (getD_memL 0 (show j < l.length by omega))
  simpa using this
theorem nat_inj {l : List Nat} {n j k : Nat} (h : l.Perm (List.range n)) (hj : j < n) (hk : k < n) (e : l.getD j 0 = l.getD k 0) : j = k := by
  have hl : l.length = n := by rw [h.length_eq, List.length_range]
  have hnd : l.Nodup := h.nodup_iff.2 List.nodup_range
  rw [List.getD_eq_getElem?_getD, List.getD_eq_getElem?_getD, List.getElem?_eq_getElem (show j < l.length by omega), List.getElem?_eq_getElem (show k < l.length by omega)] at e
  exact (List.getElem_inj hnd).1 e
theorem nat_all {l : List Nat} {n v : Nat} (h : l.Perm (List.range n)) (hv : v < n) : ∃ j, j < n ∧ l.getD j 0 = v := by
  have hl : l.length = n := by rw [h.length_eq, List.length_range]
  obtain ⟨j, hj, e⟩ := mem_getD 0 (h.mem_iff.2 (List.mem_range.2 hv))
  exact ⟨j, by omega, e⟩

def d0 : Nd × Bool := (nd0, false)
structure GoodN (N g : Nat) (cs : List Int) (num : List Nat) (j : Nat) (x : Nd) : Prop where
  placed : listP N x.parents
  three : x.parents.length ≤ 3
  before : ∀ p ∈ x.parents, ∃ k, k < j ∧ ((num.getD k 0 : Nat) : Int) = p
  rows : (x.rows.length : Int) = prodN (atN cs x.parents)
  row : ∀ r ∈ x.rows, rowP g x.card r
structure I2 (N g : Nat) (cs : List Int) (num : List Nat) (i : Nat) (L : List (Nd × Bool)) : Prop where
  le : i ≤ N
  len : L.length = N
  card : L.map (fun p => p.1.card) = cs
  raw : ∀ p ∈ L, p.2 = false → p.1.parents = [] ∧ p.1.rows = []
  todo : ∀ j, i ≤ j → j < N → (L.getD (num.getD j 0) d0).2 = false
  good : ∀ j, j < i → GoodN N g cs num j (L.getD (num.getD j 0) d0).1
theorem set_getD' {α : Type} {l : List α} {k i : Nat} {x d : α} (hk : k < l.length) : (l.set k x).getD i d = if i = k then x else l.getD i d := by
  rw [List.getD_eq_getElem?_getD, List.getElem?_set, List.getD_eq_getElem?_getD]
  by_cases e : k = i
  · subst e; rw [if_pos rfl, if_pos hk, if_pos rfl]; rfl
  · rw [if_neg e, if_neg (fun h => e h.symm)]
theorem I2.next {N g : Nat} {cs : List Int} {num : List Nat} {i : Nat} {L : List (Nd × Bool)} (h : I2 N g cs num i L) (hp : num.Perm (List.range N)) (hi : i < N) {x : Nd} (hc : x.card = cs.getD (num.getD i 0) 0) (hx : GoodN N g cs num i x) : I2 N g cs num (i + 1) (L.set (num.getD i 0) (x, true)) := by
  have hv := nat_getD hp hi
  have hvl : num.getD i 0 < L.length := by rw [h.len]; exact hv
  refine ⟨by omega, by rw [List.length_set]; exact h.len, ?_, fun p hpm hp2 => ?_, fun j hj hjN => ?_, fun j hj => ?_⟩
  · rw [List.map_set, h.card]
    show cs.set _ x.card = cs
    rw [hc]
    refine List.ext_getElem (by rw [List.length_set]) fun k h1 h2 => ?_
    rw [List.getElem_set]
    split
    · rename_i e
      subst e
      rw [List.getD_eq_getElem?_getD, List.getElem?_eq_getElem h2]; rfl
    · rfl
  · rcases List.mem_or_eq_of_mem_set hpm with hm | hm
    · exact h.raw p hm hp2
    · subst hm; cases hp2
  · rw [set_getD' hvl, if_neg (fun e => by have := nat_inj hp hjN hi e; omega)]
    exact h.todo j (by omega) hjN
  · rw [set_getD' hvl]
    by_cases e : j = i
    · subst e; rw [if_pos rfl]; exact hx
    · rw [if_neg (fun e' => e (nat_inj hp (by omega) hi e'))]
      exact h.good j (by omega)

/-- What is known of a drafted network. -/
structure DrB (n : Nt) : Prop where
  valid : validP n
  five : n.nodes.length ≤ 5
  prod : prodN (cardsN n) ≤ 100
  par : ∀ x ∈ n.nodes, x.parents.length ≤ 3
  card : ∀ x ∈ n.nodes, 2 ≤ x.card ∧ x.card ≤ 3

structure I1 (N : Nat) (num : List Nat) (i : Nat) (cs ws : List Int) : Prop where
  le : i ≤ N
  cl : cs.length = N
  wl : ws.length = i
  eq : ∀ j, j < i → cs.getD (num.getD j 0) 0 = ws.getD j 0
  w23 : ∀ c ∈ ws, 2 ≤ c ∧ c ≤ 3
  pr : prodN ws * ((2 ^ (N - i) : Nat) : Int) ≤ 100
theorem I1.pos {N : Nat} {num : List Nat} {i : Nat} {cs ws : List Int} (h : I1 N num i cs ws) : 1 ≤ prodN ws := by
  have h1 := prod_take (l := ws) (fun c hc => ⟨by have := h.w23 c hc; omega, by have := h.w23 c hc; omega⟩) ws.length (Nat.le_refl _)
  rw [take_all (Nat.le_refl _)] at h1
  exact h1.1
theorem snoc_getD {α : Type} {l : List α} {x d : α} {j : Nat} : (l ++ [x]).getD j d = if j < l.length then l.getD j d else if j = l.length then x else d := by
  rw [List.getD_eq_getElem?_getD, List.getElem?_append]
  split
  · rw [List.getD_eq_getElem?_getD]
  · split
    · subst j; simp
    · rw [List.getElem?_singleton, if_neg (by omega)]; rfl
theorem I1.next {N : Nat} {num : List Nat} {i : Nat} {cs ws : List Int} (h : I1 N num i cs ws) (hp : num.Perm (List.range N)) (hi : i < N) {c : Int} (hc : 2 ≤ c ∧ c ≤ 3) (hw : prodN ws * c * ((2 ^ (N - (i + 1)) : Nat) : Int) ≤ 100) :
    I1 N num (i + 1) (cs.set (num.getD i 0) c) (ws ++ [c]) := by
  have hn := nat_getD hp hi
  refine ⟨by omega, by rw [List.length_set]; exact h.cl, by rw [snoc_len, h.wl], fun j hj => ?_, fun x hx => ?_, by rw [prod_snoc]; exact hw⟩
  · rw [set_getD (by rw [h.cl]; exact hn), snoc_getD, h.wl]
    by_cases e : j = i
    · subst e; rw [if_pos rfl, if_neg (by omega), if_pos rfl]
    · rw [if_neg (fun e' => e (nat_inj hp (by omega) hi e')), if_pos (by omega)]
      exact h.eq j (by omega)
  · rcases List.mem_append.1 hx with hx | hx
    · exact h.w23 x hx
    · simp only [List.mem_singleton] at hx; subst hx; exact hc
theorem I2.fin {N g : Nat} {cs : List Int} {num : List Nat} {L : List (Nd × Bool)} (h : I2 N g cs num N L) (hp : num.Perm (List.range N)) (hN : 1 ≤ N ∧ N ≤ 5) (hg : 1 ≤ g ∧ g ≤ 60) (hc : ∀ c ∈ cs, 2 ≤ c ∧ c ≤ 3) (hpr : prodN cs ≤ 100) : DrB ⟨g, L.map fun p => p.1⟩ := by
  have hcs : cardsN ⟨g, L.map fun p => p.1⟩ = cs := by rw [← h.card, cardsN, List.map_map]; rfl
  have hlen : (L.map fun p => p.1).length = N := by rw [List.length_map]; exact h.len
  have hget : ∀ v, v < N → (L.map fun p => p.1).getD v nd0 = (L.getD v d0).1 := fun v hv => getD_map d0 nd0 (by rw [h.len]; exact hv)
  have hat : ∀ v, v < N → ∃ j, j < N ∧ num.getD j 0 = v ∧ GoodN N g cs num j ((L.map fun p => p.1).getD v nd0) := fun v hv => by
    obtain ⟨j, hj, e⟩ := nat_all hp hv
    refine ⟨j, hj, e, ?_⟩
    rw [hget v hv, ← e]
    exact h.good j hj
  have hmem : ∀ x ∈ L.map (fun p => p.1), ∃ v j, v < N ∧ j < N ∧ num.getD j 0 = v ∧ (L.map fun p => p.1).getD v nd0 = x ∧ GoodN N g cs num j x := fun x hx => by
    obtain ⟨v, hv, rfl⟩ := mem_getD nd0 hx
    rw [hlen] at hv
    obtain ⟨j, h1, h2, h3⟩ := hat v hv
    exact ⟨v, j, hv, h1, h2, rfl, h3⟩
  have hcard : ∀ x ∈ L.map (fun p => p.1), 2 ≤ x.card ∧ x.card ≤ 3 := fun x hx => hc _ (by rw [← h.card]; obtain ⟨p, h1, rfl⟩ := List.mem_map.1 hx; exact List.mem_map.2 ⟨p, h1, rfl⟩)
  have hplaced : placedP ⟨g, L.map fun p => p.1⟩ := fun x hx => by
    obtain ⟨v, j, _, _, _, _, h5⟩ := hmem x hx
    have := h5.placed
    show listP ((L.map fun p => p.1).length : Nat) x.parents
    rw [hlen]; exact this
  refine ⟨⟨⟨by show (1 : Int) ≤ g; omega, by show (g : Int) ≤ 60; omega⟩, ⟨by show 1 ≤ (L.map fun p => p.1).length; omega, by show (L.map fun p => p.1).length ≤ 8; omega⟩, fun x hx => ?_, hplaced, by rw [hcs]; omega, ?_, fun v hv => ?_⟩, by show (L.map fun p => p.1).length ≤ 5; omega, by rw [hcs]; exact hpr, fun x hx => ?_, hcard⟩
  · have := hcard x hx
    exact ⟨by omega, by omega⟩
  · have hsl : (setsN ⟨g, L.map fun p => p.1⟩).length = N := by rw [setsN, List.length_map]; exact hlen
    have hnl : num.length = N := by rw [hp.length_eq, List.length_range]
    have hidx : ∀ j, j < N → num.idxOf (num.getD j 0) = j := fun j hj => by
      have hm : num.getD j 0 ∈ num := getD_memL 0 (by omega)
      have h1 := List.idxOf_lt_length_of_mem hm
      refine nat_inj hp (by omega) hj ?_
      rw [List.getD_eq_getElem?_getD, List.getElem?_eq_getElem h1, List.getElem_idxOf h1]; rfl
    refine ⟨fun v => num.idxOf v, fun v hv p hpl hb => ?_⟩
    rw [hsl] at hv hpl
    obtain ⟨j, hj, e, hG⟩ := hat v hv
    have hpar : parAt (setsN ⟨g, L.map fun p => p.1⟩) v = setN ((L.map fun p => p.1).getD v nd0).parents := by
      rw [parAt, setsN, getD_map nd0 0 (by rw [hlen]; exact hv)]
    rw [hpar] at hb
    have hm := (set_bit fun q hq => (list_mem hG.placed q hq).1).1 hb
    obtain ⟨k, hk, e2⟩ := hG.before _ hm
    have e3 : num.getD k 0 = p := by exact_mod_cast e2
    show num.idxOf p < num.idxOf v
    rw [← e, ← e3, hidx j hj, hidx k (by omega)]
    exact hk
  · have hv : v < (L.map fun p => p.1).length := hv
    rw [hlen] at hv
    obtain ⟨j, _, _, hG⟩ := hat v hv
    refine ⟨?_, hG.row⟩
    rw [pcardsN, hcs]
    exact hG.rows
  · obtain ⟨v, j, _, _, _, _, h5⟩ := hmem x hx
    exact h5.three
end Go.Proofs.YtphmmoloegjocaaDoor

/- Drafted networks: the walk. -/
namespace Go.Proofs.YtphmmoloegjocaaDoor
open Go Y
set_option maxRecDepth 100000
set_option maxHeartbeats 40000000

end Go.Proofs.YtphmmoloegjocaaDoor

/- strings.Builder. -/
namespace Go.Proofs.YtphmmoloegjocaaDoor
open Go Y
set_option maxRecDepth 100000
set_option maxHeartbeats 4000000

abbrev TB : TypeId := 56
/-- The builder's own address, once it has been used. -/
def au : Bool → AV
  | true => .ptr 0 0 0
  | false => .p .nilp

theorem noEscape_c {v : AV} {H : Hp} {Q : AE → Hp → Prop} (hQ : Q (.returned v) H) : Holds cx 58 [v] H Q := by
  intro Γ w args' hR hA
  simp only [VRL] at hA
  obtain ⟨u, us, rfl, hu, rfl⟩ := hA
  refine .inr ⟨u, w, ?_, _, _, Γ, hQ, ⟨u, rfl, hu⟩, Later.refl hR _ (Nat.le_refl _)⟩
  show (callFunc 58 #[u]).run Tryd.prog w = _
  rw [run_callFunc_extern Tryd.func58 (by kernel_rfl) (by kernel_rfl) (by kernel_rfl) (e := Extern.AbiNoEscape.same) (by kernel_rfl)]
  rfl

theorem makeNoZero_c {n : Nat} {H : Hp} {Q : AE → Hp → Prop} (hn : n ≤ 281474976710656) (hQ : Q (.returned (.sl H.next 1 0 n)) (H.push ⟨5, false, .pu []⟩)) : Holds cx 64 [.p (i64 n)] H Q := by
  intro Γ w args' hR hA
  simp only [VRL, VR, VP] at hA
  obtain ⟨u, us, rfl, rfl, rfl⟩ := hA
  obtain ⟨cs, hrun, hle, _⟩ := Lib.run_makeNoZero (P := Tryd.prog) w #[3] 23 5 Tryd.underlying23 n hn
  have hd := (Later.drew hR H.next (Nat.le_refl _)).trans (Later.drew (Later.drew hR H.next (Nat.le_refl _)).1 H.next (Nat.le_refl _))
  have hR2 : R cx Γ H w.drew.drew := hd.1
  have hp := push_cells (t := 5) (s := 1) (tc := cs.size) (c := .pu []) (us := []) (rest := cs.toList) hR2 rfl (by rfl) Nat.one_pos rfl (by simp) (by simp) rfl
  refine .inr ⟨.slice (some ⟨w.heap.size, 0, none⟩) n cs.size, w.drew.drew.alloc (.cells cs 5), ?_, _, _, _, hQ, ⟨_, rfl, VR_slNext (Γ := Γ) ⟨w.heap.size, 1, cs.size, false⟩ H.next n rfl hle⟩, hd.trans hp⟩
  show (callFunc 64 #[.int .i64 n]).run Tryd.prog w = _
  rw [run_callFunc_extern Tryd.func64 (by kernel_rfl) (by kernel_rfl) (by kernel_rfl) (e := Extern.BytealgMakeNoZero.makeNoZero #[3] #[23]) (by kernel_rfl), hrun]
  rfl

theorem copyCheck_c (u : Bool) (v : AV) : HoldsG cx 43 [.ptr 0 0 0] ⟨2, [(0, ⟨TB, false, .bx [au u, v]⟩)]⟩ fun e H' => e = .returned und ∧ H' = ⟨2, [(0, ⟨TB, false, .bx [.ptr 0 0 0, v]⟩)]⟩ := by
  refine holds_of_vc Tryd.func43 rfl rfl rfl ?_
  cases u
  · refine noEscape_c ?_
    exact ⟨rfl, rfl⟩
  · exact ⟨rfl, rfl⟩

/-- A builder that holds some bytes. -/
def bldH (u : Bool) (xs : List UInt8) : Hp := ⟨2, [(1, ⟨5, false, .pu (xs.map ub)⟩), (0, ⟨TB, false, .bx [au u, .sl 1 1 0 xs.length]⟩)]⟩
def bldH' (xs : List UInt8) : Hp := ⟨3, [(2, ⟨5, false, .pu (xs.map ub)⟩), (0, ⟨TB, false, .bx [.ptr 0 0 0, .sl 2 1 0 xs.length]⟩)]⟩

theorem takeUb (xs : List UInt8) : xs.map ub = ((xs.map ub).drop 0).take xs.length := by rw [List.drop_zero, List.take_of_length_le (by simp)]

theorem writeByte_c (u : Bool) (xs : List UInt8) (b : UInt8) (hx : xs.length ≤ 100000000) :
    HoldsG cx 25 [.ptr 0 0 0, .p (u8 b)] (bldH u xs) fun e H' => e = .returned (.p .nilIface) ∧ H' = bldH' (xs ++ [b]) := by
  refine holdsN_of_vc Tryd.func25 rfl rfl rfl ?_
  refine (copyCheck_c u (.sl 1 1 0 xs.length)).useE [] [] rfl ?_ ?_ ?_
  · cases u <;> (repeat' first | exact trivial | exact rfl | exact ⟨rfl, rfl⟩ | exact .inl rfl | refine ⟨_, rfl, rfl, rfl, ?_⟩ | refine ⟨_, _, rfl, ?_, ?_⟩ | refine ⟨_, rfl, ?_⟩ | refine And.intro ?_ ?_)
  · (repeat' first | exact trivial | exact rfl | exact ⟨rfl, rfl⟩ | exact .inl rfl | refine ⟨_, rfl, rfl, rfl, ?_⟩ | refine ⟨_, _, rfl, ?_, ?_⟩ | refine ⟨_, rfl, ?_⟩ | refine And.intro ?_ ?_)
  · refine ⟨by show 0 + 1 ≤ _; simp, [ub b], rfl, ?_⟩
    refine ⟨by show 0 + xs.length ≤ (xs.map ub).length; simp, xs.map ub, takeUb xs, by show (xs.length + 1) * 1 ≤ _; omega, (xs ++ [b]).map ub, by simp, ?_⟩
    exact ⟨[], [(2, 3)], [], .returned (.p .nilIface), ⟨3, [(2, ⟨5, false, .pu ((xs ++ [b]).map ub)⟩), (0, ⟨TB, false, .bx [.ptr 0 0 0, .sl 2 1 0 (xs.length + 1)]⟩)]⟩, rfl, ⟨_, rfl, rfl⟩, ⟨⟨_, rfl, rfl, rfl, rfl⟩, ⟨_, rfl, rfl, rfl, _, rfl, _, _, rfl, ⟨rfl, rfl⟩, _, _, rfl, rfl, rfl⟩, trivial⟩, rfl, by simp [bldH']⟩

theorem writeString_c (u : Bool) (xs s : List UInt8) (hx : xs.length ≤ 100000000) (hs : s.length ≤ 100000000) :
    HoldsG cx 22 [.ptr 0 0 0, vS s] (bldH u xs) fun e H' => e = .returned (.tup [.p (i64 s.length), .p .nilIface]) ∧ H' = bldH' (xs ++ s) := by
  refine holdsN_of_vc Tryd.func22 rfl rfl rfl ?_
  refine (copyCheck_c u (.sl 1 1 0 xs.length)).useE [] [] rfl ?_ ?_ ?_
  · cases u <;> (repeat' first | exact trivial | exact rfl | exact ⟨rfl, rfl⟩ | exact .inl rfl | refine ⟨_, rfl, rfl, rfl, ?_⟩ | refine ⟨_, _, rfl, ?_, ?_⟩ | refine ⟨_, rfl, ?_⟩ | refine And.intro ?_ ?_)
  · (repeat' first | exact trivial | exact rfl | exact ⟨rfl, rfl⟩ | exact .inl rfl | refine ⟨_, rfl, rfl, rfl, ?_⟩ | refine ⟨_, _, rfl, ?_, ?_⟩ | refine ⟨_, rfl, ?_⟩ | refine And.intro ?_ ?_)
  · refine ⟨by show 0 + xs.length ≤ (xs.map ub).length; simp, xs.map ub, takeUb xs, by show (xs.length + s.length) * 1 ≤ _; omega, (xs ++ s).map ub, by simp, ?_⟩
    exact ⟨[], [(2, 2)], [], .returned (.tup [.p (i64 s.length), .p .nilIface]), ⟨3, [(2, ⟨5, false, .pu ((xs ++ s).map ub)⟩), (0, ⟨TB, false, .bx [.ptr 0 0 0, .sl 2 1 0 (xs.length + s.length)]⟩)]⟩, rfl, ⟨_, rfl, _, rfl, by (repeat' first | exact trivial | exact rfl | exact ⟨rfl, rfl⟩ | exact .inl rfl | refine ⟨_, rfl, rfl, rfl, ?_⟩ | refine ⟨_, _, rfl, ?_, ?_⟩ | refine ⟨_, rfl, ?_⟩ | refine And.intro ?_ ?_)⟩, ⟨⟨_, rfl, rfl, rfl, rfl⟩, ⟨_, rfl, rfl, rfl, _, rfl, _, _, rfl, ⟨rfl, rfl⟩, _, _, rfl, rfl, rfl⟩, trivial⟩, rfl, by simp [bldH']⟩

/-- The same at a builder in which nothing has been written. -/
theorem grow_c (n : Nat) (hn : n ≤ 100000000) : HoldsG cx 55 [.ptr 0 0 0, .p (i64 n)] ⟨1, [(0, ⟨TB, false, .bx [.ptr 0 0 0, .p .nils]⟩)]⟩ fun e H' => e = .returned und ∧ H' = ⟨2, [(1, ⟨5, false, .pu []⟩), (0, ⟨TB, false, .bx [.ptr 0 0 0, .sl 1 1 0 0]⟩)]⟩ := by
  refine holdsN_of_vc Tryd.func55 rfl rfl rfl ?_
  refine VDraw.seq rfl ?_
  refine ⟨0, wrap_i64 (by omega) (by omega), ?_⟩
  refine ⟨(n : Int), by rw [Int.zero_add]; exact wrap_i64 (by omega) (by omega), ?_⟩
  refine makeNoZero_c (by omega) ?_
  refine ⟨by (repeat' first | exact trivial | exact rfl | exact ⟨rfl, rfl⟩ | exact .inl rfl | refine ⟨_, rfl, rfl, rfl, ?_⟩ | refine ⟨_, _, rfl, ?_, ?_⟩ | refine ⟨_, rfl, ?_⟩ | refine And.intro ?_ ?_), ?_⟩
  refine ⟨by show (0 : Int) ≤ 0 ∧ (0 : Int) ≤ (n : Nat); omega, ?_⟩
  refine ⟨⟨Nat.le_refl _, Nat.le_refl _⟩, [], rfl, ?_⟩
  exact ⟨[], [(1, 1)], [], .returned und, ⟨2, [(1, ⟨5, false, .pu []⟩), (0, ⟨TB, false, .bx [.ptr 0 0 0, .sl 1 1 0 0]⟩)]⟩, rfl, by (repeat' first | exact trivial | exact rfl | exact ⟨rfl, rfl⟩ | exact .inl rfl | refine ⟨_, rfl, rfl, rfl, ?_⟩ | refine ⟨_, _, rfl, ?_, ?_⟩ | refine ⟨_, rfl, ?_⟩ | refine And.intro ?_ ?_), ⟨⟨_, rfl, rfl, rfl, rfl⟩, ⟨_, rfl, rfl, rfl, _, rfl, _, _, rfl, ⟨rfl, rfl⟩, _, _, rfl, rfl, rfl⟩, trivial⟩, rfl, rfl⟩

theorem growN_c (u : Bool) (n : Nat) (h0 : 0 < n) (hn : n ≤ 100000000) : HoldsG cx 37 [.ptr 0 0 0, .p (i64 n)] ⟨1, [(0, ⟨TB, false, .bx [au u, .p .nils]⟩)]⟩ fun e H' => e = .returned und ∧ H' = ⟨2, [(1, ⟨5, false, .pu []⟩), (0, ⟨TB, false, .bx [.ptr 0 0 0, .sl 1 1 0 0]⟩)]⟩ := by
  refine holdsN_of_vc Tryd.func37 rfl rfl rfl ?_
  refine (copyCheck_c u (.p .nils)).useE [] [(1, 0)] rfl ?_ ?_ ?_
  · cases u <;> (repeat' first | exact trivial | exact rfl | exact ⟨rfl, rfl⟩ | exact .inl rfl | refine ⟨_, rfl, rfl, rfl, ?_⟩ | refine ⟨_, _, rfl, ?_, ?_⟩ | refine ⟨_, rfl, ?_⟩ | refine And.intro ?_ ?_)
  · (repeat' first | exact trivial | exact rfl | exact ⟨rfl, rfl⟩ | exact .inl rfl | refine ⟨_, rfl, rfl, rfl, ?_⟩ | refine ⟨_, _, rfl, ?_, ?_⟩ | refine ⟨_, rfl, ?_⟩ | refine And.intro ?_ ?_)
  · refine And.intro (fun h1 => ?_) (fun h1 => ?_)
    · have h1 : (n : Int) < 0 := h1
      omega
    · refine VDraw.seq rfl ?_
      refine ⟨0, wrap_i64 (by omega) (by omega), ?_⟩
      refine And.intro (fun h2 => ?_) (fun h2 => ?_)
      · refine (grow_c n hn).useE [] [] rfl ?_ ?_ ?_
        · (repeat' first | exact trivial | exact rfl | exact ⟨rfl, rfl⟩ | exact .inl rfl | refine ⟨_, rfl, rfl, rfl, ?_⟩ | refine ⟨_, _, rfl, ?_, ?_⟩ | refine ⟨_, rfl, ?_⟩ | refine And.intro ?_ ?_)
        · (repeat' first | exact trivial | exact rfl | exact ⟨rfl, rfl⟩ | exact .inl rfl | refine ⟨_, rfl, rfl, rfl, ?_⟩ | refine ⟨_, _, rfl, ?_, ?_⟩ | refine ⟨_, rfl, ?_⟩ | refine And.intro ?_ ?_)
        · exact ⟨[], [(1, 1)], [], .returned und, ⟨2, [(1, ⟨5, false, .pu []⟩), (0, ⟨TB, false, .bx [.ptr 0 0 0, .sl 1 1 0 0]⟩)]⟩, rfl, by (repeat' first | exact trivial | exact rfl | exact ⟨rfl, rfl⟩ | exact .inl rfl | refine ⟨_, rfl, rfl, rfl, ?_⟩ | refine ⟨_, _, rfl, ?_, ?_⟩ | refine ⟨_, rfl, ?_⟩ | refine And.intro ?_ ?_), ⟨⟨_, rfl, rfl, rfl, rfl⟩, ⟨_, rfl, rfl, rfl, _, rfl, _, _, rfl, ⟨rfl, rfl⟩, _, _, rfl, rfl, rfl⟩, trivial⟩, rfl, rfl⟩
      · have h2 : ¬ (0 : Int) < (n : Nat) := h2
        omega
theorem string_c (u : Bool) (xs : List UInt8) (h0 : xs ≠ []) (hx : xs.length ≤ 100000000) : HoldsG cx 26 [.ptr 0 0 0] (bldH u xs) fun e H' => e = .returned (vS xs) ∧ H' = ⟨2, [(0, ⟨TB, false, .bx [au u, .sl 1 1 0 xs.length]⟩)]⟩ := by
  refine holdsN_of_vc Tryd.func26 rfl rfl rfl ?_
  refine VDraw.seq rfl ?_
  refine And.intro (fun h1 => ?_) (fun h1 => ?_)
  · refine ⟨by (repeat' first | exact trivial | exact rfl | exact ⟨rfl, rfl⟩ | exact .inl rfl | refine ⟨_, rfl, rfl, rfl, ?_⟩ | refine ⟨_, _, rfl, ?_, ?_⟩ | refine ⟨_, rfl, ?_⟩ | refine And.intro ?_ ?_), ?_⟩
    refine ⟨xs, h0, rfl, by omega, by simp, by rw [List.take_of_length_le (by simp)], ?_⟩
    exact ⟨[], [], [], .returned (vS xs), ⟨2, [(0, ⟨TB, false, .bx [au u, .sl 1 1 0 xs.length]⟩)]⟩, rfl, ⟨_, rfl, rfl⟩, by cases u <;> (repeat' first | exact trivial | exact rfl | exact ⟨rfl, rfl⟩ | exact .inl rfl | refine ⟨_, rfl, rfl, rfl, ?_⟩ | refine ⟨_, _, rfl, ?_, ?_⟩ | refine ⟨_, rfl, ?_⟩ | refine And.intro ?_ ?_), rfl, rfl⟩
  · exact absurd (List.eq_nil_of_length_eq_zero h1) h0
end Go.Proofs.YtphmmoloegjocaaDoor

/- Forms of networks: numbers; the reference's writers. -/
namespace Go.Proofs.YtphmmoloegjocaaDoor
open Go Y
set_option maxRecDepth 100000
set_option maxHeartbeats 40000000

def dg (x : Int) : UInt8 := (48 + x.toNat).toUInt8
/-- A number below 100. -/
def dec (n : Int) : List UInt8 := if n < 10 then [dg n] else [dg (n / 10), dg (n % 10)]
theorem dec_len (n : Int) : 1 ≤ (dec n).length ∧ (dec n).length ≤ 2 := by
  unfold dec
  split <;> simp
/-- Numbers with an octet 32 in front of each. -/
def numsN (l : List Int) : List UInt8 := l.flatMap fun n => 32 :: dec n
theorem nums_len (l : List Int) : (numsN l).length ≤ 3 * l.length := by
  induction l with
  | nil => simp [numsN]
  | cons x l ih =>
    have := (dec_len x).2
    have e : numsN (x :: l) = (32 :: dec x) ++ numsN l := rfl
    rw [e, List.length_append, List.length_cons, List.length_cons]; omega
def two (l : List Int) : Prop := ∀ x ∈ l, 0 ≤ x ∧ x < 100
/-- Numbers in parentheses. -/
def listN (l : List Int) : List UInt8 := 40 :: ((numsN l).drop 1 ++ [41])
theorem list_len41 (l : List Int) : (listN l).length ≤ 3 * l.length + 2 := by
  have := nums_len l
  rw [listN, List.length_cons, List.length_append, List.length_drop]
  simp; omega
/-! ### Whole forms -/
def rowLine (r : List Int) : List UInt8 := [114, 111, 119] ++ (numsN r ++ [10])
def nodeHead (x : Nd) : List UInt8 := [110, 111, 100, 101, 32] ++ (dec x.card ++ ((if x.parents = [] then [] else [32, 102, 114, 111, 109] ++ numsN x.parents) ++ [10]))
def nodeLines (x : Nd) : List UInt8 := nodeHead x ++ x.rows.flatMap rowLine
def byLines (n : Nt) : List UInt8 := ([110, 101, 116, 32] ++ (dec n.grain ++ [10])) ++ n.nodes.flatMap nodeLines
def nodeNest (x : Nd) : List UInt8 := [40, 110, 111, 100, 101, 32] ++ (dec x.card ++ (32 :: (listN x.parents ++ ((x.rows.flatMap fun r => 32 :: listN r) ++ [41]))))
def nested (n : Nt) : List UInt8 := [40, 110, 101, 116, 32] ++ (dec n.grain ++ ((n.nodes.flatMap fun x => 32 :: nodeNest x) ++ [41]))
/-- Networks whose numbers are below 100. -/
structure SmT (n : Nt) : Prop where
  grain : 0 ≤ n.grain ∧ n.grain < 100
  len : n.nodes.length ≤ 8
  card : ∀ x ∈ n.nodes, 1 ≤ x.card ∧ x.card < 100
  par : ∀ x ∈ n.nodes, two x.parents ∧ x.parents.length ≤ 8
  rows : ∀ x ∈ n.nodes, 1 ≤ x.rows.length ∧ x.rows.length ≤ 65536
  row : ∀ x ∈ n.nodes, ∀ r ∈ x.rows, two r ∧ 1 ≤ r.length ∧ r.length ≤ 4
theorem valid_sm {n : Nt} (h : validP n) : SmT n := by
  have hl := h.len
  have hc := h.cards
  refine ⟨by have := h.grain; omega, by omega, fun x hx => by have := hc x hx; exact ⟨this.1, by have := this.2; omega⟩, fun x hx => ?_, fun x hx => ?_, fun x hx r hr => ?_⟩
  · have hp := h.placed x hx
    exact ⟨fun q hq => by have := list_mem hp q hq; omega, by have := list_len hp; omega⟩
  · obtain ⟨v, hv, rfl⟩ := mem_getD nd0 hx
    have hp := h.placed _ hx
    have h1 := (h.node v hv).1
    have h2 := list_len hp
    have hok := atN_ok (l := cardsN n) (ps := (n.nodes.getD v nd0).parents) (fun c hc' => by obtain ⟨y, hy, rfl⟩ := List.mem_map.1 hc'; exact hc y hy) (by rw [cardsN, List.length_map]; exact list_mem hp)
    have hal : (atN (cardsN n) (n.nodes.getD v nd0).parents).length = (n.nodes.getD v nd0).parents.length := List.length_map ..
    have h3 := prod_take hok _ (Nat.le_refl _)
    rw [take_all (Nat.le_refl _)] at h3
    have h4 : (4 : Int) ^ (atN (cardsN n) (n.nodes.getD v nd0).parents).length ≤ 65536 := by
      have : ∀ i ≤ 8, (4 : Int) ^ i ≤ 65536 := by decide
      exact this _ (by omega)
    have h5 : prodN (pcardsN n v) = prodN (atN (cardsN n) (n.nodes.getD v nd0).parents) := rfl
    omega
  · obtain ⟨v, hv, rfl⟩ := mem_getD nd0 hx
    have h1 := (h.node v hv).2 r hr
    have h2 := hc _ hx
    have h3 := h1.1
    have h4 := h.grain
    have h5 := h2.1
    have h6 := h2.2
    exact ⟨fun w hw => by have := h1.2.1 w hw; omega, by omega, by omega⟩
theorem flat_len {α : Type} {f : α → List UInt8} {B : Nat} : ∀ {l : List α}, (∀ x ∈ l, (f x).length ≤ B) → (l.flatMap f).length ≤ B * l.length
  | [], _ => by simp
  | x :: l, h => by
    have h1 := h x (by simp)
    have h2 := flat_len (l := l) fun y hy => h y (by simp [hy])
    rw [List.flatMap_cons, List.length_append, List.length_cons, Nat.mul_succ]; omega
theorem flat_snoc {α β : Type} {f : α → List β} (l : List α) (x : α) : (l ++ [x]).flatMap f = l.flatMap f ++ f x := by simp
theorem SmT.head_len {n : Nt} (h : SmT n) {x : Nd} (hx : x ∈ n.nodes) : (nodeHead x).length ≤ 50 := by
  have h1 := nums_len x.parents
  have h2 := (h.par x hx).2
  have h3 := dec_len x.card
  rw [nodeHead]
  split <;> simp <;> omega
theorem SmT.row_len {n : Nt} (h : SmT n) {x : Nd} (hx : x ∈ n.nodes) {r : List Int} (hr : r ∈ x.rows) : (rowLine r).length ≤ 16 := by
  have h1 := nums_len r
  have h2 := (h.row x hx r hr).2.2
  rw [rowLine]
  simp; omega
theorem SmT.rows_len {n : Nt} (h : SmT n) {x : Nd} (hx : x ∈ n.nodes) (k : Nat) : ((x.rows.take k).flatMap rowLine).length ≤ 16 * 65536 := by
  have h1 := flat_len (f := rowLine) (B := 16) (l := x.rows.take k) fun r hr => h.row_len hx (List.mem_of_mem_take hr)
  have h2 := (h.rows x hx).2
  rw [List.length_take] at h1
  have : 16 * min k x.rows.length ≤ 16 * 65536 := Nat.mul_le_mul_left _ (by omega)
  omega
theorem SmT.lines_len {n : Nt} (h : SmT n) (k : Nat) : ((n.nodes.take k).flatMap nodeLines).length ≤ 8 * 1100000 := by
  have h1 := flat_len (f := nodeLines) (B := 1100000) (l := n.nodes.take k) fun x hx => by
    have hx := List.mem_of_mem_take hx
    have h2 := h.head_len hx
    have h3 := h.rows_len hx x.rows.length
    rw [take_all (Nat.le_refl _)] at h3
    rw [nodeLines, List.length_append]; omega
  have h2 := h.len
  rw [List.length_take] at h1
  have : 1100000 * min k n.nodes.length ≤ 1100000 * 8 := Nat.mul_le_mul_left _ (by omega)
  omega

end Go.Proofs.YtphmmoloegjocaaDoor

/- The reference's nested form; its Lines and Nested. -/
namespace Go.Proofs.YtphmmoloegjocaaDoor
open Go Y
set_option maxRecDepth 100000
set_option maxHeartbeats 40000000

theorem SmT.lists_len {n : Nt} (h : SmT n) {x : Nd} (hx : x ∈ n.nodes) (k : Nat) : ((x.rows.take k).flatMap fun r => 32 :: listN r).length ≤ 15 * 65536 := by
  have h1 := flat_len (f := fun r => 32 :: listN r) (B := 15) (l := x.rows.take k) fun r hr => by
    have h2 := list_len41 r
    have h3 := (h.row x hx r (List.mem_of_mem_take hr)).2.2
    simp only [List.length_cons]; omega
  have h2 := (h.rows x hx).2
  rw [List.length_take] at h1
  have : 15 * min k x.rows.length ≤ 15 * 65536 := Nat.mul_le_mul_left _ (by omega)
  omega
theorem SmT.nest_len {n : Nt} (h : SmT n) (k : Nat) : ((n.nodes.take k).flatMap fun x => 32 :: nodeNest x).length ≤ 8 * 1100000 := by
  have h1 := flat_len (f := fun x => 32 :: nodeNest x) (B := 1100000) (l := n.nodes.take k) fun x hx => by
    have hx := List.mem_of_mem_take hx
    have h2 := h.lists_len hx x.rows.length
    rw [take_all (Nat.le_refl _)] at h2
    have h3 := list_len41 x.parents
    have h4 := (h.par x hx).2
    have h5 := dec_len x.card
    simp only [List.length_cons, nodeNest, List.length_append, List.length_nil]; omega
  have h2 := h.len
  rw [List.length_take] at h1
  have : 1100000 * min k n.nodes.length ≤ 1100000 * 8 := Nat.mul_le_mul_left _ (by omega)
  omega
noncomputable def linesP (n : Nt) : List PV := if validP n then [.str (byLines n), i64 0] else [.str [], i64 50]
noncomputable def nestedP (n : Nt) : List PV := if validP n then [.str (nested n), i64 0] else [.str [], i64 50]
end Go.Proofs.YtphmmoloegjocaaDoor

/- Package format: Itoa of small numbers, Join, lists. -/
namespace Go.Proofs.YtphmmoloegjocaaDoor
open Go Y
set_option maxRecDepth 100000
set_option maxHeartbeats 40000000

theorem small1_at : ∀ n < 10, sub [48, 49, 50, 51, 52, 53, 54, 55, 56, 57, 97, 98, 99, 100, 101, 102, 103, 104, 105, 106, 107, 108, 109, 110, 111, 112, 113, 114, 115, 116, 117, 118, 119, 120, 121, 122] (some ((n : Nat) : Int)) (some ((n : Int) + 1)) = [dg n] := by decide
def smallT : List UInt8 := [48, 48, 48, 49, 48, 50, 48, 51, 48, 52, 48, 53, 48, 54, 48, 55, 48, 56, 48, 57, 49, 48, 49, 49, 49, 50, 49, 51, 49, 52, 49, 53, 49, 54, 49, 55, 49, 56, 49, 57, 50, 48, 50, 49, 50, 50, 50, 51, 50, 52, 50, 53, 50, 54, 50, 55, 50, 56, 50, 57, 51, 48, 51, 49, 51, 50, 51, 51, 51, 52, 51, 53, 51, 54, 51, 55, 51, 56, 51, 57, 52, 48, 52, 49, 52, 50, 52, 51, 52, 52, 52, 53, 52, 54, 52, 55, 52, 56, 52, 57, 53, 48, 53, 49, 53, 50, 53, 51, 53, 52, 53, 53, 53, 54, 53, 55, 53, 56, 53, 57, 54, 48, 54, 49, 54, 50, 54, 51, 54, 52, 54, 53, 54, 54, 54, 55, 54, 56, 54, 57, 55, 48, 55, 49, 55, 50, 55, 51, 55, 52, 55, 53, 55, 54, 55, 55, 55, 56, 55, 57, 56, 48, 56, 49, 56, 50, 56, 51, 56, 52, 56, 53, 56, 54, 56, 55, 56, 56, 56, 57, 57, 48, 57, 49, 57, 50, 57, 51, 57, 52, 57, 53, 57, 54, 57, 55, 57, 56, 57, 57]
theorem small2_at : ∀ n < 100, 10 ≤ n → sub smallT (some ((n : Nat) * 2 : Int)) (some ((n : Int) * 2 + 2)) = dec n := by decide +kernel
theorem small_c (x : Int) (h0 : 0 ≤ x) (h9 : x < 100) : Pure cx 66 [i64 x] (· = .ret [.str (dec x)]) := by
  refine pure_of_vc Tryd.func66 rfl rfl rfl ?_
  obtain ⟨n, rfl⟩ : ∃ n : Nat, x = n := ⟨x.toNat, by omega⟩
  (first | refine brLt (fun h1 => ?_) (fun h1 => ?_) | refine brLe (fun h1 => ?_) (fun h1 => ?_) | refine brEq (fun h1 => ?_) (fun h1 => ?_))
  · have h1 : (n : Int) < 10 := h1
    refine ⟨_, wrap_i64 (by omega) (by omega), ?_⟩
    refine ⟨by show (0 : Int) ≤ n ∧ (n : Int) ≤ (n : Int) + 1 ∧ (n : Int) + 1 ≤ 36; omega, ?_⟩
    refine end1 _ rfl rfl ?_
    rw [dec, if_pos h1]
    exact congrArg (fun z => PEnd.ret [.str z]) (small1_at n (by omega))
  · have h1 : ¬ (n : Int) < 10 := h1
    refine ⟨(n : Int) * 2, wrap_i64 (by omega) (by omega), ?_⟩
    refine ⟨(n : Int) * 2, wrap_i64 (by omega) (by omega), ?_⟩
    refine ⟨(n : Int) * 2 + 2, wrap_i64 (by omega) (by omega), ?_⟩
    refine ⟨by show (0 : Int) ≤ (n : Int) * 2 ∧ (n : Int) * 2 ≤ (n : Int) * 2 + 2 ∧ (n : Int) * 2 + 2 ≤ 200; omega, ?_⟩
    exact end1 _ rfl rfl (congrArg (fun z => PEnd.ret [.str z]) (small2_at n (by omega) (by omega)))
theorem fmt_c (x : Int) (h0 : 0 ≤ x) (h9 : x < 100) : Pure cx 59 [i64 x, i64 10] (· = .ret [.str (dec x)]) := by
  refine pure_of_vc Tryd.func59 rfl rfl rfl ?_
  refine And.intro (fun _ => ?_) (fun h => absurd rfl h)
  (first | refine brLt (fun h1 => ?_) (fun h1 => ?_) | refine brLe (fun h1 => ?_) (fun h1 => ?_) | refine brEq (fun h1 => ?_) (fun h1 => ?_))
  · (first | refine brLt (fun h2 => ?_) (fun h2 => ?_) | refine brLe (fun h2 => ?_) (fun h2 => ?_) | refine brEq (fun h2 => ?_) (fun h2 => ?_))
    · exact (small_c x h0 h9).eq rfl (end1 _ rfl rfl rfl)
    · omega
  · omega
theorem itoaI_c (x : Int) (h0 : 0 ≤ x) (h9 : x < 100) : Pure cx 44 [i64 x] (· = .ret [.str (dec x)]) := by
  refine pure_of_vc Tryd.func44 rfl rfl rfl ?_
  exact (fmt_c x h0 h9).eq rfl (end1 _ rfl rfl rfl)
theorem itoa_c (x : Int) (h0 : 0 ≤ x) (h9 : x < 100) : Pure cx 23 [i64 x] (· = .ret [.str (dec x)]) := by
  refine pure_of_vc Tryd.func23 rfl rfl rfl ?_
  exact (itoaI_c x h0 h9).eq rfl (end1 _ rfl rfl rfl)

/-! ### Join with single octets 32 -/
def preN (l : List (List UInt8)) : List UInt8 := l.flatMap fun x => 32 :: x
def joinS (l : List (List UInt8)) : List UInt8 := (preN l).drop 1
theorem pre_snoc (l : List (List UInt8)) (x : List UInt8) : preN (l ++ [x]) = preN l ++ 32 :: x := by simp [preN]
theorem pre_join {l : List (List UInt8)} (h : l ≠ []) : 32 :: joinS l = preN l := by
  cases l with
  | nil => exact absurd rfl h
  | cons x l => rfl
theorem join_snoc {l : List (List UInt8)} (h : l ≠ []) (x : List UInt8) : joinS (l ++ [x]) = joinS l ++ 32 :: x := by
  have h1 := pre_join (l := l ++ [x]) (by simp)
  rw [pre_snoc, ← pre_join h] at h1
  exact List.cons.inj h1 |>.2
theorem take_ne {α : Type} {l : List α} {k : Nat} (h : 0 < k) (hl : 0 < l.length) : l.take k ≠ [] := fun e => by
  have := congrArg List.length e
  rw [List.length_take, List.length_nil] at this; omega
theorem join_one (x : List UInt8) : joinS [x] = x := by simp [joinS, preN]
theorem pre_len_le {l : List (List UInt8)} (k : Nat) : (preN (l.take k)).length ≤ (preN l).length := by
  conv => rhs; rw [← List.take_append_drop k l]
  rw [preN, preN, List.flatMap_append, List.length_append]; omega
theorem join_len_le {l : List (List UInt8)} (k : Nat) : (joinS (l.take k)).length ≤ (preN l).length := by
  have := pre_len_le (l := l) k
  rw [joinS, List.length_drop]; omega
def lensN (l : List (List UInt8)) : Nat := l.foldl (fun n x => n + x.length) 0
theorem lens_snoc (l : List (List UInt8)) (x : List UInt8) : lensN (l ++ [x]) = lensN l + x.length := by rw [lensN, List.foldl_append]; rfl
theorem lens_le (l : List (List UInt8)) : lensN l ≤ (preN l).length := by
  have key : ∀ (l : List (List UInt8)) (n : Nat), l.foldl (fun n x => n + x.length) n ≤ n + (preN l).length := by
    intro l
    induction l with
    | nil => intro n; simp [preN]
    | cons x l ih =>
      intro n
      have := ih (n + x.length)
      have e : preN (x :: l) = (32 :: x) ++ preN l := rfl
      rw [List.foldl_cons, e, List.length_append, List.length_cons]; omega
  have := key l 0
  rw [lensN]; omega
abbrev strs (l : List (List UInt8)) : PV := .lst (l.map .str)
theorem tcell {l : List (List UInt8)} {k : Nat} (h : k < l.length) : (l.map PV.str)[k]? = some (.str (l.getD k [])) := map_at [] h

theorem strJoin_c (l : List (List UInt8)) (hl : l.length ≤ 70000) (hp : (preN l).length ≤ 50000000) : Pure cx 45 [strs l, .str [32]] (· = .ret [.str (joinS l)]) := by
  refine pure_of_vc Tryd.func45 rfl rfl rfl ?_
  (first | refine brLt (fun h1 => ?_) (fun h1 => ?_) | refine brLe (fun h1 => ?_) (fun h1 => ?_) | refine brEq (fun h1 => ?_) (fun h1 => ?_))
  · have h1 : (((l.map PV.str).length : Nat) : Int) = 0 := h1
    rw [List.length_map] at h1
    have : l = [] := List.eq_nil_of_length_eq_zero (by omega)
    subst this
    exact end1 _ rfl rfl rfl
  have h1 : ¬ (((l.map PV.str).length : Nat) : Int) = 0 := h1
  rw [List.length_map] at h1
  (first | refine brLt (fun h2 => ?_) (fun h2 => ?_) | refine brLe (fun h2 => ?_) (fun h2 => ?_) | refine brEq (fun h2 => ?_) (fun h2 => ?_))
  · have h2 : (((l.map PV.str).length : Nat) : Int) = 1 := h2
    rw [List.length_map] at h2
    match l, h2 with
    | [x], _ =>
      refine ⟨_, ⟨by omega, .str x, rfl, rfl⟩, ?_⟩
      exact end1 _ rfl rfl (by rw [join_one])
    | [], h2 => simp at h2
    | _ :: _ :: _, h2 => simp at h2; omega
  have h2 : ¬ (((l.map PV.str).length : Nat) : Int) = 1 := h2
  rw [List.length_map] at h2
  have hl2 : 2 ≤ l.length := by omega
  refine And.intro (fun _ => ?_) (fun h => absurd (show (0 : Int) < 1 by decide) h)
  have hm : (((l.map PV.str).length : Nat) : Int) - 1 = ((l.length - 1 : Nat) : Int) := by rw [List.length_map]; omega
  obtain ⟨q, hq⟩ : ∃ q : Int, q = Int.tdiv 9223372036854775807 ((l.length - 1 : Nat) : Int) := ⟨_, rfl⟩
  have hq2 : 2 ≤ q ∧ q ≤ 9223372036854775807 := by
    rw [hq, Int.tdiv_eq_ediv_of_nonneg (by decide)]
    refine ⟨?_, Int.ediv_le_self _ (by decide)⟩
    exact Int.le_ediv_of_mul_le (by omega) (by omega)
  refine ⟨((l.length - 1 : Nat) : Int), by show _ = IntKind.i64.wrap ((((l.map PV.str).length : Nat) : Int) - 1); rw [hm]; exact wrap_i64 (by omega) (by omega), ?_⟩
  refine ⟨by show ((l.length - 1 : Nat) : Int) ≠ 0; omega, q, by rw [hq] at hq2 ⊢; exact wrap_i64 (by omega) (by omega), ?_⟩
  (first | refine brLt (fun h3 => ?_) (fun h3 => ?_) | refine brLe (fun h3 => ?_) (fun h3 => ?_) | refine brEq (fun h3 => ?_) (fun h3 => ?_))
  · have h3 : q ≤ 1 := h3
    omega
  refine ⟨((l.length - 1 : Nat) : Int), by show _ = IntKind.i64.wrap ((((l.map PV.str).length : Nat) : Int) - 1); rw [hm]; exact wrap_i64 (by omega) (by omega), ?_⟩
  refine ⟨((l.length - 1 : Nat) : Int), by show _ = IntKind.i64.wrap (1 * ((l.length - 1 : Nat) : Int)); rw [Int.one_mul]; exact wrap_i64 (by omega) (by omega), ?_⟩
  refine ⟨((l.length - 1 : Nat) : Int), by show _ = IntKind.i64.wrap (0 + ((l.length - 1 : Nat) : Int)); rw [Int.zero_add]; exact wrap_i64 (by omega) (by omega), ?_⟩
  have hll : ∀ k, lensN (l.take k) ≤ 50000000 := fun k => by
    have h4 := lens_le (l.take k)
    have h5 := pre_len_le (l := l) k
    omega
  refine ⟨Nat, fun k => [(0, .p (strs l)), (1, .p (.str [32])), (5, .p (i64 ((l.length - 1 + lensN (l.take k) : Nat) : Int))), (39, .p (strs l)), (40, .p (i64 l.length)), (41, .p (i64 k))], fun _ => ⟨0, []⟩, fun k => k ≤ l.length, fun k => l.length - k, ?_, ?_⟩
  · exact ⟨0, by omega, ent0 rfl ⟨rfl, rfl, rfl, rfl, lenM PV.str l, rfl, trivial⟩ trivial rfl⟩
  intro k hk
  have hk5 := hll k
  (first | refine brLt (fun h4 => ?_) (fun h4 => ?_) | refine brLe (fun h4 => ?_) (fun h4 => ?_) | refine brEq (fun h4 => ?_) (fun h4 => ?_))
  · have h4 : (k : Int) < (l.length : Nat) := h4
    have hkl : k < l.length := by omega
    obtain ⟨x, hx⟩ : ∃ x, x = l.getD k [] := ⟨_, rfl⟩
    have hk6 := hll (k + 1)
    have hsn : lensN (l.take (k + 1)) = lensN (l.take k) + x.length := by rw [take_succ_getD [] hkl, ← hx, lens_snoc]
    refine ⟨_, ⟨by omega, .str x, by rw [hx]; exact tcell hkl, rfl⟩, ?_⟩
    refine ⟨9223372036854775807 - ((l.length - 1 + lensN (l.take k) : Nat) : Int), wrap_i64 (by omega) (by omega), ?_⟩
    (first | refine brLt (fun h5 => ?_) (fun h5 => ?_) | refine brLe (fun h5 => ?_) (fun h5 => ?_) | refine brEq (fun h5 => ?_) (fun h5 => ?_))
    · have h5 : 9223372036854775807 - ((l.length - 1 + lensN (l.take k) : Nat) : Int) < (x.length : Nat) := h5
      omega
    refine ⟨((l.length - 1 + lensN (l.take (k + 1)) : Nat) : Int), by show _ = IntKind.i64.wrap (((l.length - 1 + lensN (l.take k) : Nat) : Int) + (x.length : Nat)); rw [hsn, show ((l.length - 1 + lensN (l.take k) : Nat) : Int) + (x.length : Nat) = ((l.length - 1 + (lensN (l.take k) + x.length) : Nat) : Int) by omega]; exact wrap_i64 (by omega) (by omega), ?_⟩
    refine ⟨_, wrap_i64 (by omega) (by omega), ?_⟩
    exact ⟨k + 1, by omega, ent0 rfl ⟨rfl, rfl, rfl, rfl, rfl, rfl, trivial⟩ trivial rfl, by show l.length - (k + 1) < l.length - k; omega⟩
  have h4 : ¬ (k : Int) < (l.length : Nat) := h4
  obtain ⟨G, hG⟩ : ∃ G, G = l.length - 1 + lensN (l.take k) := ⟨_, rfl⟩
  have hx0 := tcell (l := l) (k := 0) (by omega)
  obtain ⟨x0, hx0'⟩ : ∃ x, x = l.getD 0 [] := ⟨_, rfl⟩
  rw [← hx0'] at hx0
  have hj1 : joinS (l.take 1) = x0 := by
    rw [take_succ_getD [] (show 0 < l.length by omega), ← hx0']
    exact join_one x0
  have hjl := fun k => join_len_le (l := l) k
  have hx0l := hjl 1
  rw [hj1] at hx0l
  refine (growN_c false (l.length - 1 + lensN (l.take k)) (by omega) (by omega)).useE [] [] rfl (by (repeat' first | exact trivial | exact rfl | exact ⟨rfl, rfl⟩ | exact .inl rfl | refine ⟨_, rfl, rfl, rfl, ?_⟩ | refine ⟨_, _, rfl, ?_, ?_⟩ | refine ⟨_, rfl, ?_⟩ | refine And.intro ?_ ?_)) (by (repeat' first | exact trivial | exact rfl | exact ⟨rfl, rfl⟩ | exact .inl rfl | refine ⟨_, rfl, rfl, rfl, ?_⟩ | refine ⟨_, _, rfl, ?_, ?_⟩ | refine ⟨_, rfl, ?_⟩ | refine And.intro ?_ ?_)) ?_
  refine ⟨_, ⟨by omega, .str x0, hx0, rfl⟩, ?_⟩
  refine (writeString_c true [] x0 (by simp) (by omega)).useE [] [] rfl (by (repeat' first | exact trivial | exact rfl | exact ⟨rfl, rfl⟩ | exact .inl rfl | refine ⟨_, rfl, rfl, rfl, ?_⟩ | refine ⟨_, _, rfl, ?_, ?_⟩ | refine ⟨_, rfl, ?_⟩ | refine And.intro ?_ ?_)) (by (repeat' first | exact trivial | exact rfl | exact ⟨rfl, rfl⟩ | exact .inl rfl | refine ⟨_, rfl, rfl, rfl, ?_⟩ | refine ⟨_, _, rfl, ?_, ?_⟩ | refine ⟨_, rfl, ?_⟩ | refine And.intro ?_ ?_)) ?_
  refine ⟨by show (0 : Int) ≤ 1 ∧ (1 : Int) ≤ ((l.map PV.str).length : Nat); rw [List.length_map]; omega, ?_⟩
  refine ⟨Nat × List UInt8, fun y => [(1, .p (.str [32])), (8, .ptr 0 0 0), (63, .p (strs (l.drop 1))), (64, .p (i64 (l.drop 1).length)), (65, .p (i64 y.1))], fun y => bldH true y.2, fun y => y.1 ≤ (l.drop 1).length ∧ y.2 = joinS (l.take (y.1 + 1)), fun y => (l.drop 1).length - y.1, ?_, ?_⟩
  · refine ⟨(0, x0), ⟨by simp, hj1.symm⟩, ent_of [] [(1, 2)] [] rfl ⟨rfl, ⟨rfl, rfl⟩, ?_, ?_, rfl, trivial⟩ (by (repeat' first | exact trivial | exact rfl | exact ⟨rfl, rfl⟩ | exact .inl rfl | refine ⟨_, rfl, rfl, rfl, ?_⟩ | refine ⟨_, _, rfl, ?_, ?_⟩ | refine ⟨_, rfl, ?_⟩ | refine And.intro ?_ ?_)) rfl⟩
    · show PV.lst ((l.drop 1).map PV.str) = .lst ((l.map PV.str).drop 1)
      rw [List.map_drop]
    · show i64 ((l.drop 1).length : Nat) = i64 (((l.map PV.str).drop 1).length : Nat)
      rw [List.length_drop, List.length_drop, List.length_map]
  rintro ⟨j, ys⟩ ⟨j1, j2⟩
  simp only [] at j1 j2
  have hdl : (l.drop 1).length = l.length - 1 := List.length_drop ..
  have hyl : ys.length ≤ 50000000 := by rw [j2]; have := hjl (j + 1); omega
  (first | refine brLt (fun h5 => ?_) (fun h5 => ?_) | refine brLe (fun h5 => ?_) (fun h5 => ?_) | refine brEq (fun h5 => ?_) (fun h5 => ?_))
  · have h5 : (j : Int) < ((l.drop 1).length : Nat) := h5
    have hj : j + 1 < l.length := by omega
    obtain ⟨x, hx⟩ : ∃ x, x = l.getD (j + 1) [] := ⟨_, rfl⟩
    have hxc : ((l.drop 1).map PV.str)[j]? = some (.str x) := by
      rw [List.map_drop, List.getElem?_drop, Nat.add_comm, hx]; exact tcell hj
    have hsn : joinS (l.take (j + 1 + 1)) = ys ++ 32 :: x := by
      rw [take_succ_getD [] hj, ← hx, join_snoc (take_ne (by omega) (by omega)), j2]
    have hxl : x.length ≤ 50000000 := by
      have h6 := congrArg List.length hsn
      have h7 := hjl (j + 1 + 1)
      rw [List.length_append, List.length_cons] at h6
      omega
    refine ⟨_, ⟨by omega, .str x, hxc, rfl⟩, ?_⟩
    refine (writeString_c true ys [32] (by omega) (by simp)).useE [] [] rfl (by (repeat' first | exact trivial | exact rfl | exact ⟨rfl, rfl⟩ | exact .inl rfl | refine ⟨_, rfl, rfl, rfl, ?_⟩ | refine ⟨_, _, rfl, ?_, ?_⟩ | refine ⟨_, rfl, ?_⟩ | refine And.intro ?_ ?_)) (by (repeat' first | exact trivial | exact rfl | exact ⟨rfl, rfl⟩ | exact .inl rfl | refine ⟨_, rfl, rfl, rfl, ?_⟩ | refine ⟨_, _, rfl, ?_, ?_⟩ | refine ⟨_, rfl, ?_⟩ | refine And.intro ?_ ?_)) ?_
    refine (writeString_c true (ys ++ [32]) x (by rw [snoc_len]; omega) (by omega)).useE [] [(1, 2)] rfl (by (repeat' first | exact trivial | exact rfl | exact ⟨rfl, rfl⟩ | exact .inl rfl | refine ⟨_, rfl, rfl, rfl, ?_⟩ | refine ⟨_, _, rfl, ?_, ?_⟩ | refine ⟨_, rfl, ?_⟩ | refine And.intro ?_ ?_)) (by (repeat' first | exact trivial | exact rfl | exact ⟨rfl, rfl⟩ | exact .inl rfl | refine ⟨_, rfl, rfl, rfl, ?_⟩ | refine ⟨_, _, rfl, ?_, ?_⟩ | refine ⟨_, rfl, ?_⟩ | refine And.intro ?_ ?_)) ?_
    refine ⟨_, wrap_i64 (by omega) (by omega), ?_⟩
    refine ⟨(j + 1, (ys ++ [32]) ++ x), ⟨by simp only []; omega, by simp only []; rw [hsn]; simp⟩, ent_of [] [(1, 3)] [] rfl (by (repeat' first | exact trivial | exact rfl | exact ⟨rfl, rfl⟩ | exact .inl rfl | refine ⟨_, rfl, rfl, rfl, ?_⟩ | refine ⟨_, _, rfl, ?_, ?_⟩ | refine ⟨_, rfl, ?_⟩ | refine And.intro ?_ ?_)) (by (repeat' first | exact trivial | exact rfl | exact ⟨rfl, rfl⟩ | exact .inl rfl | refine ⟨_, rfl, rfl, rfl, ?_⟩ | refine ⟨_, _, rfl, ?_, ?_⟩ | refine ⟨_, rfl, ?_⟩ | refine And.intro ?_ ?_)) rfl, by simp only []; omega⟩
  · have h5 : ¬ (j : Int) < ((l.drop 1).length : Nat) := h5
    have hyj : ys = joinS l := by rw [j2, take_all (by omega)]
    have hne : ys ≠ [] := fun e => by
      have h6 : joinS (l.take (j + 1)) = [] := by rw [← j2]; exact e
      obtain ⟨i, hi⟩ : ∃ i, j = i + 1 := ⟨j - 1, by omega⟩
      rw [hi, take_succ_getD [] (show i + 1 < l.length by omega), join_snoc (take_ne (by omega) (by omega))] at h6
      simp at h6
    refine (string_c true ys hne (by omega)).useE [] [] rfl (by (repeat' first | exact trivial | exact rfl | exact ⟨rfl, rfl⟩ | exact .inl rfl | refine ⟨_, rfl, rfl, rfl, ?_⟩ | refine ⟨_, _, rfl, ?_, ?_⟩ | refine ⟨_, rfl, ?_⟩ | refine And.intro ?_ ?_)) (by (repeat' first | exact trivial | exact rfl | exact ⟨rfl, rfl⟩ | exact .inl rfl | refine ⟨_, rfl, rfl, rfl, ?_⟩ | refine ⟨_, _, rfl, ?_, ?_⟩ | refine ⟨_, rfl, ?_⟩ | refine And.intro ?_ ?_)) ?_
    exact end1 _ rfl rfl (by rw [← hyj])
end Go.Proofs.YtphmmoloegjocaaDoor

/- Package format: Nested. -/
namespace Go.Proofs.YtphmmoloegjocaaDoor
open Go Y
set_option maxRecDepth 100000
set_option maxHeartbeats 40000000

abbrev TS : TypeId := 9
def sO (l : List (List UInt8)) : AObj := ⟨TS, false, .pu (l.map .str)⟩
theorem pre_nums (l : List Int) : preN (l.map dec) = numsN l := by rw [preN, List.flatMap_map]; rfl
theorem join_nums (l : List Int) : joinS (l.map dec) = (numsN l).drop 1 := by rw [joinS, pre_nums]

theorem listI_c (l : List Int) (hl : l.length ≤ 1000) (h : two l) : Pure cx 24 [ints l, .fn (.func 23) [] []] (· = .ret [.str ((numsN l).drop 1)]) := by
  refine pure_of_vc Tryd.func24 rfl rfl rfl ?_
  refine ⟨by show (0 : Int) ≤ 0 ∧ (0 : Int) ≤ ((l.map i64).length : Nat) ∧ (((l.map i64).length : Nat) : Int) * 16 ≤ 281474976710656 ∧ (((l.map i64).length : Nat) : Int) ≤ 281474976710656; rw [List.length_map]; omega, ?_⟩
  refine ⟨Nat, fun k => [(1, .p (.fn (.func 23) [] [])), (5, .sl 0 1 0 ((l.take k).map dec).length), (11, .p (ints l)), (12, .p (i64 l.length)), (13, .p (i64 k))], fun k => ⟨1, [(0, sO ((l.take k).map dec))]⟩, fun k => k ≤ l.length, fun k => l.length - k, ?_, ?_⟩
  · exact ⟨0, by omega, ent_of [] [] [] rfl ⟨rfl, rfl, rfl, lenM i64 l, rfl, trivial⟩ ⟨⟨_, rfl, rfl, rfl, rfl⟩, trivial⟩ rfl⟩
  intro k hk
  have hkm : ((l.take k).map dec).length ≤ l.length := by rw [List.length_map, List.length_take]; omega
  (first | refine brLt (fun h1 => ?_) (fun h1 => ?_) | refine brLe (fun h1 => ?_) (fun h1 => ?_) | refine brEq (fun h1 => ?_) (fun h1 => ?_))
  · have h1 : (k : Int) < (l.length : Nat) := h1
    have hkl : k < l.length := by omega
    obtain ⟨x, hx⟩ : ∃ x, x = l.getD k 0 := ⟨_, rfl⟩
    have hx2 := h _ (getD_memL 0 hkl)
    rw [← hx] at hx2
    have e : (l.take (k + 1)).map dec = (l.take k).map dec ++ [dec x] := by rw [take_succ_getD 0 hkl, ← hx, List.map_append]; rfl
    refine ⟨_, ⟨by omega, i64 x, by rw [hx]; exact icell hkl, rfl⟩, ?_⟩
    refine (itoa_c x hx2.1 hx2.2).eq rfl ?_
    refine ⟨by show 0 + 1 ≤ 1; omega, [.str (dec x)], rfl, ?_⟩
    refine ⟨by show 0 + ((l.take k).map dec).length ≤ (((l.take k).map dec).map PV.str).length; simp, ((l.take k).map dec).map .str, takeAll (by simp), by show (((l.take k).map dec).length + 1) * 16 ≤ 140737488355328; omega, ((l.take k).map dec ++ [dec x]).map .str, by simp, ?_⟩
    refine ⟨_, wrap_i64 (by omega) (by omega), ?_⟩
    refine ⟨k + 1, by omega, ent_of [] [(0, 2)] [] rfl ⟨rfl, ?_, rfl, rfl, rfl, trivial⟩ ⟨⟨_, rfl, rfl, rfl, congrArg (List.map PV.str) e.symm⟩, trivial⟩ rfl, by show l.length - (k + 1) < l.length - k; omega⟩
    exact congrArg (fun m => AV.sl 2 1 0 m) (by rw [e, snoc_len])
  · have h1 : ¬ (k : Int) < (l.length : Nat) := h1
    have hn := nums_len l
    refine (strJoin_c (l.map dec) (by rw [List.length_map]; omega) (by rw [pre_nums]; omega)).lends [0] rfl ⟨_, _, rfl, ⟨_, rfl, ?_, ?_⟩, _, _, rfl, rfl, rfl⟩ ?_
    · show 0 + ((l.take k).map dec).length ≤ (((l.take k).map dec).map PV.str).length
      simp
    · rw [show l.take k = l from take_all (by omega)]
      exact takeAll (by simp)
    · exact end1 _ rfl rfl (by rw [← join_nums])

theorem nest11_c (r : List Int) (hl : r.length ≤ 1000) (h : two r) : Pure cx 30 [ints r] (· = .ret [.str (listN r)]) := by
  refine pure_of_vc Tryd.func30 rfl rfl rfl ?_
  have hn := nums_len r
  refine (listI_c r hl h).eq rfl ?_
  refine ⟨by show 1 + ((numsN r).drop 1).length ≤ 9223372036854775807; rw [List.length_drop]; omega, ?_⟩
  refine ⟨by show ([40] ++ (numsN r).drop 1).length + 1 ≤ 9223372036854775807; rw [List.length_append, List.length_drop]; simp <;> omega, ?_⟩
  exact end1 _ rfl rfl rfl

theorem listR_c (l : List (List Int)) (hl : l.length ≤ 65536) (h : ∀ r ∈ l, two r ∧ r.length ≤ 4) : Pure cx 29 [.lst (l.map ints), .fn (.func 30) [] []] (· = .ret [.str (joinS (l.map listN))]) := by
  refine pure_of_vc Tryd.func29 rfl rfl rfl ?_
  refine ⟨by show (0 : Int) ≤ 0 ∧ (0 : Int) ≤ ((l.map ints).length : Nat) ∧ (((l.map ints).length : Nat) : Int) * 16 ≤ 281474976710656 ∧ (((l.map ints).length : Nat) : Int) ≤ 281474976710656; rw [List.length_map]; omega, ?_⟩
  refine ⟨Nat, fun k => [(1, .p (.fn (.func 30) [] [])), (5, .sl 0 1 0 ((l.take k).map listN).length), (11, .p (.lst (l.map ints))), (12, .p (i64 l.length)), (13, .p (i64 k))], fun k => ⟨1, [(0, sO ((l.take k).map listN))]⟩, fun k => k ≤ l.length, fun k => l.length - k, ?_, ?_⟩
  · exact ⟨0, by omega, ent_of [] [] [] rfl ⟨rfl, rfl, rfl, lenM ints l, rfl, trivial⟩ ⟨⟨_, rfl, rfl, rfl, rfl⟩, trivial⟩ rfl⟩
  intro k hk
  have hkm : ((l.take k).map listN).length ≤ l.length := by rw [List.length_map, List.length_take]; omega
  (first | refine brLt (fun h1 => ?_) (fun h1 => ?_) | refine brLe (fun h1 => ?_) (fun h1 => ?_) | refine brEq (fun h1 => ?_) (fun h1 => ?_))
  · have h1 : (k : Int) < (l.length : Nat) := h1
    have hkl : k < l.length := by omega
    obtain ⟨x, hx⟩ : ∃ x, x = l.getD k [] := ⟨_, rfl⟩
    have hx2 := h _ (getD_memL [] hkl)
    rw [← hx] at hx2
    have e : (l.take (k + 1)).map listN = (l.take k).map listN ++ [listN x] := by rw [take_succ_getD [] hkl, ← hx, List.map_append]; rfl
    refine ⟨_, ⟨by omega, ints x, by rw [hx]; exact ccell hkl, rfl⟩, ?_⟩
    refine (nest11_c x (by omega) hx2.1).eq rfl ?_
    refine ⟨by show 0 + 1 ≤ 1; omega, [.str (listN x)], rfl, ?_⟩
    refine ⟨by show 0 + ((l.take k).map listN).length ≤ (((l.take k).map listN).map PV.str).length; simp, ((l.take k).map listN).map .str, takeAll (by simp), by show (((l.take k).map listN).length + 1) * 16 ≤ 140737488355328; omega, ((l.take k).map listN ++ [listN x]).map .str, by simp, ?_⟩
    refine ⟨_, wrap_i64 (by omega) (by omega), ?_⟩
    refine ⟨k + 1, by omega, ent_of [] [(0, 2)] [] rfl ⟨rfl, ?_, rfl, rfl, rfl, trivial⟩ ⟨⟨_, rfl, rfl, rfl, congrArg (List.map PV.str) e.symm⟩, trivial⟩ rfl, by show l.length - (k + 1) < l.length - k; omega⟩
    exact congrArg (fun m => AV.sl 2 1 0 m) (by rw [e, snoc_len])
  · have h1 : ¬ (k : Int) < (l.length : Nat) := h1
    have hn : (preN (l.map listN)).length ≤ 15 * l.length := by
      rw [preN, List.flatMap_map]
      refine flat_len fun r hr => ?_
      have h3 := list_len41 r
      have h4 := (h r hr).2
      simp only [List.length_cons]; omega
    refine (strJoin_c (l.map listN) (by rw [List.length_map]; omega) (by omega)).lends [0] rfl ⟨_, _, rfl, ⟨_, rfl, ?_, ?_⟩, _, _, rfl, rfl, rfl⟩ ?_
    · show 0 + ((l.take k).map listN).length ≤ (((l.take k).map listN).map PV.str).length
      simp
    · rw [show l.take k = l from take_all (by omega)]
      exact takeAll (by simp)
    · exact end1 _ rfl rfl rfl

theorem nest_eq {x : Nd} (h : x.rows ≠ []) : nodeNest x = ((((([40, 110, 111, 100, 101, 32] ++ dec x.card) ++ [32, 40]) ++ (numsN x.parents).drop 1) ++ [41, 32]) ++ joinS (x.rows.map listN)) ++ [41] := by
  have h1 : (x.rows.flatMap fun r => 32 :: listN r) = 32 :: joinS (x.rows.map listN) := by
    rw [pre_join (by simpa using h), preN, List.flatMap_map]
  rw [nodeNest, h1, listN]
  simp
theorem nest1_c (n : Nt) (h : SmT n) (x : Nd) (hx : x ∈ n.nodes) : Pure cx 28 [x.pv] (· = .ret [.str (nodeNest x)]) := by
  refine pure_of_vc Tryd.func28 rfl rfl rfl ?_
  have hc := h.card x hx
  have hdl := dec_len x.card
  have hp := h.par x hx
  have hpl := nums_len x.parents
  have hrw := h.rows x hx
  have hrn : x.rows ≠ [] := fun e => by rw [e] at hrw; simp at hrw
  have hjl : (joinS (x.rows.map listN)).length ≤ 15 * 65536 := by
    have h1 := h.lists_len hx x.rows.length
    rw [take_all (Nat.le_refl _)] at h1
    have h2 : (preN (x.rows.map listN)).length ≤ 15 * 65536 := by rw [preN, List.flatMap_map]; exact h1
    rw [joinS, List.length_drop]; omega
  obtain ⟨J, hJ⟩ : ∃ J, J = joinS (x.rows.map listN) := ⟨_, rfl⟩
  have hR := listR_c x.rows hrw.2 fun r hr => ⟨(h.row x hx r hr).1, (h.row x hx r hr).2.2⟩
  rw [← hJ] at hR hjl
  refine VDraw.seq rfl ?_
  refine (itoa_c x.card (by omega) hc.2).eq rfl ?_
  refine ⟨by (repeat' first | exact trivial | exact rfl | exact ⟨rfl, rfl⟩ | exact .inl rfl | refine ⟨_, rfl, rfl, rfl, ?_⟩ | refine ⟨_, _, rfl, ?_, ?_⟩ | refine ⟨_, rfl, ?_⟩ | refine And.intro ?_ ?_), ?_⟩
  refine ⟨by show 6 + (dec x.card).length ≤ 9223372036854775807; omega, ?_⟩
  refine ⟨by show ([40, 110, 111, 100, 101, 32] ++ dec x.card).length + 2 ≤ 9223372036854775807; rw [List.length_append]; simp <;> omega, ?_⟩
  refine (listI_c x.parents (by omega) hp.1).eq rfl ?_
  refine ⟨by show (([40, 110, 111, 100, 101, 32] ++ dec x.card) ++ [32, 40]).length + ((numsN x.parents).drop 1).length ≤ 9223372036854775807; rw [List.length_append, List.length_append, List.length_drop]; simp <;> omega, ?_⟩
  refine ⟨by show ((([40, 110, 111, 100, 101, 32] ++ dec x.card) ++ [32, 40]) ++ (numsN x.parents).drop 1).length + 2 ≤ 9223372036854775807; rw [List.length_append, List.length_append, List.length_append, List.length_drop]; simp <;> omega, ?_⟩
  refine hR.eq rfl ?_
  refine ⟨by show (((([40, 110, 111, 100, 101, 32] ++ dec x.card) ++ [32, 40]) ++ (numsN x.parents).drop 1) ++ [41, 32]).length + J.length ≤ 9223372036854775807; rw [List.length_append, List.length_append, List.length_append, List.length_append, List.length_drop]; simp <;> omega, ?_⟩
  refine ⟨by show ((((([40, 110, 111, 100, 101, 32] ++ dec x.card) ++ [32, 40]) ++ (numsN x.parents).drop 1) ++ [41, 32]) ++ J).length + 1 ≤ 9223372036854775807; rw [List.length_append, List.length_append, List.length_append, List.length_append, List.length_append, List.length_drop]; simp <;> omega, ?_⟩
  exact end1 _ rfl rfl (by rw [nest_eq hrn, ← hJ])

theorem listNd_c (n : Nt) (h : SmT n) : Pure cx 27 [.lsts 3 (n.nodes.map Nd.cells), .fn (.func 28) [] []] (· = .ret [.str (joinS (n.nodes.map nodeNest))]) := by
  refine pure_of_vc Tryd.func27 rfl rfl rfl ?_
  have hnl := h.len
  refine ⟨by show (0 : Int) ≤ 0 ∧ (0 : Int) ≤ ((n.nodes.map Nd.cells).length : Nat) ∧ (((n.nodes.map Nd.cells).length : Nat) : Int) * 16 ≤ 281474976710656 ∧ (((n.nodes.map Nd.cells).length : Nat) : Int) ≤ 281474976710656; rw [List.length_map]; omega, ?_⟩
  refine ⟨Nat, fun k => [(1, .p (.fn (.func 28) [] [])), (5, .sl 0 1 0 ((n.nodes.take k).map nodeNest).length), (11, .p (.lsts 3 (n.nodes.map Nd.cells))), (12, .p (i64 n.nodes.length)), (13, .p (i64 k))], fun k => ⟨1, [(0, sO ((n.nodes.take k).map nodeNest))]⟩, fun k => k ≤ n.nodes.length, fun k => n.nodes.length - k, ?_, ?_⟩
  · exact ⟨0, by omega, ent_of [] [] [] rfl ⟨rfl, rfl, rfl, lenM Nd.cells n.nodes, rfl, trivial⟩ ⟨⟨_, rfl, rfl, rfl, rfl⟩, trivial⟩ rfl⟩
  intro k hk
  have hkm : ((n.nodes.take k).map nodeNest).length ≤ n.nodes.length := by rw [List.length_map, List.length_take]; omega
  (first | refine brLt (fun h1 => ?_) (fun h1 => ?_) | refine brLe (fun h1 => ?_) (fun h1 => ?_) | refine brEq (fun h1 => ?_) (fun h1 => ?_))
  · have h1 : (k : Int) < (n.nodes.length : Nat) := h1
    have hkl : k < n.nodes.length := by omega
    obtain ⟨x, hx⟩ : ∃ x, x = n.nodes.getD k nd0 := ⟨_, rfl⟩
    have hxm : x ∈ n.nodes := by rw [hx]; exact getD_memL nd0 hkl
    have e : (n.nodes.take (k + 1)).map nodeNest = (n.nodes.take k).map nodeNest ++ [nodeNest x] := by rw [take_succ_getD nd0 hkl, ← hx, List.map_append]; rfl
    refine ⟨_, ⟨by omega, x.cells, by rw [hx]; exact ncell hkl, rfl⟩, ?_⟩
    refine (nest1_c n h x hxm).eq rfl ?_
    refine ⟨by show 0 + 1 ≤ 1; omega, [.str (nodeNest x)], rfl, ?_⟩
    refine ⟨by show 0 + ((n.nodes.take k).map nodeNest).length ≤ (((n.nodes.take k).map nodeNest).map PV.str).length; simp, ((n.nodes.take k).map nodeNest).map .str, takeAll (by simp), by show (((n.nodes.take k).map nodeNest).length + 1) * 16 ≤ 140737488355328; omega, ((n.nodes.take k).map nodeNest ++ [nodeNest x]).map .str, by simp, ?_⟩
    refine ⟨_, wrap_i64 (by omega) (by omega), ?_⟩
    refine ⟨k + 1, by omega, ent_of [] [(0, 3)] [] rfl ⟨rfl, ?_, rfl, rfl, rfl, trivial⟩ ⟨⟨_, rfl, rfl, rfl, congrArg (List.map PV.str) e.symm⟩, trivial⟩ rfl, by show n.nodes.length - (k + 1) < n.nodes.length - k; omega⟩
    exact congrArg (fun m => AV.sl 3 1 0 m) (by rw [e, snoc_len])
  · have h1 : ¬ (k : Int) < (n.nodes.length : Nat) := h1
    have hn : (preN (n.nodes.map nodeNest)).length ≤ 8 * 1100000 := by
      have h2 := h.nest_len n.nodes.length
      rw [take_all (Nat.le_refl _)] at h2
      rw [preN, List.flatMap_map]; exact h2
    refine (strJoin_c (n.nodes.map nodeNest) (by rw [List.length_map]; omega) (by omega)).lends [0] rfl ⟨_, _, rfl, ⟨_, rfl, ?_, ?_⟩, _, _, rfl, rfl, rfl⟩ ?_
    · show 0 + ((n.nodes.take k).map nodeNest).length ≤ (((n.nodes.take k).map nodeNest).map PV.str).length
      simp
    · rw [show n.nodes.take k = n.nodes from take_all (by omega)]
      exact takeAll (by simp)
    · exact end1 _ rfl rfl rfl

theorem nestedE_c (n : Nt) (hb : BigN n) : Pure cx 8 [n.pv] (· = .ret (nestedP n)) := by
  refine pure_of_vc Tryd.func8 rfl rfl rfl ?_
  have hC := check_c n hb
  by_cases hv : validP n
  rotate_left
  · rw [checkN, if_neg hv] at hC
    refine hC.eq rfl ?_
    refine And.intro (fun h => absurd (show (50 : Int) = 0 from h) (by decide)) (fun _ => ?_)
    exact end2 (.str []) (i64 50) rfl rfl rfl (by rw [nestedP, if_neg hv])
  rw [checkN, if_pos hv] at hC
  have h := valid_sm hv
  have hgl := dec_len n.grain
  have hnn : n.nodes ≠ [] := fun e => by have := hv.len.1; rw [e] at this; simp at this
  have hjl : (joinS (n.nodes.map nodeNest)).length ≤ 8 * 1100000 := by
    have h2 := h.nest_len n.nodes.length
    rw [take_all (Nat.le_refl _)] at h2
    have h3 : (preN (n.nodes.map nodeNest)).length ≤ 8 * 1100000 := by rw [preN, List.flatMap_map]; exact h2
    rw [joinS, List.length_drop]; omega
  have heq : nested n = (([40, 110, 101, 116, 32] ++ dec n.grain) ++ [32]) ++ joinS (n.nodes.map nodeNest) ++ [41] := by
    have h1 : (n.nodes.flatMap fun x => 32 :: nodeNest x) = 32 :: joinS (n.nodes.map nodeNest) := by
      rw [pre_join (by simpa using hnn), preN, List.flatMap_map]
    rw [nested, h1]
    simp
  obtain ⟨J, hJ⟩ : ∃ J, J = joinS (n.nodes.map nodeNest) := ⟨_, rfl⟩
  have hL := listNd_c n h
  rw [← hJ] at hL hjl heq
  refine hC.eq rfl ?_
  refine And.intro (fun _ => ?_) (fun h => absurd rfl h)
  refine hL.eq rfl ?_
  refine (itoa_c n.grain h.grain.1 h.grain.2).eq rfl ?_
  refine ⟨by show 5 + (dec n.grain).length ≤ 9223372036854775807; omega, ?_⟩
  refine ⟨by show ([40, 110, 101, 116, 32] ++ dec n.grain).length + 1 ≤ 9223372036854775807; rw [List.length_append]; simp <;> omega, ?_⟩
  refine ⟨by show (([40, 110, 101, 116, 32] ++ dec n.grain) ++ [32]).length + J.length ≤ 9223372036854775807; rw [List.length_append, List.length_append]; simp <;> omega, ?_⟩
  refine ⟨by show ((([40, 110, 101, 116, 32] ++ dec n.grain) ++ [32]) ++ J).length + 1 ≤ 9223372036854775807; rw [List.length_append, List.length_append, List.length_append]; simp <;> omega, ?_⟩
  exact end2 (.str (nested n)) (i64 0) rfl (by rw [heq]; rfl) rfl (by rw [nestedP, if_pos hv])
end Go.Proofs.YtphmmoloegjocaaDoor

/- Package format: Lines. -/
namespace Go.Proofs.YtphmmoloegjocaaDoor
open Go Y
set_option maxRecDepth 100000
set_option maxHeartbeats 40000000

def bufO (ys : List UInt8) : AObj := ⟨5, false, .pu (ys.map ub)⟩
def bdO (a b m : Nat) : AObj := ⟨TB, false, .bx [.ptr a 0 0, .sl b 1 0 m]⟩
theorem writeString0_c (s : List UInt8) (hs : s.length ≤ 100000000) :
    HoldsG cx 22 [.ptr 0 0 0, vS s] ⟨1, [(0, ⟨TB, false, .bx [.p .nilp, .p .nils]⟩)]⟩ fun e H' => e = .returned (.tup [.p (i64 s.length), .p .nilIface]) ∧ H' = ⟨2, [(1, bufO s), (0, bdO 0 1 s.length)]⟩ := by
  refine holdsN_of_vc Tryd.func22 rfl rfl rfl ?_
  refine (copyCheck_c false (.p .nils)).useE [] [(1, 0)] rfl (by (repeat' first | exact trivial | exact rfl | exact ⟨rfl, rfl⟩ | exact .inl rfl | refine ⟨_, rfl, rfl, rfl, ?_⟩ | refine ⟨_, _, rfl, ?_, ?_⟩ | refine ⟨_, rfl, ?_⟩ | refine And.intro ?_ ?_)) (by (repeat' first | exact trivial | exact rfl | exact ⟨rfl, rfl⟩ | exact .inl rfl | refine ⟨_, rfl, rfl, rfl, ?_⟩ | refine ⟨_, _, rfl, ?_, ?_⟩ | refine ⟨_, rfl, ?_⟩ | refine And.intro ?_ ?_)) ?_
  refine ⟨by show s.length * 1 ≤ 140737488355328; omega, ?_⟩
  exact ⟨[], [], [], .returned (.tup [.p (i64 s.length), .p .nilIface]), ⟨2, [(1, bufO s), (0, bdO 0 1 s.length)]⟩, rfl, ⟨_, rfl, _, rfl, by (repeat' first | exact trivial | exact rfl | exact ⟨rfl, rfl⟩ | exact .inl rfl | refine ⟨_, rfl, rfl, rfl, ?_⟩ | refine ⟨_, _, rfl, ?_, ?_⟩ | refine ⟨_, rfl, ?_⟩ | refine And.intro ?_ ?_)⟩, by (repeat' first | exact trivial | exact rfl | exact ⟨rfl, rfl⟩ | exact .inl rfl | refine ⟨_, rfl, rfl, rfl, ?_⟩ | refine ⟨_, _, rfl, ?_, ?_⟩ | refine ⟨_, rfl, ?_⟩ | refine And.intro ?_ ?_), rfl, rfl⟩

theorem nums_cons {p : List Int} (h : p ≠ []) : 32 :: (numsN p).drop 1 = numsN p := by
  cases p with
  | nil => exact absurd rfl h
  | cons x p => rfl
def lnH (n : Nt) (ys : List UInt8) : Hp := ⟨3, [(2, bufO ys), (1, bdO 1 2 ys.length), (0, ntO n)]⟩
def lnX (n : Nt) (x : Nd) (ys : List UInt8) : Hp := ⟨4, [(3, ndO x), (2, bufO ys), (1, bdO 1 2 ys.length), (0, ntO n)]⟩

theorem lines_c (n : Nt) (hb : BigN n) : Pure cx 7 [n.pv] (· = .ret (linesP n)) := by
  refine pure_of_vc Tryd.func7 rfl rfl rfl ?_
  have hC := check_c n hb
  by_cases hv : validP n
  rotate_left
  · rw [checkN, if_neg hv] at hC
    refine hC.eq rfl ?_
    refine And.intro (fun h => absurd (show (50 : Int) = 0 from h) (by decide)) (fun _ => ?_)
    exact end2 (.str []) (i64 50) rfl rfl rfl (by rw [linesP, if_neg hv])
  rw [checkN, if_pos hv] at hC
  have h := valid_sm hv
  have hgl := dec_len n.grain
  have hnl := h.len
  obtain ⟨A, hA⟩ : ∃ A, A = ([110, 101, 116, 32] ++ dec n.grain) ++ [10] := ⟨_, rfl⟩
  have hAl : A.length ≤ 10 := by rw [hA]; simp; omega
  refine hC.eq rfl ?_
  refine And.intro (fun _ => ?_) (fun h => absurd rfl h)
  refine (itoa_c n.grain h.grain.1 h.grain.2).eq rfl ?_
  refine ⟨by show 4 + (dec n.grain).length ≤ 9223372036854775807; omega, ?_⟩
  refine ⟨by show ([110, 101, 116, 32] ++ dec n.grain).length + 1 ≤ 9223372036854775807; rw [List.length_append]; simp; omega, ?_⟩
  refine (writeString0_c (([110, 101, 116, 32] ++ dec n.grain) ++ [10]) (by rw [← hA]; omega)).useE [] [(0, 1)] rfl (by (repeat' first | exact trivial | exact rfl | exact ⟨rfl, rfl⟩ | exact .inl rfl | refine ⟨_, rfl, rfl, rfl, ?_⟩ | refine ⟨_, _, rfl, ?_, ?_⟩ | refine ⟨_, rfl, ?_⟩ | refine And.intro ?_ ?_)) (by (repeat' first | exact trivial | exact rfl | exact ⟨rfl, rfl⟩ | exact .inl rfl | refine ⟨_, rfl, rfl, rfl, ?_⟩ | refine ⟨_, _, rfl, ?_, ?_⟩ | refine ⟨_, rfl, ?_⟩ | refine And.intro ?_ ?_)) ?_
  refine ⟨Nat × List UInt8, fun y => [(5, .ptr 1 0 0), (21, .p (.lsts 3 (n.nodes.map Nd.cells))), (22, .p (i64 n.nodes.length)), (23, .p (i64 y.1))], fun y => lnH n y.2, fun y => y.1 ≤ n.nodes.length ∧ y.2 = A ++ (n.nodes.take y.1).flatMap nodeLines, fun y => n.nodes.length - y.1, ?_, ?_⟩
  · exact ⟨(0, ([110, 101, 116, 32] ++ dec n.grain) ++ [10]), ⟨by simp, by rw [hA]; simp⟩, ent_of [] [] [] rfl ⟨⟨rfl, rfl⟩, rfl, lenM Nd.cells n.nodes, rfl, trivial⟩ (by (repeat' first | exact trivial | exact rfl | exact ⟨rfl, rfl⟩ | exact .inl rfl | refine ⟨_, rfl, rfl, rfl, ?_⟩ | refine ⟨_, _, rfl, ?_, ?_⟩ | refine ⟨_, rfl, ?_⟩ | refine And.intro ?_ ?_)) rfl⟩
  rintro ⟨k, ys⟩ ⟨k1, k2⟩
  simp only [] at k1 k2
  have hll := h.lines_len k
  have hyl : ys.length ≤ 9000000 := by rw [k2, List.length_append]; omega
  (first | refine brLt (fun h1 => ?_) (fun h1 => ?_) | refine brLe (fun h1 => ?_) (fun h1 => ?_) | refine brEq (fun h1 => ?_) (fun h1 => ?_))
  rotate_left
  · have h1 : ¬ (k : Int) < (n.nodes.length : Nat) := h1
    have hne : ys ≠ [] := fun e => by rw [e, hA] at k2; simp at k2
    refine (string_c true ys hne (by omega)).useE [] [(0, 1), (1, 2)] rfl (by (repeat' first | exact trivial | exact rfl | exact ⟨rfl, rfl⟩ | exact .inl rfl | refine ⟨_, rfl, rfl, rfl, ?_⟩ | refine ⟨_, _, rfl, ?_, ?_⟩ | refine ⟨_, rfl, ?_⟩ | refine And.intro ?_ ?_)) (by (repeat' first | exact trivial | exact rfl | exact ⟨rfl, rfl⟩ | exact .inl rfl | refine ⟨_, rfl, rfl, rfl, ?_⟩ | refine ⟨_, _, rfl, ?_, ?_⟩ | refine ⟨_, rfl, ?_⟩ | refine And.intro ?_ ?_)) ?_
    refine end2 (.str ys) (i64 0) rfl rfl rfl ?_
    rw [linesP, if_pos hv, k2, show n.nodes.take k = n.nodes from take_all (by omega), byLines, hA]
    simp
  have h1 : (k : Int) < (n.nodes.length : Nat) := h1
  have hkl : k < n.nodes.length := by omega
  obtain ⟨x, hx⟩ : ∃ x, x = n.nodes.getD k nd0 := ⟨_, rfl⟩
  have hxm : x ∈ n.nodes := by rw [hx]; exact getD_memL nd0 hkl
  have hxc := h.card x hxm
  have hcl := dec_len x.card
  have hhl := h.head_len hxm
  have hpl := nums_len x.parents
  have hp8 := h.par x hxm
  have hrw := (h.rows x hxm).2
  refine ⟨_, ⟨by omega, x.cells, by rw [hx]; exact ncell hkl, rfl⟩, ?_⟩
  refine (itoa_c x.card (by omega) hxc.2).eq rfl ?_
  refine ⟨by show 5 + (dec x.card).length ≤ 9223372036854775807; omega, ?_⟩
  refine (writeString_c true ys ([110, 111, 100, 101, 32] ++ dec x.card) (by omega) (by simp; omega)).useE [] [(0, 1), (1, 2)] rfl (by (repeat' first | exact trivial | exact rfl | exact ⟨rfl, rfl⟩ | exact .inl rfl | refine ⟨_, rfl, rfl, rfl, ?_⟩ | refine ⟨_, _, rfl, ?_, ?_⟩ | refine ⟨_, rfl, ?_⟩ | refine And.intro ?_ ?_)) (by (repeat' first | exact trivial | exact rfl | exact ⟨rfl, rfl⟩ | exact .inl rfl | refine ⟨_, rfl, rfl, rfl, ?_⟩ | refine ⟨_, _, rfl, ?_, ?_⟩ | refine ⟨_, rfl, ?_⟩ | refine And.intro ?_ ?_)) ?_
  apply cut
  case h =>
    intro key
    (first | refine brLt (fun h2 => ?_) (fun h2 => ?_) | refine brLe (fun h2 => ?_) (fun h2 => ?_) | refine brEq (fun h2 => ?_) (fun h2 => ?_))
    · have h2 : (0 : Int) < ((x.parents.map i64).length : Nat) := h2
      rw [List.length_map] at h2
      have hpn : x.parents ≠ [] := fun e => by rw [e] at h2; simp at h2
      refine (listI_c x.parents (by omega) hp8.1).eq rfl ?_
      refine ⟨by show 6 + ((numsN x.parents).drop 1).length ≤ 9223372036854775807; rw [List.length_drop]; omega, ?_⟩
      refine (writeString_c true (ys ++ ([110, 111, 100, 101, 32] ++ dec x.card)) ([32, 102, 114, 111, 109, 32] ++ (numsN x.parents).drop 1) (by simp <;> omega) (by simp <;> omega)).useE [] [(0, 1), (1, 4)] rfl (by (repeat' first | exact trivial | exact rfl | exact ⟨rfl, rfl⟩ | exact .inl rfl | refine ⟨_, rfl, rfl, rfl, ?_⟩ | refine ⟨_, _, rfl, ?_, ?_⟩ | refine ⟨_, rfl, ?_⟩ | refine And.intro ?_ ?_)) (by (repeat' first | exact trivial | exact rfl | exact ⟨rfl, rfl⟩ | exact .inl rfl | refine ⟨_, rfl, rfl, rfl, ?_⟩ | refine ⟨_, _, rfl, ?_, ?_⟩ | refine ⟨_, rfl, ?_⟩ | refine And.intro ?_ ?_)) ?_
      refine (writeByte_c true ((ys ++ ([110, 111, 100, 101, 32] ++ dec x.card)) ++ ([32, 102, 114, 111, 109, 32] ++ (numsN x.parents).drop 1)) 10 (by simp <;> omega)).useE [] [(0, 1), (1, 5)] rfl (by (repeat' first | exact trivial | exact rfl | exact ⟨rfl, rfl⟩ | exact .inl rfl | refine ⟨_, rfl, rfl, rfl, ?_⟩ | refine ⟨_, _, rfl, ?_, ?_⟩ | refine ⟨_, rfl, ?_⟩ | refine And.intro ?_ ?_)) (by (repeat' first | exact trivial | exact rfl | exact ⟨rfl, rfl⟩ | exact .inl rfl | refine ⟨_, rfl, rfl, rfl, ?_⟩ | refine ⟨_, _, rfl, ?_, ?_⟩ | refine ⟨_, rfl, ?_⟩ | refine And.intro ?_ ?_)) ?_
      refine ⟨Nat × List UInt8, fun y => [(5, .ptr 1 0 0), (21, .p (.lsts 3 (n.nodes.map Nd.cells))), (22, .p (i64 n.nodes.length)), (23, .p (i64 k)), (43, .p (.lst (x.rows.map ints))), (44, .p (i64 x.rows.length)), (45, .p (i64 y.1))], fun y => lnX n x y.2, fun y => y.1 ≤ x.rows.length ∧ y.2 = (ys ++ nodeHead x) ++ (x.rows.take y.1).flatMap rowLine, fun y => x.rows.length - y.1, ?_, key.get⟩
      refine ⟨(0, ((ys ++ ([110, 111, 100, 101, 32] ++ dec x.card)) ++ ([32, 102, 114, 111, 109, 32] ++ (numsN x.parents).drop 1)) ++ [10]), ⟨by simp, ?_⟩, ent_of [] [(2, 6)] [] rfl ⟨⟨rfl, rfl⟩, rfl, rfl, rfl, rfl, lenM ints x.rows, rfl, trivial⟩ (by (repeat' first | exact trivial | exact rfl | exact ⟨rfl, rfl⟩ | exact .inl rfl | refine ⟨_, rfl, rfl, rfl, ?_⟩ | refine ⟨_, _, rfl, ?_, ?_⟩ | refine ⟨_, rfl, ?_⟩ | refine And.intro ?_ ?_)) rfl⟩
      have e : ([32, 102, 114, 111, 109, 32] : List UInt8) ++ (numsN x.parents).drop 1 = [32, 102, 114, 111, 109] ++ numsN x.parents := by
        rw [← nums_cons hpn]; rfl
      rw [e, nodeHead, if_neg hpn]
      simp
    · have h2 : ¬ (0 : Int) < ((x.parents.map i64).length : Nat) := h2
      rw [List.length_map] at h2
      have hpn : x.parents = [] := List.eq_nil_of_length_eq_zero (by omega)
      refine (writeByte_c true (ys ++ ([110, 111, 100, 101, 32] ++ dec x.card)) 10 (by simp <;> omega)).useE [] [(0, 1), (1, 4)] rfl (by (repeat' first | exact trivial | exact rfl | exact ⟨rfl, rfl⟩ | exact .inl rfl | refine ⟨_, rfl, rfl, rfl, ?_⟩ | refine ⟨_, _, rfl, ?_, ?_⟩ | refine ⟨_, rfl, ?_⟩ | refine And.intro ?_ ?_)) (by (repeat' first | exact trivial | exact rfl | exact ⟨rfl, rfl⟩ | exact .inl rfl | refine ⟨_, rfl, rfl, rfl, ?_⟩ | refine ⟨_, _, rfl, ?_, ?_⟩ | refine ⟨_, rfl, ?_⟩ | refine And.intro ?_ ?_)) ?_
      refine ⟨Nat × List UInt8, fun y => [(5, .ptr 1 0 0), (21, .p (.lsts 3 (n.nodes.map Nd.cells))), (22, .p (i64 n.nodes.length)), (23, .p (i64 k)), (43, .p (.lst (x.rows.map ints))), (44, .p (i64 x.rows.length)), (45, .p (i64 y.1))], fun y => lnX n x y.2, fun y => y.1 ≤ x.rows.length ∧ y.2 = (ys ++ nodeHead x) ++ (x.rows.take y.1).flatMap rowLine, fun y => x.rows.length - y.1, ?_, key.get⟩
      refine ⟨(0, (ys ++ ([110, 111, 100, 101, 32] ++ dec x.card)) ++ [10]), ⟨by simp, ?_⟩, ent_of [] [(2, 5)] [] rfl ⟨⟨rfl, rfl⟩, rfl, rfl, rfl, rfl, lenM ints x.rows, rfl, trivial⟩ (by (repeat' first | exact trivial | exact rfl | exact ⟨rfl, rfl⟩ | exact .inl rfl | refine ⟨_, rfl, rfl, rfl, ?_⟩ | refine ⟨_, _, rfl, ?_, ?_⟩ | refine ⟨_, rfl, ?_⟩ | refine And.intro ?_ ?_)) rfl⟩
      rw [nodeHead, if_pos hpn]
      simp
  case k =>
    rintro ⟨j, zs⟩ ⟨j1, j2⟩
    simp only [] at j1 j2
    have hrl := h.rows_len hxm j
    have hzl : zs.length ≤ 20000000 := by rw [j2, List.length_append, List.length_append]; omega
    (first | refine brLt (fun h3 => ?_) (fun h3 => ?_) | refine brLe (fun h3 => ?_) (fun h3 => ?_) | refine brEq (fun h3 => ?_) (fun h3 => ?_))
    · have h3 : (j : Int) < (x.rows.length : Nat) := h3
      have hjl : j < x.rows.length := by omega
      obtain ⟨r, hr⟩ : ∃ r, r = x.rows.getD j [] := ⟨_, rfl⟩
      have hrm : r ∈ x.rows := by rw [hr]; exact getD_memL [] hjl
      have hr4 := h.row x hxm r hrm
      have hrn : r ≠ [] := fun e => by have := hr4.2.1; rw [e] at this; simp at this
      have hnr := nums_len r
      refine ⟨_, ⟨by omega, ints r, by rw [hr]; exact ccell hjl, rfl⟩, ?_⟩
      refine (listI_c r (by omega) hr4.1).eq rfl ?_
      refine ⟨by show 4 + ((numsN r).drop 1).length ≤ 9223372036854775807; rw [List.length_drop]; omega, ?_⟩
      refine ⟨by show ([114, 111, 119, 32] ++ (numsN r).drop 1).length + 1 ≤ 9223372036854775807; rw [List.length_append, List.length_drop]; simp <;> omega, ?_⟩
      refine (writeString_c true zs (([114, 111, 119, 32] ++ (numsN r).drop 1) ++ [10]) (by omega) (by simp <;> omega)).useE [] [(0, 1), (1, 2)] rfl (by (repeat' first | exact trivial | exact rfl | exact ⟨rfl, rfl⟩ | exact .inl rfl | refine ⟨_, rfl, rfl, rfl, ?_⟩ | refine ⟨_, _, rfl, ?_, ?_⟩ | refine ⟨_, rfl, ?_⟩ | refine And.intro ?_ ?_)) (by (repeat' first | exact trivial | exact rfl | exact ⟨rfl, rfl⟩ | exact .inl rfl | refine ⟨_, rfl, rfl, rfl, ?_⟩ | refine ⟨_, _, rfl, ?_, ?_⟩ | refine ⟨_, rfl, ?_⟩ | refine And.intro ?_ ?_)) ?_
      refine ⟨_, wrap_i64 (by omega) (by omega), ?_⟩
      refine ⟨(j + 1, zs ++ (([114, 111, 119, 32] ++ (numsN r).drop 1) ++ [10])), ⟨by simp only []; omega, ?_⟩, ent_of [] [(2, 4)] [] rfl (by (repeat' first | exact trivial | exact rfl | exact ⟨rfl, rfl⟩ | exact .inl rfl | refine ⟨_, rfl, rfl, rfl, ?_⟩ | refine ⟨_, _, rfl, ?_, ?_⟩ | refine ⟨_, rfl, ?_⟩ | refine And.intro ?_ ?_)) (by (repeat' first | exact trivial | exact rfl | exact ⟨rfl, rfl⟩ | exact .inl rfl | refine ⟨_, rfl, rfl, rfl, ?_⟩ | refine ⟨_, _, rfl, ?_, ?_⟩ | refine ⟨_, rfl, ?_⟩ | refine And.intro ?_ ?_)) rfl, by show x.rows.length - (j + 1) < x.rows.length - j; omega⟩
      have e : ([114, 111, 119, 32] : List UInt8) ++ (numsN r).drop 1 = [114, 111, 119] ++ numsN r := by
        rw [← nums_cons hrn]; rfl
      simp only []
      rw [e, take_succ_getD [] hjl, ← hr, flat_snoc, rowLine, j2]
      simp
    · have h3 : ¬ (j : Int) < (x.rows.length : Nat) := h3
      refine ⟨_, wrap_i64 (by omega) (by omega), ?_⟩
      refine ⟨(k + 1, zs), ⟨by simp only []; omega, ?_⟩, ent_of [] [] [] rfl (by (repeat' first | exact trivial | exact rfl | exact ⟨rfl, rfl⟩ | exact .inl rfl | refine ⟨_, rfl, rfl, rfl, ?_⟩ | refine ⟨_, _, rfl, ?_, ?_⟩ | refine ⟨_, rfl, ?_⟩ | refine And.intro ?_ ?_)) (by (repeat' first | exact trivial | exact rfl | exact ⟨rfl, rfl⟩ | exact .inl rfl | refine ⟨_, rfl, rfl, rfl, ?_⟩ | refine ⟨_, _, rfl, ?_, ?_⟩ | refine ⟨_, rfl, ?_⟩ | refine And.intro ?_ ?_)) rfl, by show n.nodes.length - (k + 1) < n.nodes.length - k; omega⟩
      simp only []
      rw [j2, show x.rows.take j = x.rows from take_all (by omega), take_succ_getD nd0 hkl, ← hx, flat_snoc, nodeLines, k2]
      simp
end Go.Proofs.YtphmmoloegjocaaDoor

/- Reading: numbers, words, lines; the reference's functions. -/
namespace Go.Proofs.YtphmmoloegjocaaDoor
open Go Y
set_option maxRecDepth 100000
set_option maxHeartbeats 40000000

def isDg (b : UInt8) : Bool := decide (48 ≤ b.toNat ∧ b.toNat ≤ 57)
/-- Is a text a number? -/
def numB (w : List UInt8) : Bool := w.all isDg && (decide (w = [48]) || (decide (w ≠ []) && decide (w.getD 0 0 ≠ 48) && decide (w.length ≤ 4)))
def valN (w : List UInt8) : Int := w.foldl (fun n b => 10 * n + ((b.toNat : Int) - 48)) 0
theorem val_snoc (w : List UInt8) (b : UInt8) : valN (w ++ [b]) = 10 * valN w + ((b.toNat : Int) - 48) := by rw [valN, List.foldl_append]; rfl
theorem num_all {w : List UInt8} (h : numB w = true) : ∀ b ∈ w, isDg b = true := by
  rw [numB, Bool.and_eq_true] at h
  exact List.all_eq_true.1 h.1
theorem num_len {w : List UInt8} (h : numB w = true) : 1 ≤ w.length ∧ w.length ≤ 4 := by
  rw [numB, Bool.and_eq_true, Bool.or_eq_true, Bool.and_eq_true, Bool.and_eq_true] at h
  rcases h.2 with h1 | ⟨⟨h1, _⟩, h2⟩
  · rw [of_decide_eq_true h1]; simp
  · have h1 := of_decide_eq_true h1
    have h2 := of_decide_eq_true h2
    have := List.length_pos_iff.2 h1
    omega
theorem ten_pow : ∀ i ≤ 4, (10 : Int) ^ i ≤ 10000 := by decide
theorem val_take {w : List UInt8} (h : ∀ b ∈ w, isDg b = true) : ∀ k, k ≤ w.length → 0 ≤ valN (w.take k) ∧ valN (w.take k) < 10 ^ k
  | 0, _ => by simp [valN]
  | k + 1, hk => by
    obtain ⟨h1, h2⟩ := val_take h k (by omega)
    have hd := h _ (getD_memL 0 (show k < w.length by omega))
    have hd := of_decide_eq_true hd
    rw [take_succ_getD 0 (by omega), val_snoc, Int.pow_succ]
    omega
theorem scan_at {s : List UInt8} {k : Nat} (h : k < s.length) : s[k]? = some (s.getD k 0) := by
  rw [List.getD_eq_getElem?_getD, List.getElem?_eq_getElem h]; rfl

/-- Numbers of texts. -/
def allB (l : List (List UInt8)) : Bool := l.all numB
end Go.Proofs.YtphmmoloegjocaaDoor

/- The reference's words and lines. -/
namespace Go.Proofs.YtphmmoloegjocaaDoor
open Go Y
set_option maxRecDepth 100000
set_option maxHeartbeats 40000000

/-- The words of a line; a word under way. -/
def wordsA : List UInt8 → List UInt8 → List (List UInt8)
  | w, [] => if w = [] then [] else [w]
  | w, b :: r => if b = 32 then (if w = [] then wordsA [] r else w :: wordsA [] r) else wordsA (w ++ [b]) r
def wordsN (s : List UInt8) : List (List UInt8) := wordsA [] s
/-- The lines of a text; a line under way. -/
def linesA : List UInt8 → List UInt8 → List (List UInt8)
  | w, [] => if w = [] then [] else [w]
  | w, b :: r => if b = 10 then w :: linesA [] r else linesA (w ++ [b]) r
def linesN (s : List UInt8) : List (List UInt8) := linesA [] s
theorem words_mem : ∀ {s w : List UInt8} {v : List UInt8}, v ∈ wordsA w s → v.length ≤ w.length + s.length ∧ v ≠ []
  | [], w, v, h => by
    rw [wordsA] at h
    split at h
    · simp at h
    · simp only [List.mem_singleton] at h; subst h; exact ⟨by simp, ‹_›⟩
  | b :: r, w, v, h => by
    rw [wordsA] at h
    split at h
    · split at h
      · obtain ⟨h1, h2⟩ := words_mem h
        refine ⟨?_, h2⟩
        simp only [List.length_nil, List.length_cons] at h1 ⊢; omega
      · rcases List.mem_cons.1 h with rfl | h
        · exact ⟨by omega, ‹_›⟩
        · obtain ⟨h1, h2⟩ := words_mem h
          refine ⟨?_, h2⟩
          simp only [List.length_nil, List.length_cons] at h1 ⊢; omega
    · obtain ⟨h1, h2⟩ := words_mem h
      refine ⟨?_, h2⟩
      simp only [List.length_append, List.length_cons, List.length_nil] at h1 ⊢; omega
theorem words_count : ∀ (s w : List UInt8), (wordsA w s).length ≤ s.length + (if w = [] then 0 else 1)
  | [], w => by rw [wordsA]; split <;> simp
  | b :: r, w => by
    rw [wordsA]
    split
    · split
      · have := words_count r []
        simp only [if_true, List.length_cons] at this ⊢; omega
      · have := words_count r []
        simp only [if_true, List.length_cons] at this ⊢; omega
    · have := words_count r (w ++ [b])
      simp only [List.append_eq_nil_iff, List.cons_ne_nil, and_false, if_false, List.length_cons] at this ⊢
      omega
theorem drop_cons {α : Type} {s : List α} {k : Nat} (d : α) (h : k < s.length) : s.drop k = s.getD k d :: s.drop (k + 1) := by
  rw [List.drop_eq_getElem_cons h, List.getD_eq_getElem?_getD, List.getElem?_eq_getElem h]; rfl

end Go.Proofs.YtphmmoloegjocaaDoor

/- The reference's `add`: a line's words. -/
namespace Go.Proofs.YtphmmoloegjocaaDoor
open Go Y
set_option maxRecDepth 100000
set_option maxHeartbeats 40000000

abbrev kNet : List UInt8 := [110, 101, 116]
abbrev kNode : List UInt8 := [110, 111, 100, 101]
abbrev kRow : List UInt8 := [114, 111, 119]
abbrev kFrom : List UInt8 := [102, 114, 111, 109]
/-- A network under way: its grain, its nodes but the last one, the last one. -/
structure Ns where
  g : Int
  init : List Nd
  last : Option Nd
def Ns.len (n : Ns) : Nat := match n.last with
  | none => n.init.length
  | some _ => n.init.length + 1
def Ns.net (n : Ns) : Nt := ⟨n.g, n.init ++ n.last.toList⟩
def lastC (r : Nat) : Option Nd → List (List AV)
  | none => []
  | some x => [[.p (i64 x.card), .p (ints x.parents), .sl r 1 0 x.rows.length]]
def nbS (s : Nat) (g : Int) (N : Nat) : AObj := ⟨TNet, false, .bx [.p (i64 g), .sl s 3 0 N]⟩
def lastR : Option Nd → List (List Int)
  | none => []
  | some x => x.rows
def Ns.rows (n : Ns) (r : Nat) : List (List AV) := mapsP (n.init.map Nd.cells) ++ lastC r n.last
abbrev Ns.heap (n : Ns) (s r : Nat) : Hp := ⟨r + 1, [(r, rO (lastR n.last)), (s, mO (n.rows r)), (1, nbS s n.g n.len), (0, znO)]⟩

def stepN (first : Bool) (n : Ns) (w : List (List UInt8)) : Option Ns :=
  if first = true then
    if w.length = 2 ∧ numB (w.getD 1 []) = true ∧ w.getD 0 [] = kNet then some { n with g := valN (w.getD 1 []) } else none
  else if w.getD 0 [] = kNode then
    if 2 ≤ w.length ∧ numB (w.getD 1 []) = true then
      if w.length = 2 then some ⟨n.g, n.init ++ n.last.toList, some ⟨valN (w.getD 1 []), [], []⟩⟩
      else if allB (w.drop 3) = true ∧ 3 < w.length ∧ w.getD 2 [] = kFrom then some ⟨n.g, n.init ++ n.last.toList, some ⟨valN (w.getD 1 []), (w.drop 3).map valN, []⟩⟩
      else none
    else none
  else if w.getD 0 [] = kRow then
    match n.last with
    | none => none
    | some x => if allB (w.drop 1) = true ∧ 1 < w.length then some ⟨n.g, n.init, some { x with rows := x.rows ++ [(w.drop 1).map valN] }⟩ else none
  else none
theorem seeLL_app {ρ : Nat → Nat} {ni : List (Nat × Nat)} {L : List (Nat × AObj)} : ∀ {a c b d : List (List AV)}, SeeLL ρ ni L a b → SeeLL ρ ni L c d → SeeLL ρ ni L (a ++ c) (b ++ d)
  | a, c, [], d, h, k => by simp only [SeeLL] at h; subst h; exact k
  | a, c, v :: b, d, h, k => by
    simp only [SeeLL] at h
    obtain ⟨u, us, rfl, h1, h2⟩ := h
    exact ⟨u, us ++ c, rfl, h1, seeLL_app h2 k⟩
theorem rows_at (n : Ns) (r : Nat) {x : Nd} (hx : n.last = some x) : (n.rows r)[n.init.length]? = some [.p (i64 x.card), .p (ints x.parents), .sl r 1 0 x.rows.length] := by
  have hl : (mapsP (n.init.map Nd.cells)).length = n.init.length := by rw [mapsP_length, List.length_map]
  rw [Ns.rows, hx, List.getElem?_append_right (by omega), hl, Nat.sub_self]; rfl
theorem rows_put (n : Ns) (r : Nat) {x : Nd} (hx : n.last = some x) (v : List AV) : (n.rows r).set n.init.length v = mapsP (n.init.map Nd.cells) ++ [v] := by
  have hl : (mapsP (n.init.map Nd.cells)).length = n.init.length := by rw [mapsP_length, List.length_map]
  rw [Ns.rows, hx, List.set_append_right _ _ (by omega), hl, Nat.sub_self]; rfl
theorem rows_len' (n : Ns) (r : Nat) : (n.rows r).length = n.len := by
  have hl : (mapsP (n.init.map Nd.cells)).length = n.init.length := by rw [mapsP_length, List.length_map]
  obtain ⟨g, i, l⟩ := n
  cases l <;> simp [Ns.rows, Ns.len, lastC, hl] <;> exact hl

/-- The rows, the last one's frozen. -/
theorem rows_freeze {ρ : Nat → Nat} {ni : List (Nat × Nat)} {L : List (Nat × AObj)} (n : Ns) (r : Nat) (h : lget L r = some { rO (lastR n.last) with fr := true }) : SeeLL ρ ni L (n.rows r) (mapsP ((n.init ++ n.last.toList).map Nd.cells)) := by
  rw [List.map_append, mapsP_eq, List.map_append, ← mapsP_eq, ← mapsP_eq, Ns.rows]
  refine seeLL_app (seeLL_p _) ?_
  obtain ⟨g, i, l⟩ := n
  cases l with
  | none => rfl
  | some x =>
    refine ⟨_, _, rfl, ⟨_, _, rfl, rfl, _, _, rfl, rfl, _, _, rfl, ?_, rfl⟩, rfl⟩
    show Res L 5 (.sl r 1 0 x.rows.length) (.lst (x.rows.map ints))
    simp only [Res]
    rw [h]
    exact ⟨_, rfl, by show 0 + x.rows.length ≤ (x.rows.map ints).length; simp, takeAll (by simp)⟩
end Go.Proofs.YtphmmoloegjocaaDoor

/- The reference's `add`: the walk. -/
namespace Go.Proofs.YtphmmoloegjocaaDoor
open Go Y
set_option maxRecDepth 100000
set_option maxHeartbeats 40000000

theorem seeLL_self {ρ : Nat → Nat} {ni : List (Nat × Nat)} {L : List (Nat × AObj)} (n : Ns) (r r' : Nat) (h : See ρ ni L (.sl r 1 0 (lastR n.last).length) (.sl r' 1 0 (lastR n.last).length)) : SeeLL ρ ni L (n.rows r) (n.rows r') := by
  rw [Ns.rows]
  refine seeLL_app (seeLL_p _) ?_
  obtain ⟨g, i, l⟩ := n
  cases l with
  | none => rfl
  | some x => exact ⟨_, _, rfl, ⟨_, _, rfl, rfl, _, _, rfl, rfl, _, _, rfl, h, rfl⟩, rfl⟩
end Go.Proofs.YtphmmoloegjocaaDoor

/- The reference's ReadLines. -/
namespace Go.Proofs.YtphmmoloegjocaaDoor
open Go Y
set_option maxRecDepth 100000
set_option maxHeartbeats 40000000

theorem end3 {Q : PEnd → Prop} {v1 v2 v3 : AV} {H' : Hp} (x1 x2 x3 : PV) (hm : marksOK H'.l (fsOf H'.l) = true) (h1 : Res (marks H'.l (fsOf H'.l)) 5 v1 x1) (h2 : Res (marks H'.l (fsOf H'.l)) 5 v2 x2) (h3 : Res (marks H'.l (fsOf H'.l)) 5 v3 x3) (hq : Q (.ret [x1, x2, x3])) : EndP Q (.returned (.tup [v1, v2, v3])) H' :=
  ⟨.ret [x1, x2, x3], ⟨hm, _, rfl, _, _, rfl, h1, _, _, rfl, h2, _, _, rfl, h3, rfl⟩, hq⟩

/-- Is a line passed over? -/
def passW (w : List (List UInt8)) : Bool := decide (w = []) || decide ((w.getD 0 []).getD 0 0 = 59)
def runL : Bool → Ns → Nat → List (List UInt8) → Sum Nat (Bool × Ns)
  | first, n, _, [] => .inr (first, n)
  | first, n, i, l :: r => if passW (wordsN l) = true then runL first n (i + 1) r else match stepN first n (wordsN l) with
    | none => .inl (i + 1)
    | some n' => runL false n' (i + 1) r
abbrev znV : PV := .agg [i64 0, .nils]
def ns0 : Ns := ⟨0, [], none⟩
noncomputable def readLV (t : List UInt8) : List PV :=
  if 40000 < t.length then [znV, i64 0, i64 3] else match runL true ns0 0 (linesN t) with
  | .inl k => [znV, i64 (k : Nat), i64 5]
  | .inr (true, _) => [znV, i64 0, i64 5]
  | .inr (false, n) => if validP n.net then [n.net.pv, i64 0, i64 0] else [znV, i64 0, i64 50]

structure OkNs (n : Ns) (i : Nat) : Prop where
  no : n.last = none → n.init = []
  len : n.len ≤ i
  par : ∀ x ∈ n.init ++ n.last.toList, x.parents.length ≤ 100000 ∧ x.rows.length ≤ i ∧ ∀ r ∈ x.rows, r.length ≤ 100000
theorem ns_len (n : Ns) : (n.init ++ n.last.toList).length = n.len := by
  obtain ⟨g, i, l⟩ := n
  cases l <;> simp [Ns.len]
theorem OkNs.mono {n : Ns} {i j : Nat} (h : OkNs n i) (hij : i ≤ j) : OkNs n j :=
  ⟨h.no, by have := h.len; omega, fun x hx => ⟨(h.par x hx).1, by have := (h.par x hx).2.1; omega, (h.par x hx).2.2⟩⟩
theorem OkNs.big {n : Ns} {i : Nat} (h : OkNs n i) (hi : i ≤ 100000) : BigN n.net :=
  ⟨by have := h.len; show (n.init ++ n.last.toList).length ≤ _; rw [ns_len]; omega, fun x hx => by have := (h.par x hx).1; omega, fun x hx => by have := (h.par x hx).2.1; omega, fun x hx r hr => by have := (h.par x hx).2.2 r hr; omega⟩
theorem OkNs.last {n : Ns} {i : Nat} (h : OkNs n i) : (lastR n.last).length ≤ i := by
  cases e : n.last with
  | none => simp [lastR]
  | some x => exact (h.par x (by rw [e]; simp)).2.1
theorem step_ok {first : Bool} {n n' : Ns} {w : List (List UInt8)} {i : Nat} (h : OkNs n i) (hw : w.length ≤ 100000) (hs : stepN first n w = some n') : OkNs n' (i + 1) := by
  have hm := h.mono (Nat.le_succ i)
  have push : ∀ (c : Int) (ps : List Int), ps.length ≤ 100000 → OkNs ⟨n.g, n.init ++ n.last.toList, some ⟨c, ps, []⟩⟩ (i + 1) := fun c ps hps => by
    refine ⟨fun h => by simp at h, ?_, fun x hx => ?_⟩
    · show (n.init ++ n.last.toList).length + 1 ≤ i + 1
      rw [ns_len]; have := h.len; omega
    · rcases List.mem_append.1 hx with hx | hx
      · exact hm.par x hx
      · simp only [Option.toList, List.mem_singleton] at hx
        subst hx
        exact ⟨hps, by simp, by simp⟩
  rw [stepN] at hs
  split at hs
  · split at hs
    · cases hs; exact ⟨hm.no, hm.len, hm.par⟩
    · cases hs
  · split at hs
    · split at hs
      · split at hs
        · cases hs; exact push _ _ (by simp)
        · split at hs
          · cases hs; exact push _ _ (by rw [List.length_map, List.length_drop]; omega)
          · cases hs
      · cases hs
    · split at hs
      · split at hs
        · cases hs
        · rename_i x hx
          split at hs
          · cases hs
            refine ⟨fun h => by simp at h, ?_, fun y hy => ?_⟩
            · have := h.len
              rw [Ns.len, hx] at this
              show n.init.length + 1 ≤ i + 1
              simp only [] at this; omega
            · rcases List.mem_append.1 hy with hy | hy
              · exact hm.par y (List.mem_append.2 (.inl hy))
              · simp only [Option.toList, List.mem_singleton] at hy
                subst hy
                obtain ⟨h1, h2, h3⟩ := h.par x (by rw [hx]; simp)
                refine ⟨h1, by simp only [snoc_len]; omega, fun r hr => ?_⟩
                rcases List.mem_append.1 hr with hr | hr
                · exact h3 r hr
                · simp only [List.mem_singleton] at hr
                  subst hr
                  rw [List.length_map, List.length_drop]; omega
          · cases hs
      · cases hs

theorem resLL_app {f : AV → PV → Prop} : ∀ {a c : List (List AV)} {b d : List (List PV)}, ResLL f a b → ResLL f c d → ResLL f (a ++ c) (b ++ d)
  | [], c, b, d, h, k => by simp only [ResLL] at h; subst h; exact k
  | v :: a, c, b, d, h, k => by
    simp only [ResLL] at h
    obtain ⟨z, zs, rfl, h1, h2⟩ := h
    exact ⟨z, zs ++ d, rfl, h1, resLL_app h2 k⟩
theorem resLL_nd {L : List (Nat × AObj)} {d : Nat} : ∀ l : List Nd, ResLL (Res L (d + 1)) (mapsP (l.map Nd.cells)) (l.map Nd.cells)
  | [] => rfl
  | _ :: xss => ⟨_, _, rfl, ⟨_, _, rfl, rfl, _, _, rfl, rfl, _, _, rfl, rfl, rfl⟩, resLL_nd xss⟩
theorem rows_done {L : List (Nat × AObj)} {d : Nat} (n : Ns) (r : Nat) (h : lget L r = some { rO (lastR n.last) with fr := true }) : ResLL (Res L (d + 1)) (((n.rows r).drop 0).take n.len) ((n.init ++ n.last.toList).map Nd.cells) := by
  rw [List.drop_zero, List.take_of_length_le (by rw [rows_len']; omega), List.map_append, Ns.rows]
  refine resLL_app (resLL_nd _) ?_
  obtain ⟨g, i, l⟩ := n
  cases l with
  | none => rfl
  | some x =>
    refine ⟨_, _, rfl, ⟨_, _, rfl, rfl, _, _, rfl, rfl, _, _, rfl, ?_, rfl⟩, rfl⟩
    show Res L (d + 1) (.sl r 1 0 x.rows.length) (.lst (x.rows.map ints))
    simp only [Res]
    rw [h]
    exact ⟨_, rfl, by show 0 + x.rows.length ≤ (x.rows.map ints).length; simp, takeAll (by simp)⟩
theorem words_ok (l : List UInt8) (hl : l.length ≤ 50000) : (wordsN l).length ≤ 100000 ∧ ∀ v ∈ wordsN l, v.length ≤ 100000 ∧ v ≠ [] := by
  have := words_count l []
  simp only [if_true] at this
  refine ⟨by rw [wordsN]; omega, fun v hv => ?_⟩
  obtain ⟨h1, h2⟩ := words_mem hv
  simp only [List.length_nil] at h1
  exact ⟨by omega, h2⟩

end Go.Proofs.YtphmmoloegjocaaDoor

/- Reading nested texts: words, what is read (plain). -/
namespace Go.Proofs.YtphmmoloegjocaaDoor
open Go Y
set_option maxRecDepth 100000
set_option maxHeartbeats 40000000

/-- The place behind the octets from p on that satisfy f. -/
def scanF (f : UInt8 → Bool) (s : List UInt8) (p : Nat) : Nat := p + ((s.drop p).takeWhile f).length
theorem scan_step {f : UInt8 → Bool} {s : List UInt8} {p : Nat} (h : p < s.length) (hf : f (s.getD p 0) = true) : scanF f s (p + 1) = scanF f s p := by
  rw [scanF, scanF, drop_cons 0 h, List.takeWhile_cons, if_pos hf]
  simp only [List.length_cons]; omega
theorem scan_stop {f : UInt8 → Bool} {s : List UInt8} {p : Nat} (h : p < s.length) (hf : f (s.getD p 0) = false) : scanF f s p = p := by
  rw [scanF, drop_cons 0 h, List.takeWhile_cons, if_neg (by rw [hf]; decide)]; rfl
theorem scan_end {f : UInt8 → Bool} {s : List UInt8} {p : Nat} (h : s.length ≤ p) : scanF f s p = p := by
  rw [scanF, List.drop_eq_nil_of_le h]; rfl
theorem tw_len (f : UInt8 → Bool) : ∀ l : List UInt8, (l.takeWhile f).length ≤ l.length
  | [] => by simp
  | a :: l => by
    rw [List.takeWhile_cons]
    split
    · have := tw_len f l
      simp only [List.length_cons]; omega
    · simp
theorem scan_le {f : UInt8 → Bool} {s : List UInt8} {p : Nat} (h : p ≤ s.length) : p ≤ scanF f s p ∧ scanF f s p ≤ s.length := by
  have := tw_len f (s.drop p)
  rw [List.length_drop] at this
  rw [scanF]; omega
theorem tw_tail (f : UInt8 → Bool) : ∀ l : List UInt8, ((l.drop (l.takeWhile f).length).takeWhile f) = []
  | [] => rfl
  | a :: l => by
    rw [List.takeWhile_cons]
    split
    · rw [List.length_cons, List.drop_succ_cons]; exact tw_tail f l
    · rename_i h
      show (a :: l).takeWhile f = []
      rw [List.takeWhile_cons, if_neg h]
theorem scan_scan {f : UInt8 → Bool} {s : List UInt8} {p : Nat} : scanF f s (scanF f s p) = scanF f s p := by
  have h : (s.drop (scanF f s p)).takeWhile f = [] := by
    rw [scanF, ← List.drop_drop]; exact tw_tail f _
  rw [scanF, h]; rfl
/-- Behind the first octet of a run the run's end is the same. -/
def isBl (b : UInt8) : Bool := b.toNat == 32 || b.toNat == 10
def isWd (b : UInt8) : Bool := !(b.toNat == 32) && !(b.toNat == 10) && !(b.toNat == 40) && !(b.toNat == 41)
/-- The place of the next word; the place behind it; the word. -/
def nx (s : List UInt8) (p : Nat) : Nat := scanF isBl s p
def te (s : List UInt8) (p : Nat) : Nat := if scanF isWd s (nx s p) = nx s p ∧ nx s p < s.length then nx s p + 1 else scanF isWd s (nx s p)
def tok (s : List UInt8) (p : Nat) : List UInt8 := (s.drop (nx s p)).take (te s p - nx s p)
theorem nx_nx (s : List UInt8) (p : Nat) : nx s (nx s p) = nx s p := scan_scan
theorem te_nx (s : List UInt8) (p : Nat) : te s (nx s p) = te s p := by rw [te, nx_nx]; rfl
theorem tok_nx (s : List UInt8) (p : Nat) : tok s (nx s p) = tok s p := by rw [tok, te_nx, nx_nx]; rfl
theorem nx_le {s : List UInt8} {p : Nat} (h : p ≤ s.length) : p ≤ nx s p ∧ nx s p ≤ s.length := scan_le h
theorem te_le {s : List UInt8} {p : Nat} (h : p ≤ s.length) : nx s p ≤ te s p ∧ te s p ≤ s.length := by
  have h1 := scan_le (f := isWd) (nx_le h).2
  rw [te]
  split <;> omega
theorem tok_len {s : List UInt8} {p : Nat} (h : p ≤ s.length) : (tok s p).length = te s p - nx s p := by
  have := te_le h
  rw [tok, List.length_take, List.length_drop]; omega
theorem te_lt {s : List UInt8} {p : Nat} (h : p ≤ s.length) (h0 : tok s p ≠ []) : p < te s p := by
  have h1 := List.length_pos_iff.2 h0
  rw [tok_len h] at h1
  have := nx_le h
  omega

abbrev kOpen : List UInt8 := [40]
abbrev kClose : List UInt8 := [41]
/-- A reading: where it cannot go on, or what was read and the place behind it. -/
abbrev Rd (α : Type) := Sum Nat (α × Nat)
def mustP (s w : List UInt8) (p : Nat) : Rd Unit := if tok s p = w then .inr ((), te s p) else .inl (nx s p)
def numP (s : List UInt8) (p : Nat) : Rd Int := if numB (tok s p) = true then .inr (valN (tok s p), te s p) else .inl (nx s p)
def Rd.then {α β : Type} (r : Rd α) (k : α → Nat → Rd β) : Rd β := match r with
  | .inl e => .inl e
  | .inr (a, p) => k a p
/-- Numbers, to the parenthesis that closes them. -/
def numsP (s : List UInt8) : Nat → List Int → Nat → Rd (List Int)
  | 0, _, p => .inl p
  | f + 1, acc, p => if tok s p = kClose then .inr (acc, nx s p) else (numP s p).then fun v q => numsP s f (acc ++ [v]) q
def lstP (s : List UInt8) (F : Nat) (p : Nat) : Rd (List Int) := (mustP s kOpen p).then fun _ q => (numsP s F [] q).then fun l q => (mustP s kClose q).then fun _ q => .inr (l, q)
def rowRd (s : List UInt8) (F : Nat) (p : Nat) : Rd (List Int) := (mustP s kOpen p).then fun _ q => (numP s q).then fun v q => (numsP s F [v] q).then fun l q => (mustP s kClose q).then fun _ q => .inr (l, q)
def rowsP (s : List UInt8) (F : Nat) : Nat → List (List Int) → Nat → Rd (List (List Int))
  | 0, _, p => .inl p
  | f + 1, acc, p => if tok s p = kClose then .inr (acc, nx s p) else (rowRd s F p).then fun r q => rowsP s F f (acc ++ [r]) q
def nodeRd (s : List UInt8) (F : Nat) (p : Nat) : Rd Nd := (mustP s kOpen p).then fun _ q => (mustP s kNode q).then fun _ q => (numP s q).then fun c q => (lstP s F q).then fun ps q =>
  (rowsP s F F [] q).then fun rs q => (mustP s kClose q).then fun _ q => .inr (⟨c, ps, rs⟩, q)
def nodesP (s : List UInt8) (F : Nat) : Nat → List Nd → Nat → Rd (List Nd)
  | 0, _, p => .inl p
  | f + 1, acc, p => if tok s p = kClose then .inr (acc, nx s p) else (nodeRd s F p).then fun x q => nodesP s F f (acc ++ [x]) q
def netP (s : List UInt8) (F : Nat) : Rd Nt := (mustP s kOpen 0).then fun _ q => (mustP s kNet q).then fun _ q => (numP s q).then fun g q => (nodesP s F F [] q).then fun l q =>
  (mustP s kClose q).then fun _ q => if tok s q = [] then .inr (⟨g, l⟩, q) else .inl (nx s q)
noncomputable def readNV (s : List UInt8) : List PV :=
  if 40000 < s.length then [znV, i64 0, i64 3] else match netP s (s.length + 1) with
  | .inl e => [znV, i64 (e : Nat), i64 5]
  | .inr (n, _) => if validP n then [n.pv, i64 0, i64 0] else [znV, i64 0, i64 50]
theorem must_nx (s w : List UInt8) (p : Nat) : mustP s w (nx s p) = mustP s w p := by rw [mustP, tok_nx, te_nx, nx_nx]; rfl
theorem tok_is {s : List UInt8} {p q k m : Nat} (hnp : nx s p = q) (hk : scanF isWd s q = k) (hm : m = if k = q ∧ q < s.length then q + 1 else k) : tok s p = (s.drop q).take (m - q) := by
  rw [tok, te, hnp, hk, ← hm]
end Go.Proofs.YtphmmoloegjocaaDoor

/- The reference's reader: must, number. -/
namespace Go.Proofs.YtphmmoloegjocaaDoor
open Go Y
set_option maxRecDepth 100000
set_option maxHeartbeats 40000000

/-- How a reader (at p, b: it cannot go on) does a reading. -/
def Out {α : Type} (b : Bool) (p : Nat) (r : Rd α) (a : α) (q : Nat) (b' : Bool) : Prop := if b = true then b' = true ∧ q = p else r = if b' = true then .inl q else .inr (a, q)
theorem Out.then {α β : Type} {b b1 b2 : Bool} {p q q2 : Nat} {r : Rd α} {k : α → Nat → Rd β} {a : α} {c : β} (h : Out b p r a q b1) (h2 : Out b1 q (k a q) c q2 b2) : Out b p (r.then k) c q2 b2 := by
  cases b
  · have h : r = if b1 = true then .inl q else .inr (a, q) := h
    show r.then k = _
    cases b1
    · rw [if_neg (by decide)] at h
      subst h
      exact h2
    · rw [if_pos rfl] at h
      subst h
      obtain ⟨rfl, rfl⟩ : b2 = true ∧ q2 = q := h2
      rfl
  · obtain ⟨rfl, rfl⟩ : b1 = true ∧ q = p := h
    exact h2
theorem Out.bad {α : Type} {p : Nat} {r : Rd α} {a : α} : Out true p r a p true := ⟨rfl, rfl⟩

end Go.Proofs.YtphmmoloegjocaaDoor

/- The reference's reader: list. -/
namespace Go.Proofs.YtphmmoloegjocaaDoor
open Go Y
set_option maxRecDepth 100000
set_option maxHeartbeats 40000000

/-- A loop's invariant: R is what the loop comes to, go what it comes to from here. -/
def LInv {α : Type} (b1 : Bool) (q1 : Nat) (R : Rd α) (go : Nat → Rd α) (n p : Nat) (b : Bool) : Prop := if b1 = true then b = true ∧ p = q1 else if b = true then R = .inl p else ∃ f, n - p < f ∧ R = go f
theorem LInv.init {α : Type} {go : Nat → Rd α} {n F q1 : Nat} {b1 : Bool} (hF : n - q1 < F) : LInv b1 q1 (go F) go n q1 b1 := by
  cases b1
  · exact ⟨F, hF, rfl⟩
  · exact ⟨rfl, rfl⟩
theorem LInv.bad {α : Type} {R : Rd α} {go : Nat → Rd α} {n q1 p : Nat} {b1 : Bool} {a : α} (h : LInv b1 q1 R go n p true) : Out b1 q1 R a p true := by
  cases b1
  · exact h
  · exact h
theorem LInv.step {α β : Type} {R : Rd α} {go : Nat → Rd α} {go' : β → Nat → Nat → Rd α} {n q1 p p0 q : Nat} {b1 b' : Bool} {r : Rd β} {v : β} (h : LInv b1 q1 R go n p false) (hgo : ∀ f, go (f + 1) = r.then fun v q => go' v q f) (ho : Out false p0 r v q b') (hlt : b' = false → p < q) (hq : q ≤ n) : LInv b1 q1 R (go' v q) n q b' := by
  cases b1
  · obtain ⟨f, hf, rfl⟩ : ∃ f, n - p < f ∧ R = go f := h
    obtain ⟨f, rfl⟩ : ∃ g, f = g + 1 := ⟨f - 1, by omega⟩
    have ho : r = if b' = true then .inl q else .inr (v, q) := ho
    have hg := hgo f
    cases b'
    · rw [ho, if_neg (by decide)] at hg
      exact ⟨f, by have := hlt rfl; omega, hg⟩
    · rw [ho, if_pos rfl] at hg
      exact hg
  · exact absurd h.1 (by decide)

end Go.Proofs.YtphmmoloegjocaaDoor

/- The reference's reader: node. -/
namespace Go.Proofs.YtphmmoloegjocaaDoor
open Go Y
set_option maxRecDepth 100000
set_option maxHeartbeats 40000000

theorem Out.fl {α : Type} {p q : Nat} {r : Rd α} {a : α} {b : Bool} (h : Out b p r a q false) : b = false := by
  cases b
  · rfl
  · exact absurd h.1 (by decide)
theorem LInv.fl {α : Type} {R : Rd α} {go : Nat → Rd α} {n q1 p : Nat} {b1 : Bool} (h : LInv b1 q1 R go n p false) : b1 = false := by
  cases b1
  · rfl
  · exact absurd h.1 (by decide)
def ndqO (c : Int) (ps : List Int) (n : Nat) : AObj := ⟨TNode, false, .bx [.p (i64 c), .p (ints ps), .sl 3 1 0 n]⟩
structure OkX (x : Nd) (n : Nat) : Prop where
  par : x.parents.length ≤ n
  rows : x.rows.length ≤ n
  row : ∀ r ∈ x.rows, r.length ≤ n

theorem Out.ret {α : Type} (b : Bool) (q : Nat) (a : α) : Out b q (.inr (a, q)) a q b := by
  cases b
  · rfl
  · exact ⟨rfl, rfl⟩
end Go.Proofs.YtphmmoloegjocaaDoor

/- The reference's ReadNested. -/
namespace Go.Proofs.YtphmmoloegjocaaDoor
open Go Y
set_option maxRecDepth 100000
set_option maxHeartbeats 40000000

def nsO (l : List Nd) : AObj := ⟨TNode, false, .pus (l.map Nd.cells)⟩
theorem big_of {g : Int} {l : List Nd} {n : Nat} (hn : n ≤ 1000000) (h : l.length ≤ n) (hx : ∀ x ∈ l, OkX x n) : BigN ⟨g, l⟩ :=
  ⟨by show l.length ≤ _; omega, fun x h => by have := (hx x h).par; omega, fun x h => by have := (hx x h).rows; omega, fun x h r hr => by have := (hx x h).row r hr; omega⟩

end Go.Proofs.YtphmmoloegjocaaDoor

/- The reference's Turn. -/
namespace Go.Proofs.YtphmmoloegjocaaDoor
open Go Y
set_option maxRecDepth 100000
set_option maxHeartbeats 40000000

/-- What a reading comes to: the place and the error, or the network. -/
noncomputable def readLR (t : List UInt8) : Sum (Nat × Int) Nt :=
  if 40000 < t.length then .inl (0, 3) else match runL true ns0 0 (linesN t) with
  | .inl k => .inl (k, 5)
  | .inr (true, _) => .inl (0, 5)
  | .inr (false, n) => if validP n.net then .inr n.net else .inl (0, 50)
noncomputable def readNR (s : List UInt8) : Sum (Nat × Int) Nt :=
  if 40000 < s.length then .inl (0, 3) else match netP s (s.length + 1) with
  | .inl e => .inl (e, 5)
  | .inr (n, _) => if validP n then .inr n else .inl (0, 50)
def resV : Sum (Nat × Int) Nt → List PV
  | .inl (p, e) => [znV, i64 (p : Nat), i64 e]
  | .inr n => [n.pv, i64 0, i64 0]
theorem readL_res (t : List UInt8) : readLV t = resV (readLR t) := by
  rw [readLV, readLR]
  split
  · rfl
  · generalize runL true ns0 0 (linesN t) = x
    rcases x with k | ⟨_ | _, n⟩
    · rfl
    · simp only []
      split <;> rfl
    · rfl
theorem readN_res (t : List UInt8) : readNV t = resV (readNR t) := by
  rw [readNV, readNR]
  split
  · rfl
  · generalize netP t (t.length + 1) = x
    rcases x with k | ⟨n, q⟩
    · rfl
    · simp only []
      split <;> rfl
theorem readL_ok {t : List UInt8} {n : Nt} (h : readLR t = .inr n) : validP n := by
  rw [readLR] at h
  split at h
  · cases h
  · split at h
    · cases h
    · cases h
    · split at h
      · cases h; assumption
      · cases h
theorem readN_ok {t : List UInt8} {n : Nt} (h : readNR t = .inr n) : validP n := by
  rw [readNR] at h
  split at h
  · cases h
  · split at h
    · cases h
    · split at h
      · cases h; assumption
      · cases h
theorem readL_err {t : List UInt8} {p : Nat} {e : Int} (h : readLR t = .inl (p, e)) : e = 3 ∨ e = 5 ∨ e = 50 := by
  rw [readLR] at h
  split at h
  · cases h; simp
  · split at h
    · cases h; simp
    · cases h; simp
    · split at h
      · cases h
      · cases h; simp
theorem readN_err {t : List UInt8} {p : Nat} {e : Int} (h : readNR t = .inl (p, e)) : e = 3 ∨ e = 5 ∨ e = 50 := by
  rw [readNR] at h
  split at h
  · cases h; simp
  · split at h
    · cases h; simp
    · split at h
      · cases h
      · cases h; simp
noncomputable def turnV (s : List UInt8) : List PV :=
  if s.length ≤ 40000 ∧ tok s 0 = kOpen then match readNR s with
    | .inl (_, e) => [.str [], i64 e]
    | .inr n => [.str (byLines n), i64 0]
  else match readLR s with
    | .inl (_, e) => [.str [], i64 e]
    | .inr n => [.str (nested n), i64 0]

end Go.Proofs.YtphmmoloegjocaaDoor

/- The program's readers: fail, number. -/
namespace Go.Proofs.YtphmmoloegjocaaDoor
open Go Y
set_option maxRecDepth 100000
set_option maxHeartbeats 40000000

def Self (n0 : Nat) (v : AV) : Prop := ∀ (ρ : Nat → Nat) (ni : List (Nat × Nat)) (L : List (Nat × AObj)), (∀ n, n < n0 → ρ n = n) → (∀ n, n < n0 → niGet ni n = none) → See ρ ni L v v
theorem self_nil (n : Nat) : Self n (.p .nils) := fun _ _ _ _ _ => .inl rfl
theorem self_sl {n k m : Nat} (h : k < n) : Self n (.sl k 3 0 m) := fun ρ ni _ h1 h2 => by
  show match niGet ni k with
    | some s' => s' = 3 ∧ 0 = 0 ∧ m = 0 ∧ AV.sl k 3 0 m = .p .nils
    | none => AV.sl k 3 0 m = .sl (ρ k) 3 0 m
  rw [h2 k h]
  simp only []
  rw [h1 k h]
/-- A reader: its grain, its nodes, its place, what else it has. -/
def cmO (T : TypeId) (g : Int) (v : AV) (p : Nat) (rest : List PV) : AObj := ⟨T, false, .bx (.p (i64 g) :: v :: .p (i64 p) :: rest.map .p)⟩
abbrev cmH (T : TypeId) (g : Int) (v : AV) (p : Nat) (rest : List PV) : Hp := ⟨2, [(0, cmO T g v p rest)]⟩
abbrev placeX (p : Nat) : AE := .panicked [⟨.p (.iface 123 (i64 p)), false⟩]

theorem fail_h (T : TypeId) (g : Int) (v : AV) (p : Nat) (rest : List PV) : HoldsG cx 103 [.ptr 0 0 0] (cmH T g v p rest) fun e H' => e = placeX p ∧ H' = cmH T g v p rest := by
  refine holds_of_vc Tryd.func103 rfl rfl rfl ?_
  exact ⟨rfl, rfl⟩

theorem num_no {w : List UInt8} {k : Nat} (h : k < w.length) (hd : isDg (w.getD k 0) = false) : numB w = false := by
  have : w.all isDg = false := by
    rw [Bool.eq_false_iff]
    intro ha
    have := List.all_eq_true.1 ha _ (getD_memL 0 h)
    rw [hd] at this; cases this
  rw [numB, this]; rfl
theorem min4 {w : List UInt8} {k : Nat} (hk : 4 ≤ k) : w.take (min k 4) = w.take 4 := by rw [Nat.min_eq_right hk]

/-- What a number's reading ends with. -/
def numQ (T : TypeId) (g : Int) (v : AV) (p : Nat) (rest : List PV) (w : List UInt8) (e : AE) (H' : Hp) : Prop :=
  H' = cmH T g v p rest ∧ if numB w = true then e = .returned (.p (i64 (valN w))) else e = placeX p
theorem num_h' (T : TypeId) (g : Int) (v : AV) (p : Nat) (rest : List PV) (hv : Self 2 v) (w : List UInt8) (hw : w.length ≤ 100000) : HoldsG cx 110 [.ptr 0 0 0, .p (.str w)] (cmH T g v p rest) (numQ T g v p rest w) := by
  refine holdsN_of_vc Tryd.func110 rfl rfl rfl ?_
  have fix : ∀ ps N1 N n, n < 2 → rmap 2 ps N1 N n = n := fun ps N1 N n h => rmap_fix h
  refine ⟨Nat, fun k => [(0, .ptr 0 0 0), (1, .p (.str w)), (5, .p (i64 (valN (w.take (min k 4))))), (8, .p (i64 w.length)), (9, .p (i64 k))], fun _ => cmH T g v p rest, fun k => k ≤ w.length ∧ ∀ b ∈ w.take k, isDg b = true, fun k => w.length - k, ?_, ?_⟩
  · exact ⟨0, ⟨by omega, by simp⟩, ent_of [] [] [] rfl (by (repeat' first | exact trivial | exact rfl | exact ⟨rfl, rfl⟩ | exact .inl rfl | refine ⟨_, rfl, rfl, rfl, ?_⟩ | refine ⟨_, _, rfl, ?_, ?_⟩ | refine ⟨_, rfl, ?_⟩ | refine And.intro ?_ ?_)) ⟨⟨_, rfl, rfl, rfl, _, rfl, _, _, rfl, rfl, _, _, rfl, hv _ _ _ (fix _ _ _) (fun _ _ => rfl), _, _, rfl, rfl, seeL_p rest⟩, trivial⟩ rfl⟩
  rintro k ⟨k1, k2⟩
  have hmem : ∀ b ∈ w.take (min k 4), isDg b = true := fun b hb => k2 b (List.take_subset_take_left w (Nat.min_le_left k 4) hb)
  have hv4 : 0 ≤ valN (w.take (min k 4)) ∧ valN (w.take (min k 4)) < 10000 := by
    have h1 := val_take hmem (min k 4) (by rw [List.length_take]; omega)
    rw [List.take_take, Nat.min_self] at h1
    have h2 := ten_pow (min k 4) (by omega)
    omega
  (first | refine brLt (fun h1 => ?_) (fun h1 => ?_) | refine brLe (fun h1 => ?_) (fun h1 => ?_) | refine brEq (fun h1 => ?_) (fun h1 => ?_))
  · have h1 : (k : Int) < (w.length : Nat) := h1
    have hk : k < w.length := by omega
    obtain ⟨b, hb⟩ : ∃ b, b = w.getD k 0 := ⟨_, rfl⟩
    refine ⟨_, ⟨by omega, b, by rw [hb]; exact scan_at hk, rfl⟩, ?_⟩
    (first | refine brLt (fun h2 => ?_) (fun h2 => ?_) | refine brLe (fun h2 => ?_) (fun h2 => ?_) | refine brEq (fun h2 => ?_) (fun h2 => ?_))
    · have h2 : (b.toNat : Int) < 48 := h2
      refine (fail_h T g v p rest).holds.mono fun e H' hq => ?_
      obtain ⟨rfl, rfl⟩ := hq
      exact ⟨[], [], [], placeX p, cmH T g v p rest, rfl, ⟨_, rfl, _, _, rfl, rfl, rfl⟩, ⟨⟨_, rfl, rfl, rfl, _, rfl, _, _, rfl, rfl, _, _, rfl, hv _ _ _ (fix _ _ _) (fun _ _ => rfl), _, _, rfl, rfl, seeL_p rest⟩, trivial⟩, rfl, by rw [show numB w = false from (num_no hk (by rw [← hb, isDg, decide_eq_false (by omega)]))]; exact rfl⟩
    have h2 : ¬ (b.toNat : Int) < 48 := h2
    refine ⟨_, ⟨by omega, b, by rw [hb]; exact scan_at hk, rfl⟩, ?_⟩
    (first | refine brLt (fun h3 => ?_) (fun h3 => ?_) | refine brLe (fun h3 => ?_) (fun h3 => ?_) | refine brEq (fun h3 => ?_) (fun h3 => ?_))
    · have h3 : (57 : Int) < (b.toNat : Int) := h3
      refine (fail_h T g v p rest).holds.mono fun e H' hq => ?_
      obtain ⟨rfl, rfl⟩ := hq
      exact ⟨[], [], [], placeX p, cmH T g v p rest, rfl, ⟨_, rfl, _, _, rfl, rfl, rfl⟩, ⟨⟨_, rfl, rfl, rfl, _, rfl, _, _, rfl, rfl, _, _, rfl, hv _ _ _ (fix _ _ _) (fun _ _ => rfl), _, _, rfl, rfl, seeL_p rest⟩, trivial⟩, rfl, by rw [show numB w = false from (num_no hk (by rw [← hb, isDg, decide_eq_false (by omega)]))]; exact rfl⟩
    have h3 : ¬ (57 : Int) < (b.toNat : Int) := h3
    have hdg : isDg b = true := by rw [isDg, decide_eq_true ⟨by omega, by omega⟩]
    have hnx : ∀ c ∈ w.take (k + 1), isDg c = true := mem_take 0 hk k2 (by rw [← hb]; exact hdg)
    (first | refine brLt (fun h4 => ?_) (fun h4 => ?_) | refine brLe (fun h4 => ?_) (fun h4 => ?_) | refine brEq (fun h4 => ?_) (fun h4 => ?_))
    · have h4 : (k : Int) < 4 := h4
      have e1 : min k 4 = k := by omega
      have e2 : min (k + 1) 4 = k + 1 := by omega
      have hval : valN (w.take (min (k + 1) 4)) = 10 * valN (w.take (min k 4)) + ((b.toNat : Int) - 48) := by rw [e1, e2, take_succ_getD 0 hk, ← hb, val_snoc]
      refine ⟨10 * valN (w.take (min k 4)), wrap_i64 (by omega) (by omega), ?_⟩
      refine ⟨_, ⟨by omega, b, by rw [hb]; exact scan_at hk, rfl⟩, ?_⟩
      refine ⟨(b.toNat : Int) - 48, wrap8 (by omega) (by omega), ?_⟩
      refine ⟨(b.toNat : Int) - 48, wrap_i64 (by omega) (by omega), ?_⟩
      refine ⟨10 * valN (w.take (min k 4)) + ((b.toNat : Int) - 48), wrap_i64 (by omega) (by omega), ?_⟩
      refine ⟨_, wrap_i64 (by omega) (by omega), ?_⟩
      exact ⟨k + 1, ⟨by omega, hnx⟩, ent_of [] [] [] rfl ⟨⟨rfl, rfl⟩, rfl, congrArg i64 hval, rfl, rfl, trivial⟩ ⟨⟨_, rfl, rfl, rfl, _, rfl, _, _, rfl, rfl, _, _, rfl, hv _ _ _ (fix _ _ _) (fun _ _ => rfl), _, _, rfl, rfl, seeL_p rest⟩, trivial⟩ rfl, by show w.length - (k + 1) < w.length - k; omega⟩
    · have h4 : ¬ (k : Int) < 4 := h4
      refine ⟨_, wrap_i64 (by omega) (by omega), ?_⟩
      exact ⟨k + 1, ⟨by omega, hnx⟩, ent_of [] [] [] rfl ⟨⟨rfl, rfl⟩, rfl, congrArg (fun l => i64 (valN l)) (by rw [min4 (by omega), min4 (by omega)]), rfl, rfl, trivial⟩ ⟨⟨_, rfl, rfl, rfl, _, rfl, _, _, rfl, rfl, _, _, rfl, hv _ _ _ (fix _ _ _) (fun _ _ => rfl), _, _, rfl, rfl, seeL_p rest⟩, trivial⟩ rfl, by show w.length - (k + 1) < w.length - k; omega⟩
  · have h1 : ¬ (k : Int) < (w.length : Nat) := h1
    have hkl : k = w.length := by omega
    rw [take_all (show w.length ≤ k by omega)] at k2
    have ha : w.all isDg = true := List.all_eq_true.2 k2
    (first | refine brLt (fun h2 => ?_) (fun h2 => ?_) | refine brLe (fun h2 => ?_) (fun h2 => ?_) | refine brEq (fun h2 => ?_) (fun h2 => ?_))
    · have h2 : w = [] := h2
      refine (fail_h T g v p rest).holds.mono fun e H' hq => ?_
      obtain ⟨rfl, rfl⟩ := hq
      exact ⟨[], [], [], placeX p, cmH T g v p rest, rfl, ⟨_, rfl, _, _, rfl, rfl, rfl⟩, ⟨⟨_, rfl, rfl, rfl, _, rfl, _, _, rfl, rfl, _, _, rfl, hv _ _ _ (fix _ _ _) (fun _ _ => rfl), _, _, rfl, rfl, seeL_p rest⟩, trivial⟩, rfl, by rw [show numB w = false from (by rw [h2]; rfl)]; exact rfl⟩
    have h2 : ¬ w = [] := h2
    have hpos := List.length_pos_iff.2 h2
    (first | refine brLt (fun h3 => ?_) (fun h3 => ?_) | refine brLe (fun h3 => ?_) (fun h3 => ?_) | refine brEq (fun h3 => ?_) (fun h3 => ?_))
    · have h3 : (4 : Int) < (w.length : Nat) := h3
      refine (fail_h T g v p rest).holds.mono fun e H' hq => ?_
      obtain ⟨rfl, rfl⟩ := hq
      exact ⟨[], [], [], placeX p, cmH T g v p rest, rfl, ⟨_, rfl, _, _, rfl, rfl, rfl⟩, ⟨⟨_, rfl, rfl, rfl, _, rfl, _, _, rfl, rfl, _, _, rfl, hv _ _ _ (fix _ _ _) (fun _ _ => rfl), _, _, rfl, rfl, seeL_p rest⟩, trivial⟩, rfl, by rw [show numB w = false from (by rw [numB, ha, decide_eq_false (show ¬ w.length ≤ 4 by omega), decide_eq_false (show ¬ w = [48] from fun e => by rw [e] at h3; simp at h3)]; simp)]; exact rfl⟩
    have h3 : ¬ (4 : Int) < (w.length : Nat) := h3
    have hmk : min k 4 = w.length := by omega
    refine ⟨_, ⟨by omega, w.getD 0 0, scan_at hpos, rfl⟩, ?_⟩
    (first | refine brLt (fun h4 => ?_) (fun h4 => ?_) | refine brLe (fun h4 => ?_) (fun h4 => ?_) | refine brEq (fun h4 => ?_) (fun h4 => ?_))
    · have h4 : ((w.getD 0 0).toNat : Int) = 48 := h4
      have h5 : w.getD 0 0 = 48 := UInt8.toNat_inj.1 (by rw [show (48 : UInt8).toNat = 48 from rfl]; omega)
      (first | refine brLt (fun h6 => ?_) (fun h6 => ?_) | refine brLe (fun h6 => ?_) (fun h6 => ?_) | refine brEq (fun h6 => ?_) (fun h6 => ?_))
      · have h6 : w = [48] := h6
        have hn : numB w = true := (by rw [h6]; decide)
        refine ⟨[], [], [], .returned (.p (i64 (valN w))), cmH T g v p rest, rfl, ⟨_, rfl, congrArg (fun l => i64 (valN l)) (show w = w.take (min k 4) by rw [hmk, take_all (Nat.le_refl _)])⟩, ⟨⟨_, rfl, rfl, rfl, _, rfl, _, _, rfl, rfl, _, _, rfl, hv _ _ _ (fix _ _ _) (fun _ _ => rfl), _, _, rfl, rfl, seeL_p rest⟩, trivial⟩, rfl, ?_⟩
        rw [if_pos hn]
      · have h6 : ¬ w = [48] := h6
        refine (fail_h T g v p rest).holds.mono fun e H' hq => ?_
        obtain ⟨rfl, rfl⟩ := hq
        exact ⟨[], [], [], placeX p, cmH T g v p rest, rfl, ⟨_, rfl, _, _, rfl, rfl, rfl⟩, ⟨⟨_, rfl, rfl, rfl, _, rfl, _, _, rfl, rfl, _, _, rfl, hv _ _ _ (fix _ _ _) (fun _ _ => rfl), _, _, rfl, rfl, seeL_p rest⟩, trivial⟩, rfl, by rw [show numB w = false from (by rw [numB, ha, decide_eq_false h6, decide_eq_false (show ¬ w.getD 0 0 ≠ 48 from fun h => h h5)]; simp)]; exact rfl⟩
    · have h4 : ¬ ((w.getD 0 0).toNat : Int) = 48 := h4
      have h5 : w.getD 0 0 ≠ 48 := fun e => h4 (by rw [e]; rfl)
      have hn : numB w = true := (by rw [numB, ha, decide_eq_true (show w ≠ [] from h2), decide_eq_true h5, decide_eq_true (show w.length ≤ 4 by omega)]; simp)
      refine ⟨[], [], [], .returned (.p (i64 (valN w))), cmH T g v p rest, rfl, ⟨_, rfl, congrArg (fun l => i64 (valN l)) (show w = w.take (min k 4) by rw [hmk, take_all (Nat.le_refl _)])⟩, ⟨⟨_, rfl, rfl, rfl, _, rfl, _, _, rfl, rfl, _, _, rfl, hv _ _ _ (fix _ _ _) (fun _ _ => rfl), _, _, rfl, rfl, seeL_p rest⟩, trivial⟩, rfl, ?_⟩
      rw [if_pos hn]
end Go.Proofs.YtphmmoloegjocaaDoor

/- Searching a byte in a string: strings.Index, strings.Count at one byte. -/
namespace Go.Proofs.YtphmmoloegjocaaDoor
open Go Y
set_option maxRecDepth 100000
set_option maxHeartbeats 4000000

theorem byteBack (c : UInt8) : ((c.toNat : Int)).toNat.toUInt8 = c := by
  show (c.toNat).toUInt8 = c
  exact UInt8.ofNat_toNat

theorem pure_extern {g : FuncId} {args : List PV} {x : PV} (hx : Res [] 5 (.p x) x) (h : ∀ (Γ : Gm) (w : World) (args' : List Value), VRL Γ (args.map .p) args' → ∃ v', (callFunc g ⟨args'⟩).run cx.P w = .ok (.value v') w ∧ VP Γ.fz x v') : Pure cx g args (· = .ret [x]) := by
  intro Γ w args' hR hA
  obtain ⟨v', h1, h2⟩ := h Γ w args' hA
  refine .inr ⟨v', w, h1, .returned (.p x), ⟨0, []⟩, Γ, ?_, ⟨v', rfl, h2⟩, Later.refl hR _ (Nat.le_refl _)⟩
  exact ⟨.ret [x], ⟨rfl, _, rfl, hx⟩, rfl⟩

theorem indexByteString_c (s : List UInt8) (c : UInt8) : Pure cx 85 [.str s, u8 c] (· = .ret [i64 (Lib.indexByte s c)]) := by
  refine pure_extern rfl fun Γ w args' hA => ?_
  simp only [List.map, VRL, VR, VP] at hA
  obtain ⟨a, as', rfl, rfl, b, bs', rfl, rfl, rfl⟩ := hA
  refine ⟨_, ?_, rfl⟩
  show (callFunc 85 #[.string ⟨⟨s⟩⟩, .int .u8 c.toNat]).run Tryd.prog w = _
  rw [run_callFunc_extern Tryd.func85 (by kernel_rfl) (by kernel_rfl) (by kernel_rfl) (e := Extern.BytealgIndexByte.indexByte) (by kernel_rfl), Lib.run_indexByteString, byteBack]
  rfl
theorem indexByte_c (s : List UInt8) (c : UInt8) : Pure cx 84 [.str s, u8 c] (· = .ret [i64 (Lib.indexByte s c)]) := by
  refine pure_of_vc Tryd.func84 rfl rfl rfl ?_
  refine (indexByteString_c s c).eq rfl ?_
  exact end1 _ rfl rfl rfl
theorem index1_c (s : List UInt8) (c : UInt8) : Pure cx 121 [.str s, .str [c]] (· = .ret [i64 (Lib.indexByte s c)]) := by
  refine pure_of_vc Tryd.func121 rfl rfl rfl ?_
  refine And.intro (fun h => absurd (show (1 : Int) = 0 from h) (by decide)) (fun _ => ?_)
  refine And.intro (fun h => ?_) (fun _ => ?_)
  · have h : [c] = s := h
    subst h
    exact end1 _ rfl rfl (retI (by simp [Lib.indexByte]))
  · refine And.intro (fun _ => ?_) (fun h => absurd rfl h)
    refine ⟨_, ⟨by omega, c, rfl, rfl⟩, ?_⟩
    refine (indexByte_c s c).eq rfl ?_
    exact end1 _ rfl rfl rfl
/-- How many octets come ahead of the first one that is so. -/
def ahead (c : UInt8) : List UInt8 → Nat
  | [] => 0
  | b :: r => if b = c then 0 else ahead c r + 1
theorem index_ahead {c : UInt8} {s : List UInt8} : (c ∈ s → Lib.indexByte s c = (ahead c s : Nat)) ∧ (c ∉ s → Lib.indexByte s c = -1) := by
  induction s with
  | nil => simp [Lib.indexByte]
  | cons b r ih =>
    simp only [Lib.indexByte, ahead, List.mem_cons]
    by_cases h : b = c
    · subst h; simp
    · have hb : (b == c) = false := by simpa using h
      have hc : ¬ c = b := fun e => h e.symm
      rw [hb, if_neg h]
      simp only [Bool.false_eq_true, if_false, hc, false_or]
      refine ⟨fun hm => ?_, fun hm => ?_⟩
      · rw [ih.1 hm, if_neg (by simp)]; rfl
      · rw [ih.2 hm]; rfl
theorem ahead_split {c : UInt8} {s : List UInt8} (h : c ∈ s) : s = s.take (ahead c s) ++ c :: s.drop (ahead c s + 1) ∧ c ∉ s.take (ahead c s) ∧ ahead c s < s.length := by
  induction s with
  | nil => simp at h
  | cons b r ih =>
    by_cases e : b = c
    · subst e; simp [ahead]
    · have hr : c ∈ r := by
        rcases List.mem_cons.1 h with h | h
        · exact absurd h.symm e
        · exact h
      obtain ⟨h1, h2, h3⟩ := ih hr
      have ea : ahead c (b :: r) = ahead c r + 1 := by simp [ahead, e]
      rw [ea]
      refine ⟨?_, ?_, by simp; omega⟩
      · simp only [List.take_succ_cons, List.drop_succ_cons, List.cons_append]
        exact congrArg _ h1
      · simp only [List.take_succ_cons, List.mem_cons, not_or]
        exact ⟨fun e' => e e'.symm, h2⟩

end Go.Proofs.YtphmmoloegjocaaDoor

/- strings.ContainsRune at the octets that end a word. -/
namespace Go.Proofs.YtphmmoloegjocaaDoor
open Go Y
set_option maxRecDepth 100000
set_option maxHeartbeats 40000000

theorem wrap_i32 {n : Int} (h0 : -2147483648 ≤ n) (h1 : n ≤ 2147483647) : n = IntKind.i32.wrap n := by
  simp [IntKind.wrap, IntKind.bits, IntKind.signed]
  omega
abbrev i32 (n : Int) : PV := .int .i32 n
abbrev kDel : List UInt8 := [32, 10, 40, 41]
theorem runeL_two {n : Nat} (h0 : 128 ≤ n) (h1 : n ≤ 255) : ∃ c0 c1 : UInt8, runeL (n : Int) = [c0, c1] ∧ 128 ≤ c1.toNat := by
  have hv : Utf8.valid (n : Int) = true := by simp [Utf8.valid]; omega
  refine ⟨UInt8.ofNat (0xC0 + n / 64), UInt8.ofNat (0x80 + n % 64), ?_, ?_⟩
  · rw [runeL, Utf8.encode]
    simp only [hv, if_true, Int.toNat_natCast]
    rw [if_neg (by omega), if_pos (by omega)]
  · rw [UInt8.toNat_ofNat']
    omega
theorem indexByte_in {l : List UInt8} {c : UInt8} : (0 ≤ Lib.indexByte l c) ↔ c ∈ l := by
  induction l with
  | nil => simp [Lib.indexByte]
  | cons b l ih =>
    have hg := Lib.indexByte_ge l c
    rw [Lib.indexByte]
    by_cases h : b = c
    · subst h; simp
    · have hb : (b == c) = false := by simpa using h
      rw [hb]
      simp only [Bool.false_eq_true, if_false, List.mem_cons]
      by_cases h2 : Lib.indexByte l c = -1
      · have : (Lib.indexByte l c == -1) = true := by simpa using h2
        rw [this]
        simp only [if_true]
        constructor
        · intro h; omega
        · rintro (h3 | h3)
          · exact absurd h3.symm h
          · have := ih.2 h3; omega
      · have h3 : (Lib.indexByte l c == -1) = false := by simpa using h2
        rw [h3]
        simp only [Bool.false_eq_true, if_false]
        constructor
        · intro _; exact .inr (ih.1 (by omega))
        · intro _; omega
theorem isWd_mem (b : UInt8) : isWd b = true ↔ ¬ b ∈ kDel := by
  have e : ∀ m : Nat, m < 256 → ((b.toNat == m) = true ↔ b = UInt8.ofNat m) := fun m hm => by
    rw [beq_iff_eq]
    constructor
    · intro h; rw [← h]; exact UInt8.ofNat_toNat.symm
    · intro h; rw [h, UInt8.toNat_ofNat']; omega
  simp only [isWd, Bool.and_eq_true, Bool.not_eq_true', ← Bool.not_eq_true, List.mem_cons, List.not_mem_nil, or_false, not_or, e 32 (by omega), e 10 (by omega), e 40 (by omega), e 41 (by omega)]
  exact ⟨fun ⟨⟨⟨h1, h2⟩, h3⟩, h4⟩ => ⟨h1, h2, h3, h4⟩, fun ⟨h1, h2, h3, h4⟩ => ⟨⟨⟨h1, h2⟩, h3⟩, h4⟩⟩

theorem strIndexByte_c (s : List UInt8) (c : UInt8) : Pure cx 78 [.str s, u8 c] (· = .ret [i64 (Lib.indexByte s c)]) := by
  refine pure_of_vc Tryd.func78 rfl rfl rfl ?_
  refine (indexByte_c s c).eq rfl ?_
  exact end1 _ rfl rfl rfl
theorem validRune_c (n : Nat) (h : n < 55296) : Pure cx 79 [i32 n] (· = .ret [.bool true]) := by
  refine pure_of_vc Tryd.func79 rfl rfl rfl ?_
  (first | refine brLt (fun h1 => ?_) (fun h1 => ?_) | refine brLe (fun h1 => ?_) (fun h1 => ?_) | refine brEq (fun h1 => ?_) (fun h1 => ?_))
  · have h1 : (0 : Int) ≤ (n : Nat) := h1
    (first | refine brLt (fun h2 => ?_) (fun h2 => ?_) | refine brLe (fun h2 => ?_) (fun h2 => ?_) | refine brEq (fun h2 => ?_) (fun h2 => ?_))
    · exact end1 _ rfl rfl rfl
    · have h2 : ¬ (n : Int) < 55296 := h2
      omega
  · have h1 : ¬ (0 : Int) ≤ (n : Nat) := h1
    omega
theorem indexRune_c (b : UInt8) : Pure cx 71 [.str kDel, i32 b.toNat] (· = .ret [i64 (Lib.indexByte kDel b)]) := by
  refine pure_of_vc Tryd.func71 rfl rfl rfl ?_
  have hb := b.toNat_lt
  (first | refine brLt (fun h1 => ?_) (fun h1 => ?_) | refine brLe (fun h1 => ?_) (fun h1 => ?_) | refine brEq (fun h1 => ?_) (fun h1 => ?_))
  rotate_left
  · have h1 : ¬ (0 : Int) ≤ (b.toNat : Nat) := h1
    omega
  (first | refine brLt (fun h2 => ?_) (fun h2 => ?_) | refine brLe (fun h2 => ?_) (fun h2 => ?_) | refine brEq (fun h2 => ?_) (fun h2 => ?_))
  · have h2 : (b.toNat : Int) < 128 := h2
    refine ⟨(b.toNat : Int), wrap8 (by omega) (by omega), ?_⟩
    refine (strIndexByte_c kDel b).eq rfl ?_
    exact end1 _ rfl rfl rfl
  have h2 : ¬ (b.toNat : Int) < 128 := h2
  have hno : Lib.indexByte kDel b = -1 := by
    have hg := Lib.indexByte_ge kDel b
    have : ¬ b ∈ kDel := fun hm => by
      simp only [List.mem_cons, List.not_mem_nil, or_false] at hm
      rcases hm with rfl | rfl | rfl | rfl <;> exact absurd h2 (by decide)
    have := mt indexByte_in.1 this
    omega
  (first | refine brLt (fun h3 => ?_) (fun h3 => ?_) | refine brLe (fun h3 => ?_) (fun h3 => ?_) | refine brEq (fun h3 => ?_) (fun h3 => ?_))
  · have h3 : (b.toNat : Int) = 65533 := h3
    omega
  have h3 : ¬ (b.toNat : Int) = 65533 := h3
  refine (validRune_c b.toNat (by omega)).eq rfl ?_
  obtain ⟨c0, c1, hr, hc⟩ := runeL_two (n := b.toNat) (by omega) (by omega)
  have hlen : (runeL (b.toNat : Int)).length = 2 := by rw [hr]; rfl
  refine ⟨1, by show _ = IntKind.i64.wrap (((runeL (b.toNat : Int)).length : Nat) - 1); rw [hlen]; exact wrap_i64 (by omega) (by omega), ?_⟩
  refine ⟨Unit, fun _ => [(0, .p (.str kDel)), (1, .p (i32 b.toNat)), (7, .p (.str [c0, c1])), (8, .p (i64 1)), (9, .p (i64 1)), (10, .p (i64 0))], fun _ => ⟨0, []⟩, fun _ => True, fun _ => 0, ?_, ?_⟩
  · exact ⟨(), trivial, ent0 rfl ⟨rfl, rfl, congrArg PV.str hr.symm, rfl, rfl, rfl, trivial⟩ trivial rfl⟩
  rintro ⟨⟩ -
  (first | refine brLt (fun h4 => ?_) (fun h4 => ?_) | refine brLe (fun h4 => ?_) (fun h4 => ?_) | refine brEq (fun h4 => ?_) (fun h4 => ?_))
  rotate_left
  · have h4 : ¬ (1 : Int) < (4 : Nat) := h4
    omega
  refine VDraw.seq rfl ?_
  refine ⟨_, ⟨by decide, 10, rfl, rfl⟩, ?_⟩
  refine ⟨_, ⟨by decide, c1, rfl, rfl⟩, ?_⟩
  (first | refine brLt (fun h5 => ?_) (fun h5 => ?_) | refine brLe (fun h5 => ?_) (fun h5 => ?_) | refine brEq (fun h5 => ?_) (fun h5 => ?_))
  · have h5 : (10 : Int) = (c1.toNat : Nat) := h5
    omega
  have hI : Lib.indexByte [40, 41] c1 = -1 := by
    have hg := Lib.indexByte_ge [40, 41] c1
    have : ¬ c1 ∈ ([40, 41] : List UInt8) := fun hm => by
      simp only [List.mem_cons, List.not_mem_nil, or_false] at hm
      rcases hm with rfl | rfl <;> exact absurd hc (by decide)
    have := mt indexByte_in.1 this
    omega
  have hX := strIndexByte_c [40, 41] c1
  rw [hI] at hX
  refine VDraw.seq rfl ?_
  refine ⟨2, wrap_i64 (by omega) (by omega), ?_⟩
  refine ⟨by show (0 : Int) ≤ 2 ∧ (2 : Int) ≤ ((4 : Nat) : Int); omega, ?_⟩
  refine ⟨_, ⟨by decide, c1, rfl, rfl⟩, ?_⟩
  refine hX.eq rfl ?_
  (first | refine brLt (fun h6 => ?_) (fun h6 => ?_) | refine brLe (fun h6 => ?_) (fun h6 => ?_) | refine brEq (fun h6 => ?_) (fun h6 => ?_))
  rotate_left
  · have h6 : ¬ (-1 : Int) < 0 := h6
    omega
  exact end1 _ rfl rfl (retI hno.symm)
theorem contains_c (b : UInt8) : Pure cx 62 [.str kDel, i32 b.toNat] (· = .ret [.bool (!isWd b)]) := by
  refine pure_of_vc Tryd.func62 rfl rfl rfl ?_
  refine (indexRune_c b).eq rfl ?_
  (first | refine brLt (fun h1 => ?_) (fun h1 => ?_) | refine brLe (fun h1 => ?_) (fun h1 => ?_) | refine brEq (fun h1 => ?_) (fun h1 => ?_))
  · have h1 : (0 : Int) ≤ Lib.indexByte kDel b := h1
    exact end1 _ rfl rfl (retB (by have := indexByte_in.1 h1; rw [Bool.eq_false_iff.2 (fun h => (isWd_mem b).1 h this)]; rfl))
  · have h1 : ¬ (0 : Int) ≤ Lib.indexByte kDel b := h1
    exact end1 _ rfl rfl (retB (by have := mt indexByte_in.2 h1; rw [(isWd_mem b).2 this]; rfl))
end Go.Proofs.YtphmmoloegjocaaDoor

/- The program's nested reader: next. -/
namespace Go.Proofs.YtphmmoloegjocaaDoor
open Go Y
set_option maxRecDepth 100000
set_option maxHeartbeats 40000000

abbrev TNs : TypeId := 100
abbrev nrO (g : Int) (v : AV) (p : Nat) (s t : List UInt8) : AObj := cmO TNs g v p [.str s, .str t]
abbrev nrH (g : Int) (v : AV) (p : Nat) (s t : List UInt8) : Hp := cmH TNs g v p [.str s, .str t]

theorem next_h (g : Int) (v : AV) (p : Nat) (s tk : List UInt8) (x : Nat) (hv : Self 2 v) (hx : x = p + tk.length) (hs : s.length ≤ 100000) (hp : x ≤ s.length) : HoldsG cx 106 [.ptr 0 0 0] (nrH g v p s tk) fun e H' => e = .returned und ∧ H' = nrH g v (nx s x) s (tok s x) := by
  refine holdsN_of_vc Tryd.func106 rfl rfl rfl ?_
  have fix : ∀ ps N1 N n, n < 2 → rmap 2 ps N1 N n = n := fun ps N1 N n h => rmap_fix h
  refine VDraw.seq rfl ?_
  refine ⟨(x : Int), by show _ = IntKind.i64.wrap ((p : Int) + ((tk.length : Nat) : Int)); rw [show (p : Int) + ((tk.length : Nat) : Int) = (x : Int) by omega]; exact wrap_i64 (by omega) (by omega), ?_⟩
  refine ⟨Nat, fun _ => [(0, .ptr 0 0 0)], fun q => nrH g v q s tk, fun q => x ≤ q ∧ q ≤ s.length ∧ nx s q = nx s x, fun q => s.length - q, ?_, ?_⟩
  · exact ⟨x, ⟨Nat.le_refl _, hp, rfl⟩, ent_of [] [] [] rfl (by (repeat' first | exact trivial | exact rfl | exact ⟨rfl, rfl⟩ | exact .inl rfl | refine ⟨_, rfl, rfl, rfl, ?_⟩ | refine ⟨_, _, rfl, ?_, ?_⟩ | refine ⟨_, rfl, ?_⟩ | refine And.intro ?_ ?_)) ⟨⟨_, rfl, rfl, rfl, _, rfl, _, _, rfl, rfl, _, _, rfl, hv _ _ _ (fix _ _ _) (fun _ _ => rfl), _, _, rfl, rfl, _, _, rfl, rfl, _, _, rfl, rfl, rfl⟩, trivial⟩ rfl⟩
  rintro q ⟨q1, q2, q3⟩
  refine VDraw.seq rfl ?_
  (first | refine brLt (fun h1 => ?_) (fun h1 => ?_) | refine brLe (fun h1 => ?_) (fun h1 => ?_) | refine brEq (fun h1 => ?_) (fun h1 => ?_))
  · have h1 : (q : Int) < (s.length : Nat) := h1
    have hq : q < s.length := by omega
    obtain ⟨c, hc⟩ : ∃ c, c = s.getD q 0 := ⟨_, rfl⟩
    refine ⟨_, ⟨by omega, c, by rw [hc]; exact scan_at hq, rfl⟩, ?_⟩
    (first | refine brLt (fun h2 => ?_) (fun h2 => ?_) | refine brLe (fun h2 => ?_) (fun h2 => ?_) | refine brEq (fun h2 => ?_) (fun h2 => ?_))
    · have h2 : (c.toNat : Int) = 32 := h2
      have hb : isBl (s.getD q 0) = true := by rw [← hc, isBl, show c.toNat = 32 by omega]; rfl
      have hn : nx s (q + 1) = nx s q := scan_step hq hb
      refine ⟨_, wrap_i64 (by omega) (by omega), ?_⟩
      exact ⟨q + 1, ⟨by omega, by omega, by rw [hn]; exact q3⟩, ent_of [] [] [] rfl (by (repeat' first | exact trivial | exact rfl | exact ⟨rfl, rfl⟩ | exact .inl rfl | refine ⟨_, rfl, rfl, rfl, ?_⟩ | refine ⟨_, _, rfl, ?_, ?_⟩ | refine ⟨_, rfl, ?_⟩ | refine And.intro ?_ ?_)) ⟨⟨_, rfl, rfl, rfl, _, rfl, _, _, rfl, rfl, _, _, rfl, hv _ _ _ (fix _ _ _) (fun _ _ => rfl), _, _, rfl, rfl, _, _, rfl, rfl, _, _, rfl, rfl, rfl⟩, trivial⟩ rfl, by show s.length - (q + 1) < s.length - q; omega⟩
    · have h2 : ¬ (c.toNat : Int) = 32 := h2
      refine ⟨_, ⟨by omega, c, by rw [hc]; exact scan_at hq, rfl⟩, ?_⟩
      (first | refine brLt (fun h3 => ?_) (fun h3 => ?_) | refine brLe (fun h3 => ?_) (fun h3 => ?_) | refine brEq (fun h3 => ?_) (fun h3 => ?_))
      · have h3 : (c.toNat : Int) = 10 := h3
        have hb : isBl (s.getD q 0) = true := by rw [← hc, isBl, show c.toNat = 10 by omega]; rfl
        have hn : nx s (q + 1) = nx s q := scan_step hq hb
        refine ⟨_, wrap_i64 (by omega) (by omega), ?_⟩
        exact ⟨q + 1, ⟨by omega, by omega, by rw [hn]; exact q3⟩, ent_of [] [] [] rfl (by (repeat' first | exact trivial | exact rfl | exact ⟨rfl, rfl⟩ | exact .inl rfl | refine ⟨_, rfl, rfl, rfl, ?_⟩ | refine ⟨_, _, rfl, ?_, ?_⟩ | refine ⟨_, rfl, ?_⟩ | refine And.intro ?_ ?_)) ⟨⟨_, rfl, rfl, rfl, _, rfl, _, _, rfl, rfl, _, _, rfl, hv _ _ _ (fix _ _ _) (fun _ _ => rfl), _, _, rfl, rfl, _, _, rfl, rfl, _, _, rfl, rfl, rfl⟩, trivial⟩ rfl, by show s.length - (q + 1) < s.length - q; omega⟩
      · have h3 : ¬ (c.toNat : Int) = 10 := h3
        have hn : nx s q = q := scan_stop hq (by rw [← hc, isBl, beq_false_of_ne (by omega), beq_false_of_ne (by omega)]; rfl)
        refine ⟨Nat, fun k => [(0, .ptr 0 0 0), (2, .p (i64 k))], fun _ => nrH g v q s tk, fun k => q ≤ k ∧ k ≤ s.length ∧ scanF isWd s k = scanF isWd s q, fun k => s.length - k, ?_, ?_⟩
        · exact ⟨q, ⟨Nat.le_refl _, q2, rfl⟩, ent_of [] [] [] rfl (by (repeat' first | exact trivial | exact rfl | exact ⟨rfl, rfl⟩ | exact .inl rfl | refine ⟨_, rfl, rfl, rfl, ?_⟩ | refine ⟨_, _, rfl, ?_, ?_⟩ | refine ⟨_, rfl, ?_⟩ | refine And.intro ?_ ?_)) ⟨⟨_, rfl, rfl, rfl, _, rfl, _, _, rfl, rfl, _, _, rfl, hv _ _ _ (fix _ _ _) (fun _ _ => rfl), _, _, rfl, rfl, _, _, rfl, rfl, _, _, rfl, rfl, rfl⟩, trivial⟩ rfl⟩
        rintro k ⟨k1, k2, k3⟩
        have hnp : nx s x = q := q3 ▸ hn
        (first | refine brLt (fun j1 => ?_) (fun j1 => ?_) | refine brLe (fun j1 => ?_) (fun j1 => ?_) | refine brEq (fun j1 => ?_) (fun j1 => ?_))
        · have j1 : (k : Int) < (s.length : Nat) := j1
          have hk : k < s.length := by omega
          obtain ⟨d, hd⟩ : ∃ d, d = s.getD k 0 := ⟨_, rfl⟩
          refine ⟨_, ⟨by omega, d, by rw [hd]; exact scan_at hk, rfl⟩, ?_⟩
          have hdl := d.toNat_lt
          refine ⟨(d.toNat : Int), wrap_i32 (by omega) (by omega), ?_⟩
          have hC := contains_c d
          by_cases hw : isWd d = true
          · rw [hw] at hC
            refine hC.eq rfl ?_
            have hst : scanF isWd s (k + 1) = scanF isWd s k := scan_step hk (by rw [← hd]; exact hw)
            refine ⟨_, wrap_i64 (by omega) (by omega), ?_⟩
            exact ⟨k + 1, ⟨by omega, by omega, by rw [hst]; exact k3⟩, ent_of [] [] [] rfl (by (repeat' first | exact trivial | exact rfl | exact ⟨rfl, rfl⟩ | exact .inl rfl | refine ⟨_, rfl, rfl, rfl, ?_⟩ | refine ⟨_, _, rfl, ?_, ?_⟩ | refine ⟨_, rfl, ?_⟩ | refine And.intro ?_ ?_)) ⟨⟨_, rfl, rfl, rfl, _, rfl, _, _, rfl, rfl, _, _, rfl, hv _ _ _ (fix _ _ _) (fun _ _ => rfl), _, _, rfl, rfl, _, _, rfl, rfl, _, _, rfl, rfl, rfl⟩, trivial⟩ rfl, by show s.length - (k + 1) < s.length - k; omega⟩
          · have hw := Bool.eq_false_iff.2 hw
            rw [hw] at hC
            refine hC.eq rfl ?_
            have he : scanF isWd s k = k := scan_stop hk (by rw [← hd]; exact hw)
            (first | refine brLt (fun t1 => ?_) (fun t1 => ?_) | refine brLe (fun t1 => ?_) (fun t1 => ?_) | refine brEq (fun t1 => ?_) (fun t1 => ?_))
            · have t1 : (k : Int) = (q : Nat) := t1
              (first | refine brLt (fun t2 => ?_) (fun t2 => ?_) | refine brLe (fun t2 => ?_) (fun t2 => ?_) | refine brEq (fun t2 => ?_) (fun t2 => ?_))
              · have t2 : (k : Int) < (s.length : Nat) := t2
                refine ⟨_, wrap_i64 (by omega) (by omega), ?_⟩
                refine VDraw.seq rfl ?_
                refine ⟨by show (0 : Int) ≤ (q : Nat) ∧ (q : Int) ≤ ((k : Int) + 1) ∧ ((k : Int) + 1) ≤ ((s.length : Nat) : Int); omega, ?_⟩
                refine ⟨[], [], [], .returned und, nrH g v (nx s x) s (tok s x), rfl, by (repeat' first | exact trivial | exact rfl | exact ⟨rfl, rfl⟩ | exact .inl rfl | refine ⟨_, rfl, rfl, rfl, ?_⟩ | refine ⟨_, _, rfl, ?_, ?_⟩ | refine ⟨_, rfl, ?_⟩ | refine And.intro ?_ ?_), ⟨⟨_, rfl, rfl, rfl, _, rfl, _, _, rfl, rfl, _, _, rfl, hv _ _ _ (fix _ _ _) (fun _ _ => rfl), _, _, rfl, congrArg (fun n : Nat => i64 n) hnp, _, _, rfl, rfl, _, _, rfl, ?_, rfl⟩, trivial⟩, rfl, rfl⟩
                show PV.str (tok s x) = PV.str ((s.drop ((q : Nat) : Int).toNat).take (((k : Int) + 1).toNat - ((q : Nat) : Int).toNat))
                rw [tok_is hnp (k3 ▸ he) rfl]
                refine congrArg (fun m => PV.str ((s.drop q).take m)) ?_
                split <;> omega
              · have t2 : ¬ (k : Int) < (s.length : Nat) := t2
                refine VDraw.seq rfl ?_
                refine ⟨by show (0 : Int) ≤ (q : Nat) ∧ (q : Int) ≤ ((k : Nat) : Int) ∧ ((k : Nat) : Int) ≤ ((s.length : Nat) : Int); omega, ?_⟩
                refine ⟨[], [], [], .returned und, nrH g v (nx s x) s (tok s x), rfl, by (repeat' first | exact trivial | exact rfl | exact ⟨rfl, rfl⟩ | exact .inl rfl | refine ⟨_, rfl, rfl, rfl, ?_⟩ | refine ⟨_, _, rfl, ?_, ?_⟩ | refine ⟨_, rfl, ?_⟩ | refine And.intro ?_ ?_), ⟨⟨_, rfl, rfl, rfl, _, rfl, _, _, rfl, rfl, _, _, rfl, hv _ _ _ (fix _ _ _) (fun _ _ => rfl), _, _, rfl, congrArg (fun n : Nat => i64 n) hnp, _, _, rfl, rfl, _, _, rfl, ?_, rfl⟩, trivial⟩, rfl, rfl⟩
                show PV.str (tok s x) = PV.str ((s.drop ((q : Nat) : Int).toNat).take (((k : Nat) : Int).toNat - ((q : Nat) : Int).toNat))
                rw [tok_is hnp (k3 ▸ he) rfl]
                refine congrArg (fun m => PV.str ((s.drop q).take m)) ?_
                split <;> omega
            · have t1 : ¬ (k : Int) = (q : Nat) := t1
              refine VDraw.seq rfl ?_
              refine ⟨by show (0 : Int) ≤ (q : Nat) ∧ (q : Int) ≤ ((k : Nat) : Int) ∧ ((k : Nat) : Int) ≤ ((s.length : Nat) : Int); omega, ?_⟩
              refine ⟨[], [], [], .returned und, nrH g v (nx s x) s (tok s x), rfl, by (repeat' first | exact trivial | exact rfl | exact ⟨rfl, rfl⟩ | exact .inl rfl | refine ⟨_, rfl, rfl, rfl, ?_⟩ | refine ⟨_, _, rfl, ?_, ?_⟩ | refine ⟨_, rfl, ?_⟩ | refine And.intro ?_ ?_), ⟨⟨_, rfl, rfl, rfl, _, rfl, _, _, rfl, rfl, _, _, rfl, hv _ _ _ (fix _ _ _) (fun _ _ => rfl), _, _, rfl, congrArg (fun n : Nat => i64 n) hnp, _, _, rfl, rfl, _, _, rfl, ?_, rfl⟩, trivial⟩, rfl, rfl⟩
              show PV.str (tok s x) = PV.str ((s.drop ((q : Nat) : Int).toNat).take (((k : Nat) : Int).toNat - ((q : Nat) : Int).toNat))
              rw [tok_is hnp (k3 ▸ he) rfl]
              refine congrArg (fun m => PV.str ((s.drop q).take m)) ?_
              split <;> omega
        · have j1 : ¬ (k : Int) < (s.length : Nat) := j1
          have he : scanF isWd s k = k := scan_end (by omega)
          (first | refine brLt (fun t1 => ?_) (fun t1 => ?_) | refine brLe (fun t1 => ?_) (fun t1 => ?_) | refine brEq (fun t1 => ?_) (fun t1 => ?_))
          · have t1 : (k : Int) = (q : Nat) := t1
            (first | refine brLt (fun t2 => ?_) (fun t2 => ?_) | refine brLe (fun t2 => ?_) (fun t2 => ?_) | refine brEq (fun t2 => ?_) (fun t2 => ?_))
            · have t2 : (k : Int) < (s.length : Nat) := t2
              refine ⟨_, wrap_i64 (by omega) (by omega), ?_⟩
              refine VDraw.seq rfl ?_
              refine ⟨by show (0 : Int) ≤ (q : Nat) ∧ (q : Int) ≤ ((k : Int) + 1) ∧ ((k : Int) + 1) ≤ ((s.length : Nat) : Int); omega, ?_⟩
              refine ⟨[], [], [], .returned und, nrH g v (nx s x) s (tok s x), rfl, by (repeat' first | exact trivial | exact rfl | exact ⟨rfl, rfl⟩ | exact .inl rfl | refine ⟨_, rfl, rfl, rfl, ?_⟩ | refine ⟨_, _, rfl, ?_, ?_⟩ | refine ⟨_, rfl, ?_⟩ | refine And.intro ?_ ?_), ⟨⟨_, rfl, rfl, rfl, _, rfl, _, _, rfl, rfl, _, _, rfl, hv _ _ _ (fix _ _ _) (fun _ _ => rfl), _, _, rfl, congrArg (fun n : Nat => i64 n) hnp, _, _, rfl, rfl, _, _, rfl, ?_, rfl⟩, trivial⟩, rfl, rfl⟩
              show PV.str (tok s x) = PV.str ((s.drop ((q : Nat) : Int).toNat).take (((k : Int) + 1).toNat - ((q : Nat) : Int).toNat))
              rw [tok_is hnp (k3 ▸ he) rfl]
              refine congrArg (fun m => PV.str ((s.drop q).take m)) ?_
              split <;> omega
            · have t2 : ¬ (k : Int) < (s.length : Nat) := t2
              refine VDraw.seq rfl ?_
              refine ⟨by show (0 : Int) ≤ (q : Nat) ∧ (q : Int) ≤ ((k : Nat) : Int) ∧ ((k : Nat) : Int) ≤ ((s.length : Nat) : Int); omega, ?_⟩
              refine ⟨[], [], [], .returned und, nrH g v (nx s x) s (tok s x), rfl, by (repeat' first | exact trivial | exact rfl | exact ⟨rfl, rfl⟩ | exact .inl rfl | refine ⟨_, rfl, rfl, rfl, ?_⟩ | refine ⟨_, _, rfl, ?_, ?_⟩ | refine ⟨_, rfl, ?_⟩ | refine And.intro ?_ ?_), ⟨⟨_, rfl, rfl, rfl, _, rfl, _, _, rfl, rfl, _, _, rfl, hv _ _ _ (fix _ _ _) (fun _ _ => rfl), _, _, rfl, congrArg (fun n : Nat => i64 n) hnp, _, _, rfl, rfl, _, _, rfl, ?_, rfl⟩, trivial⟩, rfl, rfl⟩
              show PV.str (tok s x) = PV.str ((s.drop ((q : Nat) : Int).toNat).take (((k : Nat) : Int).toNat - ((q : Nat) : Int).toNat))
              rw [tok_is hnp (k3 ▸ he) rfl]
              refine congrArg (fun m => PV.str ((s.drop q).take m)) ?_
              split <;> omega
          · have t1 : ¬ (k : Int) = (q : Nat) := t1
            refine VDraw.seq rfl ?_
            refine ⟨by show (0 : Int) ≤ (q : Nat) ∧ (q : Int) ≤ ((k : Nat) : Int) ∧ ((k : Nat) : Int) ≤ ((s.length : Nat) : Int); omega, ?_⟩
            refine ⟨[], [], [], .returned und, nrH g v (nx s x) s (tok s x), rfl, by (repeat' first | exact trivial | exact rfl | exact ⟨rfl, rfl⟩ | exact .inl rfl | refine ⟨_, rfl, rfl, rfl, ?_⟩ | refine ⟨_, _, rfl, ?_, ?_⟩ | refine ⟨_, rfl, ?_⟩ | refine And.intro ?_ ?_), ⟨⟨_, rfl, rfl, rfl, _, rfl, _, _, rfl, rfl, _, _, rfl, hv _ _ _ (fix _ _ _) (fun _ _ => rfl), _, _, rfl, congrArg (fun n : Nat => i64 n) hnp, _, _, rfl, rfl, _, _, rfl, ?_, rfl⟩, trivial⟩, rfl, rfl⟩
            show PV.str (tok s x) = PV.str ((s.drop ((q : Nat) : Int).toNat).take (((k : Nat) : Int).toNat - ((q : Nat) : Int).toNat))
            rw [tok_is hnp (k3 ▸ he) rfl]
            refine congrArg (fun m => PV.str ((s.drop q).take m)) ?_
            split <;> omega
  · have h1 : ¬ (q : Int) < (s.length : Nat) := h1
    have hn : nx s q = q := scan_end (by omega)
    refine ⟨Nat, fun k => [(0, .ptr 0 0 0), (2, .p (i64 k))], fun _ => nrH g v q s tk, fun k => q ≤ k ∧ k ≤ s.length ∧ scanF isWd s k = scanF isWd s q, fun k => s.length - k, ?_, ?_⟩
    · exact ⟨q, ⟨Nat.le_refl _, q2, rfl⟩, ent_of [] [] [] rfl (by (repeat' first | exact trivial | exact rfl | exact ⟨rfl, rfl⟩ | exact .inl rfl | refine ⟨_, rfl, rfl, rfl, ?_⟩ | refine ⟨_, _, rfl, ?_, ?_⟩ | refine ⟨_, rfl, ?_⟩ | refine And.intro ?_ ?_)) ⟨⟨_, rfl, rfl, rfl, _, rfl, _, _, rfl, rfl, _, _, rfl, hv _ _ _ (fix _ _ _) (fun _ _ => rfl), _, _, rfl, rfl, _, _, rfl, rfl, _, _, rfl, rfl, rfl⟩, trivial⟩ rfl⟩
    rintro k ⟨k1, k2, k3⟩
    have hnp : nx s x = q := q3 ▸ hn
    (first | refine brLt (fun j1 => ?_) (fun j1 => ?_) | refine brLe (fun j1 => ?_) (fun j1 => ?_) | refine brEq (fun j1 => ?_) (fun j1 => ?_))
    · have j1 : (k : Int) < (s.length : Nat) := j1
      have hk : k < s.length := by omega
      obtain ⟨d, hd⟩ : ∃ d, d = s.getD k 0 := ⟨_, rfl⟩
      refine ⟨_, ⟨by omega, d, by rw [hd]; exact scan_at hk, rfl⟩, ?_⟩
      have hdl := d.toNat_lt
      refine ⟨(d.toNat : Int), wrap_i32 (by omega) (by omega), ?_⟩
      have hC := contains_c d
      by_cases hw : isWd d = true
      · rw [hw] at hC
        refine hC.eq rfl ?_
        have hst : scanF isWd s (k + 1) = scanF isWd s k := scan_step hk (by rw [← hd]; exact hw)
        refine ⟨_, wrap_i64 (by omega) (by omega), ?_⟩
        exact ⟨k + 1, ⟨by omega, by omega, by rw [hst]; exact k3⟩, ent_of [] [] [] rfl (by (repeat' first | exact trivial | exact rfl | exact ⟨rfl, rfl⟩ | exact .inl rfl | refine ⟨_, rfl, rfl, rfl, ?_⟩ | refine ⟨_, _, rfl, ?_, ?_⟩ | refine ⟨_, rfl, ?_⟩ | refine And.intro ?_ ?_)) ⟨⟨_, rfl, rfl, rfl, _, rfl, _, _, rfl, rfl, _, _, rfl, hv _ _ _ (fix _ _ _) (fun _ _ => rfl), _, _, rfl, rfl, _, _, rfl, rfl, _, _, rfl, rfl, rfl⟩, trivial⟩ rfl, by show s.length - (k + 1) < s.length - k; omega⟩
      · have hw := Bool.eq_false_iff.2 hw
        rw [hw] at hC
        refine hC.eq rfl ?_
        have he : scanF isWd s k = k := scan_stop hk (by rw [← hd]; exact hw)
        (first | refine brLt (fun t1 => ?_) (fun t1 => ?_) | refine brLe (fun t1 => ?_) (fun t1 => ?_) | refine brEq (fun t1 => ?_) (fun t1 => ?_))
        · have t1 : (k : Int) = (q : Nat) := t1
          (first | refine brLt (fun t2 => ?_) (fun t2 => ?_) | refine brLe (fun t2 => ?_) (fun t2 => ?_) | refine brEq (fun t2 => ?_) (fun t2 => ?_))
          · have t2 : (k : Int) < (s.length : Nat) := t2
            refine ⟨_, wrap_i64 (by omega) (by omega), ?_⟩
            refine VDraw.seq rfl ?_
            refine ⟨by show (0 : Int) ≤ (q : Nat) ∧ (q : Int) ≤ ((k : Int) + 1) ∧ ((k : Int) + 1) ≤ ((s.length : Nat) : Int); omega, ?_⟩
            refine ⟨[], [], [], .returned und, nrH g v (nx s x) s (tok s x), rfl, by (repeat' first | exact trivial | exact rfl | exact ⟨rfl, rfl⟩ | exact .inl rfl | refine ⟨_, rfl, rfl, rfl, ?_⟩ | refine ⟨_, _, rfl, ?_, ?_⟩ | refine ⟨_, rfl, ?_⟩ | refine And.intro ?_ ?_), ⟨⟨_, rfl, rfl, rfl, _, rfl, _, _, rfl, rfl, _, _, rfl, hv _ _ _ (fix _ _ _) (fun _ _ => rfl), _, _, rfl, congrArg (fun n : Nat => i64 n) hnp, _, _, rfl, rfl, _, _, rfl, ?_, rfl⟩, trivial⟩, rfl, rfl⟩
            show PV.str (tok s x) = PV.str ((s.drop ((q : Nat) : Int).toNat).take (((k : Int) + 1).toNat - ((q : Nat) : Int).toNat))
            rw [tok_is hnp (k3 ▸ he) rfl]
            refine congrArg (fun m => PV.str ((s.drop q).take m)) ?_
            split <;> omega
          · have t2 : ¬ (k : Int) < (s.length : Nat) := t2
            refine VDraw.seq rfl ?_
            refine ⟨by show (0 : Int) ≤ (q : Nat) ∧ (q : Int) ≤ ((k : Nat) : Int) ∧ ((k : Nat) : Int) ≤ ((s.length : Nat) : Int); omega, ?_⟩
            refine ⟨[], [], [], .returned und, nrH g v (nx s x) s (tok s x), rfl, by (repeat' first | exact trivial | exact rfl | exact ⟨rfl, rfl⟩ | exact .inl rfl | refine ⟨_, rfl, rfl, rfl, ?_⟩ | refine ⟨_, _, rfl, ?_, ?_⟩ | refine ⟨_, rfl, ?_⟩ | refine And.intro ?_ ?_), ⟨⟨_, rfl, rfl, rfl, _, rfl, _, _, rfl, rfl, _, _, rfl, hv _ _ _ (fix _ _ _) (fun _ _ => rfl), _, _, rfl, congrArg (fun n : Nat => i64 n) hnp, _, _, rfl, rfl, _, _, rfl, ?_, rfl⟩, trivial⟩, rfl, rfl⟩
            show PV.str (tok s x) = PV.str ((s.drop ((q : Nat) : Int).toNat).take (((k : Nat) : Int).toNat - ((q : Nat) : Int).toNat))
            rw [tok_is hnp (k3 ▸ he) rfl]
            refine congrArg (fun m => PV.str ((s.drop q).take m)) ?_
            split <;> omega
        · have t1 : ¬ (k : Int) = (q : Nat) := t1
          refine VDraw.seq rfl ?_
          refine ⟨by show (0 : Int) ≤ (q : Nat) ∧ (q : Int) ≤ ((k : Nat) : Int) ∧ ((k : Nat) : Int) ≤ ((s.length : Nat) : Int); omega, ?_⟩
          refine ⟨[], [], [], .returned und, nrH g v (nx s x) s (tok s x), rfl, by (repeat' first | exact trivial | exact rfl | exact ⟨rfl, rfl⟩ | exact .inl rfl | refine ⟨_, rfl, rfl, rfl, ?_⟩ | refine ⟨_, _, rfl, ?_, ?_⟩ | refine ⟨_, rfl, ?_⟩ | refine And.intro ?_ ?_), ⟨⟨_, rfl, rfl, rfl, _, rfl, _, _, rfl, rfl, _, _, rfl, hv _ _ _ (fix _ _ _) (fun _ _ => rfl), _, _, rfl, congrArg (fun n : Nat => i64 n) hnp, _, _, rfl, rfl, _, _, rfl, ?_, rfl⟩, trivial⟩, rfl, rfl⟩
          show PV.str (tok s x) = PV.str ((s.drop ((q : Nat) : Int).toNat).take (((k : Nat) : Int).toNat - ((q : Nat) : Int).toNat))
          rw [tok_is hnp (k3 ▸ he) rfl]
          refine congrArg (fun m => PV.str ((s.drop q).take m)) ?_
          split <;> omega
    · have j1 : ¬ (k : Int) < (s.length : Nat) := j1
      have he : scanF isWd s k = k := scan_end (by omega)
      (first | refine brLt (fun t1 => ?_) (fun t1 => ?_) | refine brLe (fun t1 => ?_) (fun t1 => ?_) | refine brEq (fun t1 => ?_) (fun t1 => ?_))
      · have t1 : (k : Int) = (q : Nat) := t1
        (first | refine brLt (fun t2 => ?_) (fun t2 => ?_) | refine brLe (fun t2 => ?_) (fun t2 => ?_) | refine brEq (fun t2 => ?_) (fun t2 => ?_))
        · have t2 : (k : Int) < (s.length : Nat) := t2
          refine ⟨_, wrap_i64 (by omega) (by omega), ?_⟩
          refine VDraw.seq rfl ?_
          refine ⟨by show (0 : Int) ≤ (q : Nat) ∧ (q : Int) ≤ ((k : Int) + 1) ∧ ((k : Int) + 1) ≤ ((s.length : Nat) : Int); omega, ?_⟩
          refine ⟨[], [], [], .returned und, nrH g v (nx s x) s (tok s x), rfl, by (repeat' first | exact trivial | exact rfl | exact ⟨rfl, rfl⟩ | exact .inl rfl | refine ⟨_, rfl, rfl, rfl, ?_⟩ | refine ⟨_, _, rfl, ?_, ?_⟩ | refine ⟨_, rfl, ?_⟩ | refine And.intro ?_ ?_), ⟨⟨_, rfl, rfl, rfl, _, rfl, _, _, rfl, rfl, _, _, rfl, hv _ _ _ (fix _ _ _) (fun _ _ => rfl), _, _, rfl, congrArg (fun n : Nat => i64 n) hnp, _, _, rfl, rfl, _, _, rfl, ?_, rfl⟩, trivial⟩, rfl, rfl⟩
          show PV.str (tok s x) = PV.str ((s.drop ((q : Nat) : Int).toNat).take (((k : Int) + 1).toNat - ((q : Nat) : Int).toNat))
          rw [tok_is hnp (k3 ▸ he) rfl]
          refine congrArg (fun m => PV.str ((s.drop q).take m)) ?_
          split <;> omega
        · have t2 : ¬ (k : Int) < (s.length : Nat) := t2
          refine VDraw.seq rfl ?_
          refine ⟨by show (0 : Int) ≤ (q : Nat) ∧ (q : Int) ≤ ((k : Nat) : Int) ∧ ((k : Nat) : Int) ≤ ((s.length : Nat) : Int); omega, ?_⟩
          refine ⟨[], [], [], .returned und, nrH g v (nx s x) s (tok s x), rfl, by (repeat' first | exact trivial | exact rfl | exact ⟨rfl, rfl⟩ | exact .inl rfl | refine ⟨_, rfl, rfl, rfl, ?_⟩ | refine ⟨_, _, rfl, ?_, ?_⟩ | refine ⟨_, rfl, ?_⟩ | refine And.intro ?_ ?_), ⟨⟨_, rfl, rfl, rfl, _, rfl, _, _, rfl, rfl, _, _, rfl, hv _ _ _ (fix _ _ _) (fun _ _ => rfl), _, _, rfl, congrArg (fun n : Nat => i64 n) hnp, _, _, rfl, rfl, _, _, rfl, ?_, rfl⟩, trivial⟩, rfl, rfl⟩
          show PV.str (tok s x) = PV.str ((s.drop ((q : Nat) : Int).toNat).take (((k : Nat) : Int).toNat - ((q : Nat) : Int).toNat))
          rw [tok_is hnp (k3 ▸ he) rfl]
          refine congrArg (fun m => PV.str ((s.drop q).take m)) ?_
          split <;> omega
      · have t1 : ¬ (k : Int) = (q : Nat) := t1
        refine VDraw.seq rfl ?_
        refine ⟨by show (0 : Int) ≤ (q : Nat) ∧ (q : Int) ≤ ((k : Nat) : Int) ∧ ((k : Nat) : Int) ≤ ((s.length : Nat) : Int); omega, ?_⟩
        refine ⟨[], [], [], .returned und, nrH g v (nx s x) s (tok s x), rfl, by (repeat' first | exact trivial | exact rfl | exact ⟨rfl, rfl⟩ | exact .inl rfl | refine ⟨_, rfl, rfl, rfl, ?_⟩ | refine ⟨_, _, rfl, ?_, ?_⟩ | refine ⟨_, rfl, ?_⟩ | refine And.intro ?_ ?_), ⟨⟨_, rfl, rfl, rfl, _, rfl, _, _, rfl, rfl, _, _, rfl, hv _ _ _ (fix _ _ _) (fun _ _ => rfl), _, _, rfl, congrArg (fun n : Nat => i64 n) hnp, _, _, rfl, rfl, _, _, rfl, ?_, rfl⟩, trivial⟩, rfl, rfl⟩
        show PV.str (tok s x) = PV.str ((s.drop ((q : Nat) : Int).toNat).take (((k : Nat) : Int).toNat - ((q : Nat) : Int).toNat))
        rw [tok_is hnp (k3 ▸ he) rfl]
        refine congrArg (fun m => PV.str ((s.drop q).take m)) ?_
        split <;> omega
end Go.Proofs.YtphmmoloegjocaaDoor

/- The program's nested reader: expect, take. -/
namespace Go.Proofs.YtphmmoloegjocaaDoor
open Go Y
set_option maxRecDepth 100000
set_option maxHeartbeats 40000000

abbrev psH (g : Int) (v : AV) (s : List UInt8) (q : Nat) : Hp := nrH g v (nx s q) s (tok s q)
/-- How a reading of the program ends. -/
def rdQ {α : Type} (r : Rd α) (val : α → AV) (H : Nat → Hp) (e : AE) (H' : Hp) : Prop := match r with
  | .inl p => e = placeX p ∧ H' = ⟨2, []⟩
  | .inr (a, q) => e = .returned (val a) ∧ H' = H q
def expectP (s : List UInt8) : List (List UInt8) → Nat → Rd Unit
  | [], q => .inr ((), q)
  | w :: ws, q => (mustP s w q).then fun _ q => expectP s ws q
theorem expect_le {s : List UInt8} : ∀ {ws : List (List UInt8)} {q q' : Nat}, q ≤ s.length → expectP s ws q = .inr ((), q') → q ≤ q' ∧ q' ≤ s.length
  | [], q, q', h, e => by
    simp only [expectP, Sum.inr.injEq, Prod.mk.injEq, true_and] at e
    omega
  | w :: ws, q, q', h, e => by
    rw [expectP, mustP] at e
    have h1 := te_le h
    have h2 := nx_le h
    split at e
    · have := expect_le (by omega : te s q ≤ s.length) e
      omega
    · cases e
theorem next_ps (g : Int) (v : AV) (s : List UInt8) (q : Nat) (hv : Self 2 v) (hs : s.length ≤ 100000) (hq : q ≤ s.length) : HoldsG cx 106 [.ptr 0 0 0] (psH g v s q) fun e H' => e = .returned und ∧ H' = psH g v s (te s q) :=
  next_h g v (nx s q) s (tok s q) (te s q) hv (by have := tok_len hq; have := te_le hq; omega) hs (te_le hq).2

theorem expect_h (g : Int) (v : AV) (s : List UInt8) (q0 : Nat) (ws : List (List UInt8)) (hv : Self 2 v) (hs : s.length ≤ 100000) (hq : q0 ≤ s.length) (hw : ws.length ≤ 1000) : HoldsG cx 107 [.ptr 0 0 0, .p (strs ws)] (psH g v s q0) (rdQ (expectP s ws q0) (fun _ => und) (psH g v s)) := by
  refine holdsN_of_vc Tryd.func107 rfl rfl rfl ?_
  have fix : ∀ ps N1 N n, n < 2 → rmap 2 ps N1 N n = n := fun ps N1 N n h => rmap_fix h
  refine ⟨Nat × Nat, fun x => [(0, .ptr 0 0 0), (6, .p (strs ws)), (7, .p (i64 ws.length)), (8, .p (i64 x.1))], fun x => psH g v s x.2, fun x => x.1 ≤ ws.length ∧ x.2 ≤ s.length ∧ expectP s (ws.drop x.1) x.2 = expectP s ws q0, fun x => ws.length - x.1, ?_, ?_⟩
  · exact ⟨(0, q0), ⟨by simp, hq, rfl⟩, ent_of [] [] [] rfl ⟨⟨rfl, rfl⟩, rfl, congrArg (fun n : Nat => i64 n) (List.length_map ..).symm, rfl, trivial⟩ ⟨⟨_, rfl, rfl, rfl, _, rfl, _, _, rfl, rfl, _, _, rfl, hv _ _ _ (fix _ _ _) (fun _ _ => rfl), _, _, rfl, rfl, _, _, rfl, rfl, _, _, rfl, rfl, rfl⟩, trivial⟩ rfl⟩
  rintro ⟨k, q⟩ ⟨k1, k2, k3⟩
  simp only [] at k1 k2 k3
  (first | refine brLt (fun h1 => ?_) (fun h1 => ?_) | refine brLe (fun h1 => ?_) (fun h1 => ?_) | refine brEq (fun h1 => ?_) (fun h1 => ?_))
  · have h1 : (k : Int) < (ws.length : Nat) := h1
    have hk : k < ws.length := by omega
    obtain ⟨w, hw'⟩ : ∃ w, w = ws.getD k [] := ⟨_, rfl⟩
    rw [drop_cons [] hk, ← hw', expectP, mustP] at k3
    refine ⟨_, ⟨by omega, .str w, by rw [hw']; exact tcell hk, rfl⟩, ?_⟩
    (first | refine brLt (fun h2 => ?_) (fun h2 => ?_) | refine brLe (fun h2 => ?_) (fun h2 => ?_) | refine brEq (fun h2 => ?_) (fun h2 => ?_))
    · have h2 : tok s q = w := h2
      rw [if_pos h2] at k3
      refine (next_ps g v s q hv hs k2).holds.mono fun e H' hq => ?_
      obtain ⟨rfl, rfl⟩ := hq
      refine ⟨_, wrap_i64 (by omega) (by omega), ?_⟩
      exact ⟨(k + 1, te s q), ⟨by simp only []; omega, (te_le k2).2, k3⟩, ent_of [] [] [] rfl (by (repeat' first | exact trivial | exact rfl | exact ⟨rfl, rfl⟩ | exact .inl rfl | refine ⟨_, rfl, rfl, rfl, ?_⟩ | refine ⟨_, _, rfl, ?_, ?_⟩ | refine ⟨_, rfl, ?_⟩ | refine And.intro ?_ ?_)) ⟨⟨_, rfl, rfl, rfl, _, rfl, _, _, rfl, rfl, _, _, rfl, hv _ _ _ (fix _ _ _) (fun _ _ => rfl), _, _, rfl, rfl, _, _, rfl, rfl, _, _, rfl, rfl, rfl⟩, trivial⟩ rfl, by show ws.length - (k + 1) < ws.length - k; omega⟩
    · have h2 : ¬ tok s q = w := h2
      rw [if_neg h2] at k3
      refine (fail_h TNs g v (nx s q) [.str s, .str (tok s q)]).holds.mono fun e H' hq => ?_
      obtain ⟨rfl, rfl⟩ := hq
      exact ⟨[], [], [], placeX (nx s q), ⟨2, []⟩, rfl, ⟨_, rfl, _, _, rfl, rfl, rfl⟩, trivial, by rw [← k3]; exact ⟨rfl, rfl⟩⟩
  · have h1 : ¬ (k : Int) < (ws.length : Nat) := h1
    rw [show ws.drop k = [] from List.drop_eq_nil_of_le (by omega), expectP] at k3
    exact ⟨[], [], [], .returned und, psH g v s q, rfl, by (repeat' first | exact trivial | exact rfl | exact ⟨rfl, rfl⟩ | exact .inl rfl | refine ⟨_, rfl, rfl, rfl, ?_⟩ | refine ⟨_, _, rfl, ?_, ?_⟩ | refine ⟨_, rfl, ?_⟩ | refine And.intro ?_ ?_), ⟨⟨_, rfl, rfl, rfl, _, rfl, _, _, rfl, rfl, _, _, rfl, hv _ _ _ (fix _ _ _) (fun _ _ => rfl), _, _, rfl, rfl, _, _, rfl, rfl, _, _, rfl, rfl, rfl⟩, trivial⟩, by rw [← k3]; exact ⟨rfl, rfl⟩⟩

theorem take_h (g : Int) (v : AV) (s : List UInt8) (q : Nat) (hv : Self 2 v) (hs : s.length ≤ 100000) (hq : q ≤ s.length) : HoldsG cx 108 [.ptr 0 0 0] (psH g v s q) (rdQ (numP s q) (fun n => .p (i64 n)) (psH g v s)) := by
  refine holdsN_of_vc Tryd.func108 rfl rfl rfl ?_
  have fix : ∀ ps N1 N n, n < 2 → rmap 2 ps N1 N n = n := fun ps N1 N n h => rmap_fix h
  have hN := num_h' TNs g v (nx s q) [.str s, .str (tok s q)] hv (tok s q) (by have := tok_len hq; have := te_le hq; omega)
  refine VDraw.seq rfl ?_
  by_cases hn : numB (tok s q) = true
  · refine hN.holds.mono fun e H' hq' => ?_
    obtain ⟨rfl, h⟩ := hq'
    rw [if_pos hn] at h
    subst h
    refine (next_ps g v s q hv hs hq).holds.mono fun e H' hq' => ?_
    obtain ⟨rfl, rfl⟩ := hq'
    exact ⟨[], [], [], .returned (.p (i64 (valN (tok s q)))), psH g v s (te s q), rfl, by (repeat' first | exact trivial | exact rfl | exact ⟨rfl, rfl⟩ | exact .inl rfl | refine ⟨_, rfl, rfl, rfl, ?_⟩ | refine ⟨_, _, rfl, ?_, ?_⟩ | refine ⟨_, rfl, ?_⟩ | refine And.intro ?_ ?_), ⟨⟨_, rfl, rfl, rfl, _, rfl, _, _, rfl, rfl, _, _, rfl, hv _ _ _ (fix _ _ _) (fun _ _ => rfl), _, _, rfl, rfl, _, _, rfl, rfl, _, _, rfl, rfl, rfl⟩, trivial⟩, by rw [numP, if_pos hn]; exact ⟨rfl, rfl⟩⟩
  · refine hN.holds.mono fun e H' hq' => ?_
    obtain ⟨rfl, h⟩ := hq'
    rw [if_neg hn] at h
    subst h
    exact ⟨[], [], [], placeX (nx s q), ⟨2, []⟩, rfl, ⟨_, rfl, _, _, rfl, rfl, rfl⟩, trivial, by rw [numP, if_neg hn]; exact ⟨rfl, rfl⟩⟩
end Go.Proofs.YtphmmoloegjocaaDoor

/- The program's nested reader: node. -/
namespace Go.Proofs.YtphmmoloegjocaaDoor
open Go Y
set_option maxRecDepth 100000
set_option maxHeartbeats 40000000

theorem then_assoc {α β γ : Type} (r : Rd α) (k : α → Nat → Rd β) (m : β → Nat → Rd γ) : (r.then k).then m = r.then fun a q => (k a q).then m := by
  cases r <;> rfl
theorem exp1 {α : Type} (s w : List UInt8) (q : Nat) (k : Unit → Nat → Rd α) : (expectP s [w] q).then k = (mustP s w q).then k := by
  rw [expectP, then_assoc]; rfl
theorem exp2 {α : Type} (s w w' : List UInt8) (q : Nat) (k : Unit → Nat → Rd α) : (expectP s [w, w'] q).then k = (mustP s w q).then fun _ q => (mustP s w' q).then k := by
  rw [expectP, then_assoc]
  congr 1
  funext _ q
  exact exp1 s w' q k
theorem num_lt {s : List UInt8} {q q' : Nat} {n : Int} (hq : q ≤ s.length) (h : numP s q = .inr (n, q')) : q < q' ∧ q' ≤ s.length := by
  rw [numP] at h
  split at h
  · rename_i hn
    cases h
    have := num_len hn
    exact ⟨te_lt hq (fun e => by rw [e] at this; simp at this), (te_le hq).2⟩
  · cases h

theorem LInv.is {α : Type} {R x : Rd α} {go : Nat → Rd α} {n q1 p : Nat} (h : LInv false q1 R go n p false) (hgo : ∀ f, go (f + 1) = x) : R = x := by
  obtain ⟨f, hf, rfl⟩ : ∃ f, n - p < f ∧ R = go f := h
  obtain ⟨f, rfl⟩ : ∃ g, f = g + 1 := ⟨f - 1, by omega⟩
  exact hgo f
theorem LInv.nxt {α : Type} {R : Rd α} {go go' : Nat → Rd α} {n q1 p q : Nat} (h : LInv false q1 R go n p false) (hgo : ∀ f, go (f + 1) = go' f) (hlt : p < q) (hq : q ≤ n) : LInv false q1 R go' n q false := by
  obtain ⟨f, hf, rfl⟩ : ∃ f, n - p < f ∧ R = go f := h
  obtain ⟨f, rfl⟩ : ∃ g, f = g + 1 := ⟨f - 1, by omega⟩
  exact ⟨f, by omega, hgo f⟩
abbrev pn (acc : List Nd) : AV := .sl 1 3 0 acc.length
def nodeQ (g : Int) (s : List UInt8) (acc : List Nd) (r : Rd Nd) (e : AE) (H' : Hp) : Prop := match r with
  | .inl p => e = placeX p ∧ H' = ⟨2, []⟩
  | .inr (x, q) => e = .returned und ∧ H' = ⟨3, [(2, nsO (acc ++ [x])), (0, nrO g (.sl 2 3 0 (acc.length + 1)) (nx s q) s (tok s q))]⟩
def npO (c : Int) (n : Nat) : AObj := ⟨TNode, false, .bx [.p (i64 c), .sl 3 1 0 n, .p .nils]⟩
theorem node_p (g : Int) (s : List UInt8) (F q0 : Nat) (acc : List Nd) (hF : s.length < F) (hs : s.length ≤ 100000) (hq0 : q0 ≤ s.length) (ha : acc.length ≤ 100000) : HoldsG cx 109 [.ptr 0 0 0] ⟨2, [(1, nsO acc), (0, nrO g (pn acc) (nx s q0) s (tok s q0))]⟩ (nodeQ g s acc (nodeRd s F q0)) := by
  refine holdsN_of_vc Tryd.func109 rfl rfl rfl ?_
  have hv : Self 2 (pn acc) := self_sl (by omega)
  have hE := expect_h g (pn acc) s q0 [kOpen, kNode] hv hs hq0 (by simp)
  have hR : nodeRd s F q0 = (expectP s [kOpen, kNode] q0).then fun _ q => (numP s q).then fun c q => (lstP s F q).then fun ps q => (rowsP s F F [] q).then fun rs q => (mustP s kClose q).then fun _ q => .inr (⟨c, ps, rs⟩, q) := by rw [exp2]; rfl
  refine hE.holds.useN [2] [] rfl (by (repeat' first | exact trivial | exact rfl | exact ⟨rfl, rfl⟩ | exact .inl rfl | refine ⟨_, rfl, rfl, rfl, ?_⟩ | refine ⟨_, _, rfl, ?_, ?_⟩ | refine ⟨_, rfl, ?_⟩ | refine And.intro ?_ ?_)) ⟨_, _, rfl, ⟨rfl, rfl⟩, _, _, rfl, ⟨_, rfl, by decide, rfl⟩, rfl⟩ fun e0 H0 hq => ?_
  rcases hr : expectP s [kOpen, kNode] q0 with p | ⟨⟨⟩, q1⟩
  · rw [hr] at hq hR
    obtain ⟨rfl, rfl⟩ := hq
    refine ⟨rfl, ?_⟩
    exact ⟨[], [], [], placeX p, ⟨2, []⟩, rfl, ⟨_, rfl, _, _, rfl, rfl, rfl⟩, trivial, by rw [show nodeRd s F q0 = .inl p from hR]; exact ⟨rfl, rfl⟩⟩
  have hq1 := expect_le hq0 hr
  rw [hr] at hq hR
  obtain ⟨rfl, rfl⟩ := hq
  refine ⟨rfl, ?_⟩
  have hR : nodeRd s F q0 = (numP s q1).then fun c q => (lstP s F q).then fun ps q => (rowsP s F F [] q).then fun rs q => (mustP s kClose q).then fun _ q => .inr (⟨c, ps, rs⟩, q) := hR
  refine (take_h g (pn acc) s q1 hv hs hq1.2).holds.useN [] [] rfl (by (repeat' first | exact trivial | exact rfl | exact ⟨rfl, rfl⟩ | exact .inl rfl | refine ⟨_, rfl, rfl, rfl, ?_⟩ | refine ⟨_, _, rfl, ?_, ?_⟩ | refine ⟨_, rfl, ?_⟩ | refine And.intro ?_ ?_)) (by (repeat' first | exact trivial | exact rfl | exact ⟨rfl, rfl⟩ | exact .inl rfl | refine ⟨_, rfl, rfl, rfl, ?_⟩ | refine ⟨_, _, rfl, ?_, ?_⟩ | refine ⟨_, rfl, ?_⟩ | refine And.intro ?_ ?_)) fun e0 H0 hq => ?_
  rcases hn : numP s q1 with p | ⟨c, q2⟩
  · rw [hn] at hq hR
    obtain ⟨rfl, rfl⟩ := hq
    refine ⟨rfl, ?_⟩
    exact ⟨[], [], [], placeX p, ⟨2, []⟩, rfl, ⟨_, rfl, _, _, rfl, rfl, rfl⟩, trivial, by rw [show nodeRd s F q0 = .inl p from hR]; exact ⟨rfl, rfl⟩⟩
  have hq2 := num_lt hq1.2 hn
  rw [hn] at hq hR
  obtain ⟨rfl, rfl⟩ := hq
  refine ⟨rfl, ?_⟩
  have hR : nodeRd s F q0 = (expectP s [kOpen] q2).then fun _ q => (numsP s F [] q).then fun ps q => (mustP s kClose q).then fun _ q => (rowsP s F F [] q).then fun rs q => (mustP s kClose q).then fun _ q => .inr (⟨c, ps, rs⟩, q) := by
    rw [hR, exp1]
    show (lstP s F q2).then _ = _
    rw [lstP, then_assoc]
    congr 1
    funext _ q
    rw [then_assoc]
    congr 1
    funext _ q
    rw [then_assoc]
    rfl
  refine (expect_h g (pn acc) s q2 [kOpen] hv hs hq2.2 (by simp)).holds.useN [4] [] rfl (by (repeat' first | exact trivial | exact rfl | exact ⟨rfl, rfl⟩ | exact .inl rfl | refine ⟨_, rfl, rfl, rfl, ?_⟩ | refine ⟨_, _, rfl, ?_, ?_⟩ | refine ⟨_, rfl, ?_⟩ | refine And.intro ?_ ?_)) ⟨_, _, rfl, ⟨rfl, rfl⟩, _, _, rfl, ⟨_, rfl, by decide, rfl⟩, rfl⟩ fun e0 H0 hq => ?_
  rcases hr3 : expectP s [kOpen] q2 with p | ⟨⟨⟩, q3⟩
  · rw [hr3] at hq hR
    obtain ⟨rfl, rfl⟩ := hq
    refine ⟨rfl, ?_⟩
    exact ⟨[], [], [], placeX p, ⟨2, []⟩, rfl, ⟨_, rfl, _, _, rfl, rfl, rfl⟩, trivial, by rw [show nodeRd s F q0 = .inl p from hR]; exact ⟨rfl, rfl⟩⟩
  have hq3 := expect_le hq2.2 hr3
  rw [hr3] at hq hR
  obtain ⟨rfl, rfl⟩ := hq
  refine ⟨rfl, ?_⟩
  have hR : nodeRd s F q0 = (numsP s F [] q3).then fun ps q => (mustP s kClose q).then fun _ q => (rowsP s F F [] q).then fun rs q => (mustP s kClose q).then fun _ q => .inr (⟨c, ps, rs⟩, q) := hR
  refine ⟨List Int × Nat, fun x => [(0, .ptr 0 0 0), (2, .ptr 2 0 0)], fun x => ⟨4, [(3, iO x.1), (2, npO c x.1.length), (1, nsO acc), (0, nrO g (pn acc) (nx s x.2) s (tok s x.2))]⟩,
    fun x => x.2 ≤ s.length ∧ x.1.length ≤ x.2 ∧ LInv false q3 (numsP s F [] q3) (fun f => numsP s f x.1 x.2) s.length x.2 false, fun x => s.length - x.2, ?_, ?_⟩
  · exact ⟨([], q3), ⟨hq3.2, by simp, LInv.init (go := fun f => numsP s f [] q3) (F := F) (n := s.length) (by omega)⟩, ent_of [] [(2, 3)] [(3, 1)] rfl (by (repeat' first | exact trivial | exact rfl | exact ⟨rfl, rfl⟩ | exact .inl rfl | refine ⟨_, rfl, rfl, rfl, ?_⟩ | refine ⟨_, _, rfl, ?_, ?_⟩ | refine ⟨_, rfl, ?_⟩ | refine And.intro ?_ ?_)) ⟨⟨rfl, rfl, rfl⟩, ⟨_, rfl, rfl, rfl, _, rfl, _, _, rfl, rfl, _, _, rfl, ⟨rfl, rfl, rfl, rfl⟩, _, _, rfl, .inl rfl, rfl⟩, ⟨_, rfl, rfl, rfl, rfl⟩, ⟨_, rfl, rfl, rfl, _, rfl, by (repeat' first | exact trivial | exact rfl | exact ⟨rfl, rfl⟩ | exact .inl rfl | refine ⟨_, rfl, rfl, rfl, ?_⟩ | refine ⟨_, _, rfl, ?_, ?_⟩ | refine ⟨_, rfl, ?_⟩ | refine And.intro ?_ ?_)⟩, trivial⟩ rfl⟩
  rintro ⟨ps, q4⟩ ⟨g1, g2, g3⟩
  simp only [] at g1 g2 g3
  (first | refine brLt (fun h1 => ?_) (fun h1 => ?_) | refine brLe (fun h1 => ?_) (fun h1 => ?_) | refine brEq (fun h1 => ?_) (fun h1 => ?_))
  rotate_left
  · have h1 : ¬ tok s q4 = kClose := h1
    refine VDraw.seq rfl ?_
    refine (take_h g (pn acc) s q4 hv hs g1).holds.useN [] [] rfl (by (repeat' first | exact trivial | exact rfl | exact ⟨rfl, rfl⟩ | exact .inl rfl | refine ⟨_, rfl, rfl, rfl, ?_⟩ | refine ⟨_, _, rfl, ?_, ?_⟩ | refine ⟨_, rfl, ?_⟩ | refine And.intro ?_ ?_)) (by (repeat' first | exact trivial | exact rfl | exact ⟨rfl, rfl⟩ | exact .inl rfl | refine ⟨_, rfl, rfl, rfl, ?_⟩ | refine ⟨_, _, rfl, ?_, ?_⟩ | refine ⟨_, rfl, ?_⟩ | refine And.intro ?_ ?_)) fun e0 H0 hq => ?_
    rcases hn4 : numP s q4 with p | ⟨n, q5⟩
    · rw [hn4] at hq
      obtain ⟨rfl, rfl⟩ := hq
      have g4 : numsP s F [] q3 = .inl p := g3.is fun f => by rw [numsP, if_neg h1, hn4]; rfl
      rw [g4] at hR
      refine ⟨rfl, ?_⟩
      exact ⟨[], [], [], placeX p, ⟨2, []⟩, rfl, ⟨_, rfl, _, _, rfl, rfl, rfl⟩, trivial, by rw [show nodeRd s F q0 = .inl p from hR]; exact ⟨rfl, rfl⟩⟩
    have hq5 := num_lt g1 hn4
    rw [hn4] at hq
    obtain ⟨rfl, rfl⟩ := hq
    refine ⟨rfl, ?_⟩
    refine ⟨by (repeat' first | exact trivial | exact rfl | exact ⟨rfl, rfl⟩ | exact .inl rfl | refine ⟨_, rfl, rfl, rfl, ?_⟩ | refine ⟨_, _, rfl, ?_, ?_⟩ | refine ⟨_, rfl, ?_⟩ | refine And.intro ?_ ?_), ?_⟩
    refine ⟨by (repeat' first | exact trivial | exact rfl | exact ⟨rfl, rfl⟩ | exact .inl rfl | refine ⟨_, rfl, rfl, rfl, ?_⟩ | refine ⟨_, _, rfl, ?_, ?_⟩ | refine ⟨_, rfl, ?_⟩ | refine And.intro ?_ ?_), ?_⟩
    refine ⟨by show 0 + 1 ≤ 1; omega, [i64 n], rfl, ?_⟩
    refine ⟨by show 0 + ps.length ≤ (ps.map i64).length; simp, ps.map i64, takeAll (by simp), by show (ps.length + 1) * 8 ≤ 140737488355328; omega, (ps ++ [n]).map i64, by simp, ?_⟩
    refine ⟨(ps ++ [n], q5), ⟨hq5.2, by simp only [snoc_len]; omega, g3.nxt (fun f => by rw [numsP, if_neg h1, hn4]; rfl) hq5.1 hq5.2⟩, ent_of [] [(3, 5)] [] rfl (by (repeat' first | exact trivial | exact rfl | exact ⟨rfl, rfl⟩ | exact .inl rfl | refine ⟨_, rfl, rfl, rfl, ?_⟩ | refine ⟨_, _, rfl, ?_, ?_⟩ | refine ⟨_, rfl, ?_⟩ | refine And.intro ?_ ?_)) ⟨⟨_, rfl, rfl, rfl, rfl⟩, ⟨_, rfl, rfl, rfl, _, rfl, _, _, rfl, rfl, _, _, rfl, congrArg (fun m => AV.sl 5 1 0 m) (snoc_len ps n).symm, _, _, rfl, .inl rfl, rfl⟩, ⟨_, rfl, rfl, rfl, rfl⟩, ⟨_, rfl, rfl, rfl, _, rfl, by (repeat' first | exact trivial | exact rfl | exact ⟨rfl, rfl⟩ | exact .inl rfl | refine ⟨_, rfl, rfl, rfl, ?_⟩ | refine ⟨_, _, rfl, ?_, ?_⟩ | refine ⟨_, rfl, ?_⟩ | refine And.intro ?_ ?_)⟩, trivial⟩ rfl, by show s.length - q5 < s.length - q4; omega⟩
  have h1 : tok s q4 = kClose := h1
  have g4 : numsP s F [] q3 = .inr (ps, nx s q4) := g3.is fun f => by rw [numsP, if_pos h1]
  rw [g4] at hR
  have hR : nodeRd s F q0 = (mustP s kClose (nx s q4)).then fun _ q => (rowsP s F F [] q).then fun rs q => (mustP s kClose q).then fun _ q => .inr (⟨c, ps, rs⟩, q) := hR
  rw [must_nx, ← exp1] at hR
  refine (expect_h g (pn acc) s q4 [kClose] hv hs g1 (by simp)).holds.useN [4] [] rfl (by (repeat' first | exact trivial | exact rfl | exact ⟨rfl, rfl⟩ | exact .inl rfl | refine ⟨_, rfl, rfl, rfl, ?_⟩ | refine ⟨_, _, rfl, ?_, ?_⟩ | refine ⟨_, rfl, ?_⟩ | refine And.intro ?_ ?_)) ⟨_, _, rfl, ⟨rfl, rfl⟩, _, _, rfl, ⟨_, rfl, by decide, rfl⟩, rfl⟩ fun e0 H0 hq => ?_
  rcases hr6 : expectP s [kClose] q4 with p | ⟨⟨⟩, q6⟩
  · rw [hr6] at hq hR
    obtain ⟨rfl, rfl⟩ := hq
    refine ⟨rfl, ?_⟩
    exact ⟨[], [], [], placeX p, ⟨2, []⟩, rfl, ⟨_, rfl, _, _, rfl, rfl, rfl⟩, trivial, by rw [show nodeRd s F q0 = .inl p from hR]; exact ⟨rfl, rfl⟩⟩
  have hq6 := expect_le g1 hr6
  rw [hr6] at hq hR
  obtain ⟨rfl, rfl⟩ := hq
  refine ⟨rfl, ?_⟩
  have hR : nodeRd s F q0 = (rowsP s F F [] q6).then fun rs q => (mustP s kClose q).then fun _ q => .inr (⟨c, ps, rs⟩, q) := hR
  refine ⟨List (List Int) × Nat, fun x => [(0, .ptr 0 0 0), (2, .ptr 2 0 0)], fun x => ⟨4, [(3, rO x.1), (2, ndqO c ps x.1.length), (1, nsO acc), (0, nrO g (pn acc) (nx s x.2) s (tok s x.2))]⟩,
    fun x => x.2 ≤ s.length ∧ x.1.length ≤ x.2 ∧ LInv false q6 (rowsP s F F [] q6) (fun f => rowsP s F f x.1 x.2) s.length x.2 false, fun x => s.length - x.2, ?_, ?_⟩
  · exact ⟨([], q6), ⟨hq6.2, by simp, LInv.init (go := fun f => rowsP s F f [] q6) (F := F) (n := s.length) (by omega)⟩, ent_of [3] [] [(3, 1)] rfl (by (repeat' first | exact trivial | exact rfl | exact ⟨rfl, rfl⟩ | exact .inl rfl | refine ⟨_, rfl, rfl, rfl, ?_⟩ | refine ⟨_, _, rfl, ?_, ?_⟩ | refine ⟨_, rfl, ?_⟩ | refine And.intro ?_ ?_)) ⟨⟨rfl, rfl, rfl⟩, ⟨_, rfl, rfl, rfl, _, rfl, _, _, rfl, rfl, _, _, rfl, ⟨_, rfl, by show 0 + ps.length ≤ (ps.map i64).length; simp, takeAll (by simp)⟩, _, _, rfl, ⟨rfl, rfl, rfl, rfl⟩, rfl⟩, ⟨_, rfl, rfl, rfl, rfl⟩, ⟨_, rfl, rfl, rfl, _, rfl, by (repeat' first | exact trivial | exact rfl | exact ⟨rfl, rfl⟩ | exact .inl rfl | refine ⟨_, rfl, rfl, rfl, ?_⟩ | refine ⟨_, _, rfl, ?_, ?_⟩ | refine ⟨_, rfl, ?_⟩ | refine And.intro ?_ ?_)⟩, trivial⟩ rfl⟩
  rintro ⟨rs, q7⟩ ⟨i1, i2, i3⟩
  simp only [] at i1 i2 i3
  (first | refine brLt (fun h2 => ?_) (fun h2 => ?_) | refine brLe (fun h2 => ?_) (fun h2 => ?_) | refine brEq (fun h2 => ?_) (fun h2 => ?_))
  rotate_left
  · have h2 : ¬ tok s q7 = kOpen := h2
    have hE := expect_h g (pn acc) s q7 [kClose] hv hs i1 (by simp)
    rw [expectP, mustP] at hE
    by_cases h3 : tok s q7 = kClose
    · have g6 : rowsP s F F [] q6 = .inr (rs, nx s q7) := i3.is fun f => by rw [rowsP, if_pos h3]
      rw [g6] at hR
      have hR : nodeRd s F q0 = (mustP s kClose (nx s q7)).then fun _ q => .inr (⟨c, ps, rs⟩, q) := hR
      rw [must_nx, mustP, if_pos h3] at hR
      rw [if_pos h3] at hE
      refine hE.holds.useN [4] [] rfl (by (repeat' first | exact trivial | exact rfl | exact ⟨rfl, rfl⟩ | exact .inl rfl | refine ⟨_, rfl, rfl, rfl, ?_⟩ | refine ⟨_, _, rfl, ?_, ?_⟩ | refine ⟨_, rfl, ?_⟩ | refine And.intro ?_ ?_)) ⟨_, _, rfl, ⟨rfl, rfl⟩, _, _, rfl, ⟨_, rfl, by decide, rfl⟩, rfl⟩ fun e0 H0 hq => ?_
      obtain ⟨rfl, rfl⟩ := hq
      refine ⟨rfl, ?_⟩
      refine VDraw.seq rfl ?_
      refine ⟨by (repeat' first | exact trivial | exact rfl | exact ⟨rfl, rfl⟩ | exact .inl rfl | refine ⟨_, rfl, rfl, rfl, ?_⟩ | refine ⟨_, _, rfl, ?_, ?_⟩ | refine ⟨_, rfl, ?_⟩ | refine And.intro ?_ ?_), ?_⟩
      refine ⟨by show 0 + 1 ≤ 1; omega, [[.p (i64 c), .p (ints ps), .sl 3 1 0 rs.length]], rfl, .inl ⟨[3], [(⟨c, ps, rs⟩ : Nd).cells], rfl, ⟨_, _, rfl, ⟨_, _, rfl, rfl, _, _, rfl, rfl, _, _, rfl, ⟨_, rfl, by show 0 + rs.length ≤ (rs.map ints).length; simp, takeAll (by simp)⟩, rfl⟩, rfl⟩, ?_⟩⟩
      refine ⟨by show 0 + acc.length ≤ (acc.map Nd.cells).length; simp, acc.map Nd.cells, takeAll (by simp), by show (acc.length + 1) * 56 ≤ 140737488355328; omega, (acc ++ [(⟨c, ps, rs⟩ : Nd)]).map Nd.cells, by simp, ?_⟩
      exact ⟨[], [(2, 6)], [], .returned und, ⟨3, [(2, nsO (acc ++ [(⟨c, ps, rs⟩ : Nd)])), (0, nrO g (.sl 2 3 0 (acc.length + 1)) (nx s (te s q7)) s (tok s (te s q7)))]⟩, rfl, by (repeat' first | exact trivial | exact rfl | exact ⟨rfl, rfl⟩ | exact .inl rfl | refine ⟨_, rfl, rfl, rfl, ?_⟩ | refine ⟨_, _, rfl, ?_, ?_⟩ | refine ⟨_, rfl, ?_⟩ | refine And.intro ?_ ?_), ⟨⟨_, rfl, rfl, rfl, rfl⟩, ⟨_, rfl, rfl, rfl, _, rfl, _, _, rfl, rfl, _, _, rfl, rfl, _, _, rfl, rfl, _, _, rfl, rfl, _, _, rfl, rfl, rfl⟩, trivial⟩, by rw [hR]; exact ⟨rfl, rfl⟩⟩
    · have g6 : rowsP s F F [] q6 = .inl (nx s q7) := i3.is fun f => by rw [rowsP, if_neg h3, rowRd, mustP, if_neg h2]; rfl
      rw [g6] at hR
      rw [if_neg h3] at hE
      refine hE.holds.useN [4] [] rfl (by (repeat' first | exact trivial | exact rfl | exact ⟨rfl, rfl⟩ | exact .inl rfl | refine ⟨_, rfl, rfl, rfl, ?_⟩ | refine ⟨_, _, rfl, ?_, ?_⟩ | refine ⟨_, rfl, ?_⟩ | refine And.intro ?_ ?_)) ⟨_, _, rfl, ⟨rfl, rfl⟩, _, _, rfl, ⟨_, rfl, by decide, rfl⟩, rfl⟩ fun e0 H0 hq => ?_
      obtain ⟨rfl, rfl⟩ := hq
      refine ⟨rfl, ?_⟩
      exact ⟨[], [], [], placeX (nx s q7), ⟨2, []⟩, rfl, ⟨_, rfl, _, _, rfl, rfl, rfl⟩, trivial, by rw [show nodeRd s F q0 = .inl (nx s q7) from hR]; exact ⟨rfl, rfl⟩⟩
  have h2 : tok s q7 = kOpen := h2
  have h2c : ¬ tok s q7 = kClose := by rw [h2]; decide
  have hrow : rowRd s F q7 = (numP s (te s q7)).then fun v q => (numsP s F [v] q).then fun l q => (mustP s kClose q).then fun _ q => .inr (l, q) := by rw [rowRd, mustP, if_pos h2]; rfl
  have hte := te_le i1
  have hnxl := nx_le i1
  have hE := expect_h g (pn acc) s q7 [kOpen] hv hs i1 (by simp)
  rw [expectP, mustP, if_pos h2] at hE
  refine hE.holds.useN [4] [] rfl (by (repeat' first | exact trivial | exact rfl | exact ⟨rfl, rfl⟩ | exact .inl rfl | refine ⟨_, rfl, rfl, rfl, ?_⟩ | refine ⟨_, _, rfl, ?_, ?_⟩ | refine ⟨_, rfl, ?_⟩ | refine And.intro ?_ ?_)) ⟨_, _, rfl, ⟨rfl, rfl⟩, _, _, rfl, ⟨_, rfl, by decide, rfl⟩, rfl⟩ fun e0 H0 hq => ?_
  obtain ⟨rfl, rfl⟩ := hq
  refine ⟨rfl, ?_⟩
  refine (take_h g (pn acc) s (te s q7) hv hs hte.2).holds.useN [] [] rfl (by (repeat' first | exact trivial | exact rfl | exact ⟨rfl, rfl⟩ | exact .inl rfl | refine ⟨_, rfl, rfl, rfl, ?_⟩ | refine ⟨_, _, rfl, ?_, ?_⟩ | refine ⟨_, rfl, ?_⟩ | refine And.intro ?_ ?_)) (by (repeat' first | exact trivial | exact rfl | exact ⟨rfl, rfl⟩ | exact .inl rfl | refine ⟨_, rfl, rfl, rfl, ?_⟩ | refine ⟨_, _, rfl, ?_, ?_⟩ | refine ⟨_, rfl, ?_⟩ | refine And.intro ?_ ?_)) fun e0 H0 hq => ?_
  rcases hn8 : numP s (te s q7) with p | ⟨v, q9⟩
  · rw [hn8] at hq
    obtain ⟨rfl, rfl⟩ := hq
    have g6 : rowsP s F F [] q6 = .inl p := i3.is fun f => by rw [rowsP, if_neg h2c, hrow, hn8]; rfl
    rw [g6] at hR
    refine ⟨rfl, ?_⟩
    exact ⟨[], [], [], placeX p, ⟨2, []⟩, rfl, ⟨_, rfl, _, _, rfl, rfl, rfl⟩, trivial, by rw [show nodeRd s F q0 = .inl p from hR]; exact ⟨rfl, rfl⟩⟩
  have hq9 := num_lt hte.2 hn8
  rw [hn8] at hq hrow
  obtain ⟨rfl, rfl⟩ := hq
  have hrow : rowRd s F q7 = (numsP s F [v] q9).then fun l q => (mustP s kClose q).then fun _ q => .inr (l, q) := hrow
  refine ⟨rfl, ?_⟩
  refine ⟨List Int × Nat, fun x => [(0, .ptr 0 0 0), (2, .ptr 2 0 0), (3, .sl 4 1 0 x.1.length)], fun x => ⟨5, [(4, iO x.1), (3, rO rs), (2, ndqO c ps rs.length), (1, nsO acc), (0, nrO g (pn acc) (nx s x.2) s (tok s x.2))]⟩,
    fun x => q9 ≤ x.2 ∧ x.2 ≤ s.length ∧ x.1.length ≤ x.2 ∧ LInv false q9 (numsP s F [v] q9) (fun f => numsP s f x.1 x.2) s.length x.2 false, fun x => s.length - x.2, ?_, ?_⟩
  · exact ⟨([v], q9), ⟨Nat.le_refl _, hq9.2, by show 1 ≤ q9; omega, LInv.init (go := fun f => numsP s f [v] q9) (F := F) (n := s.length) (by omega)⟩, ent_of [] [(4, 5)] [] rfl (by (repeat' first | exact trivial | exact rfl | exact ⟨rfl, rfl⟩ | exact .inl rfl | refine ⟨_, rfl, rfl, rfl, ?_⟩ | refine ⟨_, _, rfl, ?_, ?_⟩ | refine ⟨_, rfl, ?_⟩ | refine And.intro ?_ ?_)) ⟨⟨_, rfl, rfl, rfl, rfl⟩, ⟨_, rfl, rfl, rfl, rfl⟩, ⟨_, rfl, rfl, rfl, _, rfl, by (repeat' first | exact trivial | exact rfl | exact ⟨rfl, rfl⟩ | exact .inl rfl | refine ⟨_, rfl, rfl, rfl, ?_⟩ | refine ⟨_, _, rfl, ?_, ?_⟩ | refine ⟨_, rfl, ?_⟩ | refine And.intro ?_ ?_)⟩, ⟨_, rfl, rfl, rfl, rfl⟩, ⟨_, rfl, rfl, rfl, _, rfl, by (repeat' first | exact trivial | exact rfl | exact ⟨rfl, rfl⟩ | exact .inl rfl | refine ⟨_, rfl, rfl, rfl, ?_⟩ | refine ⟨_, _, rfl, ?_, ?_⟩ | refine ⟨_, rfl, ?_⟩ | refine And.intro ?_ ?_)⟩, trivial⟩ rfl⟩
  rintro ⟨row, q10⟩ ⟨l0, l1, l2, l3⟩
  simp only [] at l0 l1 l2 l3
  (first | refine brLt (fun h4 => ?_) (fun h4 => ?_) | refine brLe (fun h4 => ?_) (fun h4 => ?_) | refine brEq (fun h4 => ?_) (fun h4 => ?_))
  rotate_left
  · have h4 : ¬ tok s q10 = kClose := h4
    refine (take_h g (pn acc) s q10 hv hs l1).holds.useN [] [] rfl (by (repeat' first | exact trivial | exact rfl | exact ⟨rfl, rfl⟩ | exact .inl rfl | refine ⟨_, rfl, rfl, rfl, ?_⟩ | refine ⟨_, _, rfl, ?_, ?_⟩ | refine ⟨_, rfl, ?_⟩ | refine And.intro ?_ ?_)) (by (repeat' first | exact trivial | exact rfl | exact ⟨rfl, rfl⟩ | exact .inl rfl | refine ⟨_, rfl, rfl, rfl, ?_⟩ | refine ⟨_, _, rfl, ?_, ?_⟩ | refine ⟨_, rfl, ?_⟩ | refine And.intro ?_ ?_)) fun e0 H0 hq => ?_
    rcases hn10 : numP s q10 with p | ⟨n, q11⟩
    · rw [hn10] at hq
      obtain ⟨rfl, rfl⟩ := hq
      have g4 : numsP s F [v] q9 = .inl p := l3.is fun f => by rw [numsP, if_neg h4, hn10]; rfl
      rw [g4] at hrow
      have g6 : rowsP s F F [] q6 = .inl p := i3.is fun f => by rw [rowsP, if_neg h2c, hrow]; rfl
      rw [g6] at hR
      refine ⟨rfl, ?_⟩
      exact ⟨[], [], [], placeX p, ⟨2, []⟩, rfl, ⟨_, rfl, _, _, rfl, rfl, rfl⟩, trivial, by rw [show nodeRd s F q0 = .inl p from hR]; exact ⟨rfl, rfl⟩⟩
    have hq11 := num_lt l1 hn10
    rw [hn10] at hq
    obtain ⟨rfl, rfl⟩ := hq
    refine ⟨rfl, ?_⟩
    refine ⟨by show 0 + 1 ≤ 1; omega, [i64 n], rfl, ?_⟩
    refine ⟨by show 0 + row.length ≤ (row.map i64).length; simp, row.map i64, takeAll (by simp), by show (row.length + 1) * 8 ≤ 140737488355328; omega, (row ++ [n]).map i64, by simp, ?_⟩
    exact ⟨(row ++ [n], q11), ⟨by simp only []; omega, hq11.2, by simp only [snoc_len]; omega, l3.nxt (fun f => by rw [numsP, if_neg h4, hn10]; rfl) hq11.1 hq11.2⟩, ent_of [] [(4, 6)] [] rfl ⟨⟨rfl, rfl⟩, ⟨rfl, rfl⟩, congrArg (fun m => AV.sl 6 1 0 m) (snoc_len row n).symm, trivial⟩ ⟨⟨_, rfl, rfl, rfl, rfl⟩, ⟨_, rfl, rfl, rfl, rfl⟩, ⟨_, rfl, rfl, rfl, _, rfl, by (repeat' first | exact trivial | exact rfl | exact ⟨rfl, rfl⟩ | exact .inl rfl | refine ⟨_, rfl, rfl, rfl, ?_⟩ | refine ⟨_, _, rfl, ?_, ?_⟩ | refine ⟨_, rfl, ?_⟩ | refine And.intro ?_ ?_)⟩, ⟨_, rfl, rfl, rfl, rfl⟩, ⟨_, rfl, rfl, rfl, _, rfl, by (repeat' first | exact trivial | exact rfl | exact ⟨rfl, rfl⟩ | exact .inl rfl | refine ⟨_, rfl, rfl, rfl, ?_⟩ | refine ⟨_, _, rfl, ?_, ?_⟩ | refine ⟨_, rfl, ?_⟩ | refine And.intro ?_ ?_)⟩, trivial⟩ rfl, by show s.length - q11 < s.length - q10; omega⟩
  have h4 : tok s q10 = kClose := h4
  have g4 : numsP s F [v] q9 = .inr (row, nx s q10) := l3.is fun f => by rw [numsP, if_pos h4]
  have hte2 := te_le l1
  have hnx2 := nx_le l1
  rw [g4] at hrow
  have hrow : rowRd s F q7 = (mustP s kClose (nx s q10)).then fun _ q => .inr (row, q) := hrow
  rw [must_nx, mustP, if_pos h4] at hrow
  have hrow : rowRd s F q7 = .inr (row, te s q10) := hrow
  have hE2 := expect_h g (pn acc) s q10 [kClose] hv hs l1 (by simp)
  rw [expectP, mustP, if_pos h4] at hE2
  refine hE2.holds.useN [5] [] rfl (by (repeat' first | exact trivial | exact rfl | exact ⟨rfl, rfl⟩ | exact .inl rfl | refine ⟨_, rfl, rfl, rfl, ?_⟩ | refine ⟨_, _, rfl, ?_, ?_⟩ | refine ⟨_, rfl, ?_⟩ | refine And.intro ?_ ?_)) ⟨_, _, rfl, ⟨rfl, rfl⟩, _, _, rfl, ⟨_, rfl, by decide, rfl⟩, rfl⟩ fun e0 H0 hq => ?_
  obtain ⟨rfl, rfl⟩ := hq
  refine ⟨rfl, ?_⟩
  refine .inl ⟨[4], [ints row], rfl, ⟨_, _, rfl, ⟨row.map i64, rfl, by show 0 + row.length ≤ (row.map i64).length; simp, takeAll (by simp)⟩, rfl⟩, ?_⟩
  refine ⟨by show 0 + rs.length ≤ (rs.map ints).length; simp, rs.map ints, takeAll (by simp), by show (rs.length + 1) * 24 ≤ 140737488355328; omega, (rs ++ [row]).map ints, by simp, ?_⟩
  exact ⟨(rs ++ [row], te s q10), ⟨hte2.2, by simp only [snoc_len]; omega, i3.nxt (fun f => by rw [rowsP, if_neg h2c, hrow]; rfl) (by omega) hte2.2⟩, ent_of [] [(3, 7)] [] rfl (by (repeat' first | exact trivial | exact rfl | exact ⟨rfl, rfl⟩ | exact .inl rfl | refine ⟨_, rfl, rfl, rfl, ?_⟩ | refine ⟨_, _, rfl, ?_, ?_⟩ | refine ⟨_, rfl, ?_⟩ | refine And.intro ?_ ?_)) ⟨⟨_, rfl, rfl, rfl, rfl⟩, ⟨_, rfl, rfl, rfl, _, rfl, _, _, rfl, rfl, _, _, rfl, rfl, _, _, rfl, congrArg (fun m => AV.sl 7 1 0 m) (snoc_len rs row).symm, rfl⟩, ⟨_, rfl, rfl, rfl, rfl⟩, ⟨_, rfl, rfl, rfl, _, rfl, by (repeat' first | exact trivial | exact rfl | exact ⟨rfl, rfl⟩ | exact .inl rfl | refine ⟨_, rfl, rfl, rfl, ?_⟩ | refine ⟨_, _, rfl, ?_, ?_⟩ | refine ⟨_, rfl, ?_⟩ | refine And.intro ?_ ?_)⟩, trivial⟩ rfl, by show s.length - te s q10 < s.length - q7; omega⟩
end Go.Proofs.YtphmmoloegjocaaDoor

/- The program's nested reader: read. -/
namespace Go.Proofs.YtphmmoloegjocaaDoor
open Go Y
set_option maxRecDepth 100000
set_option maxHeartbeats 40000000

def netQ (s : List UInt8) (r : Rd Nt) (e : AE) (H' : Hp) : Prop := match r with
  | .inl p => e = placeX p ∧ H' = ⟨1, []⟩
  | .inr (n, _) => ∃ p t, e = .returned und ∧ H' = ⟨2, [(1, nsO n.nodes), (0, nrO n.grain (.sl 1 3 0 n.nodes.length) p s t)]⟩
theorem then_inr {α β : Type} {r : Rd α} {k : α → Nat → Rd β} {y : β × Nat} (h : r.then k = .inr y) : ∃ a p, r = .inr (a, p) ∧ k a p = .inr y := by
  rcases r with e | ⟨a, p⟩
  · cases h
  · exact ⟨a, p, rfl, h⟩
theorem must_le {s w : List UInt8} {q : Nat} {u : Unit} {q' : Nat} (hq : q ≤ s.length) (h : mustP s w q = .inr (u, q')) : q ≤ q' ∧ q' ≤ s.length := by
  rw [mustP] at h
  have h1 := nx_le hq
  have h2 := te_le hq
  split at h
  · cases h; omega
  · cases h
theorem nums_le {s : List UInt8} : ∀ {f : Nat} {acc l : List Int} {q q' : Nat}, q ≤ s.length → numsP s f acc q = .inr (l, q') → q ≤ q' ∧ q' ≤ s.length
  | 0, _, _, _, _, _, h => by cases h
  | f + 1, acc, l, q, q', hq, h => by
    rw [numsP] at h
    split at h
    · cases h; exact nx_le hq
    · obtain ⟨n, p, h1, h2⟩ := then_inr h
      have := num_lt hq h1
      have := nums_le this.2 h2
      omega
theorem row_le {s : List UInt8} {F : Nat} {l : List Int} {q q' : Nat} (hq : q ≤ s.length) (h : rowRd s F q = .inr (l, q')) : q ≤ q' ∧ q' ≤ s.length := by
  rw [rowRd] at h
  obtain ⟨_, p1, h1, h⟩ := then_inr h
  have a1 := must_le hq h1
  obtain ⟨_, p2, h2, h⟩ := then_inr h
  have a2 := num_lt a1.2 h2
  obtain ⟨_, p3, h3, h⟩ := then_inr h
  have a3 := nums_le a2.2 h3
  obtain ⟨_, p4, h4, h⟩ := then_inr h
  have a4 := must_le a3.2 h4
  cases h
  omega
theorem rows_le {s : List UInt8} {F : Nat} : ∀ {f : Nat} {acc l : List (List Int)} {q q' : Nat}, q ≤ s.length → rowsP s F f acc q = .inr (l, q') → q ≤ q' ∧ q' ≤ s.length
  | 0, _, _, _, _, _, h => by cases h
  | f + 1, acc, l, q, q', hq, h => by
    rw [rowsP] at h
    split at h
    · cases h; exact nx_le hq
    · obtain ⟨n, p, h1, h2⟩ := then_inr h
      have := row_le hq h1
      have := rows_le this.2 h2
      omega
theorem node_lt {s : List UInt8} {F q : Nat} {x : Nd} {q' : Nat} (hq : q ≤ s.length) (_hF : s.length < F) (h : nodeRd s F q = .inr (x, q')) : q < q' ∧ q' ≤ s.length := by
  rw [nodeRd] at h
  obtain ⟨_, p1, h1, h⟩ := then_inr h
  have a1 := must_le hq h1
  obtain ⟨_, p2, h2, h⟩ := then_inr h
  have a2 := must_le a1.2 h2
  obtain ⟨_, p3, h3, h⟩ := then_inr h
  have a3 := num_lt a2.2 h3
  obtain ⟨_, p4, h4, h⟩ := then_inr h
  rw [lstP] at h4
  obtain ⟨_, p5, h5, h4⟩ := then_inr h4
  have a5 := must_le a3.2 h5
  obtain ⟨_, p6, h6, h4⟩ := then_inr h4
  have a6 := nums_le a5.2 h6
  obtain ⟨_, p7, h7, h4⟩ := then_inr h4
  have a7 := must_le a6.2 h7
  cases h4
  obtain ⟨_, p8, h8, h⟩ := then_inr h
  have a8 := rows_le a7.2 h8
  obtain ⟨_, p9, h9, h⟩ := then_inr h
  have a9 := must_le a8.2 h9
  cases h
  omega
theorem read_p (s : List UInt8) (F : Nat) (hF : s.length < F) (hs : s.length ≤ 100000) : HoldsG cx 104 [.ptr 0 0 0, .p (.str s)] ⟨1, [(0, nrO 0 (.p .nils) 0 [] [])]⟩ (netQ s (netP s F)) := by
  refine holdsN_of_vc Tryd.func104 rfl rfl rfl ?_
  have hv : Self 2 (.p .nils) := self_nil 2
  refine (next_h 0 (.p .nils) 0 s [] 0 hv rfl hs (by omega)).useE [] [(1, 0)] rfl (by (repeat' first | exact trivial | exact rfl | exact ⟨rfl, rfl⟩ | exact .inl rfl | refine ⟨_, rfl, rfl, rfl, ?_⟩ | refine ⟨_, _, rfl, ?_, ?_⟩ | refine ⟨_, rfl, ?_⟩ | refine And.intro ?_ ?_)) (by (repeat' first | exact trivial | exact rfl | exact ⟨rfl, rfl⟩ | exact .inl rfl | refine ⟨_, rfl, rfl, rfl, ?_⟩ | refine ⟨_, _, rfl, ?_, ?_⟩ | refine ⟨_, rfl, ?_⟩ | refine And.intro ?_ ?_)) ?_
  have hR : netP s F = (expectP s [kOpen, kNet] 0).then fun _ q => (numP s q).then fun g q => (nodesP s F F [] q).then fun l q => (mustP s kClose q).then fun _ q => if tok s q = [] then .inr (⟨g, l⟩, q) else .inl (nx s q) := by rw [exp2]; rfl
  refine (expect_h 0 (.p .nils) s 0 [kOpen, kNet] hv hs (by omega) (by simp)).holds.useN [1] [(1, 0)] rfl (by (repeat' first | exact trivial | exact rfl | exact ⟨rfl, rfl⟩ | exact .inl rfl | refine ⟨_, rfl, rfl, rfl, ?_⟩ | refine ⟨_, _, rfl, ?_, ?_⟩ | refine ⟨_, rfl, ?_⟩ | refine And.intro ?_ ?_)) ⟨_, _, rfl, ⟨rfl, rfl⟩, _, _, rfl, ⟨_, rfl, by decide, rfl⟩, rfl⟩ fun e0 H0 hq => ?_
  rcases hr : expectP s [kOpen, kNet] 0 with p | ⟨⟨⟩, q1⟩
  · rw [hr] at hq hR
    obtain ⟨rfl, rfl⟩ := hq
    refine ⟨rfl, ?_⟩
    exact ⟨[], [], [], placeX p, ⟨1, []⟩, rfl, ⟨_, rfl, _, _, rfl, rfl, rfl⟩, trivial, by rw [show netP s F = .inl p from hR]; exact ⟨rfl, rfl⟩⟩
  have hq1 := expect_le (by omega) hr
  rw [hr] at hq hR
  obtain ⟨rfl, rfl⟩ := hq
  refine ⟨rfl, ?_⟩
  have hR : netP s F = (numP s q1).then fun g q => (nodesP s F F [] q).then fun l q => (mustP s kClose q).then fun _ q => if tok s q = [] then .inr (⟨g, l⟩, q) else .inl (nx s q) := hR
  refine (take_h 0 (.p .nils) s q1 hv hs hq1.2).holds.useN [] [(1, 0)] rfl (by (repeat' first | exact trivial | exact rfl | exact ⟨rfl, rfl⟩ | exact .inl rfl | refine ⟨_, rfl, rfl, rfl, ?_⟩ | refine ⟨_, _, rfl, ?_, ?_⟩ | refine ⟨_, rfl, ?_⟩ | refine And.intro ?_ ?_)) (by (repeat' first | exact trivial | exact rfl | exact ⟨rfl, rfl⟩ | exact .inl rfl | refine ⟨_, rfl, rfl, rfl, ?_⟩ | refine ⟨_, _, rfl, ?_, ?_⟩ | refine ⟨_, rfl, ?_⟩ | refine And.intro ?_ ?_)) fun e0 H0 hq => ?_
  rcases hn : numP s q1 with p | ⟨g, q2⟩
  · rw [hn] at hq hR
    obtain ⟨rfl, rfl⟩ := hq
    refine ⟨rfl, ?_⟩
    exact ⟨[], [], [], placeX p, ⟨1, []⟩, rfl, ⟨_, rfl, _, _, rfl, rfl, rfl⟩, trivial, by rw [show netP s F = .inl p from hR]; exact ⟨rfl, rfl⟩⟩
  have hq2 := num_lt hq1.2 hn
  rw [hn] at hq hR
  obtain ⟨rfl, rfl⟩ := hq
  refine ⟨rfl, ?_⟩
  have hR : netP s F = (nodesP s F F [] q2).then fun l q => (mustP s kClose q).then fun _ q => if tok s q = [] then .inr (⟨g, l⟩, q) else .inl (nx s q) := hR
  refine ⟨List Nd × Nat, fun _ => [(0, .ptr 0 0 0)], fun x => ⟨2, [(1, nsO x.1), (0, nrO g (pn x.1) (nx s x.2) s (tok s x.2))]⟩,
    fun x => x.2 ≤ s.length ∧ x.1.length ≤ x.2 ∧ LInv false q2 (nodesP s F F [] q2) (fun f => nodesP s F f x.1 x.2) s.length x.2 false, fun x => s.length - x.2, ?_, ?_⟩
  · exact ⟨([], q2), ⟨hq2.2, by simp, LInv.init (go := fun f => nodesP s F f [] q2) (F := F) (n := s.length) (by omega)⟩, ent_of [] [] [(1, 3)] rfl (by (repeat' first | exact trivial | exact rfl | exact ⟨rfl, rfl⟩ | exact .inl rfl | refine ⟨_, rfl, rfl, rfl, ?_⟩ | refine ⟨_, _, rfl, ?_, ?_⟩ | refine ⟨_, rfl, ?_⟩ | refine And.intro ?_ ?_)) ⟨⟨rfl, rfl⟩, ⟨_, rfl, rfl, rfl, _, rfl, _, _, rfl, rfl, _, _, rfl, ⟨rfl, rfl, rfl, rfl⟩, _, _, rfl, rfl, _, _, rfl, rfl, _, _, rfl, rfl, rfl⟩, trivial⟩ rfl⟩
  rintro ⟨l, q⟩ ⟨g1, g2, g3⟩
  simp only [] at g1 g2 g3
  have hv' : Self 2 (pn l) := self_sl (by omega)
  (first | refine brLt (fun h1 => ?_) (fun h1 => ?_) | refine brLe (fun h1 => ?_) (fun h1 => ?_) | refine brEq (fun h1 => ?_) (fun h1 => ?_))
  · have h1 : tok s q = kOpen := h1
    have h1c : ¬ tok s q = kClose := by rw [h1]; decide
    refine (node_p g s F q l hF hs g1 (by omega)).holds.mono fun e H' hq => ?_
    rcases hx : nodeRd s F q with p | ⟨x, q'⟩
    · rw [hx] at hq
      obtain ⟨rfl, rfl⟩ := hq
      have g4 : nodesP s F F [] q2 = .inl p := g3.is fun f => by rw [nodesP, if_neg h1c, hx]; rfl
      rw [g4] at hR
      exact ⟨[], [], [], placeX p, ⟨1, []⟩, rfl, ⟨_, rfl, _, _, rfl, rfl, rfl⟩, trivial, by rw [show netP s F = .inl p from hR]; exact ⟨rfl, rfl⟩⟩
    have hx' := node_lt g1 hF hx
    rw [hx] at hq
    obtain ⟨rfl, rfl⟩ := hq
    exact ⟨(l ++ [x], q'), ⟨hx'.2, by simp only [snoc_len]; omega, g3.nxt (fun f => by rw [nodesP, if_neg h1c, hx]; rfl) hx'.1 hx'.2⟩, ent_of [] [(1, 2)] [] rfl (by (repeat' first | exact trivial | exact rfl | exact ⟨rfl, rfl⟩ | exact .inl rfl | refine ⟨_, rfl, rfl, rfl, ?_⟩ | refine ⟨_, _, rfl, ?_, ?_⟩ | refine ⟨_, rfl, ?_⟩ | refine And.intro ?_ ?_)) ⟨⟨_, rfl, rfl, rfl, rfl⟩, ⟨_, rfl, rfl, rfl, _, rfl, _, _, rfl, rfl, _, _, rfl, congrArg (fun m => AV.sl 2 3 0 m) (snoc_len l x).symm, _, _, rfl, rfl, _, _, rfl, rfl, _, _, rfl, rfl, rfl⟩, trivial⟩ rfl, by show s.length - q' < s.length - q; omega⟩
  have h1 : ¬ tok s q = kOpen := h1
  have hE := expect_h g (pn l) s q [kClose] hv' hs g1 (by simp)
  rw [expectP, mustP] at hE
  by_cases h3 : tok s q = kClose
  · have g6 : nodesP s F F [] q2 = .inr (l, nx s q) := g3.is fun f => by rw [nodesP, if_pos h3]
    rw [g6] at hR
    have hR : netP s F = (mustP s kClose (nx s q)).then fun _ q => if tok s q = [] then .inr (⟨g, l⟩, q) else .inl (nx s q) := hR
    rw [must_nx, mustP, if_pos h3] at hR
    have hR : netP s F = if tok s (te s q) = [] then .inr (⟨g, l⟩, te s q) else .inl (nx s (te s q)) := hR
    rw [if_pos h3] at hE
    refine hE.holds.useN [2] [] rfl (by (repeat' first | exact trivial | exact rfl | exact ⟨rfl, rfl⟩ | exact .inl rfl | refine ⟨_, rfl, rfl, rfl, ?_⟩ | refine ⟨_, _, rfl, ?_, ?_⟩ | refine ⟨_, rfl, ?_⟩ | refine And.intro ?_ ?_)) ⟨_, _, rfl, ⟨rfl, rfl⟩, _, _, rfl, ⟨_, rfl, by decide, rfl⟩, rfl⟩ fun e0 H0 hq => ?_
    obtain ⟨rfl, rfl⟩ := hq
    refine ⟨rfl, ?_⟩
    (first | refine brLt (fun h4 => ?_) (fun h4 => ?_) | refine brLe (fun h4 => ?_) (fun h4 => ?_) | refine brEq (fun h4 => ?_) (fun h4 => ?_))
    · have h4 : tok s (te s q) = [] := h4
      rw [if_pos h4] at hR
      exact ⟨[], [], [], .returned und, ⟨2, [(1, nsO l), (0, nrO g (pn l) (nx s (te s q)) s (tok s (te s q)))]⟩, rfl, by (repeat' first | exact trivial | exact rfl | exact ⟨rfl, rfl⟩ | exact .inl rfl | refine ⟨_, rfl, rfl, rfl, ?_⟩ | refine ⟨_, _, rfl, ?_, ?_⟩ | refine ⟨_, rfl, ?_⟩ | refine And.intro ?_ ?_), ⟨⟨_, rfl, rfl, rfl, rfl⟩, ⟨_, rfl, rfl, rfl, _, rfl, by (repeat' first | exact trivial | exact rfl | exact ⟨rfl, rfl⟩ | exact .inl rfl | refine ⟨_, rfl, rfl, rfl, ?_⟩ | refine ⟨_, _, rfl, ?_, ?_⟩ | refine ⟨_, rfl, ?_⟩ | refine And.intro ?_ ?_)⟩, trivial⟩, by rw [hR]; exact ⟨_, _, rfl, rfl⟩⟩
    · have h4 : ¬ tok s (te s q) = [] := h4
      rw [if_neg h4] at hR
      refine (fail_h TNs g (pn l) (nx s (te s q)) [.str s, .str (tok s (te s q))]).holds.useN [] [] rfl (by (repeat' first | exact trivial | exact rfl | exact ⟨rfl, rfl⟩ | exact .inl rfl | refine ⟨_, rfl, rfl, rfl, ?_⟩ | refine ⟨_, _, rfl, ?_, ?_⟩ | refine ⟨_, rfl, ?_⟩ | refine And.intro ?_ ?_)) (by (repeat' first | exact trivial | exact rfl | exact ⟨rfl, rfl⟩ | exact .inl rfl | refine ⟨_, rfl, rfl, rfl, ?_⟩ | refine ⟨_, _, rfl, ?_, ?_⟩ | refine ⟨_, rfl, ?_⟩ | refine And.intro ?_ ?_)) fun e0 H0 hq => ?_
      obtain ⟨rfl, rfl⟩ := hq
      refine ⟨rfl, ?_⟩
      exact ⟨[], [], [], placeX (nx s (te s q)), ⟨1, []⟩, rfl, ⟨_, rfl, _, _, rfl, rfl, rfl⟩, trivial, by rw [show netP s F = .inl (nx s (te s q)) from hR]; exact ⟨rfl, rfl⟩⟩
  · have g6 : nodesP s F F [] q2 = .inl (nx s q) := g3.is fun f => by rw [nodesP, if_neg h3, nodeRd, mustP, if_neg h1]; rfl
    rw [g6] at hR
    rw [if_neg h3] at hE
    refine hE.holds.useN [2] [] rfl (by (repeat' first | exact trivial | exact rfl | exact ⟨rfl, rfl⟩ | exact .inl rfl | refine ⟨_, rfl, rfl, rfl, ?_⟩ | refine ⟨_, _, rfl, ?_, ?_⟩ | refine ⟨_, rfl, ?_⟩ | refine And.intro ?_ ?_)) ⟨_, _, rfl, ⟨rfl, rfl⟩, _, _, rfl, ⟨_, rfl, by decide, rfl⟩, rfl⟩ fun e0 H0 hq => ?_
    obtain ⟨rfl, rfl⟩ := hq
    refine ⟨rfl, ?_⟩
    exact ⟨[], [], [], placeX (nx s q), ⟨1, []⟩, rfl, ⟨_, rfl, _, _, rfl, rfl, rfl⟩, trivial, by rw [show netP s F = .inl (nx s q) from hR]; exact ⟨rfl, rfl⟩⟩
end Go.Proofs.YtphmmoloegjocaaDoor
