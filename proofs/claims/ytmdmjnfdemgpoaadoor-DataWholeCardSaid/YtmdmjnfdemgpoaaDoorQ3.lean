/- Part 3 of the proof: Db Dc Dd De Df Dg Dh Di Ba Dj Bb Dk Dl Dm Dn Do -/
import Derived.Lib.MakeNoZero
import Derived.Laws.Externs
import Derived.Lib.Bytealg
import Derived.Test.YtmdmjnfdemgpoaaDoorQ2
/- Data: Check, lists of variables, indices. -/
namespace Go.Proofs.YtmdmjnfdemgpoaaDoor
open Go Y
set_option maxRecDepth 100000
set_option maxHeartbeats 4000000

def checkD (d : Dt) : Int := if rightP d then 0 else 250
theorem check_c (d : Dt) (hd : Sm7 d) : Pure cx 20 [d.pv] (· = .ret [i64 (checkD d)]) := by
  refine pure_of_vc Tryd.func20 rfl rfl rfl ?_
  obtain ⟨cs, xs⟩ := d
  obtain ⟨d1, d2, d3⟩ := hd
  simp only [] at d1 d2 d3
  have no : ¬ rightP ⟨cs, xs⟩ → PEnd.ret [i64 250] = .ret [i64 (checkD ⟨cs, xs⟩)] := fun h => by rw [checkD, if_neg h]
  have yes : rightP ⟨cs, xs⟩ → PEnd.ret [i64 0] = .ret [i64 (checkD ⟨cs, xs⟩)] := fun h => by rw [checkD, if_pos h]
  refine And.intro (fun h1 => ?_) (fun h1 => ?_)
  · have h1 : ((cs.map i64).length : Int) < 1 := h1
    rw [List.length_map] at h1
    exact end1 _ rfl rfl (no fun h => by have := h.1.1; simp only [] at this; omega)
  have h1 : ¬ ((cs.map i64).length : Int) < 1 := h1
  rw [List.length_map] at h1
  refine And.intro (fun h2 => ?_) (fun h2 => ?_)
  · have h2 : 6 < ((cs.map i64).length : Int) := h2
    rw [List.length_map] at h2
    exact end1 _ rfl rfl (no fun h => by have := h.1.2.1; simp only [] at this; omega)
  have h2 : ¬ 6 < ((cs.map i64).length : Int) := h2
  rw [List.length_map] at h2
  refine And.intro (fun h3 => ?_) (fun h3 => ?_)
  · have h3 : 40 < ((xs.map ints).length : Int) := h3
    rw [List.length_map] at h3
    exact end1 _ rfl rfl (no fun h => by have := h.1.2.2; simp only [] at this; omega)
  have h3 : ¬ 40 < ((xs.map ints).length : Int) := h3
  rw [List.length_map] at h3
  refine ⟨Nat × Int, fun x => [(1, .ptr 0 0 0), (3, .p (i64 x.2)), (28, .p (ints cs)), (29, .p (i64 cs.length)), (30, .p (i64 x.1))], fun _ => ⟨1, [(0, dtO ⟨cs, xs⟩)]⟩, fun x => PrI cs x.1 x.2, fun x => cs.length - x.1, ?_, ?_⟩
  · exact ⟨(0, 1), PrI.zero cs, ent_of [] [] [] rfl ⟨⟨rfl, rfl⟩, rfl, rfl, lenI cs, rfl, trivial⟩ (by (repeat' first | exact trivial | exact rfl | exact ⟨rfl, rfl⟩ | exact .inl rfl | refine ⟨_, rfl, rfl, rfl, ?_⟩ | refine ⟨_, _, rfl, ?_, ?_⟩ | refine ⟨_, rfl, ?_⟩ | refine And.intro ?_ ?_)) rfl⟩
  rintro ⟨k, p⟩ g
  simp only [] at g
  have gk := g.kl
  have gle := g.le (by omega)
  have glo := g.lo
  refine And.intro (fun h4 => ?_) (fun h4 => ?_)
  · have h4 : (k : Int) < (cs.length : Nat) := h4
    have hk : k < cs.length := by omega
    refine ⟨_, ⟨by omega, i64 (cs.getD k 0), icell hk, rfl⟩, ?_⟩
    have hmem := getD_memL 0 hk
    refine And.intro (fun h5 => ?_) (fun h5 => ?_)
    · have h5 : cs.getD k 0 < 2 := h5
      exact end1 _ rfl rfl (no fun h => by have := (h.2.1 _ hmem).1; omega)
    · have h5 : ¬ cs.getD k 0 < 2 := h5
      refine And.intro (fun h6 => ?_) (fun h6 => ?_)
      · have h6 : 4 < cs.getD k 0 := h6
        exact end1 _ rfl rfl (no fun h => by have := (h.2.1 _ hmem).2; omega)
      · have h6 : ¬ 4 < cs.getD k 0 := h6
        have g' := g.next hk ⟨by omega, by omega⟩
        have gle' := g'.le (by omega)
        have glo' := g'.lo
        refine ⟨p * cs.getD k 0, wrap_i64 (by omega) (by omega), ?_⟩
        refine ⟨(k : Int) + 1, wrap_i64 (by omega) (by omega), ?_⟩
        exact ⟨(k + 1, p * cs.getD k 0), g', ent_of [] [] [] rfl (by (repeat' first | exact trivial | exact rfl | exact ⟨rfl, rfl⟩ | exact .inl rfl | refine ⟨_, rfl, rfl, rfl, ?_⟩ | refine ⟨_, _, rfl, ?_, ?_⟩ | refine ⟨_, rfl, ?_⟩ | refine And.intro ?_ ?_)) (by (repeat' first | exact trivial | exact rfl | exact ⟨rfl, rfl⟩ | exact .inl rfl | refine ⟨_, rfl, rfl, rfl, ?_⟩ | refine ⟨_, _, rfl, ?_, ?_⟩ | refine ⟨_, rfl, ?_⟩ | refine And.intro ?_ ?_)) rfl, by simp only []; omega⟩
  · have h4 : ¬ (k : Int) < (cs.length : Nat) := h4
    have hall := g.ok
    have hp := g.pe
    rw [take_all (by omega)] at hall hp
    refine And.intro (fun h6 => ?_) (fun h6 => ?_)
    · have h6 : 1024 < p := h6
      exact end1 _ rfl rfl (no fun h => by have := h.2.2.2; simp only [] at this; rw [← hp] at this; omega)
    have h6 : ¬ 1024 < p := h6
    refine ⟨Nat, fun j => [(1, .ptr 0 0 0), (6, .p (i64 0)), (47, .p (.lst (xs.map ints))), (48, .p (i64 xs.length)), (49, .p (i64 j))], fun _ => ⟨1, [(0, dtO ⟨cs, xs⟩)]⟩, fun j => j ≤ xs.length ∧ ∀ c ∈ xs.take j, okCase cs c, fun j => xs.length - j, ?_, ?_⟩
    · exact ⟨0, ⟨by omega, by simp⟩, ent_of [] [] [] rfl ⟨⟨rfl, rfl⟩, rfl, rfl, lenC xs, rfl, trivial⟩ (by (repeat' first | exact trivial | exact rfl | exact ⟨rfl, rfl⟩ | exact .inl rfl | refine ⟨_, rfl, rfl, rfl, ?_⟩ | refine ⟨_, _, rfl, ?_, ?_⟩ | refine ⟨_, rfl, ?_⟩ | refine And.intro ?_ ?_)) rfl⟩
    rintro j ⟨j1, j2⟩
    refine And.intro (fun h5 => ?_) (fun h5 => ?_)
    · have h5 : (j : Int) < (xs.length : Nat) := h5
      have hj : j < xs.length := by omega
      obtain ⟨c, hc⟩ : ∃ c, c = xs.getD j [] := ⟨_, rfl⟩
      have hcm : c ∈ xs := by rw [hc]; exact getD_memL [] hj
      have hcl := d3 c hcm
      refine ⟨_, ⟨by omega, ints c, by rw [hc]; exact ccell hj, rfl⟩, ?_⟩
      refine And.intro (fun h6 => ?_) (fun h6 => ?_)
      · have h6 : ((c.map i64).length : Int) = ((cs.map i64).length : Nat) := h6
        rw [List.length_map, List.length_map] at h6
        refine ⟨Nat, fun v => [(1, .ptr 0 0 0), (6, .p (i64 0)), (47, .p (.lst (xs.map ints))), (48, .p (i64 xs.length)), (49, .p (i64 j)), (59, .p (ints c)), (60, .p (i64 c.length)), (61, .p (i64 v))], fun _ => ⟨1, [(0, dtO ⟨cs, xs⟩)]⟩, fun v => v ≤ cs.length ∧ ∀ i, i < v → -1 ≤ c.getD i 0 ∧ c.getD i 0 < cs.getD i 0, fun v => cs.length - v, ?_, ?_⟩
        · exact ⟨0, ⟨by omega, fun i hi => by omega⟩, ent_of [] [] [] rfl ⟨⟨rfl, rfl⟩, rfl, rfl, rfl, rfl, rfl, lenI c, rfl, trivial⟩ (by (repeat' first | exact trivial | exact rfl | exact ⟨rfl, rfl⟩ | exact .inl rfl | refine ⟨_, rfl, rfl, rfl, ?_⟩ | refine ⟨_, _, rfl, ?_, ?_⟩ | refine ⟨_, rfl, ?_⟩ | refine And.intro ?_ ?_)) rfl⟩
        rintro v ⟨v1, v2⟩
        refine And.intro (fun h7 => ?_) (fun h7 => ?_)
        · have h7 : (v : Int) < (c.length : Nat) := h7
          have hv : v < cs.length := by omega
          refine ⟨_, ⟨by omega, i64 (c.getD v 0), icell (show v < c.length by omega), rfl⟩, ?_⟩
          refine And.intro (fun h8 => ?_) (fun h8 => ?_)
          · have h8 : c.getD v 0 < -1 := h8
            exact end1 _ rfl rfl (no fun h => by have := ((h.2.2.1 c hcm).2 v hv).1; omega)
          · have h8 : ¬ c.getD v 0 < -1 := h8
            refine ⟨_, ⟨by omega, i64 (cs.getD v 0), icell hv, rfl⟩, ?_⟩
            refine And.intro (fun h9 => ?_) (fun h9 => ?_)
            · have h9 : cs.getD v 0 ≤ c.getD v 0 := h9
              exact end1 _ rfl rfl (no fun h => by have := ((h.2.2.1 c hcm).2 v hv).2; simp only [] at this; omega)
            · have h9 : ¬ cs.getD v 0 ≤ c.getD v 0 := h9
              refine ⟨(v : Int) + 1, wrap_i64 (by omega) (by omega), v + 1, ⟨by omega, fun i hi => ?_⟩, ent_of [] [] [] rfl (by (repeat' first | exact trivial | exact rfl | exact ⟨rfl, rfl⟩ | exact .inl rfl | refine ⟨_, rfl, rfl, rfl, ?_⟩ | refine ⟨_, _, rfl, ?_, ?_⟩ | refine ⟨_, rfl, ?_⟩ | refine And.intro ?_ ?_)) (by (repeat' first | exact trivial | exact rfl | exact ⟨rfl, rfl⟩ | exact .inl rfl | refine ⟨_, rfl, rfl, rfl, ?_⟩ | refine ⟨_, _, rfl, ?_, ?_⟩ | refine ⟨_, rfl, ?_⟩ | refine And.intro ?_ ?_)) rfl, by show cs.length - (v + 1) < cs.length - v; omega⟩
              rcases Nat.lt_or_ge i v with h | h
              · exact v2 i h
              · have : i = v := by omega
                subst this
                exact ⟨by omega, by omega⟩
        · have h7 : ¬ (v : Int) < (c.length : Nat) := h7
          refine ⟨(j : Int) + 1, wrap_i64 (by omega) (by omega), j + 1, ⟨by omega, mem_take [] hj j2 ?_⟩, ent_of [] [] [] rfl (by (repeat' first | exact trivial | exact rfl | exact ⟨rfl, rfl⟩ | exact .inl rfl | refine ⟨_, rfl, rfl, rfl, ?_⟩ | refine ⟨_, _, rfl, ?_, ?_⟩ | refine ⟨_, rfl, ?_⟩ | refine And.intro ?_ ?_)) (by (repeat' first | exact trivial | exact rfl | exact ⟨rfl, rfl⟩ | exact .inl rfl | refine ⟨_, rfl, rfl, rfl, ?_⟩ | refine ⟨_, _, rfl, ?_, ?_⟩ | refine ⟨_, rfl, ?_⟩ | refine And.intro ?_ ?_)) rfl, by show xs.length - (j + 1) < xs.length - j; omega⟩
          rw [← hc]
          exact ⟨by omega, fun i hi => v2 i (by omega)⟩
      · have h6 : ¬ ((c.map i64).length : Int) = ((cs.map i64).length : Nat) := h6
        rw [List.length_map, List.length_map] at h6
        exact end1 _ rfl rfl (no fun h => by have := (h.2.2.1 c hcm).1; simp only [] at this; omega)
    · have h5 : ¬ (j : Int) < (xs.length : Nat) := h5
      rw [take_all (by omega)] at j2
      exact end1 _ rfl rfl (yes ⟨⟨by simp only []; omega, by simp only []; omega, by simp only []; omega⟩, hall, j2, by rw [← hp]; omega⟩)

/-! ### Lists of variables -/
def prevN (vars : List Int) (k : Nat) : Int := if k = 0 then -1 else vars.getD (k - 1) 0
def listP (n : Int) (vars : List Int) : Prop := ∀ i, i < vars.length → prevN vars i < vars.getD i 0 ∧ vars.getD i 0 < n
instance (n : Int) (vars : List Int) : Decidable (listP n vars) := inferInstanceAs (Decidable (∀ i, i < vars.length → _))

theorem list_c (n : Int) (vars : List Int) (hv : vars.length ≤ 100000) : Pure cx 21 [i64 n, ints vars] (· = .ret [.bool (decide (listP n vars))]) := by
  refine pure_of_vc Tryd.func21 rfl rfl rfl ?_
  refine ⟨Nat, fun k => [(0, .p (i64 n)), (1, .p (ints vars)), (5, .p (i64 (prevN vars k))), (6, .p (i64 k))], fun _ => ⟨0, []⟩, fun k => k ≤ vars.length ∧ ∀ i, i < k → prevN vars i < vars.getD i 0 ∧ vars.getD i 0 < n, fun k => vars.length - k, ?_, ?_⟩
  · exact ⟨0, ⟨by omega, fun i hi => by omega⟩, ent0 rfl ⟨rfl, rfl, rfl, rfl, trivial⟩ trivial rfl⟩
  rintro k ⟨g1, g2⟩
  refine And.intro (fun h1 => ?_) (fun h1 => ?_)
  · have h1 : (k : Int) < ((vars.map i64).length : Nat) := h1
    rw [List.length_map] at h1
    have hk : k < vars.length := by omega
    refine ⟨_, ⟨by omega, i64 (vars.getD k 0), icell hk, rfl⟩, ?_⟩
    refine And.intro (fun h2 => ?_) (fun h2 => ?_)
    · have h2 : vars.getD k 0 ≤ prevN vars k := h2
      refine end1 _ rfl rfl (retB (decide_eq_false fun h => ?_).symm)
      have := (h k hk).1
      omega
    · have h2 : ¬ vars.getD k 0 ≤ prevN vars k := h2
      refine ⟨_, ⟨by omega, i64 (vars.getD k 0), icell hk, rfl⟩, ?_⟩
      refine And.intro (fun h3 => ?_) (fun h3 => ?_)
      · have h3 : n ≤ vars.getD k 0 := h3
        refine end1 _ rfl rfl (retB (decide_eq_false fun h => ?_).symm)
        have := (h k hk).2
        omega
      · have h3 : ¬ n ≤ vars.getD k 0 := h3
        refine ⟨_, ⟨by omega, i64 (vars.getD k 0), icell hk, rfl⟩, ?_⟩
        refine ⟨(k : Int) + 1, wrap_i64 (by omega) (by omega), k + 1, ⟨by omega, fun i hi => ?_⟩, ent0 rfl ⟨rfl, rfl, rfl, rfl, trivial⟩ trivial rfl, by show vars.length - (k + 1) < vars.length - k; omega⟩
        rcases Nat.lt_or_ge i k with h | h
        · exact g2 i h
        · have : i = k := by omega
          subst this
          exact ⟨by omega, by omega⟩
  · have h1 : ¬ (k : Int) < ((vars.map i64).length : Nat) := h1
    rw [List.length_map] at h1
    exact end1 _ rfl rfl (retB (decide_eq_true fun i hi => g2 i (by omega)).symm)

theorem list_ge {n : Int} {vars : List Int} (h : listP n vars) : ∀ i, i < vars.length → (i : Int) ≤ vars.getD i 0
  | 0, hi => by
    have h1 := (h 0 hi).1
    have h2 : prevN vars 0 = -1 := rfl
    rw [h2] at h1
    omega
  | i + 1, hi => by
    have h1 := list_ge h i (by omega)
    have h2 := (h (i + 1) hi).1
    rw [prevN, if_neg (by omega), show i + 1 - 1 = i by omega] at h2
    omega
theorem list_len {n : Nat} {vars : List Int} (h : listP n vars) : vars.length ≤ n := by
  rcases Nat.eq_zero_or_pos vars.length with h0 | h0
  · omega
  · have h1 := list_ge h (vars.length - 1) (by omega)
    have h2 := (h (vars.length - 1) (by omega)).2
    omega
theorem list_mem {n : Nat} {vars : List Int} (h : listP n vars) : ∀ v ∈ vars, 0 ≤ v ∧ v < n := by
  intro v hv
  obtain ⟨i, hi, rfl⟩ := List.mem_iff_getElem.1 hv
  have h1 := list_ge h i hi
  have h2 := (h i hi).2
  rw [List.getD_eq_getElem?_getD, List.getElem?_eq_getElem hi] at h1 h2
  simp only [Option.getD_some] at h1 h2
  omega

/-! ### The index of values in a table -/
def idxN (cards values : List Int) : List Int → Int → Int
  | [], a => a
  | v :: r, a => if values.getD v.toNat 0 < 0 then -1 else idxN cards values r (a * cards.getD v.toNat 0 + values.getD v.toNat 0)

/-- What is asked of the variables of an index. -/
structure IxOK (cards values vars : List Int) : Prop where
  len : vars.length ≤ 6
  cl : cards.length ≤ 1000
  vl : values.length = cards.length
  mem : ∀ v ∈ vars, 0 ≤ v ∧ v < (cards.length : Int)
  card : ∀ c ∈ cards, okCard c
  lt : ∀ i, i < cards.length → values.getD i 0 < cards.getD i 0

theorem ix_step {a c x : Int} {k : Nat} (h0 : 0 ≤ a) (h1 : a < 4 ^ k) (hc : okCard c) (hx : 0 ≤ x) (hxc : x < c) : 0 ≤ a * c + x ∧ a * c + x < 4 ^ (k + 1) := by
  obtain ⟨c1, c2⟩ := hc
  have h2 : 0 ≤ a * c := Int.mul_nonneg h0 (by omega)
  have h3 : a * c + c ≤ 4 ^ k * 4 := by
    have : (a + 1) * c ≤ 4 ^ k * 4 := Int.mul_le_mul (by omega) c2 (by omega) (by omega)
    rw [Int.add_mul] at this
    omega
  rw [Int.pow_succ]
  omega

theorem index_c (cards vars values : List Int) (h : IxOK cards values vars) : Pure cx 16 [ints cards, ints vars, ints values] (· = .ret [i64 (idxN cards values vars 0)]) := by
  refine pure_of_vc Tryd.func16 rfl rfl rfl ?_
  have hl := h.len
  have hcl := h.cl
  have hvl := h.vl
  refine ⟨Nat × Int, fun x => [(0, .p (ints cards)), (1, .p (ints vars)), (2, .p (ints values)), (7, .p (i64 x.2)), (8, .p (i64 x.1))], fun _ => ⟨0, []⟩, fun x => x.1 ≤ vars.length ∧ 0 ≤ x.2 ∧ x.2 < 4 ^ x.1 ∧ idxN cards values vars 0 = idxN cards values (vars.drop x.1) x.2, fun x => vars.length - x.1, ?_, ?_⟩
  · exact ⟨(0, 0), ⟨by simp, by simp, by simp, by simp⟩, ent0 rfl ⟨rfl, rfl, rfl, rfl, rfl, trivial⟩ trivial rfl⟩
  rintro ⟨k, a⟩ ⟨g1, g2, g3, g4⟩
  simp only [] at g1 g2 g3 g4
  refine And.intro (fun h1 => ?_) (fun h1 => ?_)
  · have h1 : (k : Int) < ((vars.map i64).length : Nat) := h1
    rw [List.length_map] at h1
    have hk : k < vars.length := by omega
    have hd : vars.drop k = vars.getD k 0 :: vars.drop (k + 1) := by rw [List.drop_eq_getElem_cons hk, List.getD_eq_getElem?_getD, List.getElem?_eq_getElem hk]; rfl
    obtain ⟨m1, m2⟩ := h.mem _ (getD_memL 0 hk)
    refine ⟨_, ⟨by omega, i64 (vars.getD k 0), icell hk, rfl⟩, ?_⟩
    obtain ⟨n, hvk⟩ : ∃ n : Nat, vars.getD k 0 = n := ⟨(vars.getD k 0).toNat, by omega⟩
    rw [hvk] at hd m1 m2 ⊢
    have hn : n < cards.length := by omega
    have hlt := h.lt n hn
    have hoc := h.card _ (getD_memL 0 hn)
    refine ⟨_, ⟨by omega, i64 (values.getD n 0), icell (show n < values.length by omega), rfl⟩, ?_⟩
    rw [hd, idxN] at g4
    simp only [Int.toNat_natCast] at g4
    refine And.intro (fun h2 => ?_) (fun h2 => ?_)
    · have h2 : values.getD n 0 < 0 := h2
      rw [if_pos h2] at g4
      exact end1 _ rfl rfl (retI g4.symm)
    · have h2 : ¬ values.getD n 0 < 0 := h2
      rw [if_neg h2] at g4
      have hst := ix_step g2 g3 hoc (by omega) hlt
      have hp := pow4 (k + 1) (by omega)
      have hac : 0 ≤ a * cards.getD n 0 := Int.mul_nonneg g2 (by have := hoc.1; omega)
      refine VDraw.seq rfl ?_
      refine ⟨_, ⟨by omega, i64 (n : Int), by rw [← hvk]; exact icell hk, rfl⟩, ?_⟩
      refine ⟨_, ⟨by omega, i64 (cards.getD n 0), icell hn, rfl⟩, ?_⟩
      refine ⟨a * cards.getD n 0, wrap_i64 (by omega) (by omega), ?_⟩
      refine ⟨_, ⟨by omega, i64 (n : Int), by rw [← hvk]; exact icell hk, rfl⟩, ?_⟩
      refine ⟨_, ⟨by omega, i64 (values.getD n 0), icell (show n < values.length by omega), rfl⟩, ?_⟩
      refine ⟨a * cards.getD n 0 + values.getD n 0, wrap_i64 (by omega) (by omega), ?_⟩
      refine ⟨(k : Int) + 1, wrap_i64 (by omega) (by omega), ?_⟩
      exact ⟨(k + 1, a * cards.getD n 0 + values.getD n 0), ⟨by simp only []; omega, hst.1, hst.2, g4⟩, ent0 rfl ⟨rfl, rfl, rfl, rfl, rfl, trivial⟩ trivial rfl, by simp only []; omega⟩
  · have h1 : ¬ (k : Int) < ((vars.map i64).length : Nat) := h1
    rw [List.length_map] at h1
    rw [List.drop_eq_nil_of_le (by omega), idxN] at g4
    exact end1 _ rfl rfl (retI g4.symm)
end Go.Proofs.YtmdmjnfdemgpoaaDoor

/- The reference: complete data, splits. -/
namespace Go.Proofs.YtmdmjnfdemgpoaaDoor
open Go Y
set_option maxRecDepth 100000
set_option maxHeartbeats 4000000

def wholeB (c : List Int) : Bool := c.all fun x => decide (0 ≤ x)
theorem whole_c (c : List Int) (hc : c.length ≤ 100000) : Pure cx 51 [ints c] (· = .ret [.bool (wholeB c)]) := by
  refine pure_of_vc Tryd.func51 rfl rfl rfl ?_
  refine ⟨Nat, fun k => [(0, .p (ints c)), (3, .p (i64 k))], fun _ => ⟨0, []⟩, fun k => k ≤ c.length ∧ ∀ x ∈ c.take k, 0 ≤ x, fun k => c.length - k, ?_, ?_⟩
  · exact ⟨0, ⟨by omega, by simp⟩, ent0 rfl ⟨rfl, rfl, trivial⟩ trivial rfl⟩
  rintro k ⟨g1, g2⟩
  refine And.intro (fun h1 => ?_) (fun h1 => ?_)
  · have h1 : (k : Int) < ((c.map i64).length : Nat) := h1
    rw [List.length_map] at h1
    have hk : k < c.length := by omega
    refine ⟨_, ⟨by omega, i64 (c.getD k 0), icell hk, rfl⟩, ?_⟩
    refine And.intro (fun h2 => ?_) (fun h2 => ?_)
    · have h2 : c.getD k 0 < 0 := h2
      refine end1 _ rfl rfl (retB ?_)
      rw [eq_comm, Bool.eq_false_iff]
      intro h
      have := List.all_eq_true.1 h _ (getD_memL 0 hk)
      simp only [decide_eq_true_eq] at this
      omega
    · have h2 : ¬ c.getD k 0 < 0 := h2
      exact ⟨(k : Int) + 1, wrap_i64 (by omega) (by omega), k + 1, ⟨by omega, mem_take 0 hk g2 (by omega)⟩, ent0 rfl ⟨rfl, rfl, trivial⟩ trivial rfl, by show c.length - (k + 1) < c.length - k; omega⟩
  · have h1 : ¬ (k : Int) < ((c.map i64).length : Nat) := h1
    rw [List.length_map] at h1
    rw [take_all (by omega)] at g2
    refine end1 _ rfl rfl (retB ?_)
    rw [eq_comm]
    exact List.all_eq_true.2 fun x hx => by simpa using g2 x hx

abbrev TD : TypeId := 30
abbrev TI : TypeId := 27
def csO (acc : List (List Int)) : AObj := ⟨TI, false, .pu (acc.map ints)⟩
/-- Data that are being made: the cases lie in an object of their own. -/
def mkO (n : Nat) (cs : List Int) (acc : List (List Int)) : AObj := ⟨TD, false, .bx [.p (ints cs), .sl n 1 0 acc.length]⟩
def zeroO : AObj := ⟨TD, false, .bx [.p .nils, .p .nils]⟩

theorem snoc_len {α : Type} (l : List α) (x : α) : (l ++ [x]).length = l.length + 1 := by simp
theorem filter_snoc {α : Type} {p : α → Bool} {l : List α} {k : Nat} (d : α) (h : k < l.length) : (l.take (k + 1)).filter p = (l.take k).filter p ++ (if p (l.getD k d) then [l.getD k d] else []) := by
  rw [take_succ_getD d h, List.filter_append]
  congr 1
  rw [List.filter_cons]
  rfl
theorem filter_take_le {α : Type} (p : α → Bool) (l : List α) (k : Nat) : ((l.take k).filter p).length ≤ l.length := by
  have h1 := List.length_filter_le p (l.take k)
  rw [List.length_take] at h1
  omega

def completeN (d : Dt) : Dt := ⟨d.cards, d.cases.filter wholeB⟩

theorem rComplete_c (d : Dt) (hd : Sm7 d) : Pure cx 26 [d.pv] (· = .ret [(completeN d).pv]) := by
  refine pure_of_vc Tryd.func26 rfl rfl rfl ?_
  obtain ⟨cs, xs⟩ := d
  obtain ⟨d1, d2, d3⟩ := hd
  simp only [] at d1 d2 d3
  refine ⟨Nat × List (List Int), fun x => [(1, .ptr 0 0 0), (2, .ptr 1 0 0), (3, .ptr 2 0 0), (4, .p (i64 x.1))], fun x => ⟨4, [(0, dtO ⟨cs, xs⟩), (1, zeroO), (2, mkO 3 cs x.2), (3, csO x.2)]⟩, fun x => x.1 ≤ xs.length ∧ x.2 = (xs.take x.1).filter wholeB, fun x => xs.length - x.1, ?_, ?_⟩
  · exact ⟨(0, []), ⟨by simp, by simp⟩, ent_of [] [] [(3, 1)] rfl (by (repeat' first | exact trivial | exact rfl | exact ⟨rfl, rfl⟩ | exact .inl rfl | refine ⟨_, rfl, rfl, rfl, ?_⟩ | refine ⟨_, _, rfl, ?_, ?_⟩ | refine ⟨_, rfl, ?_⟩ | refine And.intro ?_ ?_)) (by (repeat' first | exact trivial | exact rfl | exact ⟨rfl, rfl⟩ | exact .inl rfl | refine ⟨_, rfl, rfl, rfl, ?_⟩ | refine ⟨_, _, rfl, ?_, ?_⟩ | refine ⟨_, rfl, ?_⟩ | refine And.intro ?_ ?_)) rfl⟩
  rintro ⟨k, acc⟩ ⟨g1, g2⟩
  simp only [] at g1 g2
  have hal : acc.length ≤ xs.length := by rw [g2]; exact filter_take_le _ _ _
  refine And.intro (fun h1 => ?_) (fun h1 => ?_)
  · have h1 : (k : Int) < ((xs.map ints).length : Nat) := h1
    rw [List.length_map] at h1
    have hk : k < xs.length := by omega
    obtain ⟨c, hc⟩ : ∃ c, c = xs.getD k [] := ⟨_, rfl⟩
    have hcl := d3 _ (getD_memL [] hk)
    rw [← hc] at hcl
    refine ⟨_, ⟨by omega, ints c, by rw [hc]; exact ccell hk, rfl⟩, ?_⟩
    have hW := whole_c c (by omega)
    have hst := filter_snoc (p := wholeB) [] hk
    rw [← hc] at hst
    by_cases hw : wholeB c = true
    · rw [hw] at hW hst
      refine hW.eq rfl ?_
      refine VDraw.seq rfl ?_
      refine ⟨_, ⟨by omega, ints c, by rw [hc]; exact ccell hk, rfl⟩, ?_⟩
      refine ⟨by (repeat' first | exact trivial | exact rfl | exact ⟨rfl, rfl⟩ | exact .inl rfl | refine ⟨_, rfl, rfl, rfl, ?_⟩ | refine ⟨_, _, rfl, ?_, ?_⟩ | refine ⟨_, rfl, ?_⟩ | refine And.intro ?_ ?_), ?_⟩
      refine ⟨by show 0 + 1 ≤ 1; omega, [ints c], rfl, ?_⟩
      refine ⟨by show 0 + acc.length ≤ (acc.map ints).length; simp, acc.map ints, takeAll (by simp), by show (acc.length + 1) * 24 ≤ 140737488355328; omega, (acc ++ [c]).map ints, by simp, ?_⟩
      refine ⟨(k : Int) + 1, wrap_i64 (by omega) (by omega), ?_⟩
      refine ⟨(k + 1, acc ++ [c]), ⟨by simp only []; omega, by simp only []; rw [hst, g2]; rfl⟩, ent_of [] [(3, 5)] [] rfl (by (repeat' first | exact trivial | exact rfl | exact ⟨rfl, rfl⟩ | exact .inl rfl | refine ⟨_, rfl, rfl, rfl, ?_⟩ | refine ⟨_, _, rfl, ?_, ?_⟩ | refine ⟨_, rfl, ?_⟩ | refine And.intro ?_ ?_)) ⟨⟨_, rfl, rfl, rfl, _, rfl, by (repeat' first | exact trivial | exact rfl | exact ⟨rfl, rfl⟩ | exact .inl rfl | refine ⟨_, rfl, rfl, rfl, ?_⟩ | refine ⟨_, _, rfl, ?_, ?_⟩ | refine ⟨_, rfl, ?_⟩ | refine And.intro ?_ ?_)⟩, ⟨_, rfl, rfl, rfl, _, rfl, by (repeat' first | exact trivial | exact rfl | exact ⟨rfl, rfl⟩ | exact .inl rfl | refine ⟨_, rfl, rfl, rfl, ?_⟩ | refine ⟨_, _, rfl, ?_, ?_⟩ | refine ⟨_, rfl, ?_⟩ | refine And.intro ?_ ?_)⟩, ⟨_, rfl, rfl, rfl, _, rfl, _, _, rfl, rfl, _, _, rfl, congrArg (fun n => AV.sl 5 1 0 n) (snoc_len acc c).symm, rfl⟩, ⟨_, rfl, rfl, rfl, rfl⟩, trivial⟩ rfl, by simp only []; omega⟩
    · rw [Bool.not_eq_true] at hw
      rw [hw] at hW hst
      refine hW.eq rfl ?_
      refine ⟨(k : Int) + 1, wrap_i64 (by omega) (by omega), ?_⟩
      refine ⟨(k + 1, acc), ⟨by simp only []; omega, by simp only []; rw [hst, g2]; simp⟩, ent_of [] [] [] rfl (by (repeat' first | exact trivial | exact rfl | exact ⟨rfl, rfl⟩ | exact .inl rfl | refine ⟨_, rfl, rfl, rfl, ?_⟩ | refine ⟨_, _, rfl, ?_, ?_⟩ | refine ⟨_, rfl, ?_⟩ | refine And.intro ?_ ?_)) (by (repeat' first | exact trivial | exact rfl | exact ⟨rfl, rfl⟩ | exact .inl rfl | refine ⟨_, rfl, rfl, rfl, ?_⟩ | refine ⟨_, _, rfl, ?_, ?_⟩ | refine ⟨_, rfl, ?_⟩ | refine And.intro ?_ ?_)) rfl, by simp only []; omega⟩
  · have h1 : ¬ (k : Int) < ((xs.map ints).length : Nat) := h1
    rw [List.length_map] at h1
    rw [take_all (by omega)] at g2
    refine end1 (completeN ⟨cs, xs⟩).pv rfl ⟨_, rfl, _, _, rfl, rfl, _, _, rfl, ⟨_, rfl, by show 0 + acc.length ≤ (acc.map ints).length; simp, ?_⟩, rfl⟩ rfl
    show (xs.filter wholeB).map ints = _
    rw [← g2]
    exact takeAll (by simp)

/-! ### Splits -/
def pickN {α : Type} (p : Nat → Bool) : Nat → List α → List α
  | _, [] => []
  | k, x :: r => if p k then x :: pickN p (k + 1) r else pickN p (k + 1) r
theorem pick_append {α : Type} (p : Nat → Bool) : ∀ (k : Nat) (a b : List α), pickN p k (a ++ b) = pickN p k a ++ pickN p (k + a.length) b
  | k, [], b => by simp [pickN]
  | k, x :: a, b => by
    simp only [List.cons_append, pickN, List.length_cons]
    rw [pick_append p (k + 1) a b, show k + 1 + a.length = k + (a.length + 1) by omega]
    split <;> rfl
theorem pick_snoc {α : Type} {p : Nat → Bool} {l : List α} {k : Nat} (d : α) (h : k < l.length) : pickN p 0 (l.take (k + 1)) = pickN p 0 (l.take k) ++ (if p k then [l.getD k d] else []) := by
  rw [take_succ_getD d h, pick_append, List.length_take, Nat.min_eq_left (by omega), Nat.zero_add]
  congr 1
theorem pick_len {α : Type} (p : Nat → Bool) : ∀ (k : Nat) (l : List α), (pickN p k l).length ≤ l.length
  | _, [] => by simp [pickN]
  | k, x :: l => by
    have := pick_len p (k + 1) l
    simp only [pickN]
    split <;> simp <;> omega
def inPart (parts i : Int) (k : Nat) : Bool := decide ((k : Int).tmod parts = i)
def partN (d : Dt) (parts i : Int) : Dt := ⟨d.cards, pickN (inPart parts i) 0 d.cases⟩
def restN (d : Dt) (parts i : Int) : Dt := ⟨d.cards, pickN (fun k => !inPart parts i k) 0 d.cases⟩

def mk0 (cs : List Int) : AObj := ⟨TD, false, .bx [.p (ints cs), .p .nils]⟩

theorem rSplit_c (d : Dt) (parts i : Int) (hd : Sm7 d) (hp : parts ≠ 0) : Pure cx 27 [d.pv, i64 parts, i64 i] (· = .ret [(partN d parts i).pv, (restN d parts i).pv]) := by
  refine pure_of_vc Tryd.func27 rfl rfl rfl ?_
  obtain ⟨cs, xs⟩ := d
  obtain ⟨d1, d2, d3⟩ := hd
  simp only [] at d1 d2 d3
  refine VDraw.altTo [(1, .p (i64 parts)), (2, .p (i64 i)), (3, .ptr 0 0 0), (6, .ptr 1 0 0), (7, .ptr 2 0 0), (8, .ptr 3 0 0), (9, .ptr 4 0 0)] ⟨5, [(0, dtO ⟨cs, xs⟩), (1, zeroO), (2, zeroO), (3, mk0 cs), (4, mk0 cs)]⟩ rfl ?_ ?_
  · refine And.intro ?_ ?_
    · refine ⟨by (repeat' first | exact trivial | exact rfl | exact ⟨rfl, rfl⟩ | exact .inl rfl | refine ⟨_, rfl, rfl, rfl, ?_⟩ | refine ⟨_, _, rfl, ?_, ?_⟩ | refine ⟨_, rfl, ?_⟩ | refine And.intro ?_ ?_), ?_⟩
      refine ⟨by (repeat' first | exact trivial | exact rfl | exact ⟨rfl, rfl⟩ | exact .inl rfl | refine ⟨_, rfl, rfl, rfl, ?_⟩ | refine ⟨_, _, rfl, ?_, ?_⟩ | refine ⟨_, rfl, ?_⟩ | refine And.intro ?_ ?_), ?_⟩
      refine ⟨by (repeat' first | exact trivial | exact rfl | exact ⟨rfl, rfl⟩ | exact .inl rfl | refine ⟨_, rfl, rfl, rfl, ?_⟩ | refine ⟨_, _, rfl, ?_, ?_⟩ | refine ⟨_, rfl, ?_⟩ | refine And.intro ?_ ?_), ?_⟩
      exact ent_of [] [] [] rfl (by (repeat' first | exact trivial | exact rfl | exact ⟨rfl, rfl⟩ | exact .inl rfl | refine ⟨_, rfl, rfl, rfl, ?_⟩ | refine ⟨_, _, rfl, ?_, ?_⟩ | refine ⟨_, rfl, ?_⟩ | refine And.intro ?_ ?_)) (by (repeat' first | exact trivial | exact rfl | exact ⟨rfl, rfl⟩ | exact .inl rfl | refine ⟨_, rfl, rfl, rfl, ?_⟩ | refine ⟨_, _, rfl, ?_, ?_⟩ | refine ⟨_, rfl, ?_⟩ | refine And.intro ?_ ?_)) rfl
    · refine ⟨by (repeat' first | exact trivial | exact rfl | exact ⟨rfl, rfl⟩ | exact .inl rfl | refine ⟨_, rfl, rfl, rfl, ?_⟩ | refine ⟨_, _, rfl, ?_, ?_⟩ | refine ⟨_, rfl, ?_⟩ | refine And.intro ?_ ?_), ?_⟩
      refine ⟨by (repeat' first | exact trivial | exact rfl | exact ⟨rfl, rfl⟩ | exact .inl rfl | refine ⟨_, rfl, rfl, rfl, ?_⟩ | refine ⟨_, _, rfl, ?_, ?_⟩ | refine ⟨_, rfl, ?_⟩ | refine And.intro ?_ ?_), ?_⟩
      refine ⟨by (repeat' first | exact trivial | exact rfl | exact ⟨rfl, rfl⟩ | exact .inl rfl | refine ⟨_, rfl, rfl, rfl, ?_⟩ | refine ⟨_, _, rfl, ?_, ?_⟩ | refine ⟨_, rfl, ?_⟩ | refine And.intro ?_ ?_), ?_⟩
      exact ent_of [] [(3, 4), (4, 3)] [] rfl (by (repeat' first | exact trivial | exact rfl | exact ⟨rfl, rfl⟩ | exact .inl rfl | refine ⟨_, rfl, rfl, rfl, ?_⟩ | refine ⟨_, _, rfl, ?_, ?_⟩ | refine ⟨_, rfl, ?_⟩ | refine And.intro ?_ ?_)) (by (repeat' first | exact trivial | exact rfl | exact ⟨rfl, rfl⟩ | exact .inl rfl | refine ⟨_, rfl, rfl, rfl, ?_⟩ | refine ⟨_, _, rfl, ?_, ?_⟩ | refine ⟨_, rfl, ?_⟩ | refine And.intro ?_ ?_)) rfl
  refine ⟨Nat × List (List Int) × List (List Int), fun x => [(1, .p (i64 parts)), (2, .p (i64 i)), (3, .ptr 0 0 0), (6, .ptr 1 0 0), (7, .ptr 2 0 0), (8, .ptr 3 0 0), (9, .ptr 4 0 0), (10, .p (i64 x.1))], fun x => ⟨7, [(0, dtO ⟨cs, xs⟩), (1, zeroO), (2, zeroO), (3, mkO 5 cs x.2.1), (4, mkO 6 cs x.2.2), (5, csO x.2.1), (6, csO x.2.2)]⟩,
    fun x => x.1 ≤ xs.length ∧ x.2.1 = pickN (inPart parts i) 0 (xs.take x.1) ∧ x.2.2 = pickN (fun k => !inPart parts i k) 0 (xs.take x.1), fun x => xs.length - x.1, ?_, ?_⟩
  · exact ⟨(0, [], []), ⟨by simp, by simp [pickN], by simp [pickN]⟩, ent_of [] [] [(5, 1), (6, 1)] rfl (by (repeat' first | exact trivial | exact rfl | exact ⟨rfl, rfl⟩ | exact .inl rfl | refine ⟨_, rfl, rfl, rfl, ?_⟩ | refine ⟨_, _, rfl, ?_, ?_⟩ | refine ⟨_, rfl, ?_⟩ | refine And.intro ?_ ?_)) (by (repeat' first | exact trivial | exact rfl | exact ⟨rfl, rfl⟩ | exact .inl rfl | refine ⟨_, rfl, rfl, rfl, ?_⟩ | refine ⟨_, _, rfl, ?_, ?_⟩ | refine ⟨_, rfl, ?_⟩ | refine And.intro ?_ ?_)) rfl⟩
  rintro ⟨k, a, b⟩ ⟨g1, g2, g3⟩
  simp only [] at g1 g2 g3
  have hal : a.length ≤ xs.length := by rw [g2]; exact Nat.le_trans (pick_len _ _ _) (by rw [List.length_take]; omega)
  have hbl : b.length ≤ xs.length := by rw [g3]; exact Nat.le_trans (pick_len _ _ _) (by rw [List.length_take]; omega)
  refine And.intro (fun h1 => ?_) (fun h1 => ?_)
  · have h1 : (k : Int) < ((xs.map ints).length : Nat) := h1
    rw [List.length_map] at h1
    have hk : k < xs.length := by omega
    obtain ⟨c, hc⟩ : ∃ c, c = xs.getD k [] := ⟨_, rfl⟩
    have s1 := pick_snoc (p := inPart parts i) [] hk
    have s2 := pick_snoc (p := fun k => !inPart parts i k) [] hk
    rw [← hc] at s1 s2
    refine ⟨hp, ?_⟩
    refine And.intro (fun h2 => ?_) (fun h2 => ?_)
    · have h2 : (k : Int).tmod parts = i := h2
      rw [show inPart parts i k = true from decide_eq_true h2] at s1 s2
      refine VDraw.seq rfl ?_
      refine ⟨_, ⟨by omega, ints c, by rw [hc]; exact ccell hk, rfl⟩, ?_⟩
      refine ⟨by (repeat' first | exact trivial | exact rfl | exact ⟨rfl, rfl⟩ | exact .inl rfl | refine ⟨_, rfl, rfl, rfl, ?_⟩ | refine ⟨_, _, rfl, ?_, ?_⟩ | refine ⟨_, rfl, ?_⟩ | refine And.intro ?_ ?_), ?_⟩
      refine ⟨by show 0 + 1 ≤ 1; omega, [ints c], rfl, ?_⟩
      refine ⟨by show 0 + a.length ≤ (a.map ints).length; simp, a.map ints, takeAll (by simp), by show (a.length + 1) * 24 ≤ 140737488355328; omega, (a ++ [c]).map ints, by simp, ?_⟩
      refine ⟨(k : Int) + 1, wrap_i64 (by omega) (by omega), ?_⟩
      exact ⟨(k + 1, a ++ [c], b), ⟨by simp only []; omega, by simp only []; rw [s1, g2]; rfl, by simp only []; rw [s2, g3]; simp⟩, ent_of [] [(5, 8)] [] rfl (by (repeat' first | exact trivial | exact rfl | exact ⟨rfl, rfl⟩ | exact .inl rfl | refine ⟨_, rfl, rfl, rfl, ?_⟩ | refine ⟨_, _, rfl, ?_, ?_⟩ | refine ⟨_, rfl, ?_⟩ | refine And.intro ?_ ?_)) ⟨⟨_, rfl, rfl, rfl, _, rfl, by (repeat' first | exact trivial | exact rfl | exact ⟨rfl, rfl⟩ | exact .inl rfl | refine ⟨_, rfl, rfl, rfl, ?_⟩ | refine ⟨_, _, rfl, ?_, ?_⟩ | refine ⟨_, rfl, ?_⟩ | refine And.intro ?_ ?_)⟩, ⟨_, rfl, rfl, rfl, _, rfl, by (repeat' first | exact trivial | exact rfl | exact ⟨rfl, rfl⟩ | exact .inl rfl | refine ⟨_, rfl, rfl, rfl, ?_⟩ | refine ⟨_, _, rfl, ?_, ?_⟩ | refine ⟨_, rfl, ?_⟩ | refine And.intro ?_ ?_)⟩, ⟨_, rfl, rfl, rfl, _, rfl, by (repeat' first | exact trivial | exact rfl | exact ⟨rfl, rfl⟩ | exact .inl rfl | refine ⟨_, rfl, rfl, rfl, ?_⟩ | refine ⟨_, _, rfl, ?_, ?_⟩ | refine ⟨_, rfl, ?_⟩ | refine And.intro ?_ ?_)⟩, ⟨_, rfl, rfl, rfl, _, rfl, _, _, rfl, rfl, _, _, rfl, congrArg (fun n => AV.sl 8 1 0 n) (snoc_len a c).symm, rfl⟩, ⟨_, rfl, rfl, rfl, _, rfl, by (repeat' first | exact trivial | exact rfl | exact ⟨rfl, rfl⟩ | exact .inl rfl | refine ⟨_, rfl, rfl, rfl, ?_⟩ | refine ⟨_, _, rfl, ?_, ?_⟩ | refine ⟨_, rfl, ?_⟩ | refine And.intro ?_ ?_)⟩, ⟨_, rfl, rfl, rfl, rfl⟩, ⟨_, rfl, rfl, rfl, rfl⟩, trivial⟩ rfl, by simp only []; omega⟩
    · have h2 : ¬ (k : Int).tmod parts = i := h2
      rw [show inPart parts i k = false from decide_eq_false h2] at s1 s2
      refine VDraw.seq rfl ?_
      refine ⟨_, ⟨by omega, ints c, by rw [hc]; exact ccell hk, rfl⟩, ?_⟩
      refine ⟨by (repeat' first | exact trivial | exact rfl | exact ⟨rfl, rfl⟩ | exact .inl rfl | refine ⟨_, rfl, rfl, rfl, ?_⟩ | refine ⟨_, _, rfl, ?_, ?_⟩ | refine ⟨_, rfl, ?_⟩ | refine And.intro ?_ ?_), ?_⟩
      refine ⟨by show 0 + 1 ≤ 1; omega, [ints c], rfl, ?_⟩
      refine ⟨by show 0 + b.length ≤ (b.map ints).length; simp, b.map ints, takeAll (by simp), by show (b.length + 1) * 24 ≤ 140737488355328; omega, (b ++ [c]).map ints, by simp, ?_⟩
      refine ⟨(k : Int) + 1, wrap_i64 (by omega) (by omega), ?_⟩
      exact ⟨(k + 1, a, b ++ [c]), ⟨by simp only []; omega, by simp only []; rw [s1, g2]; simp, by simp only []; rw [s2, g3]; rfl⟩, ent_of [] [(6, 8)] [] rfl (by (repeat' first | exact trivial | exact rfl | exact ⟨rfl, rfl⟩ | exact .inl rfl | refine ⟨_, rfl, rfl, rfl, ?_⟩ | refine ⟨_, _, rfl, ?_, ?_⟩ | refine ⟨_, rfl, ?_⟩ | refine And.intro ?_ ?_)) ⟨⟨_, rfl, rfl, rfl, _, rfl, by (repeat' first | exact trivial | exact rfl | exact ⟨rfl, rfl⟩ | exact .inl rfl | refine ⟨_, rfl, rfl, rfl, ?_⟩ | refine ⟨_, _, rfl, ?_, ?_⟩ | refine ⟨_, rfl, ?_⟩ | refine And.intro ?_ ?_)⟩, ⟨_, rfl, rfl, rfl, _, rfl, by (repeat' first | exact trivial | exact rfl | exact ⟨rfl, rfl⟩ | exact .inl rfl | refine ⟨_, rfl, rfl, rfl, ?_⟩ | refine ⟨_, _, rfl, ?_, ?_⟩ | refine ⟨_, rfl, ?_⟩ | refine And.intro ?_ ?_)⟩, ⟨_, rfl, rfl, rfl, _, rfl, by (repeat' first | exact trivial | exact rfl | exact ⟨rfl, rfl⟩ | exact .inl rfl | refine ⟨_, rfl, rfl, rfl, ?_⟩ | refine ⟨_, _, rfl, ?_, ?_⟩ | refine ⟨_, rfl, ?_⟩ | refine And.intro ?_ ?_)⟩, ⟨_, rfl, rfl, rfl, _, rfl, by (repeat' first | exact trivial | exact rfl | exact ⟨rfl, rfl⟩ | exact .inl rfl | refine ⟨_, rfl, rfl, rfl, ?_⟩ | refine ⟨_, _, rfl, ?_, ?_⟩ | refine ⟨_, rfl, ?_⟩ | refine And.intro ?_ ?_)⟩, ⟨_, rfl, rfl, rfl, _, rfl, _, _, rfl, rfl, _, _, rfl, congrArg (fun n => AV.sl 8 1 0 n) (snoc_len b c).symm, rfl⟩, ⟨_, rfl, rfl, rfl, rfl⟩, ⟨_, rfl, rfl, rfl, rfl⟩, trivial⟩ rfl, by simp only []; omega⟩
  · have h1 : ¬ (k : Int) < ((xs.map ints).length : Nat) := h1
    rw [List.length_map] at h1
    rw [take_all (by omega)] at g2 g3
    refine VDraw.seq rfl ?_
    refine ⟨by (repeat' first | exact trivial | exact rfl | exact ⟨rfl, rfl⟩ | exact .inl rfl | refine ⟨_, rfl, rfl, rfl, ?_⟩ | refine ⟨_, _, rfl, ?_, ?_⟩ | refine ⟨_, rfl, ?_⟩ | refine And.intro ?_ ?_), ?_⟩
    refine end2 (partN ⟨cs, xs⟩ parts i).pv (restN ⟨cs, xs⟩ parts i).pv rfl ⟨_, rfl, _, _, rfl, rfl, _, _, rfl, ⟨_, rfl, by show 0 + a.length ≤ (a.map ints).length; simp, ?_⟩, rfl⟩ ⟨_, rfl, _, _, rfl, rfl, _, _, rfl, ⟨_, rfl, by show 0 + b.length ≤ (b.map ints).length; simp, ?_⟩, rfl⟩ rfl
    · show (pickN (inPart parts i) 0 xs).map ints = _
      rw [← g2]
      exact takeAll (by simp)
    · show (pickN (fun k => !inPart parts i k) 0 xs).map ints = _
      rw [← g3]
      exact takeAll (by simp)

/-! ### Tables -/
structure Fa where
  vars : List Int
  cards : List Int
  w : List Int
deriving DecidableEq
abbrev Fa.cells (f : Fa) : List PV := [ints f.vars, ints f.cards, ints f.w]
abbrev Fa.pv (f : Fa) : PV := .agg f.cells
theorem sameFactor_c (a b : Fa) (ha : a.vars.length ≤ 10000 ∧ a.cards.length ≤ 10000 ∧ a.w.length ≤ 10000) (hb : b.vars.length ≤ 10000 ∧ b.cards.length ≤ 10000 ∧ b.w.length ≤ 10000) : Pure cx 23 [a.pv, b.pv] (· = .ret [.bool (decide (a = b))]) := by
  refine pure_of_vc Tryd.func23 rfl rfl rfl ?_
  obtain ⟨a1, a2, a3⟩ := a
  obtain ⟨b1, b2, b3⟩ := b
  simp only [] at ha hb
  have s1 := sameInts_c a1 b1 (by omega) (by omega)
  have s2 := sameInts_c a2 b2 (by omega) (by omega)
  have s3 := sameInts_c a3 b3 (by omega) (by omega)
  by_cases e1 : a1 = b1
  · rw [decide_eq_true e1] at s1
    refine s1.eq rfl ?_
    by_cases e2 : a2 = b2
    · rw [decide_eq_true e2] at s2
      refine s2.eq rfl ?_
      refine s3.eq rfl ?_
      refine end1 _ rfl rfl (retB ?_)
      rw [e1, e2]
      by_cases e3 : a3 = b3
      · rw [decide_eq_true e3, decide_eq_true (by rw [e3])]
      · rw [decide_eq_false e3, decide_eq_false (by intro e; injection e with _ _ e; exact e3 e)]
    · rw [decide_eq_false e2] at s2
      refine s2.eq rfl ?_
      refine end1 _ rfl rfl (retB (decide_eq_false ?_).symm)
      intro e; injection e with _ e _; exact e2 e
  · rw [decide_eq_false e1] at s1
    refine s1.eq rfl ?_
    refine end1 _ rfl rfl (retB (decide_eq_false ?_).symm)
    intro e; injection e with e _ _; exact e1 e
end Go.Proofs.YtmdmjnfdemgpoaaDoor

/- The reference: counts. -/
namespace Go.Proofs.YtmdmjnfdemgpoaaDoor
open Go Y
set_option maxRecDepth 100000
set_option maxHeartbeats 4000000

def cardsOf (cs vars : List Int) : List Int := vars.map fun v => cs.getD v.toNat 0
def bump (w : List Int) (i : Int) : List Int := if 0 ≤ i then w.set i.toNat (w.getD i.toNat 0 + 1) else w
def tabN (cs vars : List Int) (size : Nat) (xs : List (List Int)) : List Int := xs.foldl (fun w c => bump w (idxN cs c vars 0)) (List.replicate size 0)
def countN (d : Dt) (vars : List Int) : Fa := ⟨vars, cardsOf d.cards vars, tabN d.cards vars (prodN (cardsOf d.cards vars)).toNat d.cases⟩

theorem prod_mul (l : List Int) : ∀ a : Int, l.foldl (· * ·) a = a * prodN l := by
  induction l with
  | nil => intro a; simp [prodN]
  | cons x l ih =>
    intro a
    show l.foldl (· * ·) (a * x) = a * l.foldl (· * ·) (1 * x)
    rw [ih, ih, Int.one_mul, Int.mul_assoc]
theorem prod_cons (x : Int) (l : List Int) : prodN (x :: l) = x * prodN l := by
  show l.foldl (· * ·) (1 * x) = _
  rw [prod_mul, Int.one_mul]
theorem prod_pos {l : List Int} (h : ∀ x ∈ l, okCard x) : 1 ≤ prodN l := by
  induction l with
  | nil => decide
  | cons x l ih =>
    rw [prod_cons]
    have h1 := ih fun y hy => h y (by simp [hy])
    have h2 := (h x (by simp)).1
    have : 1 * 1 ≤ x * prodN l := Int.mul_le_mul (by omega) h1 (by omega) (by omega)
    omega

theorem idx_lt {cards values : List Int} : ∀ (vars : List Int) (a A : Int), (∀ v ∈ vars, 0 ≤ v ∧ v < (cards.length : Int)) → (∀ c ∈ cards, okCard c) → (∀ i, i < cards.length → values.getD i 0 < cards.getD i 0) → 0 ≤ a → a < A → -1 ≤ idxN cards values vars a ∧ idxN cards values vars a < A * prodN (cardsOf cards vars)
  | [], a, A, _, _, _, h0, h1 => by
    have : prodN (cardsOf cards []) = 1 := rfl
    rw [this, idxN]
    omega
  | v :: r, a, A, hm, hc, hl, h0, h1 => by
    obtain ⟨m1, m2⟩ := hm v (by simp)
    obtain ⟨n, rfl⟩ : ∃ n : Nat, v = n := ⟨v.toNat, by omega⟩
    have hn : n < cards.length := by omega
    have hoc := hc _ (getD_memL 0 hn)
    have hlt := hl n hn
    have e : prodN (cardsOf cards ((n : Int) :: r)) = cards.getD n 0 * prodN (cardsOf cards r) := prod_cons _ _
    have hA : 0 ≤ A * (cards.getD n 0 * prodN (cardsOf cards r)) := by
      have hp : 1 ≤ prodN (cardsOf cards r) := prod_pos fun x hx => by
        obtain ⟨u, hu, rfl⟩ := List.mem_map.1 hx
        obtain ⟨u1, u2⟩ := hm u (by simp [hu])
        exact hc _ (getD_memL 0 (by omega))
      exact Int.mul_nonneg (by omega) (Int.mul_nonneg (by have := hoc.1; omega) (by omega))
    rw [idxN, e]
    simp only [Int.toNat_natCast]
    split
    · omega
    · have hb : (a + 1) * cards.getD n 0 ≤ A * cards.getD n 0 := Int.mul_le_mul_of_nonneg_right (by omega) (by have := hoc.1; omega)
      rw [Int.add_mul] at hb
      have := idx_lt r (a * cards.getD n 0 + values.getD n 0) (A * cards.getD n 0) (fun u hu => hm u (by simp [hu])) hc hl (by
        have := Int.mul_nonneg h0 (show 0 ≤ cards.getD n 0 by have := hoc.1; omega)
        omega) (by omega)
      rw [Int.mul_assoc] at this
      exact this

theorem right_ix {d : Dt} {vars c : List Int} (h : rightP d) (hv : listP d.cards.length vars) (hc : c ∈ d.cases) : IxOK d.cards c vars := by
  have hc' := h.2.2.1 c hc
  exact ⟨by have := list_len hv; have := h.1.2.1; omega, by have := h.1.2.1; omega, hc'.1, list_mem hv, h.2.1, fun i hi => (hc'.2 i hi).2⟩
theorem cardsOf_ok {cs vars : List Int} (h : ∀ c ∈ cs, okCard c) (hv : ∀ v ∈ vars, 0 ≤ v ∧ v < (cs.length : Int)) : ∀ x ∈ cardsOf cs vars, okCard x := by
  intro x hx
  obtain ⟨u, hu, rfl⟩ := List.mem_map.1 hx
  obtain ⟨u1, u2⟩ := hv u hu
  exact h _ (getD_memL 0 (by omega))
theorem bump_len (w : List Int) (i : Int) : (bump w i).length = w.length := by unfold bump; split <;> simp
theorem tab_len (cs vars : List Int) (n : Nat) (xs : List (List Int)) : (tabN cs vars n xs).length = n := by
  unfold tabN
  suffices ∀ w : List Int, (xs.foldl (fun w c => bump w (idxN cs c vars 0)) w).length = w.length by rw [this]; simp
  induction xs with
  | nil => intro w; rfl
  | cons c xs ih => intro w; rw [List.foldl_cons, ih, bump_len]
theorem tab_snoc {cs vars : List Int} {n : Nat} {xs : List (List Int)} {k : Nat} (h : k < xs.length) : tabN cs vars n (xs.take (k + 1)) = bump (tabN cs vars n (xs.take k)) (idxN cs (xs.getD k []) vars 0) := by
  unfold tabN
  rw [take_succ_getD [] h, List.foldl_append]
  rfl
theorem bump_le {w : List Int} {i : Int} {k : Nat} (h : ∀ x ∈ w, 0 ≤ x ∧ x ≤ k) : ∀ x ∈ bump w i, 0 ≤ x ∧ x ≤ ((k + 1 : Nat) : Int) := by
  intro x hx
  unfold bump at hx
  split at hx
  · rcases List.mem_or_eq_of_mem_set hx with hx | rfl
    · have := h x hx; omega
    · by_cases hl : i.toNat < w.length
      · have := h _ (getD_memL 0 hl); omega
      · rw [List.getD_eq_getElem?_getD, List.getElem?_eq_none (by omega)]
        simp only [Option.getD_none]
        omega
  · have := h x hx; omega
theorem cardsOf_get {cs vars : List Int} {k n : Nat} (hk : k < vars.length) (hv : vars.getD k 0 = n) : (cardsOf cs vars).getD k 0 = cs.getD n 0 := by
  unfold cardsOf
  rw [List.getD_eq_getElem?_getD, List.getElem?_map, List.getElem?_eq_getElem hk]
  rw [List.getD_eq_getElem?_getD, List.getElem?_eq_getElem hk] at hv
  simp only [Option.getD_some] at hv
  simp only [Option.map_some, Option.getD_some, hv, Int.toNat_natCast]

abbrev TF : TypeId := 35
abbrev TN : TypeId := 3
def iO (l : List Int) : AObj := ⟨TN, false, .pu (l.map i64)⟩
def zeroF : AObj := ⟨TF, false, .bx [.p .nils, .p .nils, .p .nils]⟩
def faO (a b : List Int) : AObj := ⟨TF, false, .bx [.sl 3 1 0 a.length, .sl 4 1 0 b.length, .p .nils]⟩
def faW (a b w : List Int) : AObj := ⟨TF, false, .bx [.sl 3 1 0 a.length, .sl 4 1 0 b.length, .sl 5 1 0 w.length]⟩

theorem rCount_c (d : Dt) (vars : List Int) (hr : rightP d) (hv : listP d.cards.length vars) : Pure cx 22 [d.pv, ints vars] (· = .ret [(countN d vars).pv]) := by
  refine pure_of_vc Tryd.func22 rfl rfl rfl ?_
  obtain ⟨cs, xs⟩ := d
  have hvl := list_len hv
  have hvm := list_mem hv
  have hix := fun c hc => right_ix (c := c) hr hv hc
  obtain ⟨⟨r1, r2, r3⟩, r4, r5, r6⟩ := hr
  simp only [] at hvl hvm hix r1 r2 r3 r4 r5 r6
  have hco := cardsOf_ok r4 hvm
  obtain ⟨vc, hvc⟩ : ∃ vc, vc = cardsOf cs vars := ⟨_, rfl⟩
  have hvcl : vc.length = vars.length := by rw [hvc, cardsOf, List.length_map]
  refine ⟨Nat × Int × List Int × List Int, fun x => [(1, .p (ints vars)), (2, .ptr 0 0 0), (4, .ptr 1 0 0), (5, .p (i64 x.2.1)), (6, .ptr 2 0 0), (7, .p (i64 x.1))], fun x => ⟨5, [(0, dtO ⟨cs, xs⟩), (1, zeroF), (2, faO x.2.2.1 x.2.2.2), (3, iO x.2.2.1), (4, iO x.2.2.2)]⟩,
    fun x => PrI vc x.1 x.2.1 ∧ x.2.2.1 = vars.take x.1 ∧ x.2.2.2 = vc.take x.1, fun x => vars.length - x.1, ?_, ?_⟩
  · exact ⟨(0, 1, [], []), ⟨PrI.zero _, by simp, by simp⟩, ent_of [] [] [(3, 1), (4, 1)] rfl (by (repeat' first | exact trivial | exact rfl | exact ⟨rfl, rfl⟩ | exact .inl rfl | refine ⟨_, rfl, rfl, rfl, ?_⟩ | refine ⟨_, _, rfl, ?_, ?_⟩ | refine ⟨_, rfl, ?_⟩ | refine And.intro ?_ ?_)) (by (repeat' first | exact trivial | exact rfl | exact ⟨rfl, rfl⟩ | exact .inl rfl | refine ⟨_, rfl, rfl, rfl, ?_⟩ | refine ⟨_, _, rfl, ?_, ?_⟩ | refine ⟨_, rfl, ?_⟩ | refine And.intro ?_ ?_)) rfl⟩
  rintro ⟨k, p, a, b⟩ ⟨g, ga, gb⟩
  simp only [] at g ga gb
  have gk := g.kl
  have gle := g.le (by omega)
  have glo := g.lo
  have hal : a.length ≤ 6 := by rw [ga, List.length_take]; omega
  have hbl : b.length ≤ 6 := by rw [gb, List.length_take]; omega
  refine And.intro (fun h1 => ?_) (fun h1 => ?_)
  · have h1 : (k : Int) < ((vars.map i64).length : Nat) := h1
    rw [List.length_map] at h1
    have hk : k < vars.length := by omega
    obtain ⟨m1, m2⟩ := hvm _ (getD_memL 0 hk)
    obtain ⟨n, hn⟩ : ∃ n : Nat, vars.getD k 0 = n := ⟨(vars.getD k 0).toNat, by omega⟩
    rw [hn] at m1 m2
    have hnc : n < cs.length := by omega
    have hck : vc.getD k 0 = cs.getD n 0 := by rw [hvc]; exact cardsOf_get hk hn
    have hcell : (vars.map i64)[k]? = some (i64 n) := by rw [← hn]; exact icell hk
    have g' := g.next (by omega) (by rw [hvc]; exact hco _ (getD_memL 0 (by rw [← hvc]; omega)))
    rw [hck] at g'
    have gle' := g'.le (by omega)
    have glo' := g'.lo
    refine VDraw.seq rfl ?_
    refine ⟨_, ⟨by omega, i64 n, hcell, rfl⟩, ?_⟩
    refine ⟨by (repeat' first | exact trivial | exact rfl | exact ⟨rfl, rfl⟩ | exact .inl rfl | refine ⟨_, rfl, rfl, rfl, ?_⟩ | refine ⟨_, _, rfl, ?_, ?_⟩ | refine ⟨_, rfl, ?_⟩ | refine And.intro ?_ ?_), ?_⟩
    refine ⟨by show 0 + 1 ≤ 1; omega, [i64 n], rfl, ?_⟩
    refine ⟨by show 0 + a.length ≤ (a.map i64).length; simp, a.map i64, takeAll (by simp), by show (a.length + 1) * 8 ≤ 140737488355328; omega, (a ++ [(n : Int)]).map i64, by simp, ?_⟩
    refine VDraw.seq rfl ?_
    refine ⟨_, ⟨by omega, i64 n, hcell, rfl⟩, ?_⟩
    refine ⟨_, ⟨by omega, i64 (cs.getD n 0), icell hnc, rfl⟩, ?_⟩
    refine ⟨by (repeat' first | exact trivial | exact rfl | exact ⟨rfl, rfl⟩ | exact .inl rfl | refine ⟨_, rfl, rfl, rfl, ?_⟩ | refine ⟨_, _, rfl, ?_, ?_⟩ | refine ⟨_, rfl, ?_⟩ | refine And.intro ?_ ?_), ?_⟩
    refine ⟨by show 0 + 1 ≤ 1; omega, [i64 (cs.getD n 0)], rfl, ?_⟩
    refine ⟨by show 0 + b.length ≤ (b.map i64).length; simp, b.map i64, takeAll (by simp), by show (b.length + 1) * 8 ≤ 140737488355328; omega, (b ++ [cs.getD n 0]).map i64, by simp, ?_⟩
    refine VDraw.seq rfl ?_
    refine ⟨_, ⟨by omega, i64 n, hcell, rfl⟩, ?_⟩
    refine ⟨_, ⟨by omega, i64 (cs.getD n 0), icell hnc, rfl⟩, ?_⟩
    refine ⟨p * cs.getD n 0, wrap_i64 (by omega) (by omega), ?_⟩
    refine ⟨(k : Int) + 1, wrap_i64 (by omega) (by omega), ?_⟩
    refine ⟨(k + 1, p * cs.getD n 0, a ++ [(n : Int)], b ++ [cs.getD n 0]), ⟨g', ?_, ?_⟩, ent_of [] [(3, 6), (4, 8)] [] rfl (by (repeat' first | exact trivial | exact rfl | exact ⟨rfl, rfl⟩ | exact .inl rfl | refine ⟨_, rfl, rfl, rfl, ?_⟩ | refine ⟨_, _, rfl, ?_, ?_⟩ | refine ⟨_, rfl, ?_⟩ | refine And.intro ?_ ?_)) ⟨⟨_, rfl, rfl, rfl, _, rfl, by (repeat' first | exact trivial | exact rfl | exact ⟨rfl, rfl⟩ | exact .inl rfl | refine ⟨_, rfl, rfl, rfl, ?_⟩ | refine ⟨_, _, rfl, ?_, ?_⟩ | refine ⟨_, rfl, ?_⟩ | refine And.intro ?_ ?_)⟩, ⟨_, rfl, rfl, rfl, _, rfl, by (repeat' first | exact trivial | exact rfl | exact ⟨rfl, rfl⟩ | exact .inl rfl | refine ⟨_, rfl, rfl, rfl, ?_⟩ | refine ⟨_, _, rfl, ?_, ?_⟩ | refine ⟨_, rfl, ?_⟩ | refine And.intro ?_ ?_)⟩, ⟨_, rfl, rfl, rfl, _, rfl, _, _, rfl, congrArg (fun n => AV.sl 6 1 0 n) (snoc_len a _).symm, _, _, rfl, congrArg (fun n => AV.sl 8 1 0 n) (snoc_len b _).symm, by (repeat' first | exact trivial | exact rfl | exact ⟨rfl, rfl⟩ | exact .inl rfl | refine ⟨_, rfl, rfl, rfl, ?_⟩ | refine ⟨_, _, rfl, ?_, ?_⟩ | refine ⟨_, rfl, ?_⟩ | refine And.intro ?_ ?_)⟩, ⟨_, rfl, rfl, rfl, rfl⟩, ⟨_, rfl, rfl, rfl, rfl⟩, trivial⟩ rfl, by simp only []; omega⟩
    · simp only []
      rw [take_succ_getD 0 hk, hn, ga]
    · simp only []
      rw [take_succ_getD 0 (by omega), hck, gb]
  · have h1 : ¬ (k : Int) < ((vars.map i64).length : Nat) := h1
    rw [List.length_map] at h1
    have hp := g.pe
    rw [take_all (by omega)] at hp ga gb
    subst ga gb
    refine ⟨by show 0 ≤ p ∧ p ≤ p ∧ p * 8 ≤ 281474976710656 ∧ p ≤ 281474976710656; omega, ?_⟩
    obtain ⟨S, hS⟩ : ∃ S : Nat, p = S := ⟨p.toNat, by omega⟩
    have eS : p.toNat = S := by omega
    have fin : (countN ⟨cs, xs⟩ a) = ⟨a, b, tabN cs a S xs⟩ := by
      rw [countN]
      simp only []
      rw [← hvc, ← hp, eS]
    refine ⟨Nat × List Int, fun x => [(1, .p (ints a)), (2, .ptr 0 0 0), (4, .ptr 1 0 0), (6, .ptr 2 0 0), (8, .p (i64 x.1))], fun x => ⟨6, [(0, dtO ⟨cs, xs⟩), (1, zeroF), (2, faW a b x.2), (3, iO a), (4, iO b), (5, iO x.2)]⟩,
      fun x => x.1 ≤ xs.length ∧ x.2 = tabN cs a S (xs.take x.1) ∧ ∀ y ∈ x.2, 0 ≤ y ∧ y ≤ x.1, fun x => xs.length - x.1, ?_, ?_⟩
    · refine ⟨(0, List.replicate S 0), ⟨by simp, by simp [tabN], fun y hy => by have := (List.mem_replicate.1 hy).2; simp only []; omega⟩, ent_of [] [] [] rfl (by (repeat' first | exact trivial | exact rfl | exact ⟨rfl, rfl⟩ | exact .inl rfl | refine ⟨_, rfl, rfl, rfl, ?_⟩ | refine ⟨_, _, rfl, ?_, ?_⟩ | refine ⟨_, rfl, ?_⟩ | refine And.intro ?_ ?_)) ⟨⟨_, rfl, rfl, rfl, _, rfl, by (repeat' first | exact trivial | exact rfl | exact ⟨rfl, rfl⟩ | exact .inl rfl | refine ⟨_, rfl, rfl, rfl, ?_⟩ | refine ⟨_, _, rfl, ?_, ?_⟩ | refine ⟨_, rfl, ?_⟩ | refine And.intro ?_ ?_)⟩, ⟨_, rfl, rfl, rfl, _, rfl, by (repeat' first | exact trivial | exact rfl | exact ⟨rfl, rfl⟩ | exact .inl rfl | refine ⟨_, rfl, rfl, rfl, ?_⟩ | refine ⟨_, _, rfl, ?_, ?_⟩ | refine ⟨_, rfl, ?_⟩ | refine And.intro ?_ ?_)⟩, ⟨_, rfl, rfl, rfl, _, rfl, _, _, rfl, rfl, _, _, rfl, rfl, _, _, rfl, ?_, rfl⟩, ⟨_, rfl, rfl, rfl, rfl⟩, ⟨_, rfl, rfl, rfl, rfl⟩, ⟨_, rfl, rfl, rfl, ?_⟩, trivial⟩ rfl⟩
      · exact congrArg (fun n => AV.sl 5 1 0 n) (by rw [List.length_replicate]; exact eS)
      · show List.replicate p.toNat (i64 0) = (List.replicate S (0 : Int)).map i64
        rw [eS, List.map_replicate]
    rintro ⟨j, w⟩ ⟨j1, j2, j3⟩
    simp only [] at j1 j2 j3
    have hwl : w.length = S := by rw [j2, tab_len]
    refine And.intro (fun h2 => ?_) (fun h2 => ?_)
    · have h2 : (j : Int) < ((xs.map ints).length : Nat) := h2
      rw [List.length_map] at h2
      have hj : j < xs.length := by omega
      obtain ⟨c, hc⟩ : ∃ c, c = xs.getD j [] := ⟨_, rfl⟩
      have hcm : c ∈ xs := by rw [hc]; exact getD_memL [] hj
      have hI := index_c cs a c (hix c hcm)
      have hlt := idx_lt a 0 1 hvm r4 (hix c hcm).lt (by omega) (by omega)
      rw [← hvc, ← hp, Int.one_mul] at hlt
      have hsn := tab_snoc (cs := cs) (vars := a) (n := S) hj
      rw [← hc, ← j2] at hsn
      obtain ⟨t, ht⟩ : ∃ t, t = idxN cs c a 0 := ⟨_, rfl⟩
      rw [← ht] at hI hlt hsn
      refine VDraw.seq rfl ?_
      refine ⟨_, ⟨by omega, ints c, by rw [hc]; exact ccell hj, rfl⟩, ?_⟩
      refine hI.eq rfl ?_
      have hbl' := bump_le (i := t) j3
      refine And.intro (fun h3 => ?_) (fun h3 => ?_)
      · have h3 : 0 ≤ t := h3
        have htl : t.toNat < w.length := by omega
        have hw0 := j3 _ (getD_memL 0 htl)
        refine VDraw.seq rfl ?_
        refine ⟨by show 0 ≤ t ∧ t < (w.length : Nat); omega, ?_⟩
        refine ⟨_, ⟨i64 (w.getD t.toNat 0), by show (w.map i64)[0 + t.toNat]? = _; rw [Nat.zero_add]; exact icell htl, rfl⟩, ?_⟩
        refine ⟨w.getD t.toNat 0 + 1, wrap_i64 (by omega) (by omega), ?_⟩
        refine ⟨by show 0 ≤ t ∧ t < (w.length : Nat); omega, ?_⟩
        refine ⟨by show 0 + t.toNat < (w.map i64).length; rw [List.length_map]; omega, ?_⟩
        refine ⟨(j : Int) + 1, wrap_i64 (by omega) (by omega), ?_⟩
        refine ⟨(j + 1, bump w t), ⟨by simp only []; omega, hsn.symm, hbl'⟩, ent_of [] [] [] rfl (by (repeat' first | exact trivial | exact rfl | exact ⟨rfl, rfl⟩ | exact .inl rfl | refine ⟨_, rfl, rfl, rfl, ?_⟩ | refine ⟨_, _, rfl, ?_, ?_⟩ | refine ⟨_, rfl, ?_⟩ | refine And.intro ?_ ?_)) ⟨⟨_, rfl, rfl, rfl, _, rfl, by (repeat' first | exact trivial | exact rfl | exact ⟨rfl, rfl⟩ | exact .inl rfl | refine ⟨_, rfl, rfl, rfl, ?_⟩ | refine ⟨_, _, rfl, ?_, ?_⟩ | refine ⟨_, rfl, ?_⟩ | refine And.intro ?_ ?_)⟩, ⟨_, rfl, rfl, rfl, _, rfl, by (repeat' first | exact trivial | exact rfl | exact ⟨rfl, rfl⟩ | exact .inl rfl | refine ⟨_, rfl, rfl, rfl, ?_⟩ | refine ⟨_, _, rfl, ?_, ?_⟩ | refine ⟨_, rfl, ?_⟩ | refine And.intro ?_ ?_)⟩, ⟨_, rfl, rfl, rfl, _, rfl, _, _, rfl, rfl, _, _, rfl, rfl, _, _, rfl, congrArg (fun n => AV.sl 5 1 0 n) (bump_len w t).symm, rfl⟩, ⟨_, rfl, rfl, rfl, rfl⟩, ⟨_, rfl, rfl, rfl, rfl⟩, ⟨_, rfl, rfl, rfl, ?_⟩, trivial⟩ rfl, by simp only []; omega⟩
        show (w.map i64).set (0 + t.toNat) (i64 (w.getD t.toNat 0 + 1)) = (bump w t).map i64
        rw [bump, if_pos h3, List.map_set, Nat.zero_add]
      · have h3 : ¬ 0 ≤ t := h3
        have hbe : bump w t = w := if_neg h3
        rw [hbe] at hsn hbl'
        refine ⟨(j : Int) + 1, wrap_i64 (by omega) (by omega), ?_⟩
        exact ⟨(j + 1, w), ⟨by simp only []; omega, hsn.symm, hbl'⟩, ent_of [] [] [] rfl (by (repeat' first | exact trivial | exact rfl | exact ⟨rfl, rfl⟩ | exact .inl rfl | refine ⟨_, rfl, rfl, rfl, ?_⟩ | refine ⟨_, _, rfl, ?_, ?_⟩ | refine ⟨_, rfl, ?_⟩ | refine And.intro ?_ ?_)) (by (repeat' first | exact trivial | exact rfl | exact ⟨rfl, rfl⟩ | exact .inl rfl | refine ⟨_, rfl, rfl, rfl, ?_⟩ | refine ⟨_, _, rfl, ?_, ?_⟩ | refine ⟨_, rfl, ?_⟩ | refine And.intro ?_ ?_)) rfl, by simp only []; omega⟩
    · have h2 : ¬ (j : Int) < ((xs.map ints).length : Nat) := h2
      rw [List.length_map] at h2
      rw [take_all (by omega)] at j2
      refine end1 (countN ⟨cs, xs⟩ a).pv rfl ⟨_, rfl, _, _, rfl, ⟨_, rfl, by show 0 + a.length ≤ (a.map i64).length; simp, ?_⟩, _, _, rfl, ⟨_, rfl, by show 0 + b.length ≤ (b.map i64).length; simp, ?_⟩, _, _, rfl, ⟨_, rfl, by show 0 + w.length ≤ (w.map i64).length; simp, ?_⟩, rfl⟩ rfl
      · rw [fin]; exact takeAll (by simp)
      · rw [fin]; exact takeAll (by simp)
      · rw [fin, ← j2]; exact takeAll (by simp)
end Go.Proofs.YtmdmjnfdemgpoaaDoor

/- The reference: texts. -/
namespace Go.Proofs.YtmdmjnfdemgpoaaDoor
open Go Y
set_option maxRecDepth 100000
set_option maxHeartbeats 4000000

def chN (x : Int) : UInt8 := if x < 0 then 63 else UInt8.ofNat (48 + x.toNat)
def sepN (l : List Int) : List UInt8 := l.flatMap fun x => [32, chN x]
def bodyN (l : List Int) : List UInt8 := (sepN l).drop 1
def lineN (l : List Int) : List UInt8 := bodyN l ++ [10]
def printN (d : Dt) : List UInt8 := lineN d.cards ++ d.cases.flatMap lineN
def digs (l : List Int) : Prop := ∀ x ∈ l, -1 ≤ x ∧ x ≤ 9

theorem sep_len (l : List Int) : (sepN l).length = 2 * l.length := by
  induction l with
  | nil => rfl
  | cons x l ih => unfold sepN at ih ⊢; rw [List.flatMap_cons, List.length_append, ih]; simp; omega
theorem body_len (l : List Int) : (bodyN l).length = 2 * l.length - 1 := by rw [bodyN, List.length_drop, sep_len]
theorem line_len (l : List Int) : (lineN l).length ≤ 2 * l.length + 1 := by rw [lineN, List.length_append, body_len, List.length_singleton]; omega
theorem body_snoc (l : List Int) (x : Int) : bodyN (l ++ [x]) = (if l = [] then [] else bodyN l ++ [32]) ++ [chN x] := by
  have e : sepN (l ++ [x]) = sepN l ++ [32, chN x] := by simp [sepN]
  rw [bodyN, e]
  cases l with
  | nil => rfl
  | cons y l =>
    rw [if_neg (by simp), bodyN]
    have : 1 ≤ (sepN (y :: l)).length := by rw [sep_len]; simp; omega
    rw [List.drop_append_of_le_length this]
    simp
theorem ch_nat {x : Int} (h0 : 0 ≤ x) (h9 : x ≤ 9) : (chN x).toNat = 48 + x.toNat := by
  rw [chN, if_neg (by omega)]
  exact UInt8.toNat_ofNat_of_lt (by show _ < 256; omega)

theorem line_c (l : List Int) (hl : l.length ≤ 1000) (hd : digs l) : Pure cx 57 [ints l] (· = .ret [.str (lineN l)]) := by
  refine pure_of_vc Tryd.func57 rfl rfl rfl ?_
  refine ⟨Nat, fun k => [(0, .p (ints l)), (3, vS (bodyN (l.take k))), (4, .p (i64 k))], fun _ => ⟨0, []⟩, fun k => k ≤ l.length, fun k => l.length - k, ?_, ?_⟩
  · exact ⟨0, by omega, ent0 rfl ⟨rfl, rfl, rfl, trivial⟩ trivial rfl⟩
  intro k g
  have hbl := body_len (l.take k)
  rw [List.length_take] at hbl
  refine And.intro (fun h1 => ?_) (fun h1 => ?_)
  · have h1 : (k : Int) < ((l.map i64).length : Nat) := h1
    rw [List.length_map] at h1
    have hk : k < l.length := by omega
    have hsn := body_snoc (l.take k) (l.getD k 0)
    rw [← take_succ_getD 0 hk] at hsn
    obtain ⟨x1, x2⟩ := hd _ (getD_memL 0 hk)
    obtain ⟨x, hx⟩ : ∃ x, x = l.getD k 0 := ⟨_, rfl⟩
    rw [← hx] at hsn x1 x2
    have hcell : (l.map i64)[k]? = some (i64 x) := by rw [hx]; exact icell hk
    refine And.intro (fun h2 => ?_) (fun h2 => ?_)
    · have h2 : (0 : Int) < k := h2
      rw [if_neg (by intro e; have := congrArg List.length e; rw [List.length_take] at this; simp only [List.length_nil] at this; omega)] at hsn
      refine ⟨by show (bodyN (l.take k)).length + 1 ≤ _; omega, ?_⟩
      refine ⟨_, ⟨by omega, i64 x, hcell, rfl⟩, ?_⟩
      refine And.intro (fun h3 => ?_) (fun h3 => ?_)
      · have h3 : x < 0 := h3
        have hch : chN x = 63 := if_pos h3
        rw [hch] at hsn
        refine ⟨by show (bodyN (l.take k) ++ [32]).length + 1 ≤ _; rw [List.length_append]; show _ + 1 + 1 ≤ _; omega, ?_⟩
        refine ⟨(k : Int) + 1, wrap_i64 (by omega) (by omega), k + 1, by omega, ent0 rfl ⟨rfl, congrArg PV.str hsn, rfl, trivial⟩ trivial rfl, by show l.length - (k + 1) < l.length - k; omega⟩
      · have h3 : ¬ x < 0 := h3
        have hcn := ch_nat (show 0 ≤ x by omega) x2
        refine ⟨_, ⟨by omega, i64 x, hcell, rfl⟩, ?_⟩
        refine ⟨48 + x, wrap_i64 (by omega) (by omega), ?_⟩
        refine ⟨48 + x, wrap8 (by omega) (by omega), ?_⟩
        refine ⟨_, ⟨by show 0 + 1 ≤ 1; omega, [chN x], by show [PV.int .u8 (48 + x)] = [ub (chN x)]; rw [ub, hcn]; congr 2; omega, rfl⟩, ?_⟩
        refine ⟨by show (bodyN (l.take k) ++ [32]).length + 1 ≤ _; rw [List.length_append]; show _ + 1 + 1 ≤ _; omega, ?_⟩
        refine ⟨(k : Int) + 1, wrap_i64 (by omega) (by omega), k + 1, by omega, ent0 rfl ⟨rfl, congrArg PV.str hsn, rfl, trivial⟩ trivial rfl, by show l.length - (k + 1) < l.length - k; omega⟩
    · have h2 : ¬ (0 : Int) < k := h2
      have hk0 : k = 0 := by omega
      rw [if_pos (by rw [hk0]; rfl)] at hsn
      have hb0 : bodyN (l.take k) = [] := by rw [hk0]; rfl
      refine ⟨_, ⟨by omega, i64 x, hcell, rfl⟩, ?_⟩
      refine And.intro (fun h3 => ?_) (fun h3 => ?_)
      · have h3 : x < 0 := h3
        have hch : chN x = 63 := if_pos h3
        rw [hch] at hsn
        refine ⟨by show (bodyN (l.take k)).length + 1 ≤ _; omega, ?_⟩
        refine ⟨(k : Int) + 1, wrap_i64 (by omega) (by omega), k + 1, by omega, ent0 rfl ⟨rfl, congrArg PV.str (by rw [hsn, hb0]), rfl, trivial⟩ trivial rfl, by show l.length - (k + 1) < l.length - k; omega⟩
      · have h3 : ¬ x < 0 := h3
        have hcn := ch_nat (show 0 ≤ x by omega) x2
        refine ⟨_, ⟨by omega, i64 x, hcell, rfl⟩, ?_⟩
        refine ⟨48 + x, wrap_i64 (by omega) (by omega), ?_⟩
        refine ⟨48 + x, wrap8 (by omega) (by omega), ?_⟩
        refine ⟨_, ⟨by show 0 + 1 ≤ 1; omega, [chN x], by show [PV.int .u8 (48 + x)] = [ub (chN x)]; rw [ub, hcn]; congr 2; omega, rfl⟩, ?_⟩
        refine ⟨by show (bodyN (l.take k)).length + 1 ≤ _; omega, ?_⟩
        refine ⟨(k : Int) + 1, wrap_i64 (by omega) (by omega), k + 1, by omega, ent0 rfl ⟨rfl, congrArg PV.str (by rw [hsn, hb0]), rfl, trivial⟩ trivial rfl, by show l.length - (k + 1) < l.length - k; omega⟩
  · have h1 : ¬ (k : Int) < ((l.map i64).length : Nat) := h1
    rw [List.length_map] at h1
    refine ⟨by show (bodyN (l.take k)).length + 1 ≤ _; omega, ?_⟩
    refine end1 _ rfl rfl ?_
    show PEnd.ret [.str (bodyN (l.take k) ++ [10])] = _
    rw [take_all (by omega)]
    rfl

theorem right_digs {d : Dt} (h : rightP d) : digs d.cards ∧ ∀ c ∈ d.cases, digs c ∧ c.length ≤ 6 := by
  refine ⟨fun x hx => by have := h.2.1 x hx; unfold okCard at this; omega, fun c hc => ?_⟩
  obtain ⟨h1, h2⟩ := h.2.2.1 c hc
  refine ⟨fun x hx => ?_, by have := h.1.2.1; omega⟩
  obtain ⟨i, hi, rfl⟩ := List.mem_iff_getElem.1 hx
  have h3 := h2 i (by omega)
  rw [List.getD_eq_getElem?_getD, List.getElem?_eq_getElem hi] at h3
  simp only [Option.getD_some] at h3
  have h4 := h.2.1 _ (getD_memL 0 (show i < d.cards.length by omega))
  unfold okCard at h4
  omega
theorem lines_len {xs : List (List Int)} (h : ∀ c ∈ xs, c.length ≤ 6) : (xs.flatMap lineN).length ≤ 13 * xs.length := by
  induction xs with
  | nil => simp
  | cons c xs ih =>
    have h1 := ih fun x hx => h x (by simp [hx])
    have h2 := line_len c
    have h3 := h c (by simp)
    rw [List.flatMap_cons, List.length_append, List.length_cons]
    omega
theorem print_len {d : Dt} (h : rightP d) : (printN d).length ≤ 600 := by
  have h1 := lines_len fun c hc => ((right_digs h).2 c hc).2
  have h2 := line_len d.cards
  have := h.1
  rw [printN, List.length_append]
  omega
theorem flat_snoc {xs : List (List Int)} {k : Nat} (h : k < xs.length) : (xs.take (k + 1)).flatMap lineN = (xs.take k).flatMap lineN ++ lineN (xs.getD k []) := by
  rw [take_succ_getD [] h, List.flatMap_append]; simp

theorem rPrint_c (d : Dt) (hr : rightP d) : Pure cx 30 [d.pv] (· = .ret [.str (printN d)]) := by
  refine pure_of_vc Tryd.func30 rfl rfl rfl ?_
  obtain ⟨q1, q2⟩ := right_digs hr
  obtain ⟨cs, xs⟩ := d
  obtain ⟨⟨r1, r2, r3⟩, r4, r5, r6⟩ := hr
  simp only [] at q1 q2 r1 r2 r3
  refine (line_c cs (by omega) q1).eq rfl ?_
  have hcl := line_len cs
  refine ⟨Nat, fun k => [(1, .ptr 0 0 0), (3, vS (lineN cs ++ (xs.take k).flatMap lineN)), (4, .p (i64 k))], fun _ => ⟨1, [(0, dtO ⟨cs, xs⟩)]⟩, fun k => k ≤ xs.length, fun k => xs.length - k, ?_, ?_⟩
  · exact ⟨0, by omega, ent_of [] [] [] rfl ⟨⟨rfl, rfl⟩, congrArg PV.str (by simp), rfl, trivial⟩ (by (repeat' first | exact trivial | exact rfl | exact ⟨rfl, rfl⟩ | exact .inl rfl | refine ⟨_, rfl, rfl, rfl, ?_⟩ | refine ⟨_, _, rfl, ?_, ?_⟩ | refine ⟨_, rfl, ?_⟩ | refine And.intro ?_ ?_)) rfl⟩
  intro k g
  refine And.intro (fun h1 => ?_) (fun h1 => ?_)
  · have h1 : (k : Int) < ((xs.map ints).length : Nat) := h1
    rw [List.length_map] at h1
    have hk : k < xs.length := by omega
    obtain ⟨c, hc⟩ : ∃ c, c = xs.getD k [] := ⟨_, rfl⟩
    have hq := q2 c (by rw [hc]; exact getD_memL [] hk)
    have hsn := flat_snoc hk
    rw [← hc] at hsn
    refine ⟨_, ⟨by omega, ints c, by rw [hc]; exact ccell hk, rfl⟩, ?_⟩
    refine (line_c c (by omega) hq.1).eq rfl ?_
    have hl1 := lines_len (xs := xs.take k) fun x hx => (q2 x (List.mem_of_mem_take hx)).2
    have hl2 := line_len c
    rw [List.length_take] at hl1
    refine ⟨by show (lineN cs ++ (xs.take k).flatMap lineN).length + (lineN c).length ≤ _; rw [List.length_append]; omega, ?_⟩
    refine ⟨(k : Int) + 1, wrap_i64 (by omega) (by omega), k + 1, by omega, ent_of [] [] [] rfl ⟨⟨rfl, rfl⟩, congrArg PV.str (by rw [hsn, List.append_assoc]), rfl, trivial⟩ (by (repeat' first | exact trivial | exact rfl | exact ⟨rfl, rfl⟩ | exact .inl rfl | refine ⟨_, rfl, rfl, rfl, ?_⟩ | refine ⟨_, _, rfl, ?_, ?_⟩ | refine ⟨_, rfl, ?_⟩ | refine And.intro ?_ ?_)) rfl, by show xs.length - (k + 1) < xs.length - k; omega⟩
  · have h1 : ¬ (k : Int) < ((xs.map ints).length : Nat) := h1
    rw [List.length_map] at h1
    refine end1 _ rfl rfl ?_
    show PEnd.ret [.str (lineN cs ++ (xs.take k).flatMap lineN)] = _
    rw [take_all (by omega)]
    rfl

/-! ### Reading -/
def digQ (c : UInt8) : Option Int := if c.toNat = 63 then some (-1) else if 48 ≤ c.toNat ∧ c.toNat ≤ 57 then some ((c.toNat : Int) - 48) else none
def scanN : Bool → List UInt8 → Option (List Int)
  | _, [] => some []
  | true, c :: r => if c.toNat = 32 then scanN false r else none
  | false, c :: r => match digQ c with
    | some x => (scanN true r).map (x :: ·)
    | none => none
def numsN (s : List UInt8) : Option (List Int) := if s.length % 2 = 0 then none else scanN false s
def numsV : Option (List Int) → List PV
  | none => [.lst [], .bool false]
  | some l => [ints l, .bool true]
theorem map_snoc (o : Option (List Int)) (acc : List Int) (x : Int) : (o.map (x :: ·)).map (acc ++ ·) = o.map ((acc ++ [x]) ++ ·) := by
  cases o <;> simp

theorem numbers_c (s : List UInt8) (hs : s.length ≤ 1000) : Pure cx 59 [.str s] (· = .ret (numsV (numsN s))) := by
  refine pure_of_vc Tryd.func59 rfl rfl rfl ?_
  refine ⟨by decide, ?_⟩
  refine And.intro (fun h1 => ?_) (fun h1 => ?_)
  · have h1 : ((s.length % 2 : Nat) : Int) = 0 := h1
    refine end2 (.lst []) (.bool false) rfl (.inr (.inl rfl)) rfl ?_
    rw [numsN, if_pos (by omega)]
    rfl
  have h1 : ¬ ((s.length % 2 : Nat) : Int) = 0 := h1
  have hn : numsN s = scanN false s := if_neg (by omega)
  rw [hn]
  refine ⟨Nat × List Int, fun x => [(0, vS s), (4, .sl 0 1 0 x.2.length), (5, .p (i64 x.1))], fun x => ⟨1, [(0, iO x.2)]⟩, fun x => x.1 ≤ s.length ∧ x.2.length ≤ x.1 ∧ scanN false s = (scanN (decide (x.1 % 2 = 1)) (s.drop x.1)).map (x.2 ++ ·), fun x => s.length - x.1, ?_, ?_⟩
  · exact ⟨(0, []), ⟨by simp, by simp, by simp⟩, ent_of [] [] [(0, 1)] rfl (by (repeat' first | exact trivial | exact rfl | exact ⟨rfl, rfl⟩ | exact .inl rfl | refine ⟨_, rfl, rfl, rfl, ?_⟩ | refine ⟨_, _, rfl, ?_, ?_⟩ | refine ⟨_, rfl, ?_⟩ | refine And.intro ?_ ?_)) (by (repeat' first | exact trivial | exact rfl | exact ⟨rfl, rfl⟩ | exact .inl rfl | refine ⟨_, rfl, rfl, rfl, ?_⟩ | refine ⟨_, _, rfl, ?_, ?_⟩ | refine ⟨_, rfl, ?_⟩ | refine And.intro ?_ ?_)) rfl⟩
  rintro ⟨k, acc⟩ ⟨g1, g2, g3⟩
  simp only [] at g1 g2 g3
  have bad : scanN false s = none → PEnd.ret [.lst [], .bool false] = .ret (numsV (scanN false s)) := fun h => by rw [h]; rfl
  refine And.intro (fun h2 => ?_) (fun h2 => ?_)
  · have h2 : (k : Int) < (s.length : Nat) := h2
    have hk : k < s.length := by omega
    have hd : s.drop k = s[k] :: s.drop (k + 1) := List.drop_eq_getElem_cons hk
    refine ⟨by decide, ?_⟩
    refine And.intro (fun h3 => ?_) (fun h3 => ?_)
    · have h3 : ((k % 2 : Nat) : Int) = 1 := h3
      refine ⟨_, ⟨by omega, s[k], List.getElem?_eq_getElem hk, rfl⟩, ?_⟩
      rw [hd, decide_eq_true (by omega), scanN] at g3
      refine And.intro (fun h4 => ?_) (fun h4 => ?_)
      · have h4 : ((s[k].toNat : Nat) : Int) = 32 := h4
        rw [if_pos (by omega)] at g3
        refine ⟨(k : Int) + 1, wrap_i64 (by omega) (by omega), ?_⟩
        exact ⟨(k + 1, acc), ⟨by simp only []; omega, by simp only []; omega, by simp only []; rw [decide_eq_false (by omega)]; exact g3⟩, ent_of [] [] [] rfl (by (repeat' first | exact trivial | exact rfl | exact ⟨rfl, rfl⟩ | exact .inl rfl | refine ⟨_, rfl, rfl, rfl, ?_⟩ | refine ⟨_, _, rfl, ?_, ?_⟩ | refine ⟨_, rfl, ?_⟩ | refine And.intro ?_ ?_)) (by (repeat' first | exact trivial | exact rfl | exact ⟨rfl, rfl⟩ | exact .inl rfl | refine ⟨_, rfl, rfl, rfl, ?_⟩ | refine ⟨_, _, rfl, ?_, ?_⟩ | refine ⟨_, rfl, ?_⟩ | refine And.intro ?_ ?_)) rfl, by simp only []; omega⟩
      · have h4 : ¬ ((s[k].toNat : Nat) : Int) = 32 := h4
        rw [if_neg (by omega)] at g3
        exact end2 (.lst []) (.bool false) rfl (.inr (.inl rfl)) rfl (bad g3)
    · have h3 : ¬ ((k % 2 : Nat) : Int) = 1 := h3
      rw [hd, decide_eq_false (by omega), scanN] at g3
      have nx : ∀ x, digQ s[k] = some x → scanN false s = (scanN (decide ((k + 1) % 2 = 1)) (s.drop (k + 1))).map ((acc ++ [x]) ++ ·) := by
        intro x hx
        rw [decide_eq_true (by omega), ← map_snoc, g3, hx]
      refine ⟨_, ⟨by omega, s[k], List.getElem?_eq_getElem hk, rfl⟩, ?_⟩
      refine And.intro (fun h4 => ?_) (fun h4 => ?_)
      · have h4 : ((s[k].toNat : Nat) : Int) = 63 := h4
        have hx : digQ s[k] = some (-1) := if_pos (by omega)
        refine ⟨by show 0 + 1 ≤ 1; omega, [i64 (-1)], rfl, ?_⟩
        refine ⟨by show 0 + acc.length ≤ (acc.map i64).length; simp, acc.map i64, takeAll (by simp), by show (acc.length + 1) * 8 ≤ 140737488355328; omega, (acc ++ [-1]).map i64, by simp, ?_⟩
        refine ⟨(k : Int) + 1, wrap_i64 (by omega) (by omega), ?_⟩
        exact ⟨(k + 1, acc ++ [-1]), ⟨by simp only []; omega, by simp only [snoc_len]; omega, nx _ hx⟩, ent_of [] [(0, 2)] [] rfl ⟨rfl, congrArg (fun n => AV.sl 2 1 0 n) (snoc_len acc _).symm, rfl, trivial⟩ (by (repeat' first | exact trivial | exact rfl | exact ⟨rfl, rfl⟩ | exact .inl rfl | refine ⟨_, rfl, rfl, rfl, ?_⟩ | refine ⟨_, _, rfl, ?_, ?_⟩ | refine ⟨_, rfl, ?_⟩ | refine And.intro ?_ ?_)) rfl, by simp only []; omega⟩
      · have h4 : ¬ ((s[k].toNat : Nat) : Int) = 63 := h4
        refine ⟨_, ⟨by omega, s[k], List.getElem?_eq_getElem hk, rfl⟩, ?_⟩
        refine And.intro (fun h5 => ?_) (fun h5 => ?_)
        · have h5 : (48 : Int) ≤ ((s[k].toNat : Nat) : Int) := h5
          refine ⟨_, ⟨by omega, s[k], List.getElem?_eq_getElem hk, rfl⟩, ?_⟩
          refine And.intro (fun h6 => ?_) (fun h6 => ?_)
          · have h6 : ((s[k].toNat : Nat) : Int) ≤ 57 := h6
            have hx : digQ s[k] = some ((s[k].toNat : Int) - 48) := by rw [digQ, if_neg (by omega), if_pos ⟨by omega, by omega⟩]
            refine ⟨_, ⟨by omega, s[k], List.getElem?_eq_getElem hk, rfl⟩, ?_⟩
            refine ⟨(s[k].toNat : Int) - 48, wrap8 (by omega) (by omega), ?_⟩
            refine ⟨(s[k].toNat : Int) - 48, wrap_i64 (by omega) (by omega), ?_⟩
            refine ⟨by show 0 + 1 ≤ 1; omega, [i64 ((s[k].toNat : Int) - 48)], rfl, ?_⟩
            refine ⟨by show 0 + acc.length ≤ (acc.map i64).length; simp, acc.map i64, takeAll (by simp), by show (acc.length + 1) * 8 ≤ 140737488355328; omega, (acc ++ [(s[k].toNat : Int) - 48]).map i64, by simp, ?_⟩
            refine ⟨(k : Int) + 1, wrap_i64 (by omega) (by omega), ?_⟩
            exact ⟨(k + 1, acc ++ [(s[k].toNat : Int) - 48]), ⟨by simp only []; omega, by simp only [snoc_len]; omega, nx _ hx⟩, ent_of [] [(0, 2)] [] rfl ⟨rfl, congrArg (fun n => AV.sl 2 1 0 n) (snoc_len acc _).symm, rfl, trivial⟩ (by (repeat' first | exact trivial | exact rfl | exact ⟨rfl, rfl⟩ | exact .inl rfl | refine ⟨_, rfl, rfl, rfl, ?_⟩ | refine ⟨_, _, rfl, ?_, ?_⟩ | refine ⟨_, rfl, ?_⟩ | refine And.intro ?_ ?_)) rfl, by simp only []; omega⟩
          · have h6 : ¬ ((s[k].toNat : Nat) : Int) ≤ 57 := h6
            have hx : digQ s[k] = none := by rw [digQ, if_neg (by omega), if_neg (by omega)]
            rw [hx] at g3
            exact end2 (.lst []) (.bool false) rfl (.inr (.inl rfl)) rfl (bad g3)
        · have h5 : ¬ (48 : Int) ≤ ((s[k].toNat : Nat) : Int) := h5
          have hx : digQ s[k] = none := by rw [digQ, if_neg (by omega), if_neg (by omega)]
          rw [hx] at g3
          exact end2 (.lst []) (.bool false) rfl (.inr (.inl rfl)) rfl (bad g3)
  · have h2 : ¬ (k : Int) < (s.length : Nat) := h2
    rw [List.drop_eq_nil_of_le (by omega)] at g3
    have e : scanN false s = some acc := by rw [g3]; cases decide (k % 2 = 1) <;> simp [scanN]
    refine end2 (ints acc) (.bool true) rfl ⟨_, rfl, by show 0 + acc.length ≤ (acc.map i64).length; simp, takeAll (by simp)⟩ rfl ?_
    rw [e]
    rfl
end Go.Proofs.YtmdmjnfdemgpoaaDoor

/- The reference: Parse. -/
namespace Go.Proofs.YtmdmjnfdemgpoaaDoor
open Go Y
set_option maxRecDepth 100000
set_option maxHeartbeats 4000000

def linesR : List UInt8 → List UInt8 → Option (List (List Int))
  | cur, [] => if cur = [] then some [] else none
  | cur, c :: r => if c.toNat = 10 then (match numsN cur with
    | some l => (linesR [] r).map (l :: ·)
    | none => none) else linesR (cur ++ [c]) r
def dtZero : Dt := ⟨[], []⟩
def parseN (t : List UInt8) : Dt × Int :=
  if 600 < t.length then (dtZero, 3) else match linesR [] t with
    | some (l :: ls) => if rightP ⟨l, ls⟩ then (⟨l, ls⟩, 0) else (dtZero, 5)
    | _ => (dtZero, 5)
def parseV (t : List UInt8) : List PV := [(parseN t).1.pv, i64 (parseN t).2]

theorem scan_len : ∀ (b : Bool) (s : List UInt8) (l : List Int), scanN b s = some l → l.length ≤ s.length
  | _, [], l, h => by simp [scanN] at h; subst h; simp
  | true, c :: r, l, h => by
    rw [scanN] at h
    split at h
    · have := scan_len false r l h; simp; omega
    · cases h
  | false, c :: r, l, h => by
    rw [scanN] at h
    split at h
    · rw [Option.map_eq_some_iff] at h
      obtain ⟨m, h1, rfl⟩ := h
      have := scan_len true r m h1
      simp; omega
    · cases h
theorem nums_len {s : List UInt8} {l : List Int} (h : numsN s = some l) : l.length ≤ s.length := by
  rw [numsN] at h
  split at h
  · cases h
  · exact scan_len _ _ _ h
theorem mapc_snoc (o : Option (List (List Int))) (acc : List (List Int)) (x : List Int) : (o.map (x :: ·)).map (acc ++ ·) = o.map ((acc ++ [x]) ++ ·) := by
  cases o <;> simp
theorem sub_eq (t : List UInt8) (a b : Nat) : sub t (some (a : Int)) (some (b : Int)) = (t.drop a).take (b - a) := rfl

theorem lines_step {t : List UInt8} {st i : Nat} (h : i < t.length) (hs : st ≤ i) : (t.drop st).take (i + 1 - st) = (t.drop st).take (i - st) ++ [t[i]] := by
  rw [show i + 1 - st = (i - st) + 1 by omega, List.take_add_one, List.getElem?_drop, show st + (i - st) = i by omega, List.getElem?_eq_getElem h]
  rfl
theorem parse_bad {t : List UInt8} (h : t.length ≤ 600) (hl : linesR [] t = none ∨ linesR [] t = some []) : parseV t = [dtZero.pv, i64 5] := by
  rw [parseV, parseN, if_neg (by omega)]
  rcases hl with e | e <;> rw [e]
theorem optC {α : Type} (x : Option α) : x = none ∨ ∃ y, x = some y := by cases x <;> simp

theorem rParse_c (t : List UInt8) : Pure cx 33 [.str t] (· = .ret (parseV t)) := by
  refine pure_of_vc Tryd.func33 rfl rfl rfl ?_
  refine And.intro (fun h1 => ?_) (fun h1 => ?_)
  · have h1 : (600 : Int) < (t.length : Nat) := h1
    refine end2 dtZero.pv (i64 3) rfl ⟨_, rfl, _, _, rfl, .inr (.inl rfl), _, _, rfl, .inr (.inl rfl), rfl⟩ rfl ?_
    rw [parseV, parseN, if_pos (by omega)]
  have h1 : ¬ (600 : Int) < (t.length : Nat) := h1
  refine ⟨Nat × Nat × List (List Int), fun x => [(0, vS t), (2, .ptr 0 0 0), (4, .sl 1 1 0 x.2.2.length), (5, .p (i64 x.2.1)), (6, .p (i64 x.1))], fun x => ⟨2, [(0, zeroO), (1, csO x.2.2)]⟩,
    fun x => x.2.1 ≤ x.1 ∧ x.1 ≤ t.length ∧ x.2.2.length ≤ x.1 ∧ (∀ c ∈ x.2.2, c.length ≤ 600) ∧ linesR [] t = (linesR ((t.drop x.2.1).take (x.1 - x.2.1)) (t.drop x.1)).map (x.2.2 ++ ·), fun x => t.length - x.1, ?_, ?_⟩
  · exact ⟨(0, 0, []), ⟨by simp, by simp, by simp, by simp, by simp⟩, ent_of [] [] [(1, 1)] rfl (by (repeat' first | exact trivial | exact rfl | exact ⟨rfl, rfl⟩ | exact .inl rfl | refine ⟨_, rfl, rfl, rfl, ?_⟩ | refine ⟨_, _, rfl, ?_, ?_⟩ | refine ⟨_, rfl, ?_⟩ | refine And.intro ?_ ?_)) (by (repeat' first | exact trivial | exact rfl | exact ⟨rfl, rfl⟩ | exact .inl rfl | refine ⟨_, rfl, rfl, rfl, ?_⟩ | refine ⟨_, _, rfl, ?_, ?_⟩ | refine ⟨_, rfl, ?_⟩ | refine And.intro ?_ ?_)) rfl⟩
  rintro ⟨i, st, acc⟩ ⟨g1, g2, g3, g4, g5⟩
  simp only [] at g1 g2 g3 g4 g5
  refine And.intro (fun h2 => ?_) (fun h2 => ?_)
  · have h2 : (i : Int) < (t.length : Nat) := h2
    have hi : i < t.length := by omega
    have hd : t.drop i = t[i] :: t.drop (i + 1) := List.drop_eq_getElem_cons hi
    rw [hd, linesR] at g5
    refine ⟨_, ⟨by omega, t[i], List.getElem?_eq_getElem hi, rfl⟩, ?_⟩
    refine And.intro (fun h3 => ?_) (fun h3 => ?_)
    · have h3 : ((t[i].toNat : Nat) : Int) = 10 := h3
      rw [if_pos (by omega)] at g5
      refine ⟨by show (0 : Int) ≤ st ∧ (st : Int) ≤ i ∧ (i : Int) ≤ (t.length : Nat); omega, ?_⟩
      obtain ⟨cur, hcur⟩ : ∃ cur, cur = (t.drop st).take (i - st) := ⟨_, rfl⟩
      have hcl : cur.length ≤ 600 := by rw [hcur, List.length_take, List.length_drop]; omega
      have hN := numbers_c cur (by omega)
      rw [← hcur] at g5
      refine Or.elim (optC (numsN cur)) (fun hn => ?_) (fun hn => Exists.elim hn fun l hn => ?_)
      · rw [hn] at hN g5
        refine hN.eq (congrArg (fun z => [vS z]) (show sub t (some (st : Int)) (some (i : Int)) = cur by rw [sub_eq, hcur])) ?_
        refine end2 dtZero.pv (i64 5) rfl ⟨_, rfl, _, _, rfl, .inr (.inl rfl), _, _, rfl, .inr (.inl rfl), rfl⟩ rfl ?_
        rw [parse_bad (by omega) (.inl g5)]
      · rw [hn] at hN g5
        refine hN.eq (congrArg (fun z => [vS z]) (show sub t (some (st : Int)) (some (i : Int)) = cur by rw [sub_eq, hcur])) ?_
        have hll := nums_len hn
        refine ⟨by show 0 + 1 ≤ 1; omega, [ints l], rfl, ?_⟩
        refine ⟨by show 0 + acc.length ≤ (acc.map ints).length; simp, acc.map ints, takeAll (by simp), by show (acc.length + 1) * 24 ≤ 140737488355328; omega, (acc ++ [l]).map ints, by simp, ?_⟩
        refine ⟨(i : Int) + 1, wrap_i64 (by omega) (by omega), ?_⟩
        refine ⟨(i : Int) + 1, wrap_i64 (by omega) (by omega), ?_⟩
        refine ⟨(i + 1, i + 1, acc ++ [l]), ⟨by simp, by simp only []; omega, by simp only [snoc_len]; omega, ?_, ?_⟩, ent_of [] [(1, 3)] [] rfl ⟨rfl, ⟨rfl, rfl⟩, congrArg (fun n => AV.sl 3 1 0 n) (snoc_len acc _).symm, rfl, rfl, trivial⟩ (by (repeat' first | exact trivial | exact rfl | exact ⟨rfl, rfl⟩ | exact .inl rfl | refine ⟨_, rfl, rfl, rfl, ?_⟩ | refine ⟨_, _, rfl, ?_, ?_⟩ | refine ⟨_, rfl, ?_⟩ | refine And.intro ?_ ?_)) rfl, by simp only []; omega⟩
        · intro c hc
          rcases List.mem_append.1 hc with hc | hc
          · exact g4 c hc
          · simp only [List.mem_singleton] at hc; rw [hc]; omega
        · simp only []
          rw [Nat.sub_self, List.take_zero, ← mapc_snoc, g5]
    · have h3 : ¬ ((t[i].toNat : Nat) : Int) = 10 := h3
      rw [if_neg (by omega), ← lines_step hi g1] at g5
      refine ⟨(i : Int) + 1, wrap_i64 (by omega) (by omega), ?_⟩
      exact ⟨(i + 1, st, acc), ⟨by simp only []; omega, by simp only []; omega, by simp only []; omega, g4, g5⟩, ent_of [] [] [] rfl (by (repeat' first | exact trivial | exact rfl | exact ⟨rfl, rfl⟩ | exact .inl rfl | refine ⟨_, rfl, rfl, rfl, ?_⟩ | refine ⟨_, _, rfl, ?_, ?_⟩ | refine ⟨_, rfl, ?_⟩ | refine And.intro ?_ ?_)) (by (repeat' first | exact trivial | exact rfl | exact ⟨rfl, rfl⟩ | exact .inl rfl | refine ⟨_, rfl, rfl, rfl, ?_⟩ | refine ⟨_, _, rfl, ?_, ?_⟩ | refine ⟨_, rfl, ?_⟩ | refine And.intro ?_ ?_)) rfl, by simp only []; omega⟩
  · have h2 : ¬ (i : Int) < (t.length : Nat) := h2
    have hi : i = t.length := by omega
    have e0 : t.drop i = [] := List.drop_eq_nil_of_le (by omega)
    rw [e0, linesR] at g5
    refine And.intro (fun h3 => ?_) (fun h3 => ?_)
    · have h3 : (st : Int) = (t.length : Nat) := h3
      rw [if_pos (by rw [List.drop_eq_nil_of_le (by omega)]; simp), Option.map_some, List.append_nil] at g5
      refine And.intro (fun h4 => ?_) (fun h4 => ?_)
      · have h4 : (acc.length : Int) = 0 := h4
        have : acc = [] := List.eq_nil_of_length_eq_zero (by omega)
        rw [this] at g5
        refine end2 dtZero.pv (i64 5) rfl ⟨_, rfl, _, _, rfl, .inr (.inl rfl), _, _, rfl, .inr (.inl rfl), rfl⟩ rfl ?_
        rw [parse_bad (by omega) (.inr g5)]
      · have h4 : ¬ (acc.length : Int) = 0 := h4
        obtain ⟨l, ls, rfl⟩ : ∃ l ls, acc = l :: ls := by
          cases acc with
          | nil => exact absurd rfl h4
          | cons l ls => exact ⟨l, ls, rfl⟩
        have hlen : (l :: ls).length = ls.length + 1 := rfl
        refine VDraw.seq rfl ?_
        refine ⟨by show (0 : Int) ≤ 0 ∧ (0 : Int) < ((l :: ls).length : Nat); omega, ?_⟩
        refine ⟨_, ⟨ints l, rfl, rfl⟩, ?_⟩
        refine ⟨by show (0 : Int) ≤ 1 ∧ (1 : Int) ≤ ((l :: ls).length : Nat); omega, ?_⟩
        refine ⟨⟨⟨ints l, rfl, rfl⟩, trivial⟩, ?_⟩
        have hsm : Sm7 ⟨l, ls⟩ := ⟨by have := g4 l (by simp); simp only []; omega, by simp only []; omega, fun c hc => by have := g4 c (by simp [hc]); omega⟩
        have hR := right_c ⟨l, ls⟩ hsm
        have hle : 0 + 1 + ((l :: ls).length - 1) ≤ ((l :: ls).map ints).length := by simp; omega
        have heq : ls.map ints = (((l :: ls).map ints).drop (0 + 1)).take ((l :: ls).length - 1) := by
          simp only [List.map_cons, Nat.zero_add, List.drop_succ_cons, List.drop_zero, List.length_cons, Nat.add_sub_cancel]
          exact (List.take_of_length_le (by simp)).symm
        by_cases hr : rightP ⟨l, ls⟩
        · rw [decide_eq_true hr] at hR
          refine hR.lends [1] rfl ⟨_, _, rfl, ⟨_, rfl, _, _, rfl, rfl, _, _, rfl, ⟨_, rfl, hle, heq⟩, rfl⟩, rfl⟩ ?_
          refine end2 (Dt.pv ⟨l, ls⟩) (i64 0) rfl ⟨_, rfl, _, _, rfl, rfl, _, _, rfl, ⟨_, rfl, hle, heq⟩, rfl⟩ rfl ?_
          rw [parseV, parseN, if_neg (by omega), g5]
          simp only []
          rw [if_pos hr]
        · rw [decide_eq_false hr] at hR
          refine hR.lends [1] rfl ⟨_, _, rfl, ⟨_, rfl, _, _, rfl, rfl, _, _, rfl, ⟨_, rfl, hle, heq⟩, rfl⟩, rfl⟩ ?_
          refine end2 dtZero.pv (i64 5) rfl ⟨_, rfl, _, _, rfl, .inr (.inl rfl), _, _, rfl, .inr (.inl rfl), rfl⟩ rfl ?_
          rw [parseV, parseN, if_neg (by omega), g5]
          simp only []
          rw [if_neg hr]
    · have h3 : ¬ (st : Int) = (t.length : Nat) := h3
      rw [if_neg (by intro e; have := congrArg List.length e; rw [List.length_take, List.length_drop] at this; simp only [List.length_nil] at this; omega)] at g5
      refine end2 dtZero.pv (i64 5) rfl ⟨_, rfl, _, _, rfl, .inr (.inl rfl), _, _, rfl, .inr (.inl rfl), rfl⟩ rfl ?_
      rw [parse_bad (by omega) (.inl g5)]
end Go.Proofs.YtmdmjnfdemgpoaaDoor

/- Package data: copies, the iterator's head. -/
namespace Go.Proofs.YtmdmjnfdemgpoaaDoor
open Go Y
set_option maxRecDepth 100000
set_option maxHeartbeats 4000000

theorem clone_c (l : List Int) (hl : l.length ≤ 100000) : Pure cx 50 [ints l] (· = .ret [ints l]) := by
  refine pure_of_vc Tryd.func50 rfl rfl rfl ?_
  refine ⟨by show (0 : Int) ≤ 0 ∧ (0 : Int) ≤ ((l.map i64).length : Nat) ∧ ((l.map i64).length : Nat) * (8 : Int) ≤ 281474976710656 ∧ ((l.map i64).length : Int) ≤ 281474976710656; rw [List.length_map]; omega, ?_⟩
  refine ⟨by show 0 + 0 ≤ 0; omega, [], rfl, by show (0 + (l.map i64).length) * 8 ≤ 140737488355328; rw [List.length_map]; omega, l.map i64, rfl, ?_⟩
  exact end1 (ints l) rfl ⟨_, rfl, by show 0 + (0 + (l.map i64).length) ≤ (l.map i64).length; omega, takeAll (by omega)⟩ rfl

theorem empty_c (d : Dt) (hd : d.cards.length ≤ 100000) : HoldsG cx 49 [.p d.pv] ⟨0, []⟩ fun e H' => e = .returned (.agg [.p (ints d.cards), .sl 0 1 0 0]) ∧ H' = ⟨1, [(0, csO [])]⟩ := by
  refine holdsN_of_vc Tryd.func49 rfl rfl rfl ?_
  refine (clone_c d.cards hd).eq rfl ?_
  exact ⟨[], [(0, 2)], [], .returned (.agg [.p (ints d.cards), .sl 0 1 0 0]), ⟨1, [(0, csO [])]⟩, rfl, by (repeat' first | exact trivial | exact rfl | exact ⟨rfl, rfl⟩ | exact .inl rfl | refine ⟨_, rfl, rfl, rfl, ?_⟩ | refine ⟨_, _, rfl, ?_, ?_⟩ | refine ⟨_, rfl, ?_⟩ | refine And.intro ?_ ?_), by (repeat' first | exact trivial | exact rfl | exact ⟨rfl, rfl⟩ | exact .inl rfl | refine ⟨_, rfl, rfl, rfl, ?_⟩ | refine ⟨_, _, rfl, ?_, ?_⟩ | refine ⟨_, rfl, ?_⟩ | refine And.intro ?_ ?_), rfl, rfl⟩

theorem known_c (d : Dt) (vars : List Int) : Pure cx 46 [d.pv, ints vars] (· = .ret [.fn (.func 71) [] [.fp d.cells, .fp [ints vars]]]) := by
  refine pure_of_vc Tryd.func46 rfl rfl rfl ?_
  exact end1 _ rfl ⟨rfl, _, _, rfl, rfl, ⟨_, _, rfl, ⟨_, rfl, _, _, rfl, rfl, _, _, rfl, rfl, rfl⟩, _, _, rfl, ⟨_, rfl, _, _, rfl, rfl, rfl⟩, rfl⟩⟩ rfl

def knownB (vars c : List Int) : Bool := vars.all fun v => decide (0 ≤ c.getD v.toNat 0)
end Go.Proofs.YtmdmjnfdemgpoaaDoor

/- Package data: Complete. -/
namespace Go.Proofs.YtmdmjnfdemgpoaaDoor
open Go Y
set_option maxRecDepth 100000
set_option maxHeartbeats 4000000

def lpO (st : LoopState) (lim N : Nat) (σ : Sg) (ps : List Tmp) (ac bd : Code) (dn : Nat) : AObj := ⟨0, false, .lp st none lim N σ ps ac bd dn⟩
def dfO : AObj := ⟨0, false, .df⟩

/-- The heap of Complete in its range, at the iterator's loop. -/
def cmL (d : Dt) (st : LoopState) (N : Nat) (σ : Sg) (ps : List Tmp) (ac bd : Code) (acc : List (List Int)) : List (Nat × AObj) :=
  [(7, csO acc), (6, lpO st 5 N σ ps ac bd 5), (5, dfO), (4, mkO 7 d.cards acc), (1, zeroO), (0, dtO d)]
def cmN (d : Dt) (N : Nat) (σ : Sg) (ps : List Tmp) (ac bd : Code) (acc : List (List Int)) (c : List Int) : List (Nat × AObj) :=
  [(9, csO (acc ++ [c])), (8, csO [c]), (6, lpO .ready 5 N σ ps ac bd 5), (5, dfO), (4, ⟨TD, false, .bx [.p (ints d.cards), .sl 9 1 0 (acc.length + 1)]⟩), (1, zeroO), (0, dtO d)]

theorem iterC_c (d : Dt) (vars : List Int) (hx : d.cases.length ≤ 1000) (hv : vars.length ≤ 1000) (hm : ∀ c ∈ d.cases, ∀ v ∈ vars, 0 ≤ v ∧ v < (c.length : Int)) (fo : AObj) (N : Nat) (σ σ1 : Sg) (ds : List AD) (ps : List Tmp) (ac bd : Code) (Q : KQ)
    (hok : Q .normal σ1 ds ⟨8, cmL d .exhausted N σ ps ac bd (d.cases.filter (knownB vars))⟩)
    (hrd : ∀ (k : Nat) (acc : List (List Int)) (c : List Int) (K : AE → Hp → Prop), acc.length ≤ 1000 → c ∈ d.cases → K (.returned (vB true)) ⟨10, cmN d N σ ps ac bd acc c⟩ → RoundH cx 6 [.p (i64 k), .p (ints c)] ⟨8, cmL d .ready N σ ps ac bd acc⟩ K) :
    HoldsG cx 71 [.fn (.yield 6) [] [], .p (.fp d.cells), .p (.fp [ints vars])] ⟨7, [(6, lpO .ready 5 N σ ps ac bd 5), (5, dfO), (4, mkO 3 d.cards []), (3, csO []), (2, fo), (1, zeroO), (0, dtO d)]⟩ (RangeQ 6 σ1 ds Q) := by
  refine holdsN_of_vc Tryd.func71 rfl rfl rfl ?_
  obtain ⟨cs, xs⟩ := d
  simp only [] at hx hm hok hrd
  refine ⟨Nat × List (List Int), fun x => [(0, .fn (.yield 6) [] []), (1, .p (.fp (Dt.cells ⟨cs, xs⟩))), (2, .p (.fp [ints vars])), (9, .p (.lst (xs.map ints))), (10, .p (i64 xs.length)), (11, .p (i64 x.1))], fun x => ⟨8, cmL ⟨cs, xs⟩ .ready N σ ps ac bd x.2⟩,
    fun x => x.1 ≤ xs.length ∧ x.2 = (xs.take x.1).filter (knownB vars), fun x => xs.length - x.1, ?_, ?_⟩
  · refine ⟨(0, []), ⟨by simp, by simp⟩, ent_of [] [(7, 3)] [] rfl ⟨⟨rfl, _, _, rfl, rfl, rfl⟩, rfl, rfl, rfl, lenC xs, rfl, trivial⟩ ?_ rfl⟩
    exact ⟨⟨_, rfl, rfl, rfl, rfl⟩, ⟨_, rfl, rfl, rfl, rfl, rfl, rfl⟩, ⟨_, rfl, rfl, rfl, rfl⟩, ⟨_, rfl, rfl, rfl, _, rfl, by (repeat' first | exact trivial | exact rfl | exact ⟨rfl, rfl⟩ | exact .inl rfl | refine ⟨_, rfl, rfl, rfl, ?_⟩ | refine ⟨_, _, rfl, ?_, ?_⟩ | refine ⟨_, rfl, ?_⟩ | refine And.intro ?_ ?_)⟩, ⟨_, rfl, rfl, rfl, _, rfl, by (repeat' first | exact trivial | exact rfl | exact ⟨rfl, rfl⟩ | exact .inl rfl | refine ⟨_, rfl, rfl, rfl, ?_⟩ | refine ⟨_, _, rfl, ?_, ?_⟩ | refine ⟨_, rfl, ?_⟩ | refine And.intro ?_ ?_)⟩, ⟨_, rfl, rfl, rfl, _, rfl, by (repeat' first | exact trivial | exact rfl | exact ⟨rfl, rfl⟩ | exact .inl rfl | refine ⟨_, rfl, rfl, rfl, ?_⟩ | refine ⟨_, _, rfl, ?_, ?_⟩ | refine ⟨_, rfl, ?_⟩ | refine And.intro ?_ ?_)⟩, trivial⟩
  rintro ⟨k, acc⟩ ⟨g1, g2⟩
  simp only [] at g1 g2
  have hal : acc.length ≤ xs.length := by rw [g2]; exact filter_take_le _ _ _
  refine And.intro (fun h1 => ?_) (fun h1 => ?_)
  · have h1 : (k : Int) < (xs.length : Nat) := h1
    have hk : k < xs.length := by omega
    obtain ⟨c, hc⟩ : ∃ c, c = xs.getD k [] := ⟨_, rfl⟩
    have hcm : c ∈ xs := by rw [hc]; exact getD_memL [] hk
    have hst := filter_snoc (p := knownB vars) [] hk
    rw [← hc] at hst
    refine ⟨_, ⟨by omega, ints c, by rw [hc]; exact ccell hk, rfl⟩, ?_⟩
    refine ⟨Nat, fun j => [(0, .fn (.yield 6) [] []), (1, .p (.fp (Dt.cells ⟨cs, xs⟩))), (2, .p (.fp [ints vars])), (4, .p (i64 k)), (5, .p (ints c)), (9, .p (.lst (xs.map ints))), (10, .p (i64 xs.length)), (11, .p (i64 k)), (16, .p (ints vars)), (17, .p (i64 vars.length)), (18, .p (i64 j))], fun _ => ⟨8, cmL ⟨cs, xs⟩ .ready N σ ps ac bd acc⟩,
      fun j => j ≤ vars.length ∧ ∀ v ∈ vars.take j, 0 ≤ c.getD v.toNat 0, fun j => vars.length - j, ?_, ?_⟩
    · refine ⟨0, ⟨by omega, by simp⟩, ent_of [] [(7, 7)] [] rfl ⟨⟨rfl, _, _, rfl, rfl, rfl⟩, rfl, rfl, rfl, rfl, rfl, rfl, rfl, rfl, lenI vars, rfl, trivial⟩ ?_ rfl⟩
      exact ⟨⟨_, rfl, rfl, rfl, rfl⟩, ⟨_, rfl, rfl, rfl, rfl, rfl, rfl⟩, ⟨_, rfl, rfl, rfl, rfl⟩, ⟨_, rfl, rfl, rfl, _, rfl, by (repeat' first | exact trivial | exact rfl | exact ⟨rfl, rfl⟩ | exact .inl rfl | refine ⟨_, rfl, rfl, rfl, ?_⟩ | refine ⟨_, _, rfl, ?_, ?_⟩ | refine ⟨_, rfl, ?_⟩ | refine And.intro ?_ ?_)⟩, ⟨_, rfl, rfl, rfl, _, rfl, by (repeat' first | exact trivial | exact rfl | exact ⟨rfl, rfl⟩ | exact .inl rfl | refine ⟨_, rfl, rfl, rfl, ?_⟩ | refine ⟨_, _, rfl, ?_, ?_⟩ | refine ⟨_, rfl, ?_⟩ | refine And.intro ?_ ?_)⟩, ⟨_, rfl, rfl, rfl, _, rfl, by (repeat' first | exact trivial | exact rfl | exact ⟨rfl, rfl⟩ | exact .inl rfl | refine ⟨_, rfl, rfl, rfl, ?_⟩ | refine ⟨_, _, rfl, ?_, ?_⟩ | refine ⟨_, rfl, ?_⟩ | refine And.intro ?_ ?_)⟩, trivial⟩
    rintro j ⟨j1, j2⟩
    refine And.intro (fun h2 => ?_) (fun h2 => ?_)
    · have h2 : (j : Int) < (vars.length : Nat) := h2
      have hj : j < vars.length := by omega
      obtain ⟨v1, v2⟩ := hm c hcm _ (getD_memL 0 hj)
      obtain ⟨n, hn⟩ : ∃ n : Nat, vars.getD j 0 = n := ⟨(vars.getD j 0).toNat, by omega⟩
      have hnc : n < c.length := by omega
      refine ⟨_, ⟨by omega, i64 n, by rw [← hn]; exact icell hj, rfl⟩, ?_⟩
      refine ⟨_, ⟨by omega, i64 (c.getD n 0), icell hnc, rfl⟩, ?_⟩
      refine And.intro (fun h3 => ?_) (fun h3 => ?_)
      · have h3 : c.getD n 0 < 0 := h3
        have hkn : knownB vars c = false := by
          rw [Bool.eq_false_iff]
          intro h
          have := List.all_eq_true.1 h _ (getD_memL 0 hj)
          rw [hn] at this
          simp only [Int.toNat_natCast, decide_eq_true_eq] at this
          omega
        rw [hkn] at hst
        refine ⟨(k : Int) + 1, wrap_i64 (by omega) (by omega), ?_⟩
        refine ⟨(k + 1, acc), ⟨by simp only []; omega, by simp only []; rw [hst, g2]; simp⟩, ent_of [] [(7, 7)] [] rfl ⟨⟨rfl, _, _, rfl, rfl, rfl⟩, rfl, rfl, rfl, rfl, rfl, trivial⟩ ?_ rfl, by simp only []; omega⟩
        exact ⟨⟨_, rfl, rfl, rfl, rfl⟩, ⟨_, rfl, rfl, rfl, rfl, rfl, rfl⟩, ⟨_, rfl, rfl, rfl, rfl⟩, ⟨_, rfl, rfl, rfl, _, rfl, by (repeat' first | exact trivial | exact rfl | exact ⟨rfl, rfl⟩ | exact .inl rfl | refine ⟨_, rfl, rfl, rfl, ?_⟩ | refine ⟨_, _, rfl, ?_, ?_⟩ | refine ⟨_, rfl, ?_⟩ | refine And.intro ?_ ?_)⟩, ⟨_, rfl, rfl, rfl, _, rfl, by (repeat' first | exact trivial | exact rfl | exact ⟨rfl, rfl⟩ | exact .inl rfl | refine ⟨_, rfl, rfl, rfl, ?_⟩ | refine ⟨_, _, rfl, ?_, ?_⟩ | refine ⟨_, rfl, ?_⟩ | refine And.intro ?_ ?_)⟩, ⟨_, rfl, rfl, rfl, _, rfl, by (repeat' first | exact trivial | exact rfl | exact ⟨rfl, rfl⟩ | exact .inl rfl | refine ⟨_, rfl, rfl, rfl, ?_⟩ | refine ⟨_, _, rfl, ?_, ?_⟩ | refine ⟨_, rfl, ?_⟩ | refine And.intro ?_ ?_)⟩, trivial⟩
      · have h3 : ¬ c.getD n 0 < 0 := h3
        refine ⟨(j : Int) + 1, wrap_i64 (by omega) (by omega), ?_⟩
        refine ⟨j + 1, ⟨by omega, mem_take 0 hj j2 (by rw [hn]; simp only [Int.toNat_natCast]; omega)⟩, ent_of [] [(7, 7)] [] rfl ⟨⟨rfl, _, _, rfl, rfl, rfl⟩, rfl, rfl, rfl, rfl, rfl, rfl, rfl, rfl, rfl, rfl, trivial⟩ ?_ rfl, by show vars.length - (j + 1) < vars.length - j; omega⟩
        exact ⟨⟨_, rfl, rfl, rfl, rfl⟩, ⟨_, rfl, rfl, rfl, rfl, rfl, rfl⟩, ⟨_, rfl, rfl, rfl, rfl⟩, ⟨_, rfl, rfl, rfl, _, rfl, by (repeat' first | exact trivial | exact rfl | exact ⟨rfl, rfl⟩ | exact .inl rfl | refine ⟨_, rfl, rfl, rfl, ?_⟩ | refine ⟨_, _, rfl, ?_, ?_⟩ | refine ⟨_, rfl, ?_⟩ | refine And.intro ?_ ?_)⟩, ⟨_, rfl, rfl, rfl, _, rfl, by (repeat' first | exact trivial | exact rfl | exact ⟨rfl, rfl⟩ | exact .inl rfl | refine ⟨_, rfl, rfl, rfl, ?_⟩ | refine ⟨_, _, rfl, ?_, ?_⟩ | refine ⟨_, rfl, ?_⟩ | refine And.intro ?_ ?_)⟩, ⟨_, rfl, rfl, rfl, _, rfl, by (repeat' first | exact trivial | exact rfl | exact ⟨rfl, rfl⟩ | exact .inl rfl | refine ⟨_, rfl, rfl, rfl, ?_⟩ | refine ⟨_, _, rfl, ?_, ?_⟩ | refine ⟨_, rfl, ?_⟩ | refine And.intro ?_ ?_)⟩, trivial⟩
    · have h2 : ¬ (j : Int) < (vars.length : Nat) := h2
      rw [take_all (by omega)] at j2
      have hkn : knownB vars c = true := List.all_eq_true.2 fun v hv => by simpa using j2 v hv
      rw [hkn] at hst
      refine hrd k acc c _ (by omega) hcm ?_
      refine ⟨(k : Int) + 1, wrap_i64 (by omega) (by omega), ?_⟩
      refine ⟨(k + 1, acc ++ [c]), ⟨by simp only []; omega, by simp only []; rw [hst, g2]; rfl⟩, ent_of [] [(7, 9)] [] rfl ⟨⟨rfl, _, _, rfl, rfl, rfl⟩, rfl, rfl, rfl, rfl, rfl, trivial⟩ ?_ rfl, by simp only []; omega⟩
      exact ⟨⟨_, rfl, rfl, rfl, rfl⟩, ⟨_, rfl, rfl, rfl, rfl, rfl, rfl⟩, ⟨_, rfl, rfl, rfl, rfl⟩, ⟨_, rfl, rfl, rfl, _, rfl, _, _, rfl, rfl, _, _, rfl, congrArg (fun n => AV.sl 9 1 0 n) (snoc_len acc c).symm, rfl⟩, ⟨_, rfl, rfl, rfl, _, rfl, by (repeat' first | exact trivial | exact rfl | exact ⟨rfl, rfl⟩ | exact .inl rfl | refine ⟨_, rfl, rfl, rfl, ?_⟩ | refine ⟨_, _, rfl, ?_, ?_⟩ | refine ⟨_, rfl, ?_⟩ | refine And.intro ?_ ?_)⟩, ⟨_, rfl, rfl, rfl, _, rfl, by (repeat' first | exact trivial | exact rfl | exact ⟨rfl, rfl⟩ | exact .inl rfl | refine ⟨_, rfl, rfl, rfl, ?_⟩ | refine ⟨_, _, rfl, ?_, ?_⟩ | refine ⟨_, rfl, ?_⟩ | refine And.intro ?_ ?_)⟩, trivial⟩
  · have h1 : ¬ (k : Int) < (xs.length : Nat) := h1
    rw [take_all (by omega)] at g2
    subst g2
    exact ⟨[], [(7, 7)], [], .returned und, ⟨8, cmL ⟨cs, xs⟩ .ready N σ ps ac bd (xs.filter (knownB vars))⟩, rfl, by (repeat' first | exact trivial | exact rfl | exact ⟨rfl, rfl⟩ | exact .inl rfl | refine ⟨_, rfl, rfl, rfl, ?_⟩ | refine ⟨_, _, rfl, ?_, ?_⟩ | refine ⟨_, rfl, ?_⟩ | refine And.intro ?_ ?_), ⟨⟨_, rfl, rfl, rfl, rfl⟩, ⟨_, rfl, rfl, rfl, rfl, rfl, rfl⟩, ⟨_, rfl, rfl, rfl, rfl⟩, ⟨_, rfl, rfl, rfl, _, rfl, by (repeat' first | exact trivial | exact rfl | exact ⟨rfl, rfl⟩ | exact .inl rfl | refine ⟨_, rfl, rfl, rfl, ?_⟩ | refine ⟨_, _, rfl, ?_, ?_⟩ | refine ⟨_, rfl, ?_⟩ | refine And.intro ?_ ?_)⟩, ⟨_, rfl, rfl, rfl, _, rfl, by (repeat' first | exact trivial | exact rfl | exact ⟨rfl, rfl⟩ | exact .inl rfl | refine ⟨_, rfl, rfl, rfl, ?_⟩ | refine ⟨_, _, rfl, ?_, ?_⟩ | refine ⟨_, rfl, ?_⟩ | refine And.intro ?_ ?_)⟩, ⟨_, rfl, rfl, rfl, _, rfl, by (repeat' first | exact trivial | exact rfl | exact ⟨rfl, rfl⟩ | exact .inl rfl | refine ⟨_, rfl, rfl, rfl, ?_⟩ | refine ⟨_, _, rfl, ?_, ?_⟩ | refine ⟨_, rfl, ?_⟩ | refine And.intro ?_ ?_)⟩, trivial⟩, hok⟩

theorem set_getD {l : List Int} {k i : Nat} {x : Int} (hk : k < l.length) : (l.set k x).getD i 0 = if i = k then x else l.getD i 0 := by
  rw [List.getD_eq_getElem?_getD, List.getD_eq_getElem?_getD, List.getElem?_set]
  by_cases h : k = i
  · subst h; simp [hk]
  · rw [if_neg h, if_neg fun e => h e.symm]
theorem ext_getD {a b : List Int} (hl : a.length = b.length) (h : ∀ i, i < a.length → a.getD i 0 = b.getD i 0) : a = b := by
  apply List.ext_getElem hl
  intro i h1 h2
  have := h i h1
  rw [List.getD_eq_getElem?_getD, List.getD_eq_getElem?_getD, List.getElem?_eq_getElem h1, List.getElem?_eq_getElem h2] at this
  simpa using this
def upTo (n : Nat) : List Int := (List.range n).map fun i : Nat => (i : Int)
theorem upTo_len (n : Nat) : (upTo n).length = n := by simp [upTo]
theorem upTo_get {n i : Nat} (h : i < n) : (upTo n).getD i 0 = i := by
  rw [upTo, List.getD_eq_getElem?_getD, List.getElem?_map, List.getElem?_range h]; rfl
theorem upTo_mem {n : Nat} {v : Int} (h : v ∈ upTo n) : 0 ≤ v ∧ v < n := by
  obtain ⟨i, hi, rfl⟩ := List.mem_map.1 h
  rw [List.mem_range] at hi
  omega
theorem known_whole {n : Nat} {c : List Int} (h : c.length = n) : knownB (upTo n) c = wholeB c := by
  rw [Bool.eq_iff_iff, knownB, wholeB, List.all_eq_true, List.all_eq_true]
  simp only [decide_eq_true_eq]
  constructor
  · intro hh x hx
    obtain ⟨i, hi, rfl⟩ := List.mem_iff_getElem.1 hx
    have := hh (i : Int) (List.mem_map.2 ⟨i, List.mem_range.2 (by omega), rfl⟩)
    rw [Int.toNat_natCast, List.getD_eq_getElem?_getD, List.getElem?_eq_getElem hi] at this
    exact this
  · intro hh v hv
    obtain ⟨v1, v2⟩ := upTo_mem hv
    exact hh _ (getD_memL 0 (by omega))

theorem complete_c (d : Dt) (hd : Sm7 d) : Pure cx 24 [d.pv] (· = .ret [(if rightP d then completeN d else dtZero).pv, i64 (checkD d)]) := by
  refine pure_of_vc Tryd.func24 rfl rfl rfl ?_
  have hC := check_c d hd
  by_cases hr : rightP d
  rotate_left
  · rw [checkD, if_neg hr] at hC
    refine hC.eq rfl ?_
    refine And.intro (fun h => absurd (show (250 : Int) = 0 from h) (by decide)) (fun _ => ?_)
    refine end2 dtZero.pv (i64 250) rfl ⟨_, rfl, _, _, rfl, .inr (.inl rfl), _, _, rfl, .inr (.inl rfl), rfl⟩ rfl ?_
    rw [if_neg hr, checkD, if_neg hr]
  · rw [checkD, if_pos hr] at hC
    refine hC.eq rfl ?_
    refine And.intro (fun _ => ?_) (fun h => absurd rfl h)
    rw [if_pos hr, checkD, if_pos hr]
    obtain ⟨d1, d2, d3⟩ := hd
    have hcl := hr.1.2.1
    have hcs := hr.2.2.1
    obtain ⟨cs, xs⟩ := d
    simp only [] at d1 d2 d3 hcl hcs
    refine ⟨by show (0 : Int) ≤ ((cs.map i64).length : Nat) ∧ ((cs.map i64).length : Int) ≤ ((cs.map i64).length : Nat) ∧ ((cs.map i64).length : Nat) * (8 : Int) ≤ 281474976710656 ∧ ((cs.map i64).length : Int) ≤ 281474976710656; rw [List.length_map]; omega, ?_⟩
    refine ⟨Nat × List Int, fun x => [(1, .ptr 0 0 0), (2, .ptr 1 0 0), (5, .sl 2 1 0 x.2.length), (21, .p (i64 cs.length)), (22, .p (i64 x.1))], fun x => ⟨3, [(2, iO x.2), (1, zeroO), (0, dtO ⟨cs, xs⟩)]⟩, fun x => x.1 ≤ cs.length ∧ x.2.length = cs.length ∧ ∀ i, i < x.1 → x.2.getD i 0 = i, fun x => cs.length - x.1, ?_, ?_⟩
    · refine ⟨(0, List.replicate cs.length 0), ⟨by simp, by simp, by simp⟩, ent_of [] [] [] rfl ⟨⟨rfl, rfl⟩, ⟨rfl, rfl⟩, ?_, lenI cs, rfl, trivial⟩ ⟨⟨_, rfl, rfl, rfl, ?_⟩, by (repeat' first | exact trivial | exact rfl | exact ⟨rfl, rfl⟩ | exact .inl rfl | refine ⟨_, rfl, rfl, rfl, ?_⟩ | refine ⟨_, _, rfl, ?_, ?_⟩ | refine ⟨_, rfl, ?_⟩ | refine And.intro ?_ ?_)⟩ rfl⟩
      · exact congrArg (fun n => AV.sl 2 1 0 n) (by rw [List.length_replicate]; show (cs.map i64).length = _; rw [List.length_map])
      · show List.replicate (cs.map i64).length (i64 0) = (List.replicate cs.length (0 : Int)).map i64
        rw [List.length_map, List.map_replicate]
    rintro ⟨k, l⟩ ⟨g1, g2, g3⟩
    simp only [] at g1 g2 g3
    refine And.intro (fun h1 => ?_) (fun h1 => ?_)
    · have h1 : (k : Int) < (cs.length : Nat) := h1
      refine ⟨by show (0 : Int) ≤ k ∧ (k : Int) < (l.length : Nat); omega, ?_⟩
      refine ⟨by show 0 + k < (l.map i64).length; rw [List.length_map]; omega, ?_⟩
      refine ⟨(k : Int) + 1, wrap_i64 (by omega) (by omega), ?_⟩
      refine ⟨(k + 1, l.set k k), ⟨by simp only []; omega, by simp only [List.length_set]; omega, fun i hi => ?_⟩, ent_of [] [] [] rfl ⟨⟨rfl, rfl⟩, ⟨rfl, rfl⟩, congrArg (fun n => AV.sl 2 1 0 n) List.length_set.symm, rfl, rfl, trivial⟩ ⟨⟨_, rfl, rfl, rfl, ?_⟩, by (repeat' first | exact trivial | exact rfl | exact ⟨rfl, rfl⟩ | exact .inl rfl | refine ⟨_, rfl, rfl, rfl, ?_⟩ | refine ⟨_, _, rfl, ?_, ?_⟩ | refine ⟨_, rfl, ?_⟩ | refine And.intro ?_ ?_)⟩ rfl, by simp only []; omega⟩
      · simp only [] at hi ⊢
        rw [set_getD (by omega)]
        split
        · omega
        · exact g3 i (by omega)
      · show (l.map i64).set (0 + k) (i64 k) = (l.set k k).map i64
        rw [Nat.zero_add, List.map_set]
    · have h1 : ¬ (k : Int) < (cs.length : Nat) := h1
      have hl : l = upTo cs.length := ext_getD (by rw [g2, upTo_len]) fun i hi => by rw [g3 i (by omega), upTo_get (by omega)]
      refine (empty_c ⟨cs, xs⟩ (by simp only []; omega)).useE [] [] rfl trivial ⟨_, _, rfl, rfl, rfl⟩ ?_
      refine (known_c ⟨cs, xs⟩ l).uses [2] rfl ⟨_, _, rfl, rfl, _, _, rfl, ⟨_, rfl, by show 0 + l.length ≤ (l.map i64).length; simp, takeAll (by simp)⟩, rfl⟩ ?_
      refine range_of ?_
      intro σ' ps ac bd e1 e2 e3 e4
      have hrd : ∀ (k : Nat) (acc : List (List Int)) (c : List Int) (K : AE → Hp → Prop), acc.length ≤ 1000 → c ∈ (Dt.mk cs xs).cases → K (.returned (vB true)) ⟨10, cmN ⟨cs, xs⟩ Tryd.f24.ntmps σ' ps ac bd acc c⟩ → RoundH cx 6 [.p (i64 k), .p (ints c)] ⟨8, cmL ⟨cs, xs⟩ .ready Tryd.f24.ntmps σ' ps ac bd acc⟩ K := by
        intro k acc c K hacc hcm hK
        subst e1 e2 e3 e4
        refine round_of_vc rfl rfl rfl ?_
        refine VDraw.seq rfl ?_
        refine (clone_c c (by have := d3 c hcm; omega)).eq rfl ?_
        refine ⟨by (repeat' first | exact trivial | exact rfl | exact ⟨rfl, rfl⟩ | exact .inl rfl | refine ⟨_, rfl, rfl, rfl, ?_⟩ | refine ⟨_, _, rfl, ?_, ?_⟩ | refine ⟨_, rfl, ?_⟩ | refine And.intro ?_ ?_), ?_⟩
        refine ⟨by (repeat' first | exact trivial | exact rfl | exact ⟨rfl, rfl⟩ | exact .inl rfl | refine ⟨_, rfl, rfl, rfl, ?_⟩ | refine ⟨_, _, rfl, ?_, ?_⟩ | refine ⟨_, rfl, ?_⟩ | refine And.intro ?_ ?_), ?_⟩
        refine ⟨by show 0 + 1 ≤ 1; omega, [ints c], rfl, ?_⟩
        refine ⟨by show 0 + acc.length ≤ (acc.map ints).length; simp, acc.map ints, takeAll (by simp), by show (acc.length + 1) * 24 ≤ 140737488355328; omega, (acc ++ [c]).map ints, by simp, ?_⟩
        exact hK
      refine iterC_c ⟨cs, xs⟩ l d2 (by omega) (fun c hc v hv => by rw [hl] at hv; have := upTo_mem hv; have := (hcs c hc).1; omega) _ _ σ' _ _ ps ac bd _ ?_ hrd
      have hf : xs.filter (knownB l) = xs.filter wholeB := List.filter_congr fun c hc => by rw [hl]; exact known_whole (hcs c hc).1
      show _
      refine end2 (completeN ⟨cs, xs⟩).pv (i64 0) rfl ⟨_, rfl, _, _, rfl, rfl, _, _, rfl, ⟨_, rfl, by show 0 + (xs.filter (knownB l)).length ≤ ((xs.filter (knownB l)).map ints).length; simp, ?_⟩, rfl⟩ rfl rfl
      show (xs.filter wholeB).map ints = _
      rw [← hf]
      exact takeAll (by simp)
end Go.Proofs.YtmdmjnfdemgpoaaDoor

/- Package data: Split. -/
namespace Go.Proofs.YtmdmjnfdemgpoaaDoor
open Go Y
set_option maxRecDepth 100000
set_option maxHeartbeats 4000000

theorem end3 {Q : PEnd → Prop} {v1 v2 v3 : AV} {H' : Hp} (x1 x2 x3 : PV) (hm : marksOK H'.l (fsOf H'.l) = true) (h1 : Res (marks H'.l (fsOf H'.l)) 5 v1 x1) (h2 : Res (marks H'.l (fsOf H'.l)) 5 v2 x2) (h3 : Res (marks H'.l (fsOf H'.l)) 5 v3 x3) (hq : Q (.ret [x1, x2, x3])) : EndP Q (.returned (.tup [v1, v2, v3])) H' :=
  ⟨.ret [x1, x2, x3], ⟨hm, _, rfl, _, _, rfl, h1, _, _, rfl, h2, _, _, rfl, h3, rfl⟩, hq⟩

def nO (n : Int) : AObj := ⟨TN, false, .bx [.p (i64 n)]⟩
def spL (d : Dt) (p i : Int) (st : LoopState) (N : Nat) (σ : Sg) (ps : List Tmp) (ac bd : Code) (a b : List (List Int)) : List (Nat × AObj) :=
  [(10, csO b), (9, csO a), (8, lpO st 7 N σ ps ac bd 7), (7, dfO), (4, mkO 10 d.cards b), (3, mkO 9 d.cards a), (2, nO i), (1, nO p), (0, dtO d)]
def spA (d : Dt) (p i : Int) (N : Nat) (σ : Sg) (ps : List Tmp) (ac bd : Code) (a b : List (List Int)) (c : List Int) : List (Nat × AObj) :=
  [(12, csO (a ++ [c])), (11, csO [c]), (10, csO b), (8, lpO .ready 7 N σ ps ac bd 7), (7, dfO), (4, mkO 10 d.cards b), (3, ⟨TD, false, .bx [.p (ints d.cards), .sl 12 1 0 (a.length + 1)]⟩), (2, nO i), (1, nO p), (0, dtO d)]
def spB (d : Dt) (p i : Int) (N : Nat) (σ : Sg) (ps : List Tmp) (ac bd : Code) (a b : List (List Int)) (c : List Int) : List (Nat × AObj) :=
  [(12, csO (b ++ [c])), (11, csO [c]), (9, csO a), (8, lpO .ready 7 N σ ps ac bd 7), (7, dfO), (4, ⟨TD, false, .bx [.p (ints d.cards), .sl 12 1 0 (b.length + 1)]⟩), (3, mkO 9 d.cards a), (2, nO i), (1, nO p), (0, dtO d)]

theorem iterS_c (d : Dt) (p i : Int) (hx : d.cases.length ≤ 1000) (N : Nat) (σ σ1 : Sg) (ds : List AD) (ps : List Tmp) (ac bd : Code) (Q : KQ)
    (hok : Q .normal σ1 ds ⟨11, spL d p i .exhausted N σ ps ac bd (partN d p i).cases (restN d p i).cases⟩)
    (hrd : ∀ (k : Nat) (a b : List (List Int)) (c : List Int) (K : AE → Hp → Prop), a.length ≤ 1000 → b.length ≤ 1000 → c ∈ d.cases → (inPart p i k = true → K (.returned (vB true)) ⟨13, spA d p i N σ ps ac bd a b c⟩) → (inPart p i k = false → K (.returned (vB true)) ⟨13, spB d p i N σ ps ac bd a b c⟩) →
      RoundH cx 8 [.p (i64 k), .p (ints c)] ⟨11, spL d p i .ready N σ ps ac bd a b⟩ K) :
    HoldsG cx 71 [.fn (.yield 8) [] [], .p (.fp d.cells), .p (.fp [ints []])] ⟨9, [(8, lpO .ready 7 N σ ps ac bd 7), (7, dfO), (6, csO []), (5, csO []), (4, mkO 6 d.cards []), (3, mkO 5 d.cards []), (2, nO i), (1, nO p), (0, dtO d)]⟩ (RangeQ 8 σ1 ds Q) := by
  refine holdsN_of_vc Tryd.func71 rfl rfl rfl ?_
  obtain ⟨cs, xs⟩ := d
  simp only [] at hx hok hrd
  refine ⟨Nat × List (List Int) × List (List Int), fun x => [(0, .fn (.yield 8) [] []), (1, .p (.fp (Dt.cells ⟨cs, xs⟩))), (2, .p (.fp [ints []])), (9, .p (.lst (xs.map ints))), (10, .p (i64 xs.length)), (11, .p (i64 x.1))], fun x => ⟨11, spL ⟨cs, xs⟩ p i .ready N σ ps ac bd x.2.1 x.2.2⟩,
    fun x => x.1 ≤ xs.length ∧ x.2.1 = pickN (inPart p i) 0 (xs.take x.1) ∧ x.2.2 = pickN (fun k => !inPart p i k) 0 (xs.take x.1), fun x => xs.length - x.1, ?_, ?_⟩
  · refine ⟨(0, [], []), ⟨by simp, by simp [pickN], by simp [pickN]⟩, ent_of [] [(9, 5), (10, 6)] [] rfl ⟨⟨rfl, _, _, rfl, rfl, rfl⟩, rfl, rfl, rfl, lenC xs, rfl, trivial⟩ ?_ rfl⟩
    exact ⟨⟨_, rfl, rfl, rfl, rfl⟩, ⟨_, rfl, rfl, rfl, rfl⟩, ⟨_, rfl, rfl, rfl, rfl, rfl, rfl⟩, ⟨_, rfl, rfl, rfl, rfl⟩, ⟨_, rfl, rfl, rfl, _, rfl, by (repeat' first | exact trivial | exact rfl | exact ⟨rfl, rfl⟩ | exact .inl rfl | refine ⟨_, rfl, rfl, rfl, ?_⟩ | refine ⟨_, _, rfl, ?_, ?_⟩ | refine ⟨_, rfl, ?_⟩ | refine And.intro ?_ ?_)⟩, ⟨_, rfl, rfl, rfl, _, rfl, by (repeat' first | exact trivial | exact rfl | exact ⟨rfl, rfl⟩ | exact .inl rfl | refine ⟨_, rfl, rfl, rfl, ?_⟩ | refine ⟨_, _, rfl, ?_, ?_⟩ | refine ⟨_, rfl, ?_⟩ | refine And.intro ?_ ?_)⟩, ⟨_, rfl, rfl, rfl, _, rfl, by (repeat' first | exact trivial | exact rfl | exact ⟨rfl, rfl⟩ | exact .inl rfl | refine ⟨_, rfl, rfl, rfl, ?_⟩ | refine ⟨_, _, rfl, ?_, ?_⟩ | refine ⟨_, rfl, ?_⟩ | refine And.intro ?_ ?_)⟩, ⟨_, rfl, rfl, rfl, _, rfl, by (repeat' first | exact trivial | exact rfl | exact ⟨rfl, rfl⟩ | exact .inl rfl | refine ⟨_, rfl, rfl, rfl, ?_⟩ | refine ⟨_, _, rfl, ?_, ?_⟩ | refine ⟨_, rfl, ?_⟩ | refine And.intro ?_ ?_)⟩, ⟨_, rfl, rfl, rfl, _, rfl, by (repeat' first | exact trivial | exact rfl | exact ⟨rfl, rfl⟩ | exact .inl rfl | refine ⟨_, rfl, rfl, rfl, ?_⟩ | refine ⟨_, _, rfl, ?_, ?_⟩ | refine ⟨_, rfl, ?_⟩ | refine And.intro ?_ ?_)⟩, trivial⟩
  rintro ⟨k, a, b⟩ ⟨g1, g2, g3⟩
  simp only [] at g1 g2 g3
  have hal : a.length ≤ xs.length := by rw [g2]; exact Nat.le_trans (pick_len _ _ _) (by rw [List.length_take]; omega)
  have hbl : b.length ≤ xs.length := by rw [g3]; exact Nat.le_trans (pick_len _ _ _) (by rw [List.length_take]; omega)
  refine And.intro (fun h1 => ?_) (fun h1 => ?_)
  · have h1 : (k : Int) < (xs.length : Nat) := h1
    have hk : k < xs.length := by omega
    obtain ⟨c, hc⟩ : ∃ c, c = xs.getD k [] := ⟨_, rfl⟩
    have hcm : c ∈ xs := by rw [hc]; exact getD_memL [] hk
    have s1 := pick_snoc (p := inPart p i) [] hk
    have s2 := pick_snoc (p := fun k => !inPart p i k) [] hk
    rw [← hc] at s1 s2
    refine ⟨_, ⟨by omega, ints c, by rw [hc]; exact ccell hk, rfl⟩, ?_⟩
    refine ⟨Unit, fun _ => [(0, .fn (.yield 8) [] []), (1, .p (.fp (Dt.cells ⟨cs, xs⟩))), (2, .p (.fp [ints []])), (4, .p (i64 k)), (5, .p (ints c)), (9, .p (.lst (xs.map ints))), (10, .p (i64 xs.length)), (11, .p (i64 k)), (17, .p (i64 0)), (18, .p (i64 0))], fun _ => ⟨11, spL ⟨cs, xs⟩ p i .ready N σ ps ac bd a b⟩, fun _ => True, fun _ => 0, ?_, ?_⟩
    · refine ⟨(), trivial, ent_of [] [(9, 9), (10, 10)] [] rfl ⟨⟨rfl, _, _, rfl, rfl, rfl⟩, rfl, rfl, rfl, rfl, rfl, rfl, rfl, rfl, rfl, trivial⟩ ?_ rfl⟩
      exact ⟨⟨_, rfl, rfl, rfl, rfl⟩, ⟨_, rfl, rfl, rfl, rfl⟩, ⟨_, rfl, rfl, rfl, rfl, rfl, rfl⟩, ⟨_, rfl, rfl, rfl, rfl⟩, ⟨_, rfl, rfl, rfl, _, rfl, by (repeat' first | exact trivial | exact rfl | exact ⟨rfl, rfl⟩ | exact .inl rfl | refine ⟨_, rfl, rfl, rfl, ?_⟩ | refine ⟨_, _, rfl, ?_, ?_⟩ | refine ⟨_, rfl, ?_⟩ | refine And.intro ?_ ?_)⟩, ⟨_, rfl, rfl, rfl, _, rfl, by (repeat' first | exact trivial | exact rfl | exact ⟨rfl, rfl⟩ | exact .inl rfl | refine ⟨_, rfl, rfl, rfl, ?_⟩ | refine ⟨_, _, rfl, ?_, ?_⟩ | refine ⟨_, rfl, ?_⟩ | refine And.intro ?_ ?_)⟩, ⟨_, rfl, rfl, rfl, _, rfl, by (repeat' first | exact trivial | exact rfl | exact ⟨rfl, rfl⟩ | exact .inl rfl | refine ⟨_, rfl, rfl, rfl, ?_⟩ | refine ⟨_, _, rfl, ?_, ?_⟩ | refine ⟨_, rfl, ?_⟩ | refine And.intro ?_ ?_)⟩, ⟨_, rfl, rfl, rfl, _, rfl, by (repeat' first | exact trivial | exact rfl | exact ⟨rfl, rfl⟩ | exact .inl rfl | refine ⟨_, rfl, rfl, rfl, ?_⟩ | refine ⟨_, _, rfl, ?_, ?_⟩ | refine ⟨_, rfl, ?_⟩ | refine And.intro ?_ ?_)⟩, ⟨_, rfl, rfl, rfl, _, rfl, by (repeat' first | exact trivial | exact rfl | exact ⟨rfl, rfl⟩ | exact .inl rfl | refine ⟨_, rfl, rfl, rfl, ?_⟩ | refine ⟨_, _, rfl, ?_, ?_⟩ | refine ⟨_, rfl, ?_⟩ | refine And.intro ?_ ?_)⟩, trivial⟩
    rintro _ _
    refine And.intro (fun h2 => absurd (show (0 : Int) < 0 from h2) (by decide)) (fun _ => ?_)
    refine hrd k a b c _ (by omega) (by omega) hcm (fun hp => ?_) (fun hp => ?_)
    · rw [hp] at s1 s2
      refine ⟨(k : Int) + 1, wrap_i64 (by omega) (by omega), ?_⟩
      refine ⟨(k + 1, a ++ [c], b), ⟨by simp only []; omega, by simp only []; rw [s1, g2]; rfl, by simp only []; rw [s2, g3]; simp⟩, ent_of [] [(9, 12), (10, 10)] [] rfl ⟨⟨rfl, _, _, rfl, rfl, rfl⟩, rfl, rfl, rfl, rfl, rfl, trivial⟩ ?_ rfl, by simp only []; omega⟩
      exact ⟨⟨_, rfl, rfl, rfl, rfl⟩, ⟨_, rfl, rfl, rfl, rfl⟩, ⟨_, rfl, rfl, rfl, rfl, rfl, rfl⟩, ⟨_, rfl, rfl, rfl, rfl⟩, ⟨_, rfl, rfl, rfl, _, rfl, by (repeat' first | exact trivial | exact rfl | exact ⟨rfl, rfl⟩ | exact .inl rfl | refine ⟨_, rfl, rfl, rfl, ?_⟩ | refine ⟨_, _, rfl, ?_, ?_⟩ | refine ⟨_, rfl, ?_⟩ | refine And.intro ?_ ?_)⟩, ⟨_, rfl, rfl, rfl, _, rfl, _, _, rfl, rfl, _, _, rfl, congrArg (fun n => AV.sl 12 1 0 n) (snoc_len a c).symm, rfl⟩, ⟨_, rfl, rfl, rfl, _, rfl, by (repeat' first | exact trivial | exact rfl | exact ⟨rfl, rfl⟩ | exact .inl rfl | refine ⟨_, rfl, rfl, rfl, ?_⟩ | refine ⟨_, _, rfl, ?_, ?_⟩ | refine ⟨_, rfl, ?_⟩ | refine And.intro ?_ ?_)⟩, ⟨_, rfl, rfl, rfl, _, rfl, by (repeat' first | exact trivial | exact rfl | exact ⟨rfl, rfl⟩ | exact .inl rfl | refine ⟨_, rfl, rfl, rfl, ?_⟩ | refine ⟨_, _, rfl, ?_, ?_⟩ | refine ⟨_, rfl, ?_⟩ | refine And.intro ?_ ?_)⟩, ⟨_, rfl, rfl, rfl, _, rfl, by (repeat' first | exact trivial | exact rfl | exact ⟨rfl, rfl⟩ | exact .inl rfl | refine ⟨_, rfl, rfl, rfl, ?_⟩ | refine ⟨_, _, rfl, ?_, ?_⟩ | refine ⟨_, rfl, ?_⟩ | refine And.intro ?_ ?_)⟩, trivial⟩
    · rw [hp] at s1 s2
      refine ⟨(k : Int) + 1, wrap_i64 (by omega) (by omega), ?_⟩
      refine ⟨(k + 1, a, b ++ [c]), ⟨by simp only []; omega, by simp only []; rw [s1, g2]; simp, by simp only []; rw [s2, g3]; rfl⟩, ent_of [] [(9, 9), (10, 12)] [] rfl ⟨⟨rfl, _, _, rfl, rfl, rfl⟩, rfl, rfl, rfl, rfl, rfl, trivial⟩ ?_ rfl, by simp only []; omega⟩
      exact ⟨⟨_, rfl, rfl, rfl, rfl⟩, ⟨_, rfl, rfl, rfl, rfl⟩, ⟨_, rfl, rfl, rfl, rfl, rfl, rfl⟩, ⟨_, rfl, rfl, rfl, rfl⟩, ⟨_, rfl, rfl, rfl, _, rfl, _, _, rfl, rfl, _, _, rfl, congrArg (fun n => AV.sl 12 1 0 n) (snoc_len b c).symm, rfl⟩, ⟨_, rfl, rfl, rfl, _, rfl, by (repeat' first | exact trivial | exact rfl | exact ⟨rfl, rfl⟩ | exact .inl rfl | refine ⟨_, rfl, rfl, rfl, ?_⟩ | refine ⟨_, _, rfl, ?_, ?_⟩ | refine ⟨_, rfl, ?_⟩ | refine And.intro ?_ ?_)⟩, ⟨_, rfl, rfl, rfl, _, rfl, by (repeat' first | exact trivial | exact rfl | exact ⟨rfl, rfl⟩ | exact .inl rfl | refine ⟨_, rfl, rfl, rfl, ?_⟩ | refine ⟨_, _, rfl, ?_, ?_⟩ | refine ⟨_, rfl, ?_⟩ | refine And.intro ?_ ?_)⟩, ⟨_, rfl, rfl, rfl, _, rfl, by (repeat' first | exact trivial | exact rfl | exact ⟨rfl, rfl⟩ | exact .inl rfl | refine ⟨_, rfl, rfl, rfl, ?_⟩ | refine ⟨_, _, rfl, ?_, ?_⟩ | refine ⟨_, rfl, ?_⟩ | refine And.intro ?_ ?_)⟩, ⟨_, rfl, rfl, rfl, _, rfl, by (repeat' first | exact trivial | exact rfl | exact ⟨rfl, rfl⟩ | exact .inl rfl | refine ⟨_, rfl, rfl, rfl, ?_⟩ | refine ⟨_, _, rfl, ?_, ?_⟩ | refine ⟨_, rfl, ?_⟩ | refine And.intro ?_ ?_)⟩, trivial⟩
  · have h1 : ¬ (k : Int) < (xs.length : Nat) := h1
    rw [take_all (by omega)] at g2 g3
    subst g2 g3
    exact ⟨[], [(9, 9), (10, 10)], [], .returned und, ⟨11, spL ⟨cs, xs⟩ p i .ready N σ ps ac bd (partN ⟨cs, xs⟩ p i).cases (restN ⟨cs, xs⟩ p i).cases⟩, rfl, by (repeat' first | exact trivial | exact rfl | exact ⟨rfl, rfl⟩ | exact .inl rfl | refine ⟨_, rfl, rfl, rfl, ?_⟩ | refine ⟨_, _, rfl, ?_, ?_⟩ | refine ⟨_, rfl, ?_⟩ | refine And.intro ?_ ?_), ⟨⟨_, rfl, rfl, rfl, rfl⟩, ⟨_, rfl, rfl, rfl, rfl⟩, ⟨_, rfl, rfl, rfl, rfl, rfl, rfl⟩, ⟨_, rfl, rfl, rfl, rfl⟩, ⟨_, rfl, rfl, rfl, _, rfl, by (repeat' first | exact trivial | exact rfl | exact ⟨rfl, rfl⟩ | exact .inl rfl | refine ⟨_, rfl, rfl, rfl, ?_⟩ | refine ⟨_, _, rfl, ?_, ?_⟩ | refine ⟨_, rfl, ?_⟩ | refine And.intro ?_ ?_)⟩, ⟨_, rfl, rfl, rfl, _, rfl, by (repeat' first | exact trivial | exact rfl | exact ⟨rfl, rfl⟩ | exact .inl rfl | refine ⟨_, rfl, rfl, rfl, ?_⟩ | refine ⟨_, _, rfl, ?_, ?_⟩ | refine ⟨_, rfl, ?_⟩ | refine And.intro ?_ ?_)⟩, ⟨_, rfl, rfl, rfl, _, rfl, by (repeat' first | exact trivial | exact rfl | exact ⟨rfl, rfl⟩ | exact .inl rfl | refine ⟨_, rfl, rfl, rfl, ?_⟩ | refine ⟨_, _, rfl, ?_, ?_⟩ | refine ⟨_, rfl, ?_⟩ | refine And.intro ?_ ?_)⟩, ⟨_, rfl, rfl, rfl, _, rfl, by (repeat' first | exact trivial | exact rfl | exact ⟨rfl, rfl⟩ | exact .inl rfl | refine ⟨_, rfl, rfl, rfl, ?_⟩ | refine ⟨_, _, rfl, ?_, ?_⟩ | refine ⟨_, rfl, ?_⟩ | refine And.intro ?_ ?_)⟩, ⟨_, rfl, rfl, rfl, _, rfl, by (repeat' first | exact trivial | exact rfl | exact ⟨rfl, rfl⟩ | exact .inl rfl | refine ⟨_, rfl, rfl, rfl, ?_⟩ | refine ⟨_, _, rfl, ?_, ?_⟩ | refine ⟨_, rfl, ?_⟩ | refine And.intro ?_ ?_)⟩, trivial⟩, hok⟩

def okSplit (p i : Int) : Prop := 1 ≤ p ∧ p ≤ 40 ∧ 0 ≤ i ∧ i < p
instance (p i : Int) : Decidable (okSplit p i) := inferInstanceAs (Decidable (_ ∧ _))
def splitV (d : Dt) (p i : Int) : List PV :=
  if rightP d then (if okSplit p i then [(partN d p i).pv, (restN d p i).pv, i64 0] else [dtZero.pv, dtZero.pv, i64 2]) else [dtZero.pv, dtZero.pv, i64 250]

theorem split_c (d : Dt) (p i : Int) (hd : Sm7 d) : Pure cx 25 [d.pv, i64 p, i64 i] (· = .ret (splitV d p i)) := by
  refine pure_of_vc Tryd.func25 rfl rfl rfl ?_
  have hC := check_c d hd
  have zr : ∀ {L : List (Nat × AObj)}, Res L 5 (.p (.agg [.nils, .nils])) dtZero.pv := ⟨_, rfl, _, _, rfl, .inr (.inl rfl), _, _, rfl, .inr (.inl rfl), rfl⟩
  by_cases hr : rightP d
  rotate_left
  · rw [checkD, if_neg hr] at hC
    refine hC.eq rfl ?_
    refine And.intro (fun h => absurd (show (250 : Int) = 0 from h) (by decide)) (fun _ => ?_)
    exact end3 dtZero.pv dtZero.pv (i64 250) rfl zr zr rfl (by rw [splitV, if_neg hr])
  rw [checkD, if_pos hr] at hC
  refine hC.eq rfl ?_
  refine And.intro (fun _ => ?_) (fun h => absurd rfl h)
  rw [splitV, if_pos hr]
  have no : ¬ okSplit p i → PEnd.ret [dtZero.pv, dtZero.pv, i64 2] = .ret (if okSplit p i then [(partN d p i).pv, (restN d p i).pv, i64 0] else [dtZero.pv, dtZero.pv, i64 2]) := fun h => by rw [if_neg h]
  refine And.intro (fun h1 => ?_) (fun h1 => ?_)
  · have h1 : p < 1 := h1
    exact end3 dtZero.pv dtZero.pv (i64 2) rfl zr zr rfl (no fun h => by have := h.1; omega)
  have h1 : ¬ p < 1 := h1
  refine And.intro (fun h2 => ?_) (fun h2 => ?_)
  · have h2 : 40 < p := h2
    exact end3 dtZero.pv dtZero.pv (i64 2) rfl zr zr rfl (no fun h => by have := h.2.1; omega)
  have h2 : ¬ 40 < p := h2
  refine And.intro (fun h3 => ?_) (fun h3 => ?_)
  · have h3 : i < 0 := h3
    exact end3 dtZero.pv dtZero.pv (i64 2) rfl zr zr rfl (no fun h => by have := h.2.2.1; omega)
  have h3 : ¬ i < 0 := h3
  refine And.intro (fun h4 => ?_) (fun h4 => ?_)
  · have h4 : p ≤ i := h4
    exact end3 dtZero.pv dtZero.pv (i64 2) rfl zr zr rfl (no fun h => by have := h.2.2.2; omega)
  have h4 : ¬ p ≤ i := h4
  rw [if_pos ⟨by omega, by omega, by omega, by omega⟩]
  obtain ⟨d1, d2, d3⟩ := hd
  obtain ⟨cs, xs⟩ := d
  simp only [] at d1 d2 d3
  refine VDraw.seq rfl ?_
  refine (empty_c ⟨cs, xs⟩ (by simp only []; omega)).useE [] [] rfl trivial ⟨_, _, rfl, rfl, rfl⟩ ?_
  refine ⟨by (repeat' first | exact trivial | exact rfl | exact ⟨rfl, rfl⟩ | exact .inl rfl | refine ⟨_, rfl, rfl, rfl, ?_⟩ | refine ⟨_, _, rfl, ?_, ?_⟩ | refine ⟨_, rfl, ?_⟩ | refine And.intro ?_ ?_), ?_⟩
  refine (empty_c ⟨cs, xs⟩ (by simp only []; omega)).useE [] [] rfl trivial ⟨_, _, rfl, rfl, rfl⟩ ?_
  refine (known_c ⟨cs, xs⟩ []).uses [] rfl ⟨_, _, rfl, rfl, _, _, rfl, .inr (.inl rfl), rfl⟩ ?_
  refine range_of ?_
  intro σ' ps ac bd e1 e2 e3 e4
  have hrd : ∀ (k : Nat) (a b : List (List Int)) (c : List Int) (K : AE → Hp → Prop), a.length ≤ 1000 → b.length ≤ 1000 → c ∈ (Dt.mk cs xs).cases → (inPart p i k = true → K (.returned (vB true)) ⟨13, spA ⟨cs, xs⟩ p i Tryd.f25.ntmps σ' ps ac bd a b c⟩) → (inPart p i k = false → K (.returned (vB true)) ⟨13, spB ⟨cs, xs⟩ p i Tryd.f25.ntmps σ' ps ac bd a b c⟩) →
      RoundH cx 8 [.p (i64 k), .p (ints c)] ⟨11, spL ⟨cs, xs⟩ p i .ready Tryd.f25.ntmps σ' ps ac bd a b⟩ K := by
    intro k a b c K ha hb hcm hK1 hK2
    subst e1 e2 e3 e4
    refine round_of_vc rfl rfl rfl ?_
    refine VDraw.seq rfl ?_
    refine ⟨show p ≠ 0 by omega, ?_⟩
    refine And.intro (fun h5 => ?_) (fun h5 => ?_)
    · have h5 : (k : Int).tmod p = i := h5
      refine VDraw.seq rfl ?_
      refine (clone_c c (by have := d3 c hcm; omega)).eq rfl ?_
      refine ⟨by (repeat' first | exact trivial | exact rfl | exact ⟨rfl, rfl⟩ | exact .inl rfl | refine ⟨_, rfl, rfl, rfl, ?_⟩ | refine ⟨_, _, rfl, ?_, ?_⟩ | refine ⟨_, rfl, ?_⟩ | refine And.intro ?_ ?_), ?_⟩
      refine ⟨by (repeat' first | exact trivial | exact rfl | exact ⟨rfl, rfl⟩ | exact .inl rfl | refine ⟨_, rfl, rfl, rfl, ?_⟩ | refine ⟨_, _, rfl, ?_, ?_⟩ | refine ⟨_, rfl, ?_⟩ | refine And.intro ?_ ?_), ?_⟩
      refine ⟨by show 0 + 1 ≤ 1; omega, [ints c], rfl, ?_⟩
      refine ⟨by show 0 + a.length ≤ (a.map ints).length; simp, a.map ints, takeAll (by simp), by show (a.length + 1) * 24 ≤ 140737488355328; omega, (a ++ [c]).map ints, by simp, ?_⟩
      exact hK1 (decide_eq_true h5)
    · have h5 : ¬ (k : Int).tmod p = i := h5
      refine VDraw.seq rfl ?_
      refine (clone_c c (by have := d3 c hcm; omega)).eq rfl ?_
      refine ⟨by (repeat' first | exact trivial | exact rfl | exact ⟨rfl, rfl⟩ | exact .inl rfl | refine ⟨_, rfl, rfl, rfl, ?_⟩ | refine ⟨_, _, rfl, ?_, ?_⟩ | refine ⟨_, rfl, ?_⟩ | refine And.intro ?_ ?_), ?_⟩
      refine ⟨by (repeat' first | exact trivial | exact rfl | exact ⟨rfl, rfl⟩ | exact .inl rfl | refine ⟨_, rfl, rfl, rfl, ?_⟩ | refine ⟨_, _, rfl, ?_, ?_⟩ | refine ⟨_, rfl, ?_⟩ | refine And.intro ?_ ?_), ?_⟩
      refine ⟨by show 0 + 1 ≤ 1; omega, [ints c], rfl, ?_⟩
      refine ⟨by show 0 + b.length ≤ (b.map ints).length; simp, b.map ints, takeAll (by simp), by show (b.length + 1) * 24 ≤ 140737488355328; omega, (b ++ [c]).map ints, by simp, ?_⟩
      exact hK2 (decide_eq_false h5)
  refine iterS_c ⟨cs, xs⟩ p i d2 _ σ' _ _ ps ac bd _ ?_ hrd
  refine VDraw.seq rfl ?_
  refine ⟨by (repeat' first | exact trivial | exact rfl | exact ⟨rfl, rfl⟩ | exact .inl rfl | refine ⟨_, rfl, rfl, rfl, ?_⟩ | refine ⟨_, _, rfl, ?_, ?_⟩ | refine ⟨_, rfl, ?_⟩ | refine And.intro ?_ ?_), ?_⟩
  refine end3 (partN ⟨cs, xs⟩ p i).pv (restN ⟨cs, xs⟩ p i).pv (i64 0) rfl ⟨_, rfl, _, _, rfl, rfl, _, _, rfl, ⟨_, rfl, by show 0 + (partN ⟨cs, xs⟩ p i).cases.length ≤ ((partN ⟨cs, xs⟩ p i).cases.map ints).length; simp, takeAll (by simp)⟩, rfl⟩ ⟨_, rfl, _, _, rfl, rfl, _, _, rfl, ⟨_, rfl, by show 0 + (restN ⟨cs, xs⟩ p i).cases.length ≤ ((restN ⟨cs, xs⟩ p i).cases.map ints).length; simp, takeAll (by simp)⟩, rfl⟩ rfl rfl
end Go.Proofs.YtmdmjnfdemgpoaaDoor

/- strings.Builder. -/
namespace Go.Proofs.YtmdmjnfdemgpoaaDoor
open Go Y
set_option maxRecDepth 100000
set_option maxHeartbeats 4000000

abbrev TB : TypeId := 90
/-- The builder's own address, once it has been used. -/
def au : Bool → AV
  | true => .ptr 0 0 0
  | false => .p .nilp

theorem noEscape_c {v : AV} {H : Hp} {Q : AE → Hp → Prop} (hQ : Q (.returned v) H) : Holds cx 93 [v] H Q := by
  intro Γ w args' hR hA
  simp only [VRL] at hA
  obtain ⟨u, us, rfl, hu, rfl⟩ := hA
  refine .inr ⟨u, w, ?_, _, _, Γ, hQ, ⟨u, rfl, hu⟩, Later.refl hR _ (Nat.le_refl _)⟩
  show (callFunc 93 #[u]).run Tryd.prog w = _
  rw [run_callFunc_extern Tryd.func93 (by kernel_rfl) (by kernel_rfl) (by kernel_rfl) (e := Extern.AbiNoEscape.same) (by kernel_rfl)]
  rfl

theorem makeNoZero_c {n : Nat} {H : Hp} {Q : AE → Hp → Prop} (hn : n ≤ 281474976710656) (hQ : Q (.returned (.sl H.next 1 0 n)) (H.push ⟨5, false, .pu []⟩)) : Holds cx 101 [.p (i64 n)] H Q := by
  intro Γ w args' hR hA
  simp only [VRL, VR, VP] at hA
  obtain ⟨u, us, rfl, rfl, rfl⟩ := hA
  obtain ⟨cs, hrun, hle, _⟩ := Lib.run_makeNoZero (P := Tryd.prog) w #[3] 22 5 Tryd.underlying22 n hn
  have hd := (Later.drew hR H.next (Nat.le_refl _)).trans (Later.drew (Later.drew hR H.next (Nat.le_refl _)).1 H.next (Nat.le_refl _))
  have hR2 : R cx Γ H w.drew.drew := hd.1
  have hp := push_cells (t := 5) (s := 1) (tc := cs.size) (c := .pu []) (us := []) (rest := cs.toList) hR2 rfl (by rfl) Nat.one_pos rfl (by simp) (by simp) rfl
  refine .inr ⟨.slice (some ⟨w.heap.size, 0, none⟩) n cs.size, w.drew.drew.alloc (.cells cs 5), ?_, _, _, _, hQ, ⟨_, rfl, VR_slNext (Γ := Γ) ⟨w.heap.size, 1, cs.size, false⟩ H.next n rfl hle⟩, hd.trans hp⟩
  show (callFunc 101 #[.int .i64 n]).run Tryd.prog w = _
  rw [run_callFunc_extern Tryd.func101 (by kernel_rfl) (by kernel_rfl) (by kernel_rfl) (e := Extern.BytealgMakeNoZero.makeNoZero #[3] #[22]) (by kernel_rfl), hrun]
  rfl

theorem copyCheck_c (u : Bool) (v : AV) : HoldsG cx 72 [.ptr 0 0 0] ⟨2, [(0, ⟨TB, false, .bx [au u, v]⟩)]⟩ fun e H' => e = .returned und ∧ H' = ⟨2, [(0, ⟨TB, false, .bx [.ptr 0 0 0, v]⟩)]⟩ := by
  refine holds_of_vc Tryd.func72 rfl rfl rfl ?_
  cases u
  · refine noEscape_c ?_
    exact ⟨rfl, rfl⟩
  · exact ⟨rfl, rfl⟩

/-- A builder that holds some bytes. -/
def bldH (u : Bool) (xs : List UInt8) : Hp := ⟨2, [(1, ⟨5, false, .pu (xs.map ub)⟩), (0, ⟨TB, false, .bx [au u, .sl 1 1 0 xs.length]⟩)]⟩
def bldH' (xs : List UInt8) : Hp := ⟨3, [(2, ⟨5, false, .pu (xs.map ub)⟩), (0, ⟨TB, false, .bx [.ptr 0 0 0, .sl 2 1 0 xs.length]⟩)]⟩

theorem takeUb (xs : List UInt8) : xs.map ub = ((xs.map ub).drop 0).take xs.length := by rw [List.drop_zero, List.take_of_length_le (by simp)]

theorem writeByte_c (u : Bool) (xs : List UInt8) (b : UInt8) (hx : xs.length ≤ 1000000) :
    HoldsG cx 53 [.ptr 0 0 0, .p (u8 b)] (bldH u xs) fun e H' => e = .returned (.p .nilIface) ∧ H' = bldH' (xs ++ [b]) := by
  refine holdsN_of_vc Tryd.func53 rfl rfl rfl ?_
  refine (copyCheck_c u (.sl 1 1 0 xs.length)).useE [] [] rfl ?_ ?_ ?_
  · cases u <;> (repeat' first | exact trivial | exact rfl | exact ⟨rfl, rfl⟩ | exact .inl rfl | refine ⟨_, rfl, rfl, rfl, ?_⟩ | refine ⟨_, _, rfl, ?_, ?_⟩ | refine ⟨_, rfl, ?_⟩ | refine And.intro ?_ ?_)
  · (repeat' first | exact trivial | exact rfl | exact ⟨rfl, rfl⟩ | exact .inl rfl | refine ⟨_, rfl, rfl, rfl, ?_⟩ | refine ⟨_, _, rfl, ?_, ?_⟩ | refine ⟨_, rfl, ?_⟩ | refine And.intro ?_ ?_)
  · refine ⟨by show 0 + 1 ≤ _; simp, [ub b], rfl, ?_⟩
    refine ⟨by show 0 + xs.length ≤ (xs.map ub).length; simp, xs.map ub, takeUb xs, by show (xs.length + 1) * 1 ≤ _; omega, (xs ++ [b]).map ub, by simp, ?_⟩
    exact ⟨[], [(2, 3)], [], .returned (.p .nilIface), ⟨3, [(2, ⟨5, false, .pu ((xs ++ [b]).map ub)⟩), (0, ⟨TB, false, .bx [.ptr 0 0 0, .sl 2 1 0 (xs.length + 1)]⟩)]⟩, rfl, ⟨_, rfl, rfl⟩, ⟨⟨_, rfl, rfl, rfl, rfl⟩, ⟨_, rfl, rfl, rfl, _, rfl, _, _, rfl, ⟨rfl, rfl⟩, _, _, rfl, rfl, rfl⟩, trivial⟩, rfl, by simp [bldH']⟩

theorem writeString_c (u : Bool) (xs s : List UInt8) (hx : xs.length ≤ 1000000) (hs : s.length ≤ 1000000) :
    HoldsG cx 54 [.ptr 0 0 0, vS s] (bldH u xs) fun e H' => e = .returned (.tup [.p (i64 s.length), .p .nilIface]) ∧ H' = bldH' (xs ++ s) := by
  refine holdsN_of_vc Tryd.func54 rfl rfl rfl ?_
  refine (copyCheck_c u (.sl 1 1 0 xs.length)).useE [] [] rfl ?_ ?_ ?_
  · cases u <;> (repeat' first | exact trivial | exact rfl | exact ⟨rfl, rfl⟩ | exact .inl rfl | refine ⟨_, rfl, rfl, rfl, ?_⟩ | refine ⟨_, _, rfl, ?_, ?_⟩ | refine ⟨_, rfl, ?_⟩ | refine And.intro ?_ ?_)
  · (repeat' first | exact trivial | exact rfl | exact ⟨rfl, rfl⟩ | exact .inl rfl | refine ⟨_, rfl, rfl, rfl, ?_⟩ | refine ⟨_, _, rfl, ?_, ?_⟩ | refine ⟨_, rfl, ?_⟩ | refine And.intro ?_ ?_)
  · refine ⟨by show 0 + xs.length ≤ (xs.map ub).length; simp, xs.map ub, takeUb xs, by show (xs.length + s.length) * 1 ≤ _; omega, (xs ++ s).map ub, by simp, ?_⟩
    exact ⟨[], [(2, 2)], [], .returned (.tup [.p (i64 s.length), .p .nilIface]), ⟨3, [(2, ⟨5, false, .pu ((xs ++ s).map ub)⟩), (0, ⟨TB, false, .bx [.ptr 0 0 0, .sl 2 1 0 (xs.length + s.length)]⟩)]⟩, rfl, ⟨_, rfl, _, rfl, by (repeat' first | exact trivial | exact rfl | exact ⟨rfl, rfl⟩ | exact .inl rfl | refine ⟨_, rfl, rfl, rfl, ?_⟩ | refine ⟨_, _, rfl, ?_, ?_⟩ | refine ⟨_, rfl, ?_⟩ | refine And.intro ?_ ?_)⟩, ⟨⟨_, rfl, rfl, rfl, rfl⟩, ⟨_, rfl, rfl, rfl, _, rfl, _, _, rfl, ⟨rfl, rfl⟩, _, _, rfl, rfl, rfl⟩, trivial⟩, rfl, by simp [bldH']⟩

/-- The same at a builder in which nothing has been written. -/
theorem grow_c (n : Nat) (hn : n ≤ 1000000) : HoldsG cx 81 [.ptr 0 0 0, .p (i64 n)] ⟨1, [(0, ⟨TB, false, .bx [.ptr 0 0 0, .p .nils]⟩)]⟩ fun e H' => e = .returned und ∧ H' = ⟨2, [(1, ⟨5, false, .pu []⟩), (0, ⟨TB, false, .bx [.ptr 0 0 0, .sl 1 1 0 0]⟩)]⟩ := by
  refine holdsN_of_vc Tryd.func81 rfl rfl rfl ?_
  refine VDraw.seq rfl ?_
  refine ⟨0, wrap_i64 (by omega) (by omega), ?_⟩
  refine ⟨(n : Int), by rw [Int.zero_add]; exact wrap_i64 (by omega) (by omega), ?_⟩
  refine makeNoZero_c (by omega) ?_
  refine ⟨by (repeat' first | exact trivial | exact rfl | exact ⟨rfl, rfl⟩ | exact .inl rfl | refine ⟨_, rfl, rfl, rfl, ?_⟩ | refine ⟨_, _, rfl, ?_, ?_⟩ | refine ⟨_, rfl, ?_⟩ | refine And.intro ?_ ?_), ?_⟩
  refine ⟨by show (0 : Int) ≤ 0 ∧ (0 : Int) ≤ (n : Nat); omega, ?_⟩
  refine ⟨⟨Nat.le_refl _, Nat.le_refl _⟩, [], rfl, ?_⟩
  exact ⟨[], [(1, 1)], [], .returned und, ⟨2, [(1, ⟨5, false, .pu []⟩), (0, ⟨TB, false, .bx [.ptr 0 0 0, .sl 1 1 0 0]⟩)]⟩, rfl, by (repeat' first | exact trivial | exact rfl | exact ⟨rfl, rfl⟩ | exact .inl rfl | refine ⟨_, rfl, rfl, rfl, ?_⟩ | refine ⟨_, _, rfl, ?_, ?_⟩ | refine ⟨_, rfl, ?_⟩ | refine And.intro ?_ ?_), ⟨⟨_, rfl, rfl, rfl, rfl⟩, ⟨_, rfl, rfl, rfl, _, rfl, _, _, rfl, ⟨rfl, rfl⟩, _, _, rfl, rfl, rfl⟩, trivial⟩, rfl, rfl⟩

theorem growN_c (u : Bool) (n : Nat) (h0 : 0 < n) (hn : n ≤ 1000000) : HoldsG cx 66 [.ptr 0 0 0, .p (i64 n)] ⟨1, [(0, ⟨TB, false, .bx [au u, .p .nils]⟩)]⟩ fun e H' => e = .returned und ∧ H' = ⟨2, [(1, ⟨5, false, .pu []⟩), (0, ⟨TB, false, .bx [.ptr 0 0 0, .sl 1 1 0 0]⟩)]⟩ := by
  refine holdsN_of_vc Tryd.func66 rfl rfl rfl ?_
  refine (copyCheck_c u (.p .nils)).useE [] [(1, 0)] rfl ?_ ?_ ?_
  · cases u <;> (repeat' first | exact trivial | exact rfl | exact ⟨rfl, rfl⟩ | exact .inl rfl | refine ⟨_, rfl, rfl, rfl, ?_⟩ | refine ⟨_, _, rfl, ?_, ?_⟩ | refine ⟨_, rfl, ?_⟩ | refine And.intro ?_ ?_)
  · (repeat' first | exact trivial | exact rfl | exact ⟨rfl, rfl⟩ | exact .inl rfl | refine ⟨_, rfl, rfl, rfl, ?_⟩ | refine ⟨_, _, rfl, ?_, ?_⟩ | refine ⟨_, rfl, ?_⟩ | refine And.intro ?_ ?_)
  · refine And.intro (fun h1 => ?_) (fun h1 => ?_)
    · have h1 : (n : Int) < 0 := h1
      omega
    · refine VDraw.seq rfl ?_
      refine ⟨0, wrap_i64 (by omega) (by omega), ?_⟩
      refine And.intro (fun h2 => ?_) (fun h2 => ?_)
      · refine (grow_c n hn).useE [] [] rfl ?_ ?_ ?_
        · (repeat' first | exact trivial | exact rfl | exact ⟨rfl, rfl⟩ | exact .inl rfl | refine ⟨_, rfl, rfl, rfl, ?_⟩ | refine ⟨_, _, rfl, ?_, ?_⟩ | refine ⟨_, rfl, ?_⟩ | refine And.intro ?_ ?_)
        · (repeat' first | exact trivial | exact rfl | exact ⟨rfl, rfl⟩ | exact .inl rfl | refine ⟨_, rfl, rfl, rfl, ?_⟩ | refine ⟨_, _, rfl, ?_, ?_⟩ | refine ⟨_, rfl, ?_⟩ | refine And.intro ?_ ?_)
        · exact ⟨[], [(1, 1)], [], .returned und, ⟨2, [(1, ⟨5, false, .pu []⟩), (0, ⟨TB, false, .bx [.ptr 0 0 0, .sl 1 1 0 0]⟩)]⟩, rfl, by (repeat' first | exact trivial | exact rfl | exact ⟨rfl, rfl⟩ | exact .inl rfl | refine ⟨_, rfl, rfl, rfl, ?_⟩ | refine ⟨_, _, rfl, ?_, ?_⟩ | refine ⟨_, rfl, ?_⟩ | refine And.intro ?_ ?_), ⟨⟨_, rfl, rfl, rfl, rfl⟩, ⟨_, rfl, rfl, rfl, _, rfl, _, _, rfl, ⟨rfl, rfl⟩, _, _, rfl, rfl, rfl⟩, trivial⟩, rfl, rfl⟩
      · have h2 : ¬ (0 : Int) < (n : Nat) := h2
        omega
theorem growZ_c (u : Bool) : HoldsG cx 66 [.ptr 0 0 0, .p (i64 0)] ⟨1, [(0, ⟨TB, false, .bx [au u, .p .nils]⟩)]⟩ fun e H' => e = .returned und ∧ H' = ⟨1, [(0, ⟨TB, false, .bx [.ptr 0 0 0, .p .nils]⟩)]⟩ := by
  refine holdsN_of_vc Tryd.func66 rfl rfl rfl ?_
  refine (copyCheck_c u (.p .nils)).useE [] [(1, 0)] rfl ?_ ?_ ?_
  · cases u <;> (repeat' first | exact trivial | exact rfl | exact ⟨rfl, rfl⟩ | exact .inl rfl | refine ⟨_, rfl, rfl, rfl, ?_⟩ | refine ⟨_, _, rfl, ?_, ?_⟩ | refine ⟨_, rfl, ?_⟩ | refine And.intro ?_ ?_)
  · (repeat' first | exact trivial | exact rfl | exact ⟨rfl, rfl⟩ | exact .inl rfl | refine ⟨_, rfl, rfl, rfl, ?_⟩ | refine ⟨_, _, rfl, ?_, ?_⟩ | refine ⟨_, rfl, ?_⟩ | refine And.intro ?_ ?_)
  · refine And.intro (fun h1 => ?_) (fun h1 => ?_)
    · have h1 : (0 : Int) < 0 := h1
      omega
    · refine VDraw.seq rfl ?_
      refine ⟨0, wrap_i64 (by omega) (by omega), ?_⟩
      refine And.intro (fun h2 => ?_) (fun h2 => ?_)
      · have h2 : (0 : Int) < 0 := h2
        omega
      · exact ⟨[], [], [], .returned und, ⟨1, [(0, ⟨TB, false, .bx [.ptr 0 0 0, .p .nils]⟩)]⟩, rfl, by (repeat' first | exact trivial | exact rfl | exact ⟨rfl, rfl⟩ | exact .inl rfl | refine ⟨_, rfl, rfl, rfl, ?_⟩ | refine ⟨_, _, rfl, ?_, ?_⟩ | refine ⟨_, rfl, ?_⟩ | refine And.intro ?_ ?_), ⟨⟨_, rfl, rfl, rfl, _, rfl, _, _, rfl, ⟨rfl, rfl⟩, _, _, rfl, (.inl rfl), rfl⟩, trivial⟩, rfl, rfl⟩

theorem string_c (u : Bool) (xs : List UInt8) (h0 : xs ≠ []) (hx : xs.length ≤ 1000000) : HoldsG cx 56 [.ptr 0 0 0] (bldH u xs) fun e H' => e = .returned (vS xs) ∧ H' = ⟨2, [(0, ⟨TB, false, .bx [au u, .sl 1 1 0 xs.length]⟩)]⟩ := by
  refine holdsN_of_vc Tryd.func56 rfl rfl rfl ?_
  refine VDraw.seq rfl ?_
  refine And.intro (fun h1 => ?_) (fun h1 => ?_)
  · refine ⟨by (repeat' first | exact trivial | exact rfl | exact ⟨rfl, rfl⟩ | exact .inl rfl | refine ⟨_, rfl, rfl, rfl, ?_⟩ | refine ⟨_, _, rfl, ?_, ?_⟩ | refine ⟨_, rfl, ?_⟩ | refine And.intro ?_ ?_), ?_⟩
    refine ⟨xs, h0, rfl, by omega, by simp, by rw [List.take_of_length_le (by simp)], ?_⟩
    exact ⟨[], [], [], .returned (vS xs), ⟨2, [(0, ⟨TB, false, .bx [au u, .sl 1 1 0 xs.length]⟩)]⟩, rfl, ⟨_, rfl, rfl⟩, by cases u <;> (repeat' first | exact trivial | exact rfl | exact ⟨rfl, rfl⟩ | exact .inl rfl | refine ⟨_, rfl, rfl, rfl, ?_⟩ | refine ⟨_, _, rfl, ?_, ?_⟩ | refine ⟨_, rfl, ?_⟩ | refine And.intro ?_ ?_), rfl, rfl⟩
  · exact absurd (List.eq_nil_of_length_eq_zero h1) h0
theorem stringE_c (u : Bool) : HoldsG cx 56 [.ptr 0 0 0] (bldH u []) fun e H' => e = .returned (vS []) ∧ H' = bldH u [] := by
  refine holdsN_of_vc Tryd.func56 rfl rfl rfl ?_
  refine VDraw.seq rfl ?_
  refine And.intro (fun h1 => ?_) (fun h1 => ?_)
  · cases h1
  · refine ⟨by (repeat' first | exact trivial | exact rfl | exact ⟨rfl, rfl⟩ | exact .inl rfl | refine ⟨_, rfl, rfl, rfl, ?_⟩ | refine ⟨_, _, rfl, ?_, ?_⟩ | refine ⟨_, rfl, ?_⟩ | refine And.intro ?_ ?_), ?_⟩
    refine ⟨rfl, ?_⟩
    exact ⟨[], [], [], .returned (vS []), bldH u [], rfl, ⟨_, rfl, rfl⟩, by cases u <;> (repeat' first | exact trivial | exact rfl | exact ⟨rfl, rfl⟩ | exact .inl rfl | refine ⟨_, rfl, rfl, rfl, ?_⟩ | refine ⟨_, _, rfl, ?_, ?_⟩ | refine ⟨_, rfl, ?_⟩ | refine And.intro ?_ ?_), rfl, rfl⟩
theorem stringN_c (u : Bool) : HoldsG cx 56 [.ptr 0 0 0] ⟨1, [(0, ⟨TB, false, .bx [au u, .p .nils]⟩)]⟩ fun e H' => e = .returned (vS []) ∧ H' = ⟨1, [(0, ⟨TB, false, .bx [au u, .p .nils]⟩)]⟩ := by
  refine holdsN_of_vc Tryd.func56 rfl rfl rfl ?_
  refine VDraw.seq rfl ?_
  refine ⟨by (repeat' first | exact trivial | exact rfl | exact ⟨rfl, rfl⟩ | exact .inl rfl | refine ⟨_, rfl, rfl, rfl, ?_⟩ | refine ⟨_, _, rfl, ?_, ?_⟩ | refine ⟨_, rfl, ?_⟩ | refine And.intro ?_ ?_), ?_⟩
  refine ⟨rfl, ?_⟩
  exact ⟨[], [], [], .returned (vS []), ⟨1, [(0, ⟨TB, false, .bx [au u, .p .nils]⟩)]⟩, rfl, ⟨_, rfl, rfl⟩, by cases u <;> (repeat' first | exact trivial | exact rfl | exact ⟨rfl, rfl⟩ | exact .inl rfl | refine ⟨_, rfl, rfl, rfl, ?_⟩ | refine ⟨_, _, rfl, ?_, ?_⟩ | refine ⟨_, rfl, ?_⟩ | refine And.intro ?_ ?_), rfl, rfl⟩
end Go.Proofs.YtmdmjnfdemgpoaaDoor

/- Package data: Print. -/
namespace Go.Proofs.YtmdmjnfdemgpoaaDoor
open Go Y
set_option maxRecDepth 100000
set_option maxHeartbeats 4000000

theorem small_at : ∀ n < 10, sub [48, 49, 50, 51, 52, 53, 54, 55, 56, 57, 97, 98, 99, 100, 101, 102, 103, 104, 105, 106, 107, 108, 109, 110, 111, 112, 113, 114, 115, 116, 117, 118, 119, 120, 121, 122] (some ((n : Nat) : Int)) (some ((n : Int) + 1)) = [chN n] := by decide
theorem small_c (x : Int) (h0 : 0 ≤ x) (h9 : x ≤ 9) : Pure cx 107 [i64 x] (· = .ret [.str [chN x]]) := by
  refine pure_of_vc Tryd.func107 rfl rfl rfl ?_
  obtain ⟨n, rfl⟩ : ∃ n : Nat, x = n := ⟨x.toNat, by omega⟩
  (first | refine brLt (fun h1 => ?_) (fun h1 => ?_) | refine brLe (fun h1 => ?_) (fun h1 => ?_) | refine brEq (fun h1 => ?_) (fun h1 => ?_))
  · refine ⟨_, wrap_i64 (by omega) (by omega), ?_⟩
    refine ⟨by show (0 : Int) ≤ n ∧ (n : Int) ≤ (n : Int) + 1 ∧ (n : Int) + 1 ≤ 36; omega, ?_⟩
    refine end1 _ rfl rfl ?_
    exact congrArg (fun z => PEnd.ret [.str z]) (small_at n (by omega))
  · omega
theorem fmt_c (x : Int) (h0 : 0 ≤ x) (h9 : x ≤ 9) : Pure cx 94 [i64 x, i64 10] (· = .ret [.str [chN x]]) := by
  refine pure_of_vc Tryd.func94 rfl rfl rfl ?_
  refine And.intro (fun _ => ?_) (fun h => absurd rfl h)
  (first | refine brLt (fun h1 => ?_) (fun h1 => ?_) | refine brLe (fun h1 => ?_) (fun h1 => ?_) | refine brEq (fun h1 => ?_) (fun h1 => ?_))
  · (first | refine brLt (fun h2 => ?_) (fun h2 => ?_) | refine brLe (fun h2 => ?_) (fun h2 => ?_) | refine brEq (fun h2 => ?_) (fun h2 => ?_))
    · exact (small_c x h0 h9).eq rfl (end1 _ rfl rfl rfl)
    · omega
  · omega
theorem itoaI_c (x : Int) (h0 : 0 ≤ x) (h9 : x ≤ 9) : Pure cx 73 [i64 x] (· = .ret [.str [chN x]]) := by
  refine pure_of_vc Tryd.func73 rfl rfl rfl ?_
  exact (fmt_c x h0 h9).eq rfl (end1 _ rfl rfl rfl)
theorem itoa_c (x : Int) (h0 : 0 ≤ x) (h9 : x ≤ 9) : Pure cx 55 [i64 x] (· = .ret [.str [chN x]]) := by
  refine pure_of_vc Tryd.func55 rfl rfl rfl ?_
  exact (itoaI_c x h0 h9).eq rfl (end1 _ rfl rfl rfl)

def ubO (ys : List UInt8) : AObj := ⟨5, false, .pu (ys.map ub)⟩
def bbO (u : Bool) (b n m : Nat) : AObj := ⟨TB, false, .bx [(match u with | true => .ptr n 0 0 | false => .p .nilp), .sl b 1 0 m]⟩

theorem body_zero : bodyN [] = [] := rfl
theorem map_ub_len (xs : List UInt8) : (xs.map ub).length = xs.length := List.length_map ..


theorem write_c (u : Bool) (xs : List UInt8) (l : List Int) (hxs : xs.length ≤ 100000) (hl : l.length ≤ 1000) (hd : digs l) :
    HoldsG cx 52 [.p (ints l), .ptr 0 0 0] (bldH u xs) fun e H' => e = .returned und ∧ H' = bldH' (xs ++ lineN l) := by
  refine holdsN_of_vc Tryd.func52 rfl rfl rfl ?_
  refine ⟨Nat × Bool × List UInt8, fun x => [(1, .ptr 0 0 0), (5, .p (ints l)), (6, .p (i64 l.length)), (7, .p (i64 x.1))], fun x => ⟨3, [(2, ubO x.2.2), (0, bbO x.2.1 2 0 x.2.2.length)]⟩, fun x => x.1 ≤ l.length ∧ x.2.2 = xs ++ bodyN (l.take x.1), fun x => l.length - x.1, ?_, ?_⟩
  · exact ⟨(0, u, xs), ⟨by simp, by simp [body_zero]⟩, ent_of [] [(2, 1)] [] rfl ⟨⟨rfl, rfl⟩, rfl, lenI l, rfl, trivial⟩ (by cases u <;> (repeat' first | exact trivial | exact rfl | exact ⟨rfl, rfl⟩ | exact .inl rfl | refine ⟨_, rfl, rfl, rfl, ?_⟩ | refine ⟨_, _, rfl, ?_, ?_⟩ | refine ⟨_, rfl, ?_⟩ | refine And.intro ?_ ?_)) rfl⟩
  rintro ⟨k, u', ys⟩ ⟨g1, g2⟩
  simp only [] at g1 g2
  have hbl := body_len (l.take k)
  rw [List.length_take] at hbl
  have hx0 : (xs).length ≤ 100000 := by first | exact hxs | simp
  have hyl : ys.length ≤ (xs).length + 2 * l.length := by rw [g2, List.length_append]; omega
  (first | refine brLt (fun h1 => ?_) (fun h1 => ?_) | refine brLe (fun h1 => ?_) (fun h1 => ?_) | refine brEq (fun h1 => ?_) (fun h1 => ?_))
  · have hk : k < l.length := by omega
    have hsn := body_snoc (l.take k) (l.getD k 0)
    rw [← take_succ_getD 0 hk] at hsn
    obtain ⟨x1, x2⟩ := hd _ (getD_memL 0 hk)
    obtain ⟨x, hx⟩ : ∃ x, x = l.getD k 0 := ⟨_, rfl⟩
    rw [← hx] at hsn x1 x2
    refine ⟨_, ⟨by omega, i64 x, by rw [hx]; exact icell hk, rfl⟩, ?_⟩
    have hsn' : k = 0 ∧ bodyN (l.take (k + 1)) = [chN x] ∨ 0 < k ∧ bodyN (l.take (k + 1)) = bodyN (l.take k) ++ [32] ++ [chN x] := by
      rcases Nat.eq_zero_or_pos k with h | h
      · subst h; exact .inl ⟨rfl, by rw [hsn]; rfl⟩
      · refine .inr ⟨h, ?_⟩
        rw [hsn, if_neg (by intro e; have := congrArg List.length e; rw [List.length_take] at this; simp only [List.length_nil] at this; omega)]
    (first | refine brLt (fun h2 => ?_) (fun h2 => ?_) | refine brLe (fun h2 => ?_) (fun h2 => ?_) | refine brEq (fun h2 => ?_) (fun h2 => ?_))
    · refine (writeByte_c u' ys 32 (by omega)).useE [] [(1, 2)] rfl (by cases u' <;> (repeat' first | exact trivial | exact rfl | exact ⟨rfl, rfl⟩ | exact .inl rfl | refine ⟨_, rfl, rfl, rfl, ?_⟩ | refine ⟨_, _, rfl, ?_, ?_⟩ | refine ⟨_, rfl, ?_⟩ | refine And.intro ?_ ?_)) (by (repeat' first | exact trivial | exact rfl | exact ⟨rfl, rfl⟩ | exact .inl rfl | refine ⟨_, rfl, rfl, rfl, ?_⟩ | refine ⟨_, _, rfl, ?_, ?_⟩ | refine ⟨_, rfl, ?_⟩ | refine And.intro ?_ ?_)) ?_
      have hsn : ys ++ [32] ++ [chN x] = xs ++ bodyN (l.take (k + 1)) := by
        rcases hsn' with ⟨h, _⟩ | ⟨_, h⟩
        · omega
        · rw [g2, h]; simp
      (first | refine brLt (fun h3 => ?_) (fun h3 => ?_) | refine brLe (fun h3 => ?_) (fun h3 => ?_) | refine brEq (fun h3 => ?_) (fun h3 => ?_))
      · have hch : chN x = 63 := if_pos h3
        refine (writeByte_c true (ys ++ [32]) 63 (by simp; omega)).useE [] [(1, 3)] rfl (by (repeat' first | exact trivial | exact rfl | exact ⟨rfl, rfl⟩ | exact .inl rfl | refine ⟨_, rfl, rfl, rfl, ?_⟩ | refine ⟨_, _, rfl, ?_, ?_⟩ | refine ⟨_, rfl, ?_⟩ | refine And.intro ?_ ?_)) (by (repeat' first | exact trivial | exact rfl | exact ⟨rfl, rfl⟩ | exact .inl rfl | refine ⟨_, rfl, rfl, rfl, ?_⟩ | refine ⟨_, _, rfl, ?_, ?_⟩ | refine ⟨_, rfl, ?_⟩ | refine And.intro ?_ ?_)) ?_
        refine ⟨_, wrap_i64 (by omega) (by omega), ?_⟩
        refine ⟨(k + 1, true, ys ++ [32] ++ [63]), ⟨by simp only []; omega, by simp only []; rw [← hsn, hch]⟩, ent_of [] [(2, 4)] [] rfl ⟨⟨rfl, rfl⟩, rfl, rfl, rfl, trivial⟩ (by (repeat' first | exact trivial | exact rfl | exact ⟨rfl, rfl⟩ | exact .inl rfl | refine ⟨_, rfl, rfl, rfl, ?_⟩ | refine ⟨_, _, rfl, ?_, ?_⟩ | refine ⟨_, rfl, ?_⟩ | refine And.intro ?_ ?_)) rfl, by simp only []; omega⟩
      · refine (itoa_c x (by omega) (by omega)).eq rfl ?_
        refine (writeString_c true (ys ++ [32]) [chN x] (by simp; omega) (by simp)).useE [] [(1, 3)] rfl (by (repeat' first | exact trivial | exact rfl | exact ⟨rfl, rfl⟩ | exact .inl rfl | refine ⟨_, rfl, rfl, rfl, ?_⟩ | refine ⟨_, _, rfl, ?_, ?_⟩ | refine ⟨_, rfl, ?_⟩ | refine And.intro ?_ ?_)) (by (repeat' first | exact trivial | exact rfl | exact ⟨rfl, rfl⟩ | exact .inl rfl | refine ⟨_, rfl, rfl, rfl, ?_⟩ | refine ⟨_, _, rfl, ?_, ?_⟩ | refine ⟨_, rfl, ?_⟩ | refine And.intro ?_ ?_)) ?_
        refine ⟨_, wrap_i64 (by omega) (by omega), ?_⟩
        refine ⟨(k + 1, true, ys ++ [32] ++ [chN x]), ⟨by simp only []; omega, by simp only []; rw [← hsn]⟩, ent_of [] [(2, 4)] [] rfl ⟨⟨rfl, rfl⟩, rfl, rfl, rfl, trivial⟩ (by (repeat' first | exact trivial | exact rfl | exact ⟨rfl, rfl⟩ | exact .inl rfl | refine ⟨_, rfl, rfl, rfl, ?_⟩ | refine ⟨_, _, rfl, ?_, ?_⟩ | refine ⟨_, rfl, ?_⟩ | refine And.intro ?_ ?_)) rfl, by simp only []; omega⟩
    · have hsn : ys ++ [chN x] = xs ++ bodyN (l.take (k + 1)) := by
        rcases hsn' with ⟨h0, h⟩ | ⟨h, _⟩
        · subst h0; rw [g2, h]; simp [body_zero]
        · omega
      (first | refine brLt (fun h3 => ?_) (fun h3 => ?_) | refine brLe (fun h3 => ?_) (fun h3 => ?_) | refine brEq (fun h3 => ?_) (fun h3 => ?_))
      · have hch : chN x = 63 := if_pos h3
        refine (writeByte_c u' ys 63 (by omega)).useE [] [(1, 2)] rfl (by cases u' <;> (repeat' first | exact trivial | exact rfl | exact ⟨rfl, rfl⟩ | exact .inl rfl | refine ⟨_, rfl, rfl, rfl, ?_⟩ | refine ⟨_, _, rfl, ?_, ?_⟩ | refine ⟨_, rfl, ?_⟩ | refine And.intro ?_ ?_)) (by (repeat' first | exact trivial | exact rfl | exact ⟨rfl, rfl⟩ | exact .inl rfl | refine ⟨_, rfl, rfl, rfl, ?_⟩ | refine ⟨_, _, rfl, ?_, ?_⟩ | refine ⟨_, rfl, ?_⟩ | refine And.intro ?_ ?_)) ?_
        refine ⟨_, wrap_i64 (by omega) (by omega), ?_⟩
        refine ⟨(k + 1, true, ys ++ [63]), ⟨by simp only []; omega, by simp only []; rw [← hsn, hch]⟩, ent_of [] [(2, 3)] [] rfl ⟨⟨rfl, rfl⟩, rfl, rfl, rfl, trivial⟩ (by (repeat' first | exact trivial | exact rfl | exact ⟨rfl, rfl⟩ | exact .inl rfl | refine ⟨_, rfl, rfl, rfl, ?_⟩ | refine ⟨_, _, rfl, ?_, ?_⟩ | refine ⟨_, rfl, ?_⟩ | refine And.intro ?_ ?_)) rfl, by simp only []; omega⟩
      · refine (itoa_c x (by omega) (by omega)).eq rfl ?_
        refine (writeString_c u' ys [chN x] (by omega) (by simp)).useE [] [(1, 2)] rfl (by cases u' <;> (repeat' first | exact trivial | exact rfl | exact ⟨rfl, rfl⟩ | exact .inl rfl | refine ⟨_, rfl, rfl, rfl, ?_⟩ | refine ⟨_, _, rfl, ?_, ?_⟩ | refine ⟨_, rfl, ?_⟩ | refine And.intro ?_ ?_)) (by (repeat' first | exact trivial | exact rfl | exact ⟨rfl, rfl⟩ | exact .inl rfl | refine ⟨_, rfl, rfl, rfl, ?_⟩ | refine ⟨_, _, rfl, ?_, ?_⟩ | refine ⟨_, rfl, ?_⟩ | refine And.intro ?_ ?_)) ?_
        refine ⟨_, wrap_i64 (by omega) (by omega), ?_⟩
        refine ⟨(k + 1, true, ys ++ [chN x]), ⟨by simp only []; omega, by simp only []; rw [← hsn]⟩, ent_of [] [(2, 3)] [] rfl ⟨⟨rfl, rfl⟩, rfl, rfl, rfl, trivial⟩ (by (repeat' first | exact trivial | exact rfl | exact ⟨rfl, rfl⟩ | exact .inl rfl | refine ⟨_, rfl, rfl, rfl, ?_⟩ | refine ⟨_, _, rfl, ?_, ?_⟩ | refine ⟨_, rfl, ?_⟩ | refine And.intro ?_ ?_)) rfl, by simp only []; omega⟩
  · rw [take_all (by omega)] at g2
    refine (writeByte_c u' ys 10 (by omega)).useE [] [(1, 2)] rfl (by cases u' <;> (repeat' first | exact trivial | exact rfl | exact ⟨rfl, rfl⟩ | exact .inl rfl | refine ⟨_, rfl, rfl, rfl, ?_⟩ | refine ⟨_, _, rfl, ?_, ?_⟩ | refine ⟨_, rfl, ?_⟩ | refine And.intro ?_ ?_)) (by (repeat' first | exact trivial | exact rfl | exact ⟨rfl, rfl⟩ | exact .inl rfl | refine ⟨_, rfl, rfl, rfl, ?_⟩ | refine ⟨_, _, rfl, ?_, ?_⟩ | refine ⟨_, rfl, ?_⟩ | refine And.intro ?_ ?_)) ?_
    have hfin : ys ++ [10] = xs ++ lineN l := by rw [g2, lineN]; simp
    exact ⟨[], [(2, 3)], [], .returned und, bldH' (ys ++ [10]), rfl, ⟨_, rfl, _, rfl, rfl⟩, by (repeat' first | exact trivial | exact rfl | exact ⟨rfl, rfl⟩ | exact .inl rfl | refine ⟨_, rfl, rfl, rfl, ?_⟩ | refine ⟨_, _, rfl, ?_, ?_⟩ | refine ⟨_, rfl, ?_⟩ | refine And.intro ?_ ?_), rfl, by rw [hfin]⟩
theorem write0_c (l : List Int) (hl : l.length ≤ 1000) (hd : digs l) :
    HoldsG cx 52 [.p (ints l), .ptr 0 0 0] ⟨1, [(0, ⟨TB, false, .bx [.p .nilp, .p .nils]⟩)]⟩ fun e H' => e = .returned und ∧ H' = bldH true (lineN l) := by
  refine holdsN_of_vc Tryd.func52 rfl rfl rfl ?_
  refine ⟨Nat × Bool × List UInt8, fun x => [(1, .ptr 0 0 0), (5, .p (ints l)), (6, .p (i64 l.length)), (7, .p (i64 x.1))], fun x => ⟨2, [(1, ubO x.2.2), (0, bbO x.2.1 1 0 x.2.2.length)]⟩, fun x => x.1 ≤ l.length ∧ x.2.2 = ([] : List UInt8) ++ bodyN (l.take x.1), fun x => l.length - x.1, ?_, ?_⟩
  · exact ⟨(0, false, []), ⟨by simp, by simp [body_zero]⟩, ent_of [] [] [(1, 1)] rfl ⟨⟨rfl, rfl⟩, rfl, lenI l, rfl, trivial⟩ (by (repeat' first | exact trivial | exact rfl | exact ⟨rfl, rfl⟩ | exact .inl rfl | refine ⟨_, rfl, rfl, rfl, ?_⟩ | refine ⟨_, _, rfl, ?_, ?_⟩ | refine ⟨_, rfl, ?_⟩ | refine And.intro ?_ ?_)) rfl⟩
  rintro ⟨k, u', ys⟩ ⟨g1, g2⟩
  simp only [] at g1 g2
  have hbl := body_len (l.take k)
  rw [List.length_take] at hbl
  have hx0 : (([] : List UInt8)).length ≤ 100000 := by first | exact hxs | simp
  have hyl : ys.length ≤ (([] : List UInt8)).length + 2 * l.length := by rw [g2, List.length_append]; omega
  (first | refine brLt (fun h1 => ?_) (fun h1 => ?_) | refine brLe (fun h1 => ?_) (fun h1 => ?_) | refine brEq (fun h1 => ?_) (fun h1 => ?_))
  · have hk : k < l.length := by omega
    have hsn := body_snoc (l.take k) (l.getD k 0)
    rw [← take_succ_getD 0 hk] at hsn
    obtain ⟨x1, x2⟩ := hd _ (getD_memL 0 hk)
    obtain ⟨x, hx⟩ : ∃ x, x = l.getD k 0 := ⟨_, rfl⟩
    rw [← hx] at hsn x1 x2
    refine ⟨_, ⟨by omega, i64 x, by rw [hx]; exact icell hk, rfl⟩, ?_⟩
    have hsn' : k = 0 ∧ bodyN (l.take (k + 1)) = [chN x] ∨ 0 < k ∧ bodyN (l.take (k + 1)) = bodyN (l.take k) ++ [32] ++ [chN x] := by
      rcases Nat.eq_zero_or_pos k with h | h
      · subst h; exact .inl ⟨rfl, by rw [hsn]; rfl⟩
      · refine .inr ⟨h, ?_⟩
        rw [hsn, if_neg (by intro e; have := congrArg List.length e; rw [List.length_take] at this; simp only [List.length_nil] at this; omega)]
    (first | refine brLt (fun h2 => ?_) (fun h2 => ?_) | refine brLe (fun h2 => ?_) (fun h2 => ?_) | refine brEq (fun h2 => ?_) (fun h2 => ?_))
    · refine (writeByte_c u' ys 32 (by omega)).useE [] [(1, 1)] rfl (by cases u' <;> (repeat' first | exact trivial | exact rfl | exact ⟨rfl, rfl⟩ | exact .inl rfl | refine ⟨_, rfl, rfl, rfl, ?_⟩ | refine ⟨_, _, rfl, ?_, ?_⟩ | refine ⟨_, rfl, ?_⟩ | refine And.intro ?_ ?_)) (by (repeat' first | exact trivial | exact rfl | exact ⟨rfl, rfl⟩ | exact .inl rfl | refine ⟨_, rfl, rfl, rfl, ?_⟩ | refine ⟨_, _, rfl, ?_, ?_⟩ | refine ⟨_, rfl, ?_⟩ | refine And.intro ?_ ?_)) ?_
      have hsn : ys ++ [32] ++ [chN x] = ([] : List UInt8) ++ bodyN (l.take (k + 1)) := by
        rcases hsn' with ⟨h, _⟩ | ⟨_, h⟩
        · omega
        · rw [g2, h]; simp
      (first | refine brLt (fun h3 => ?_) (fun h3 => ?_) | refine brLe (fun h3 => ?_) (fun h3 => ?_) | refine brEq (fun h3 => ?_) (fun h3 => ?_))
      · have hch : chN x = 63 := if_pos h3
        refine (writeByte_c true (ys ++ [32]) 63 (by simp; omega)).useE [] [(1, 2)] rfl (by (repeat' first | exact trivial | exact rfl | exact ⟨rfl, rfl⟩ | exact .inl rfl | refine ⟨_, rfl, rfl, rfl, ?_⟩ | refine ⟨_, _, rfl, ?_, ?_⟩ | refine ⟨_, rfl, ?_⟩ | refine And.intro ?_ ?_)) (by (repeat' first | exact trivial | exact rfl | exact ⟨rfl, rfl⟩ | exact .inl rfl | refine ⟨_, rfl, rfl, rfl, ?_⟩ | refine ⟨_, _, rfl, ?_, ?_⟩ | refine ⟨_, rfl, ?_⟩ | refine And.intro ?_ ?_)) ?_
        refine ⟨_, wrap_i64 (by omega) (by omega), ?_⟩
        refine ⟨(k + 1, true, ys ++ [32] ++ [63]), ⟨by simp only []; omega, by simp only []; rw [← hsn, hch]⟩, ent_of [] [(1, 3)] [] rfl ⟨⟨rfl, rfl⟩, rfl, rfl, rfl, trivial⟩ (by (repeat' first | exact trivial | exact rfl | exact ⟨rfl, rfl⟩ | exact .inl rfl | refine ⟨_, rfl, rfl, rfl, ?_⟩ | refine ⟨_, _, rfl, ?_, ?_⟩ | refine ⟨_, rfl, ?_⟩ | refine And.intro ?_ ?_)) rfl, by simp only []; omega⟩
      · refine (itoa_c x (by omega) (by omega)).eq rfl ?_
        refine (writeString_c true (ys ++ [32]) [chN x] (by simp; omega) (by simp)).useE [] [(1, 2)] rfl (by (repeat' first | exact trivial | exact rfl | exact ⟨rfl, rfl⟩ | exact .inl rfl | refine ⟨_, rfl, rfl, rfl, ?_⟩ | refine ⟨_, _, rfl, ?_, ?_⟩ | refine ⟨_, rfl, ?_⟩ | refine And.intro ?_ ?_)) (by (repeat' first | exact trivial | exact rfl | exact ⟨rfl, rfl⟩ | exact .inl rfl | refine ⟨_, rfl, rfl, rfl, ?_⟩ | refine ⟨_, _, rfl, ?_, ?_⟩ | refine ⟨_, rfl, ?_⟩ | refine And.intro ?_ ?_)) ?_
        refine ⟨_, wrap_i64 (by omega) (by omega), ?_⟩
        refine ⟨(k + 1, true, ys ++ [32] ++ [chN x]), ⟨by simp only []; omega, by simp only []; rw [← hsn]⟩, ent_of [] [(1, 3)] [] rfl ⟨⟨rfl, rfl⟩, rfl, rfl, rfl, trivial⟩ (by (repeat' first | exact trivial | exact rfl | exact ⟨rfl, rfl⟩ | exact .inl rfl | refine ⟨_, rfl, rfl, rfl, ?_⟩ | refine ⟨_, _, rfl, ?_, ?_⟩ | refine ⟨_, rfl, ?_⟩ | refine And.intro ?_ ?_)) rfl, by simp only []; omega⟩
    · have hsn : ys ++ [chN x] = ([] : List UInt8) ++ bodyN (l.take (k + 1)) := by
        rcases hsn' with ⟨h0, h⟩ | ⟨h, _⟩
        · subst h0; rw [g2, h]; simp [body_zero]
        · omega
      (first | refine brLt (fun h3 => ?_) (fun h3 => ?_) | refine brLe (fun h3 => ?_) (fun h3 => ?_) | refine brEq (fun h3 => ?_) (fun h3 => ?_))
      · have hch : chN x = 63 := if_pos h3
        refine (writeByte_c u' ys 63 (by omega)).useE [] [(1, 1)] rfl (by cases u' <;> (repeat' first | exact trivial | exact rfl | exact ⟨rfl, rfl⟩ | exact .inl rfl | refine ⟨_, rfl, rfl, rfl, ?_⟩ | refine ⟨_, _, rfl, ?_, ?_⟩ | refine ⟨_, rfl, ?_⟩ | refine And.intro ?_ ?_)) (by (repeat' first | exact trivial | exact rfl | exact ⟨rfl, rfl⟩ | exact .inl rfl | refine ⟨_, rfl, rfl, rfl, ?_⟩ | refine ⟨_, _, rfl, ?_, ?_⟩ | refine ⟨_, rfl, ?_⟩ | refine And.intro ?_ ?_)) ?_
        refine ⟨_, wrap_i64 (by omega) (by omega), ?_⟩
        refine ⟨(k + 1, true, ys ++ [63]), ⟨by simp only []; omega, by simp only []; rw [← hsn, hch]⟩, ent_of [] [(1, 2)] [] rfl ⟨⟨rfl, rfl⟩, rfl, rfl, rfl, trivial⟩ (by (repeat' first | exact trivial | exact rfl | exact ⟨rfl, rfl⟩ | exact .inl rfl | refine ⟨_, rfl, rfl, rfl, ?_⟩ | refine ⟨_, _, rfl, ?_, ?_⟩ | refine ⟨_, rfl, ?_⟩ | refine And.intro ?_ ?_)) rfl, by simp only []; omega⟩
      · refine (itoa_c x (by omega) (by omega)).eq rfl ?_
        refine (writeString_c u' ys [chN x] (by omega) (by simp)).useE [] [(1, 1)] rfl (by cases u' <;> (repeat' first | exact trivial | exact rfl | exact ⟨rfl, rfl⟩ | exact .inl rfl | refine ⟨_, rfl, rfl, rfl, ?_⟩ | refine ⟨_, _, rfl, ?_, ?_⟩ | refine ⟨_, rfl, ?_⟩ | refine And.intro ?_ ?_)) (by (repeat' first | exact trivial | exact rfl | exact ⟨rfl, rfl⟩ | exact .inl rfl | refine ⟨_, rfl, rfl, rfl, ?_⟩ | refine ⟨_, _, rfl, ?_, ?_⟩ | refine ⟨_, rfl, ?_⟩ | refine And.intro ?_ ?_)) ?_
        refine ⟨_, wrap_i64 (by omega) (by omega), ?_⟩
        refine ⟨(k + 1, true, ys ++ [chN x]), ⟨by simp only []; omega, by simp only []; rw [← hsn]⟩, ent_of [] [(1, 2)] [] rfl ⟨⟨rfl, rfl⟩, rfl, rfl, rfl, trivial⟩ (by (repeat' first | exact trivial | exact rfl | exact ⟨rfl, rfl⟩ | exact .inl rfl | refine ⟨_, rfl, rfl, rfl, ?_⟩ | refine ⟨_, _, rfl, ?_, ?_⟩ | refine ⟨_, rfl, ?_⟩ | refine And.intro ?_ ?_)) rfl, by simp only []; omega⟩
  · rw [take_all (by omega)] at g2
    refine (writeByte_c u' ys 10 (by omega)).useE [] [(1, 1)] rfl (by cases u' <;> (repeat' first | exact trivial | exact rfl | exact ⟨rfl, rfl⟩ | exact .inl rfl | refine ⟨_, rfl, rfl, rfl, ?_⟩ | refine ⟨_, _, rfl, ?_, ?_⟩ | refine ⟨_, rfl, ?_⟩ | refine And.intro ?_ ?_)) (by (repeat' first | exact trivial | exact rfl | exact ⟨rfl, rfl⟩ | exact .inl rfl | refine ⟨_, rfl, rfl, rfl, ?_⟩ | refine ⟨_, _, rfl, ?_, ?_⟩ | refine ⟨_, rfl, ?_⟩ | refine And.intro ?_ ?_)) ?_
    have hfin : ys ++ [10] = ([] : List UInt8) ++ lineN l := by rw [g2, lineN]; simp
    exact ⟨[], [(1, 2)], [], .returned und, bldH true (ys ++ [10]), rfl, ⟨_, rfl, _, rfl, rfl⟩, by (repeat' first | exact trivial | exact rfl | exact ⟨rfl, rfl⟩ | exact .inl rfl | refine ⟨_, rfl, rfl, rfl, ?_⟩ | refine ⟨_, _, rfl, ?_, ?_⟩ | refine ⟨_, rfl, ?_⟩ | refine And.intro ?_ ?_), rfl, by rw [hfin]; rfl⟩

def printV (d : Dt) : List PV := if rightP d then [.str (printN d), i64 0] else [.str [], i64 250]
theorem printV_of {d : Dt} (h : rightP d) : PEnd.ret [.str (printN d), i64 0] = .ret (printV d) := by rw [printV, if_pos h]
theorem flatP_snoc {xs : List (List Int)} {j : Nat} (h : j < xs.length) : (xs.take (j + 1)).flatMap lineN = (xs.take j).flatMap lineN ++ lineN (xs.getD j []) := by
  rw [take_succ_getD [] h, List.flatMap_append]; simp
theorem flatP_len {xs : List (List Int)} (h : ∀ c ∈ xs, c.length ≤ 6) : (xs.flatMap lineN).length ≤ 13 * xs.length := by
  induction xs with
  | nil => simp
  | cons x xs ih =>
    have h1 := ih fun c hc => h c (by simp [hc])
    have h2 := h x (by simp)
    have h3 := line_len x
    rw [List.flatMap_cons, List.length_append, List.length_cons]
    omega

theorem print_c (d : Dt) (hd : Sm7 d) : Pure cx 29 [d.pv] (· = .ret (printV d)) := by
  refine pure_of_vc Tryd.func29 rfl rfl rfl ?_
  have hC := check_c d hd
  by_cases hr : rightP d
  rotate_left
  · rw [checkD, if_neg hr] at hC
    refine hC.eq rfl ?_
    refine And.intro (fun h => absurd (show (250 : Int) = 0 from h) (by decide)) (fun _ => ?_)
    exact end2 (.str []) (i64 250) rfl rfl rfl (by rw [printV, if_neg hr])
  have hP := printV_of hr
  rw [checkD, if_pos hr] at hC
  refine hC.eq rfl ?_
  refine And.intro (fun _ => ?_) (fun h => absurd rfl h)
  obtain ⟨cs, xs⟩ := d
  obtain ⟨⟨r1, r2, r3⟩, r4, r5, r6⟩ := hr
  simp only [] at r1 r2 r3 r4 r5 r6
  have hxc : ∀ c ∈ xs, c.length ≤ 6 ∧ digs c := fun c hc => by
    obtain ⟨q1, q2⟩ := r5 c hc
    refine ⟨by omega, fun x hx => ?_⟩
    obtain ⟨i, hi, rfl⟩ := List.mem_iff_getElem.1 hx
    have h1 := q2 i (by omega)
    have h2 := (r4 _ (getD_memL 0 (show i < cs.length by omega))).2
    rw [List.getD_eq_getElem?_getD, List.getElem?_eq_getElem hi] at h1
    simp only [Option.getD_some] at h1
    omega
  have hcs : digs cs := fun x hx => by have := r4 x hx; have := this.1; have := (r4 x hx).2; omega
  refine (write0_c cs (by omega) hcs).useE [] [(0, 1)] rfl (by (repeat' first | exact trivial | exact rfl | exact ⟨rfl, rfl⟩ | exact .inl rfl | refine ⟨_, rfl, rfl, rfl, ?_⟩ | refine ⟨_, _, rfl, ?_, ?_⟩ | refine ⟨_, rfl, ?_⟩ | refine And.intro ?_ ?_)) (by (repeat' first | exact trivial | exact rfl | exact ⟨rfl, rfl⟩ | exact .inl rfl | refine ⟨_, rfl, rfl, rfl, ?_⟩ | refine ⟨_, _, rfl, ?_, ?_⟩ | refine ⟨_, rfl, ?_⟩ | refine And.intro ?_ ?_)) ?_
  refine ⟨Nat × List UInt8, fun x => [(1, .ptr 0 0 0), (5, .ptr 1 0 0), (6, .fn (.func 52) [] [.ptr 1 0 0]), (20, .p (.lst (xs.map ints))), (21, .p (i64 xs.length)), (22, .p (i64 x.1))], fun x => ⟨3, [(2, ubO x.2), (1, bbO true 2 1 x.2.length), (0, dtO ⟨cs, xs⟩)]⟩, fun x => x.1 ≤ xs.length ∧ x.2 = lineN cs ++ (xs.take x.1).flatMap lineN, fun x => xs.length - x.1, ?_, ?_⟩
  · exact ⟨(0, lineN cs), ⟨by simp, by simp⟩, ent_of [] [] [] rfl ⟨⟨rfl, rfl⟩, ⟨rfl, rfl⟩, ⟨rfl, _, _, rfl, rfl, _, _, rfl, ⟨rfl, rfl⟩, rfl⟩, rfl, lenC xs, rfl, trivial⟩ (by (repeat' first | exact trivial | exact rfl | exact ⟨rfl, rfl⟩ | exact .inl rfl | refine ⟨_, rfl, rfl, rfl, ?_⟩ | refine ⟨_, _, rfl, ?_, ?_⟩ | refine ⟨_, rfl, ?_⟩ | refine And.intro ?_ ?_)) rfl⟩
  rintro ⟨j, ys⟩ ⟨g1, g2⟩
  simp only [] at g1 g2
  have hll := line_len cs
  have hfl := flatP_len (xs := xs.take j) fun c hc => (hxc c (List.mem_of_mem_take hc)).1
  rw [List.length_take] at hfl
  have hyl : ys.length ≤ 1000 := by rw [g2, List.length_append]; omega
  (first | refine brLt (fun h1 => ?_) (fun h1 => ?_) | refine brLe (fun h1 => ?_) (fun h1 => ?_) | refine brEq (fun h1 => ?_) (fun h1 => ?_))
  · have hj : j < xs.length := by omega
    obtain ⟨c, hc⟩ : ∃ c, c = xs.getD j [] := ⟨_, rfl⟩
    have hcm : c ∈ xs := by rw [hc]; exact getD_memL [] hj
    have hfs := flatP_snoc hj
    rw [← hc] at hfs
    refine ⟨_, ⟨by omega, ints c, by rw [hc]; exact ccell hj, rfl⟩, ?_⟩
    refine (write_c true ys c (by omega) (by have := (hxc c hcm).1; omega) (hxc c hcm).2).useE [] [(0, 1), (1, 2)] rfl (by (repeat' first | exact trivial | exact rfl | exact ⟨rfl, rfl⟩ | exact .inl rfl | refine ⟨_, rfl, rfl, rfl, ?_⟩ | refine ⟨_, _, rfl, ?_, ?_⟩ | refine ⟨_, rfl, ?_⟩ | refine And.intro ?_ ?_)) (by (repeat' first | exact trivial | exact rfl | exact ⟨rfl, rfl⟩ | exact .inl rfl | refine ⟨_, rfl, rfl, rfl, ?_⟩ | refine ⟨_, _, rfl, ?_, ?_⟩ | refine ⟨_, rfl, ?_⟩ | refine And.intro ?_ ?_)) ?_
    refine ⟨_, wrap_i64 (by omega) (by omega), ?_⟩
    refine ⟨(j + 1, ys ++ lineN c), ⟨by simp only []; omega, by simp only []; rw [hfs, g2]; simp⟩, ent_of [] [(2, 3)] [] rfl ⟨⟨rfl, rfl⟩, ⟨rfl, rfl⟩, ⟨rfl, _, _, rfl, rfl, _, _, rfl, ⟨rfl, rfl⟩, rfl⟩, rfl, rfl, rfl, trivial⟩ (by (repeat' first | exact trivial | exact rfl | exact ⟨rfl, rfl⟩ | exact .inl rfl | refine ⟨_, rfl, rfl, rfl, ?_⟩ | refine ⟨_, _, rfl, ?_, ?_⟩ | refine ⟨_, rfl, ?_⟩ | refine And.intro ?_ ?_)) rfl, by simp only []; omega⟩
  · rw [take_all (by omega)] at g2
    refine (string_c true ys ?_ (by omega)).useE [] [(0, 1), (1, 2)] rfl (by (repeat' first | exact trivial | exact rfl | exact ⟨rfl, rfl⟩ | exact .inl rfl | refine ⟨_, rfl, rfl, rfl, ?_⟩ | refine ⟨_, _, rfl, ?_, ?_⟩ | refine ⟨_, rfl, ?_⟩ | refine And.intro ?_ ?_)) (by (repeat' first | exact trivial | exact rfl | exact ⟨rfl, rfl⟩ | exact .inl rfl | refine ⟨_, rfl, rfl, rfl, ?_⟩ | refine ⟨_, _, rfl, ?_, ?_⟩ | refine ⟨_, rfl, ?_⟩ | refine And.intro ?_ ?_)) ?_
    · rw [g2, lineN]; simp
    · exact end2 (.str ys) (i64 0) rfl rfl rfl (by rw [g2]; exact hP)
end Go.Proofs.YtmdmjnfdemgpoaaDoor

/- Searching a byte in a string: strings.Index, strings.Count at one byte. -/
namespace Go.Proofs.YtmdmjnfdemgpoaaDoor
open Go Y
set_option maxRecDepth 100000
set_option maxHeartbeats 4000000

theorem byteBack (c : UInt8) : ((c.toNat : Int)).toNat.toUInt8 = c := by
  show (c.toNat).toUInt8 = c
  exact UInt8.ofNat_toNat

theorem pure_extern {g : FuncId} {args : List PV} {x : PV} (hx : Res [] 5 (.p x) x) (h : ∀ (Γ : Gm) (w : World) (args' : List Value), VRL Γ (args.map .p) args' → ∃ v', (callFunc g ⟨args'⟩).run cx.P w = .ok (.value v') w ∧ VP Γ.fz x v') : Pure cx g args (· = .ret [x]) := by
  intro Γ w args' hR hA
  obtain ⟨v', h1, h2⟩ := h Γ w args' hA
  refine .inr ⟨v', w, h1, .returned (.p x), ⟨0, []⟩, Γ, ?_, ⟨v', rfl, h2⟩, Later.refl hR _ (Nat.le_refl _)⟩
  exact ⟨.ret [x], ⟨rfl, _, rfl, hx⟩, rfl⟩

theorem indexByteString_c (s : List UInt8) (c : UInt8) : Pure cx 113 [.str s, u8 c] (· = .ret [i64 (Lib.indexByte s c)]) := by
  refine pure_extern rfl fun Γ w args' hA => ?_
  simp only [List.map, VRL, VR, VP] at hA
  obtain ⟨a, as', rfl, rfl, b, bs', rfl, rfl, rfl⟩ := hA
  refine ⟨_, ?_, rfl⟩
  show (callFunc 113 #[.string ⟨⟨s⟩⟩, .int .u8 c.toNat]).run Tryd.prog w = _
  rw [run_callFunc_extern Tryd.func113 (by kernel_rfl) (by kernel_rfl) (by kernel_rfl) (e := Extern.BytealgIndexByte.indexByte) (by kernel_rfl), Lib.run_indexByteString, byteBack]
  rfl
theorem countString_c (s : List UInt8) (c : UInt8) : Pure cx 61 [.str s, u8 c] (· = .ret [i64 (s.count c : Nat)]) := by
  refine pure_extern rfl fun Γ w args' hA => ?_
  simp only [List.map, VRL, VR, VP] at hA
  obtain ⟨a, as', rfl, rfl, b, bs', rfl, rfl, rfl⟩ := hA
  refine ⟨_, ?_, rfl⟩
  show (callFunc 61 #[.string ⟨⟨s⟩⟩, .int .u8 c.toNat]).run Tryd.prog w = _
  rw [run_callFunc_extern Tryd.func61 (by kernel_rfl) (by kernel_rfl) (by kernel_rfl) (e := Extern.BytealgCount.count) (by kernel_rfl), Lib.run_countString, byteBack]
  rfl

theorem indexByte_c (s : List UInt8) (c : UInt8) : Pure cx 97 [.str s, u8 c] (· = .ret [i64 (Lib.indexByte s c)]) := by
  refine pure_of_vc Tryd.func97 rfl rfl rfl ?_
  refine (indexByteString_c s c).eq rfl ?_
  exact end1 _ rfl rfl rfl
theorem index1_c (s : List UInt8) (c : UInt8) : Pure cx 77 [.str s, .str [c]] (· = .ret [i64 (Lib.indexByte s c)]) := by
  refine pure_of_vc Tryd.func77 rfl rfl rfl ?_
  refine And.intro (fun h => absurd (show (1 : Int) = 0 from h) (by decide)) (fun _ => ?_)
  refine And.intro (fun h => ?_) (fun _ => ?_)
  · have h : [c] = s := h
    subst h
    exact end1 _ rfl rfl (retI (by simp [Lib.indexByte]))
  · refine And.intro (fun _ => ?_) (fun h => absurd rfl h)
    refine ⟨_, ⟨by omega, c, rfl, rfl⟩, ?_⟩
    refine (indexByte_c s c).eq rfl ?_
    exact end1 _ rfl rfl rfl
theorem strIndex1_c (s : List UInt8) (c : UInt8) : Pure cx 62 [.str s, .str [c]] (· = .ret [i64 (Lib.indexByte s c)]) := by
  refine pure_of_vc Tryd.func62 rfl rfl rfl ?_
  refine (index1_c s c).eq rfl ?_
  exact end1 _ rfl rfl rfl
theorem strCount1_c (s : List UInt8) (c : UInt8) : Pure cx 34 [.str s, .str [c]] (· = .ret [i64 (s.count c : Nat)]) := by
  refine pure_of_vc Tryd.func34 rfl rfl rfl ?_
  refine And.intro (fun h => absurd (show (1 : Int) = 0 from h) (by decide)) (fun _ => ?_)
  refine And.intro (fun _ => ?_) (fun h => absurd rfl h)
  refine ⟨_, ⟨by omega, c, rfl, rfl⟩, ?_⟩
  refine (countString_c s c).eq rfl ?_
  exact end1 _ rfl rfl rfl

/-- How many octets come ahead of the first one that is so. -/
def ahead (c : UInt8) : List UInt8 → Nat
  | [] => 0
  | b :: r => if b = c then 0 else ahead c r + 1
theorem ahead_le (c : UInt8) (s : List UInt8) : ahead c s ≤ s.length := by
  induction s with
  | nil => simp [ahead]
  | cons b r ih => simp only [ahead]; split <;> simp <;> omega
theorem index_ahead {c : UInt8} {s : List UInt8} : (c ∈ s → Lib.indexByte s c = (ahead c s : Nat)) ∧ (c ∉ s → Lib.indexByte s c = -1) := by
  induction s with
  | nil => simp [Lib.indexByte]
  | cons b r ih =>
    simp only [Lib.indexByte, ahead, List.mem_cons]
    by_cases h : b = c
    · subst h; simp
    · have hb : (b == c) = false := by simpa using h
      have hc : ¬ c = b := fun e => h e.symm
      rw [hb, if_neg h]
      simp only [Bool.false_eq_true, if_false, hc, false_or]
      refine ⟨fun hm => ?_, fun hm => ?_⟩
      · rw [ih.1 hm, if_neg (by simp)]; rfl
      · rw [ih.2 hm]; rfl
theorem ahead_split {c : UInt8} {s : List UInt8} (h : c ∈ s) : s = s.take (ahead c s) ++ c :: s.drop (ahead c s + 1) ∧ c ∉ s.take (ahead c s) ∧ ahead c s < s.length := by
  induction s with
  | nil => simp at h
  | cons b r ih =>
    by_cases e : b = c
    · subst e; simp [ahead]
    · have hr : c ∈ r := by
        rcases List.mem_cons.1 h with h | h
        · exact absurd h.symm e
        · exact h
      obtain ⟨h1, h2, h3⟩ := ih hr
      have ea : ahead c (b :: r) = ahead c r + 1 := by simp [ahead, e]
      rw [ea]
      refine ⟨?_, ?_, by simp; omega⟩
      · simp only [List.take_succ_cons, List.drop_succ_cons, List.cons_append]
        exact congrArg _ h1
      · simp only [List.take_succ_cons, List.mem_cons, not_or]
        exact ⟨fun e' => e e'.symm, h2⟩

/-- Each octet c becomes a text. -/
def replN (c : UInt8) (new : List UInt8) (s : List UInt8) : List UInt8 := s.flatMap fun b => if b = c then new else [b]
theorem repl_not {c : UInt8} {new s : List UInt8} (h : c ∉ s) : replN c new s = s := by
  induction s with
  | nil => rfl
  | cons b r ih =>
    simp only [List.mem_cons, not_or] at h
    have := ih h.2
    unfold replN at this ⊢
    rw [List.flatMap_cons, this, if_neg fun e => h.1 e.symm]
    rfl
theorem repl_append (c : UInt8) (new a b : List UInt8) : replN c new (a ++ b) = replN c new a ++ replN c new b := by simp [replN]
theorem repl_ne {c : UInt8} {new s : List UInt8} (hs : s ≠ []) (hn : new ≠ []) : replN c new s ≠ [] := by
  cases s with
  | nil => exact absurd rfl hs
  | cons b r =>
    unfold replN
    rw [List.flatMap_cons]
    intro e
    have := (List.append_eq_nil_iff.1 e).1
    split at this
    · exact hn this
    · cases this
theorem repl_len (c : UInt8) (new s : List UInt8) : (replN c new s).length ≤ s.length * (new.length + 1) := by
  induction s with
  | nil => simp [replN]
  | cons b r ih =>
    unfold replN at ih ⊢
    rw [List.flatMap_cons, List.length_append, List.length_cons, Nat.succ_mul]
    split
    · omega
    · rw [List.length_singleton]; omega
end Go.Proofs.YtmdmjnfdemgpoaaDoor

/- Package data: Parse: one line. -/
namespace Go.Proofs.YtmdmjnfdemgpoaaDoor
open Go Y
set_option maxRecDepth 100000
set_option maxHeartbeats 4000000

/-! ### Cut -/
def cutV (c : UInt8) (s : List UInt8) : List PV := if c ∈ s then [.str (s.take (ahead c s)), .str (s.drop (ahead c s + 1)), .bool true] else [.str s, .str [], .bool false]
theorem end3' {Q : PEnd → Prop} {H' : Hp} (a b c : PV) (hm : marksOK H'.l (fsOf H'.l) = true) (hq : Q (.ret [a, b, c])) : EndP Q (.returned (.tup [.p a, .p b, .p c])) H' :=
  ⟨.ret [a, b, c], ⟨hm, _, rfl, _, _, rfl, res_p _ a, _, _, rfl, res_p _ b, _, _, rfl, res_p _ c, rfl⟩, hq⟩
theorem cutI_c (s : List UInt8) (c : UInt8) (hs : s.length ≤ 1000000) : Pure cx 95 [.str s, .str [c]] (· = .ret (cutV c s)) := by
  refine pure_of_vc Tryd.func95 rfl rfl rfl ?_
  have hI := index1_c s c
  by_cases hc : c ∈ s
  · rw [index_ahead.1 hc] at hI
    have ha := (ahead_split hc).2.2
    refine hI.eq rfl ?_
    (first | refine brLt (fun h1 => ?_) (fun h1 => ?_) | refine brLe (fun h1 => ?_) (fun h1 => ?_) | refine brEq (fun h1 => ?_) (fun h1 => ?_))
    · refine VDraw.seq rfl ?_
      refine ⟨by show (0 : Int) ≤ (ahead c s : Nat) ∧ ((ahead c s : Nat) : Int) ≤ (s.length : Nat); omega, ?_⟩
      refine ⟨((ahead c s + 1 : Nat) : Int), by rw [Int.natCast_add]; exact wrap_i64 (by omega) (by omega), ?_⟩
      refine ⟨by show (0 : Int) ≤ (ahead c s + 1 : Nat) ∧ ((ahead c s + 1 : Nat) : Int) ≤ (s.length : Nat); omega, ?_⟩
      exact end3' _ _ _ rfl (by rw [cutV, if_pos hc]; rfl)
    · omega
  · rw [index_ahead.2 hc] at hI
    refine hI.eq rfl ?_
    (first | refine brLt (fun h1 => ?_) (fun h1 => ?_) | refine brLe (fun h1 => ?_) (fun h1 => ?_) | refine brEq (fun h1 => ?_) (fun h1 => ?_))
    · omega
    · exact end3' _ _ _ rfl (by rw [cutV, if_neg hc])
theorem cut_c (s : List UInt8) (c : UInt8) (hs : s.length ≤ 1000000) : Pure cx 75 [.str s, .str [c]] (· = .ret (cutV c s)) := by
  refine pure_of_vc Tryd.func75 rfl rfl rfl ?_
  have hI := cutI_c s c hs
  by_cases hc : c ∈ s
  · rw [cutV, if_pos hc] at hI ⊢
    exact hI.eq rfl (end3' _ _ _ rfl rfl)
  · rw [cutV, if_neg hc] at hI ⊢
    exact hI.eq rfl (end3' _ _ _ rfl rfl)

/-! ### Lines and words -/
def splitC (c : UInt8) : List UInt8 → List (List UInt8)
  | [] => [[]]
  | b :: r => if b = c then [] :: splitC c r else match splitC c r with
    | [] => [[b]]
    | w :: ws => (b :: w) :: ws
theorem split_ne (c : UInt8) (s : List UInt8) : splitC c s ≠ [] := by
  cases s with
  | nil => simp [splitC]
  | cons b r =>
    rw [splitC]
    split
    · simp
    · split <;> simp
theorem split_not {c : UInt8} {s : List UInt8} (h : c ∉ s) : splitC c s = [s] := by
  induction s with
  | nil => rfl
  | cons b r ih =>
    simp only [List.mem_cons, not_or] at h
    rw [splitC, if_neg (fun e => h.1 e.symm), ih h.2]
theorem split_in {c : UInt8} {s : List UInt8} (h : c ∈ s) : splitC c s = s.take (ahead c s) :: splitC c (s.drop (ahead c s + 1)) := by
  induction s with
  | nil => simp at h
  | cons b r ih =>
    by_cases e : b = c
    · subst e; simp [splitC, ahead]
    · have hr : c ∈ r := by
        rcases List.mem_cons.1 h with h | h
        · exact absurd h.symm e
        · exact h
      rw [splitC, if_neg e, ih hr, ahead, if_neg e]
      rfl
def stepW (m : Bool) (w : List UInt8) : Option Int :=
  if w = [63] ∧ m = true then some (-1) else match w with
    | [c] => if 48 ≤ c.toNat ∧ c.toNat ≤ 57 then some ((c.toNat : Int) - 48) else none
    | _ => none
def allS (m : Bool) : List (List UInt8) → Option (List Int)
  | [] => some []
  | w :: ws => match stepW m w with
    | none => none
    | some x => (allS m ws).map (x :: ·)
theorem allS_step {m : Bool} {w : List UInt8} {ws : List (List UInt8)} {acc : List Int} {x : Int} {o : Option (List Int)} (h : o = (allS m (w :: ws)).map (acc ++ ·)) (hs : stepW m w = some x) : o = (allS m ws).map ((acc ++ [x]) ++ ·) := by
  rw [h, allS, hs]
  simp only [Option.map_map]
  congr 1
  funext l
  simp
theorem allS_stop {m : Bool} {w : List UInt8} {ws : List (List UInt8)} {acc : List Int} {o : Option (List Int)} (h : o = (allS m (w :: ws)).map (acc ++ ·)) (hs : stepW m w = none) : o = none := by
  rw [h, allS, hs]; rfl

/-! ### The iterator -/
def sO (s : List UInt8) : AObj := ⟨9, false, .bx [vS s]⟩
def bO (b : Bool) : AObj := ⟨4, false, .bx [vB b]⟩
def inO (n : Int) : AObj := ⟨TN, false, .bx [.p (i64 n)]⟩
def rdO (va vb : AV) (rest : List UInt8) : AObj := ⟨101, false, .bx [va, vb, vS rest]⟩
def rbO : AObj := ⟨115, false, .bx [.ptr 1 0 0]⟩
def slO (n len : Nat) : AObj := ⟨TI, false, .bx [.sl n 1 0 len]⟩
def nlO : AObj := ⟨TI, false, .bx [.p .nils]⟩

theorem splitSeqI_c (s t : List UInt8) : HoldsG cx 96 [vS s, vS t, .p (i64 0)] ⟨0, []⟩ fun e H' => e = .returned (.fn (.func 111) [] [.ptr 1 0 0, .ptr 0 0 0, .ptr 2 0 0]) ∧ H' = ⟨3, [(2, inO 0), (1, sO t), (0, sO s)]⟩ := by
  refine holdsN_of_vc Tryd.func96 rfl rfl rfl ?_
  exact ⟨[], [], [], .returned (.fn (.func 111) [] [.ptr 1 0 0, .ptr 0 0 0, .ptr 2 0 0]), ⟨3, [(2, inO 0), (1, sO t), (0, sO s)]⟩, rfl, by (repeat' first | exact trivial | exact rfl | exact ⟨rfl, rfl⟩ | exact .inl rfl | refine ⟨_, rfl, rfl, rfl, ?_⟩ | refine ⟨_, _, rfl, ?_, ?_⟩ | refine ⟨_, rfl, ?_⟩ | refine And.intro ?_ ?_), by (repeat' first | exact trivial | exact rfl | exact ⟨rfl, rfl⟩ | exact .inl rfl | refine ⟨_, rfl, rfl, rfl, ?_⟩ | refine ⟨_, _, rfl, ?_, ?_⟩ | refine ⟨_, rfl, ?_⟩ | refine And.intro ?_ ?_), rfl, rfl⟩
theorem splitSeq_c (s t : List UInt8) : HoldsG cx 76 [vS s, vS t] ⟨0, []⟩ fun e H' => e = .returned (.fn (.func 111) [] [.ptr 1 0 0, .ptr 0 0 0, .ptr 2 0 0]) ∧ H' = ⟨3, [(2, inO 0), (1, sO t), (0, sO s)]⟩ := by
  refine holdsN_of_vc Tryd.func76 rfl rfl rfl ?_
  refine (splitSeqI_c s t).useE [] [] rfl trivial ⟨_, _, rfl, rfl, _, _, rfl, rfl, _, _, rfl, rfl, rfl⟩ ?_
  exact ⟨[], [], [], .returned (.fn (.func 111) [] [.ptr 1 0 0, .ptr 0 0 0, .ptr 2 0 0]), ⟨3, [(2, inO 0), (1, sO t), (0, sO s)]⟩, rfl, by (repeat' first | exact trivial | exact rfl | exact ⟨rfl, rfl⟩ | exact .inl rfl | refine ⟨_, rfl, rfl, rfl, ?_⟩ | refine ⟨_, _, rfl, ?_, ?_⟩ | refine ⟨_, rfl, ?_⟩ | refine And.intro ?_ ?_), by (repeat' first | exact trivial | exact rfl | exact ⟨rfl, rfl⟩ | exact .inl rfl | refine ⟨_, rfl, rfl, rfl, ?_⟩ | refine ⟨_, _, rfl, ?_, ?_⟩ | refine ⟨_, rfl, ?_⟩ | refine And.intro ?_ ?_), rfl, rfl⟩
end Go.Proofs.YtmdmjnfdemgpoaaDoor

/- Package data: Parse: the words of a line. -/
namespace Go.Proofs.YtmdmjnfdemgpoaaDoor
open Go Y
set_option maxRecDepth 100000
set_option maxHeartbeats 4000000

def lpP (st : LoopState) (pend : Option Code) (N : Nat) (σ : Sg) (ps : List Tmp) (ac bd : Code) : AObj := ⟨0, false, .lp st pend 11 N σ ps ac bd 11⟩
/-- The heap of a line's reading, the accumulated numbers in A. -/
def rdL (m : Bool) (va vb : AV) (rest : List UInt8) (st : LoopState) (pend : Option Code) (N : Nat) (σ : Sg) (ps : List Tmp) (ac bd : Code) (s : List UInt8) (A : Nat) (acc : List Int) : List (Nat × AObj) :=
  [(A, iO acc), (12, lpP st pend N σ ps ac bd), (11, dfO), (10, inO 0), (9, sO [32]), (8, sO s), (7, slO A acc.length), (5, bO false), (4, nlO), (3, bO m), (1, rdO va vb rest), (0, rbO)]
/-- A round has put a number. -/
def rdM (m : Bool) (va vb : AV) (rest : List UInt8) (N : Nat) (σ : Sg) (ps : List Tmp) (ac bd : Code) (s : List UInt8) (acc : List Int) (x : Int) : List (Nat × AObj) :=
  [(15, iO (acc ++ [x])), (14, iO [x]), (12, lpP .ready none N σ ps ac bd), (11, dfO), (10, inO 0), (9, sO [32]), (8, sO s), (7, slO 15 (acc.length + 1)), (5, bO false), (4, nlO), (3, bO m), (1, rdO va vb rest), (0, rbO)]

/-- A value that is seen as itself as long as names below a limit are kept. -/
def Self (n0 : Nat) (v : AV) : Prop := ∀ (ρ : Nat → Nat) (ni : List (Nat × Nat)) (L : List (Nat × AObj)), (∀ n, n < n0 → ρ n = n) → (∀ n, n < n0 → niGet ni n = none) → See ρ ni L v v

theorem iterP_c (m : Bool) (va vb : AV) (hva : Self 13 va) (hvb : Self 13 vb) (rest s0 : List UInt8) (hs0 : s0.length ≤ 1000) (N : Nat) (σ σ1 : Sg) (ds : List AD) (ps : List Tmp) (ac bd : Code) (Q : KQ)
    (hok : ∀ (s : List UInt8) (l : List Int), allS m (splitC 32 s0) = some l → l.length ≤ 1001 → Q .normal σ1 ds ⟨14, rdL m va vb rest .exhausted none N σ ps ac bd s 13 l⟩)
    (hno : ∀ (s : List UInt8) (l : List Int), allS m (splitC 32 s0) = none → Q .ret σ1 ds ⟨14, rdL m va vb rest .exhausted (some .ret) N σ ps ac bd s 13 l⟩)
    (hrd : ∀ (s w : List UInt8) (acc : List Int) (K : AE → Hp → Prop), acc.length ≤ 1001 → (∀ x, stepW m w = some x → K (.returned (vB true)) ⟨16, rdM m va vb rest N σ ps ac bd s acc x⟩) → (stepW m w = none → K (.returned (vB false)) ⟨14, rdL m va vb rest .done (some .ret) N σ ps ac bd s 13 acc⟩) →
      RoundH cx 12 [vS w] ⟨14, rdL m va vb rest .ready none N σ ps ac bd s 13 acc⟩ K) :
    HoldsG cx 111 [.fn (.yield 12) [] [], .ptr 9 0 0, .ptr 8 0 0, .ptr 10 0 0] ⟨13, [(12, lpP .ready none N σ ps ac bd), (11, dfO), (10, inO 0), (9, sO [32]), (8, sO s0), (7, slO 6 0), (6, iO []), (5, bO false), (4, nlO), (3, bO m), (1, rdO va vb rest), (0, rbO)]⟩ (RangeQ 12 σ1 ds Q) := by
  refine holdsN_of_vc Tryd.func111 rfl rfl rfl ?_
  have fix : ∀ ps N1 N n, n < 13 → rmap 13 ps N1 N n = n := fun ps N1 N n h => rmap_fix h
  refine And.intro (fun h => absurd (show (1 : Int) = 0 from h) (by decide)) (fun _ => ?_)
  refine ⟨List UInt8 × List Int, fun _ => [(0, .fn (.yield 12) [] []), (1, .ptr 9 0 0), (2, .ptr 8 0 0), (3, .ptr 10 0 0)], fun x => ⟨14, rdL m va vb rest .ready none N σ ps ac bd x.1 13 x.2⟩,
    fun x => x.1.length + x.2.length ≤ 1000 ∧ allS m (splitC 32 s0) = (allS m (splitC 32 x.1)).map (x.2 ++ ·), fun x => x.1.length, ?_, ?_⟩
  · refine ⟨(s0, []), ⟨by simp only [List.length_nil]; omega, by cases allS m (splitC 32 s0) <;> simp⟩, ent_of [] [(13, 6)] [] rfl ⟨⟨rfl, _, _, rfl, rfl, rfl⟩, ⟨rfl, rfl⟩, ⟨rfl, rfl⟩, ⟨rfl, rfl⟩, trivial⟩ ?_ rfl⟩
    exact ⟨⟨_, rfl, rfl, rfl, rfl⟩, ⟨_, rfl, rfl, rfl, rfl, rfl, rfl⟩, ⟨_, rfl, rfl, rfl, rfl⟩, ⟨_, rfl, rfl, rfl, _, rfl, by (repeat' first | exact trivial | exact rfl | exact ⟨rfl, rfl⟩ | exact .inl rfl | refine ⟨_, rfl, rfl, rfl, ?_⟩ | refine ⟨_, _, rfl, ?_, ?_⟩ | refine ⟨_, rfl, ?_⟩ | refine And.intro ?_ ?_)⟩, ⟨_, rfl, rfl, rfl, _, rfl, by (repeat' first | exact trivial | exact rfl | exact ⟨rfl, rfl⟩ | exact .inl rfl | refine ⟨_, rfl, rfl, rfl, ?_⟩ | refine ⟨_, _, rfl, ?_, ?_⟩ | refine ⟨_, rfl, ?_⟩ | refine And.intro ?_ ?_)⟩, ⟨_, rfl, rfl, rfl, _, rfl, by (repeat' first | exact trivial | exact rfl | exact ⟨rfl, rfl⟩ | exact .inl rfl | refine ⟨_, rfl, rfl, rfl, ?_⟩ | refine ⟨_, _, rfl, ?_, ?_⟩ | refine ⟨_, rfl, ?_⟩ | refine And.intro ?_ ?_)⟩, ⟨_, rfl, rfl, rfl, _, rfl, by (repeat' first | exact trivial | exact rfl | exact ⟨rfl, rfl⟩ | exact .inl rfl | refine ⟨_, rfl, rfl, rfl, ?_⟩ | refine ⟨_, _, rfl, ?_, ?_⟩ | refine ⟨_, rfl, ?_⟩ | refine And.intro ?_ ?_)⟩, ⟨_, rfl, rfl, rfl, _, rfl, by (repeat' first | exact trivial | exact rfl | exact ⟨rfl, rfl⟩ | exact .inl rfl | refine ⟨_, rfl, rfl, rfl, ?_⟩ | refine ⟨_, _, rfl, ?_, ?_⟩ | refine ⟨_, rfl, ?_⟩ | refine And.intro ?_ ?_)⟩, ⟨_, rfl, rfl, rfl, _, rfl, by (repeat' first | exact trivial | exact rfl | exact ⟨rfl, rfl⟩ | exact .inl rfl | refine ⟨_, rfl, rfl, rfl, ?_⟩ | refine ⟨_, _, rfl, ?_, ?_⟩ | refine ⟨_, rfl, ?_⟩ | refine And.intro ?_ ?_)⟩, ⟨_, rfl, rfl, rfl, _, rfl, by (repeat' first | exact trivial | exact rfl | exact ⟨rfl, rfl⟩ | exact .inl rfl | refine ⟨_, rfl, rfl, rfl, ?_⟩ | refine ⟨_, _, rfl, ?_, ?_⟩ | refine ⟨_, rfl, ?_⟩ | refine And.intro ?_ ?_)⟩, ⟨_, rfl, rfl, rfl, _, rfl, _, _, rfl, hva _ _ _ (fix _ _ _) (fun _ _ => rfl), _, _, rfl, hvb _ _ _ (fix _ _ _) (fun _ _ => rfl), by (repeat' first | exact trivial | exact rfl | exact ⟨rfl, rfl⟩ | exact .inl rfl | refine ⟨_, rfl, rfl, rfl, ?_⟩ | refine ⟨_, _, rfl, ?_, ?_⟩ | refine ⟨_, rfl, ?_⟩ | refine And.intro ?_ ?_)⟩, ⟨_, rfl, rfl, rfl, _, rfl, by (repeat' first | exact trivial | exact rfl | exact ⟨rfl, rfl⟩ | exact .inl rfl | refine ⟨_, rfl, rfl, rfl, ?_⟩ | refine ⟨_, _, rfl, ?_, ?_⟩ | refine ⟨_, rfl, ?_⟩ | refine And.intro ?_ ?_)⟩, trivial⟩
  rintro ⟨s, acc⟩ ⟨g1, g2⟩
  simp only [] at g1 g2
  have hI := strIndex1_c s 32
  by_cases hc : 32 ∈ s
  · rw [index_ahead.1 hc] at hI
    rw [split_in hc] at g2
    have ha := (ahead_split hc).2.2
    refine hI.eq rfl ?_
    refine And.intro (fun h => absurd (show ((ahead 32 s : Nat) : Int) < 0 from h) (by omega)) (fun _ => ?_)
    refine ⟨((ahead 32 s : Nat) : Int), by rw [show ((ahead 32 s : Nat) : Int) + 0 = (ahead 32 s : Nat) by omega]; exact wrap_i64 (by omega) (by omega), ?_⟩
    refine ⟨by show (0 : Int) ≤ (ahead 32 s : Nat) ∧ ((ahead 32 s : Nat) : Int) ≤ (s.length : Nat); omega, ?_⟩
    refine hrd s (s.take (ahead 32 s)) acc _ (by omega) (fun x hx => ?_) (fun hx => ?_)
    · have g2' := allS_step g2 hx
      refine ⟨((ahead 32 s + 1 : Nat) : Int), by rw [Int.natCast_add]; exact wrap_i64 (by omega) (by omega), ?_⟩
      refine ⟨by show (0 : Int) ≤ (ahead 32 s + 1 : Nat) ∧ ((ahead 32 s + 1 : Nat) : Int) ≤ (s.length : Nat); omega, ?_⟩
      refine ⟨(s.drop (ahead 32 s + 1), acc ++ [x]), ⟨by simp only [List.length_drop, List.length_append, List.length_singleton]; omega, g2'⟩, ent_of [] [(13, 15)] [] rfl ⟨⟨rfl, _, _, rfl, rfl, rfl⟩, ⟨rfl, rfl⟩, ⟨rfl, rfl⟩, ⟨rfl, rfl⟩, trivial⟩ ?_ rfl, by simp only [List.length_drop]; omega⟩
      exact ⟨⟨_, rfl, rfl, rfl, rfl⟩, ⟨_, rfl, rfl, rfl, rfl, rfl, rfl⟩, ⟨_, rfl, rfl, rfl, rfl⟩, ⟨_, rfl, rfl, rfl, _, rfl, by (repeat' first | exact trivial | exact rfl | exact ⟨rfl, rfl⟩ | exact .inl rfl | refine ⟨_, rfl, rfl, rfl, ?_⟩ | refine ⟨_, _, rfl, ?_, ?_⟩ | refine ⟨_, rfl, ?_⟩ | refine And.intro ?_ ?_)⟩, ⟨_, rfl, rfl, rfl, _, rfl, by (repeat' first | exact trivial | exact rfl | exact ⟨rfl, rfl⟩ | exact .inl rfl | refine ⟨_, rfl, rfl, rfl, ?_⟩ | refine ⟨_, _, rfl, ?_, ?_⟩ | refine ⟨_, rfl, ?_⟩ | refine And.intro ?_ ?_)⟩, ⟨_, rfl, rfl, rfl, _, rfl, by (repeat' first | exact trivial | exact rfl | exact ⟨rfl, rfl⟩ | exact .inl rfl | refine ⟨_, rfl, rfl, rfl, ?_⟩ | refine ⟨_, _, rfl, ?_, ?_⟩ | refine ⟨_, rfl, ?_⟩ | refine And.intro ?_ ?_)⟩, ⟨_, rfl, rfl, rfl, _, rfl, _, _, rfl, congrArg (fun n => AV.sl 15 1 0 n) (snoc_len acc x).symm, rfl⟩, ⟨_, rfl, rfl, rfl, _, rfl, by (repeat' first | exact trivial | exact rfl | exact ⟨rfl, rfl⟩ | exact .inl rfl | refine ⟨_, rfl, rfl, rfl, ?_⟩ | refine ⟨_, _, rfl, ?_, ?_⟩ | refine ⟨_, rfl, ?_⟩ | refine And.intro ?_ ?_)⟩, ⟨_, rfl, rfl, rfl, _, rfl, by (repeat' first | exact trivial | exact rfl | exact ⟨rfl, rfl⟩ | exact .inl rfl | refine ⟨_, rfl, rfl, rfl, ?_⟩ | refine ⟨_, _, rfl, ?_, ?_⟩ | refine ⟨_, rfl, ?_⟩ | refine And.intro ?_ ?_)⟩, ⟨_, rfl, rfl, rfl, _, rfl, by (repeat' first | exact trivial | exact rfl | exact ⟨rfl, rfl⟩ | exact .inl rfl | refine ⟨_, rfl, rfl, rfl, ?_⟩ | refine ⟨_, _, rfl, ?_, ?_⟩ | refine ⟨_, rfl, ?_⟩ | refine And.intro ?_ ?_)⟩, ⟨_, rfl, rfl, rfl, _, rfl, _, _, rfl, hva _ _ _ (fix _ _ _) (fun _ _ => rfl), _, _, rfl, hvb _ _ _ (fix _ _ _) (fun _ _ => rfl), by (repeat' first | exact trivial | exact rfl | exact ⟨rfl, rfl⟩ | exact .inl rfl | refine ⟨_, rfl, rfl, rfl, ?_⟩ | refine ⟨_, _, rfl, ?_, ?_⟩ | refine ⟨_, rfl, ?_⟩ | refine And.intro ?_ ?_)⟩, ⟨_, rfl, rfl, rfl, _, rfl, by (repeat' first | exact trivial | exact rfl | exact ⟨rfl, rfl⟩ | exact .inl rfl | refine ⟨_, rfl, rfl, rfl, ?_⟩ | refine ⟨_, _, rfl, ?_, ?_⟩ | refine ⟨_, rfl, ?_⟩ | refine And.intro ?_ ?_)⟩, trivial⟩
    · have g2' := allS_stop g2 hx
      refine ⟨[], [(13, 13)], [], .returned und, ⟨14, rdL m va vb rest .done (some .ret) N σ ps ac bd s 13 acc⟩, rfl, by (repeat' first | exact trivial | exact rfl | exact ⟨rfl, rfl⟩ | exact .inl rfl | refine ⟨_, rfl, rfl, rfl, ?_⟩ | refine ⟨_, _, rfl, ?_, ?_⟩ | refine ⟨_, rfl, ?_⟩ | refine And.intro ?_ ?_), ?_, hno s acc g2'⟩
      exact ⟨⟨_, rfl, rfl, rfl, rfl⟩, ⟨_, rfl, rfl, rfl, rfl, rfl, rfl⟩, ⟨_, rfl, rfl, rfl, rfl⟩, ⟨_, rfl, rfl, rfl, _, rfl, by (repeat' first | exact trivial | exact rfl | exact ⟨rfl, rfl⟩ | exact .inl rfl | refine ⟨_, rfl, rfl, rfl, ?_⟩ | refine ⟨_, _, rfl, ?_, ?_⟩ | refine ⟨_, rfl, ?_⟩ | refine And.intro ?_ ?_)⟩, ⟨_, rfl, rfl, rfl, _, rfl, by (repeat' first | exact trivial | exact rfl | exact ⟨rfl, rfl⟩ | exact .inl rfl | refine ⟨_, rfl, rfl, rfl, ?_⟩ | refine ⟨_, _, rfl, ?_, ?_⟩ | refine ⟨_, rfl, ?_⟩ | refine And.intro ?_ ?_)⟩, ⟨_, rfl, rfl, rfl, _, rfl, by (repeat' first | exact trivial | exact rfl | exact ⟨rfl, rfl⟩ | exact .inl rfl | refine ⟨_, rfl, rfl, rfl, ?_⟩ | refine ⟨_, _, rfl, ?_, ?_⟩ | refine ⟨_, rfl, ?_⟩ | refine And.intro ?_ ?_)⟩, ⟨_, rfl, rfl, rfl, _, rfl, by (repeat' first | exact trivial | exact rfl | exact ⟨rfl, rfl⟩ | exact .inl rfl | refine ⟨_, rfl, rfl, rfl, ?_⟩ | refine ⟨_, _, rfl, ?_, ?_⟩ | refine ⟨_, rfl, ?_⟩ | refine And.intro ?_ ?_)⟩, ⟨_, rfl, rfl, rfl, _, rfl, by (repeat' first | exact trivial | exact rfl | exact ⟨rfl, rfl⟩ | exact .inl rfl | refine ⟨_, rfl, rfl, rfl, ?_⟩ | refine ⟨_, _, rfl, ?_, ?_⟩ | refine ⟨_, rfl, ?_⟩ | refine And.intro ?_ ?_)⟩, ⟨_, rfl, rfl, rfl, _, rfl, by (repeat' first | exact trivial | exact rfl | exact ⟨rfl, rfl⟩ | exact .inl rfl | refine ⟨_, rfl, rfl, rfl, ?_⟩ | refine ⟨_, _, rfl, ?_, ?_⟩ | refine ⟨_, rfl, ?_⟩ | refine And.intro ?_ ?_)⟩, ⟨_, rfl, rfl, rfl, _, rfl, by (repeat' first | exact trivial | exact rfl | exact ⟨rfl, rfl⟩ | exact .inl rfl | refine ⟨_, rfl, rfl, rfl, ?_⟩ | refine ⟨_, _, rfl, ?_, ?_⟩ | refine ⟨_, rfl, ?_⟩ | refine And.intro ?_ ?_)⟩, ⟨_, rfl, rfl, rfl, _, rfl, _, _, rfl, hva _ _ _ (fix _ _ _) (fun _ _ => rfl), _, _, rfl, hvb _ _ _ (fix _ _ _) (fun _ _ => rfl), by (repeat' first | exact trivial | exact rfl | exact ⟨rfl, rfl⟩ | exact .inl rfl | refine ⟨_, rfl, rfl, rfl, ?_⟩ | refine ⟨_, _, rfl, ?_, ?_⟩ | refine ⟨_, rfl, ?_⟩ | refine And.intro ?_ ?_)⟩, ⟨_, rfl, rfl, rfl, _, rfl, by (repeat' first | exact trivial | exact rfl | exact ⟨rfl, rfl⟩ | exact .inl rfl | refine ⟨_, rfl, rfl, rfl, ?_⟩ | refine ⟨_, _, rfl, ?_, ?_⟩ | refine ⟨_, rfl, ?_⟩ | refine And.intro ?_ ?_)⟩, trivial⟩
  · rw [index_ahead.2 hc] at hI
    rw [split_not hc] at g2
    refine hI.eq rfl ?_
    refine And.intro (fun _ => ?_) (fun h => absurd (show (-1 : Int) < 0 by decide) h)
    refine hrd s s acc _ (by omega) (fun x hx => ?_) (fun hx => ?_)
    · have g2' := allS_step g2 hx
      refine ⟨[], [(13, 15)], [], .returned und, ⟨14, rdL m va vb rest .ready none N σ ps ac bd s 13 (acc ++ [x])⟩, rfl, by (repeat' first | exact trivial | exact rfl | exact ⟨rfl, rfl⟩ | exact .inl rfl | refine ⟨_, rfl, rfl, rfl, ?_⟩ | refine ⟨_, _, rfl, ?_, ?_⟩ | refine ⟨_, rfl, ?_⟩ | refine And.intro ?_ ?_), ?_, hok s (acc ++ [x]) (by rw [g2']; simp [allS]) (by simp only [List.length_append, List.length_singleton]; omega)⟩
      exact ⟨⟨_, rfl, rfl, rfl, rfl⟩, ⟨_, rfl, rfl, rfl, rfl, rfl, rfl⟩, ⟨_, rfl, rfl, rfl, rfl⟩, ⟨_, rfl, rfl, rfl, _, rfl, by (repeat' first | exact trivial | exact rfl | exact ⟨rfl, rfl⟩ | exact .inl rfl | refine ⟨_, rfl, rfl, rfl, ?_⟩ | refine ⟨_, _, rfl, ?_, ?_⟩ | refine ⟨_, rfl, ?_⟩ | refine And.intro ?_ ?_)⟩, ⟨_, rfl, rfl, rfl, _, rfl, by (repeat' first | exact trivial | exact rfl | exact ⟨rfl, rfl⟩ | exact .inl rfl | refine ⟨_, rfl, rfl, rfl, ?_⟩ | refine ⟨_, _, rfl, ?_, ?_⟩ | refine ⟨_, rfl, ?_⟩ | refine And.intro ?_ ?_)⟩, ⟨_, rfl, rfl, rfl, _, rfl, by (repeat' first | exact trivial | exact rfl | exact ⟨rfl, rfl⟩ | exact .inl rfl | refine ⟨_, rfl, rfl, rfl, ?_⟩ | refine ⟨_, _, rfl, ?_, ?_⟩ | refine ⟨_, rfl, ?_⟩ | refine And.intro ?_ ?_)⟩, ⟨_, rfl, rfl, rfl, _, rfl, _, _, rfl, congrArg (fun n => AV.sl 15 1 0 n) (snoc_len acc x).symm, rfl⟩, ⟨_, rfl, rfl, rfl, _, rfl, by (repeat' first | exact trivial | exact rfl | exact ⟨rfl, rfl⟩ | exact .inl rfl | refine ⟨_, rfl, rfl, rfl, ?_⟩ | refine ⟨_, _, rfl, ?_, ?_⟩ | refine ⟨_, rfl, ?_⟩ | refine And.intro ?_ ?_)⟩, ⟨_, rfl, rfl, rfl, _, rfl, by (repeat' first | exact trivial | exact rfl | exact ⟨rfl, rfl⟩ | exact .inl rfl | refine ⟨_, rfl, rfl, rfl, ?_⟩ | refine ⟨_, _, rfl, ?_, ?_⟩ | refine ⟨_, rfl, ?_⟩ | refine And.intro ?_ ?_)⟩, ⟨_, rfl, rfl, rfl, _, rfl, by (repeat' first | exact trivial | exact rfl | exact ⟨rfl, rfl⟩ | exact .inl rfl | refine ⟨_, rfl, rfl, rfl, ?_⟩ | refine ⟨_, _, rfl, ?_, ?_⟩ | refine ⟨_, rfl, ?_⟩ | refine And.intro ?_ ?_)⟩, ⟨_, rfl, rfl, rfl, _, rfl, _, _, rfl, hva _ _ _ (fix _ _ _) (fun _ _ => rfl), _, _, rfl, hvb _ _ _ (fix _ _ _) (fun _ _ => rfl), by (repeat' first | exact trivial | exact rfl | exact ⟨rfl, rfl⟩ | exact .inl rfl | refine ⟨_, rfl, rfl, rfl, ?_⟩ | refine ⟨_, _, rfl, ?_, ?_⟩ | refine ⟨_, rfl, ?_⟩ | refine And.intro ?_ ?_)⟩, ⟨_, rfl, rfl, rfl, _, rfl, by (repeat' first | exact trivial | exact rfl | exact ⟨rfl, rfl⟩ | exact .inl rfl | refine ⟨_, rfl, rfl, rfl, ?_⟩ | refine ⟨_, _, rfl, ?_, ?_⟩ | refine ⟨_, rfl, ?_⟩ | refine And.intro ?_ ?_)⟩, trivial⟩
    · have g2' := allS_stop g2 hx
      refine ⟨[], [(13, 13)], [], .returned und, ⟨14, rdL m va vb rest .done (some .ret) N σ ps ac bd s 13 acc⟩, rfl, by (repeat' first | exact trivial | exact rfl | exact ⟨rfl, rfl⟩ | exact .inl rfl | refine ⟨_, rfl, rfl, rfl, ?_⟩ | refine ⟨_, _, rfl, ?_, ?_⟩ | refine ⟨_, rfl, ?_⟩ | refine And.intro ?_ ?_), ?_, hno s acc g2'⟩
      exact ⟨⟨_, rfl, rfl, rfl, rfl⟩, ⟨_, rfl, rfl, rfl, rfl, rfl, rfl⟩, ⟨_, rfl, rfl, rfl, rfl⟩, ⟨_, rfl, rfl, rfl, _, rfl, by (repeat' first | exact trivial | exact rfl | exact ⟨rfl, rfl⟩ | exact .inl rfl | refine ⟨_, rfl, rfl, rfl, ?_⟩ | refine ⟨_, _, rfl, ?_, ?_⟩ | refine ⟨_, rfl, ?_⟩ | refine And.intro ?_ ?_)⟩, ⟨_, rfl, rfl, rfl, _, rfl, by (repeat' first | exact trivial | exact rfl | exact ⟨rfl, rfl⟩ | exact .inl rfl | refine ⟨_, rfl, rfl, rfl, ?_⟩ | refine ⟨_, _, rfl, ?_, ?_⟩ | refine ⟨_, rfl, ?_⟩ | refine And.intro ?_ ?_)⟩, ⟨_, rfl, rfl, rfl, _, rfl, by (repeat' first | exact trivial | exact rfl | exact ⟨rfl, rfl⟩ | exact .inl rfl | refine ⟨_, rfl, rfl, rfl, ?_⟩ | refine ⟨_, _, rfl, ?_, ?_⟩ | refine ⟨_, rfl, ?_⟩ | refine And.intro ?_ ?_)⟩, ⟨_, rfl, rfl, rfl, _, rfl, by (repeat' first | exact trivial | exact rfl | exact ⟨rfl, rfl⟩ | exact .inl rfl | refine ⟨_, rfl, rfl, rfl, ?_⟩ | refine ⟨_, _, rfl, ?_, ?_⟩ | refine ⟨_, rfl, ?_⟩ | refine And.intro ?_ ?_)⟩, ⟨_, rfl, rfl, rfl, _, rfl, by (repeat' first | exact trivial | exact rfl | exact ⟨rfl, rfl⟩ | exact .inl rfl | refine ⟨_, rfl, rfl, rfl, ?_⟩ | refine ⟨_, _, rfl, ?_, ?_⟩ | refine ⟨_, rfl, ?_⟩ | refine And.intro ?_ ?_)⟩, ⟨_, rfl, rfl, rfl, _, rfl, by (repeat' first | exact trivial | exact rfl | exact ⟨rfl, rfl⟩ | exact .inl rfl | refine ⟨_, rfl, rfl, rfl, ?_⟩ | refine ⟨_, _, rfl, ?_, ?_⟩ | refine ⟨_, rfl, ?_⟩ | refine And.intro ?_ ?_)⟩, ⟨_, rfl, rfl, rfl, _, rfl, by (repeat' first | exact trivial | exact rfl | exact ⟨rfl, rfl⟩ | exact .inl rfl | refine ⟨_, rfl, rfl, rfl, ?_⟩ | refine ⟨_, _, rfl, ?_, ?_⟩ | refine ⟨_, rfl, ?_⟩ | refine And.intro ?_ ?_)⟩, ⟨_, rfl, rfl, rfl, _, rfl, _, _, rfl, hva _ _ _ (fix _ _ _) (fun _ _ => rfl), _, _, rfl, hvb _ _ _ (fix _ _ _) (fun _ _ => rfl), by (repeat' first | exact trivial | exact rfl | exact ⟨rfl, rfl⟩ | exact .inl rfl | refine ⟨_, rfl, rfl, rfl, ?_⟩ | refine ⟨_, _, rfl, ?_, ?_⟩ | refine ⟨_, rfl, ?_⟩ | refine And.intro ?_ ?_)⟩, ⟨_, rfl, rfl, rfl, _, rfl, by (repeat' first | exact trivial | exact rfl | exact ⟨rfl, rfl⟩ | exact .inl rfl | refine ⟨_, rfl, rfl, rfl, ?_⟩ | refine ⟨_, _, rfl, ?_, ?_⟩ | refine ⟨_, rfl, ?_⟩ | refine And.intro ?_ ?_)⟩, trivial⟩

theorem stepW_no {m : Bool} : ∀ {w : List UInt8}, ¬ w = [63] → (∀ c, w = [c] → ¬ (48 ≤ c.toNat ∧ c.toNat ≤ 57)) → stepW m w = none
  | [], _, _ => by simp [stepW]
  | [c], h1, h => by rw [stepW, if_neg (fun hh => h1 hh.1)]; exact if_neg (h c rfl)
  | _ :: _ :: _, _, _ => by simp [stepW]
def nextR (rest : List UInt8) : List UInt8 := if 10 ∈ rest then rest.drop (ahead 10 rest + 1) else []
def nextL (m : Bool) (rest : List UInt8) : Option (List Int) := if 10 ∈ rest then allS m (splitC 32 (rest.take (ahead 10 rest))) else none
def nextV : Option (List Int) → List AV
  | none => [.p .nils, .p (.bool false)]
  | some l => [.p (ints l), .p (.bool true)]

theorem next_c (m : Bool) (va vb : AV) (hva : ∀ n, 3 ≤ n → Self n va) (hvb : ∀ n, 3 ≤ n → Self n vb) (rest : List UInt8) (hr : rest.length ≤ 1000) :
    HoldsG cx 74 [.p (.bool m), .ptr 0 0 0] ⟨3, [(1, rdO va vb rest), (0, rbO)]⟩ fun e H' => e = .returned (.tup (nextV (nextL m rest))) ∧ H' = ⟨3, [(1, rdO va vb (nextR rest)), (0, rbO)]⟩ := by
  refine holdsN_of_vc Tryd.func74 rfl rfl rfl ?_
  have fix : ∀ ps N1 N n, n < 3 → rmap 3 ps N1 N n = n := fun ps N1 N n h => rmap_fix h
  have hC := cut_c rest 10 (by omega)
  by_cases hc : 10 ∈ rest
  rotate_left
  · rw [cutV, if_neg hc] at hC
    rw [nextL, nextR, if_neg hc, if_neg hc]
    refine hC.eq rfl ?_
    refine ⟨[], [], [], .returned (.tup [.p .nils, .p (.bool false)]), ⟨3, [(1, rdO va vb []), (0, rbO)]⟩, rfl, by (repeat' first | exact trivial | exact rfl | exact ⟨rfl, rfl⟩ | exact .inl rfl | refine ⟨_, rfl, rfl, rfl, ?_⟩ | refine ⟨_, _, rfl, ?_, ?_⟩ | refine ⟨_, rfl, ?_⟩ | refine And.intro ?_ ?_), ?_, rfl, rfl⟩
    exact ⟨⟨_, rfl, rfl, rfl, _, rfl, _, _, rfl, hva 3 (Nat.le_refl _) _ _ _ (fix _ _ _) (fun _ _ => rfl), _, _, rfl, hvb 3 (Nat.le_refl _) _ _ _ (fix _ _ _) (fun _ _ => rfl), by (repeat' first | exact trivial | exact rfl | exact ⟨rfl, rfl⟩ | exact .inl rfl | refine ⟨_, rfl, rfl, rfl, ?_⟩ | refine ⟨_, _, rfl, ?_, ?_⟩ | refine ⟨_, rfl, ?_⟩ | refine And.intro ?_ ?_)⟩, ⟨_, rfl, rfl, rfl, _, rfl, by (repeat' first | exact trivial | exact rfl | exact ⟨rfl, rfl⟩ | exact .inl rfl | refine ⟨_, rfl, rfl, rfl, ?_⟩ | refine ⟨_, _, rfl, ?_, ?_⟩ | refine ⟨_, rfl, ?_⟩ | refine And.intro ?_ ?_)⟩, trivial⟩
  rw [cutV, if_pos hc] at hC
  rw [nextL, nextR, if_pos hc, if_pos hc]
  have ha := (ahead_split hc).2.2
  refine hC.eq rfl ?_
  obtain ⟨line, hline⟩ : ∃ line, line = rest.take (ahead 10 rest) := ⟨_, rfl⟩
  obtain ⟨rest', hrest'⟩ : ∃ rest', rest' = rest.drop (ahead 10 rest + 1) := ⟨_, rfl⟩
  rw [← hline, ← hrest']
  have hll : line.length ≤ 1000 := by rw [hline, List.length_take]; omega
  refine (splitSeq_c line [32]).useE [] [] rfl trivial ⟨_, _, rfl, rfl, _, _, rfl, rfl, rfl⟩ ?_
  refine range_of ?_
  intro σ' ps ac bd e1 e2 e3 e4
  refine iterP_c m va vb (hva 13 (by omega)) (hvb 13 (by omega)) rest' line hll Tryd.f74.ntmps σ' _ _ ps ac bd _ (fun s l hl hlen => ?_) (fun s l hl => ?_) ?_
  · rw [hl]
    refine ⟨[13], [], [], .returned (.tup [.p (ints l), .p (.bool true)]), ⟨3, [(1, rdO va vb rest'), (0, rbO)]⟩, rfl, ?_, ?_, rfl, rfl⟩
    · exact ⟨_, rfl, _, rfl, _, _, rfl, ⟨_, rfl, by show 0 + l.length ≤ (l.map i64).length; simp, takeAll (by simp)⟩, _, _, rfl, rfl, rfl⟩
    · exact ⟨⟨_, rfl, rfl, rfl, _, rfl, _, _, rfl, hva 3 (Nat.le_refl _) _ _ _ (fix _ _ _) (fun _ _ => rfl), _, _, rfl, hvb 3 (Nat.le_refl _) _ _ _ (fix _ _ _) (fun _ _ => rfl), by (repeat' first | exact trivial | exact rfl | exact ⟨rfl, rfl⟩ | exact .inl rfl | refine ⟨_, rfl, rfl, rfl, ?_⟩ | refine ⟨_, _, rfl, ?_, ?_⟩ | refine ⟨_, rfl, ?_⟩ | refine And.intro ?_ ?_)⟩, ⟨_, rfl, rfl, rfl, _, rfl, by (repeat' first | exact trivial | exact rfl | exact ⟨rfl, rfl⟩ | exact .inl rfl | refine ⟨_, rfl, rfl, rfl, ?_⟩ | refine ⟨_, _, rfl, ?_, ?_⟩ | refine ⟨_, rfl, ?_⟩ | refine And.intro ?_ ?_)⟩, trivial⟩
  · rw [hl]
    refine ⟨[], [], [], .returned (.tup [.p .nils, .p (.bool false)]), ⟨3, [(1, rdO va vb rest'), (0, rbO)]⟩, rfl, by (repeat' first | exact trivial | exact rfl | exact ⟨rfl, rfl⟩ | exact .inl rfl | refine ⟨_, rfl, rfl, rfl, ?_⟩ | refine ⟨_, _, rfl, ?_, ?_⟩ | refine ⟨_, rfl, ?_⟩ | refine And.intro ?_ ?_), ?_, rfl, rfl⟩
    exact ⟨⟨_, rfl, rfl, rfl, _, rfl, _, _, rfl, hva 3 (Nat.le_refl _) _ _ _ (fix _ _ _) (fun _ _ => rfl), _, _, rfl, hvb 3 (Nat.le_refl _) _ _ _ (fix _ _ _) (fun _ _ => rfl), by (repeat' first | exact trivial | exact rfl | exact ⟨rfl, rfl⟩ | exact .inl rfl | refine ⟨_, rfl, rfl, rfl, ?_⟩ | refine ⟨_, _, rfl, ?_, ?_⟩ | refine ⟨_, rfl, ?_⟩ | refine And.intro ?_ ?_)⟩, ⟨_, rfl, rfl, rfl, _, rfl, by (repeat' first | exact trivial | exact rfl | exact ⟨rfl, rfl⟩ | exact .inl rfl | refine ⟨_, rfl, rfl, rfl, ?_⟩ | refine ⟨_, _, rfl, ?_, ?_⟩ | refine ⟨_, rfl, ?_⟩ | refine And.intro ?_ ?_)⟩, trivial⟩
  · intro s w acc K hacc hK1 hK2
    subst e1 e2 e3 e4
    refine round_of_vc rfl rfl rfl ?_
    (first | refine brLt (fun h1 => ?_) (fun h1 => ?_) | refine brLe (fun h1 => ?_) (fun h1 => ?_) | refine brEq (fun h1 => ?_) (fun h1 => ?_))
    · subst h1
      cases m
      · refine And.intro (fun _ => ?_) (fun h => absurd rfl h)
        refine ⟨_, ⟨by omega, 63, rfl, rfl⟩, ?_⟩
        refine And.intro (fun _ => ?_) (fun h => absurd (show (48 : Int) ≤ 63 by decide) h)
        refine ⟨_, ⟨by omega, 63, rfl, rfl⟩, ?_⟩
        refine And.intro (fun h => absurd (show (63 : Int) ≤ 57 from h) (by decide)) (fun _ => ?_)
        exact hK2 (by decide)
      · refine ⟨by show 0 + 1 ≤ 1; omega, [i64 (-1)], rfl, ?_⟩
        refine ⟨by show 0 + acc.length ≤ (acc.map i64).length; simp, acc.map i64, takeAll (by simp), by show (acc.length + 1) * 8 ≤ 140737488355328; omega, (acc ++ [-1]).map i64, by simp, ?_⟩
        exact hK1 (-1) (by decide)
    · have no := stepW_no (m := m) h1
      (first | refine brLt (fun h2 => ?_) (fun h2 => ?_) | refine brLe (fun h2 => ?_) (fun h2 => ?_) | refine brEq (fun h2 => ?_) (fun h2 => ?_))
      · obtain ⟨c, rfl⟩ : ∃ c, w = [c] := List.length_eq_one_iff.1 (by omega)
        refine ⟨_, ⟨by omega, c, rfl, rfl⟩, ?_⟩
        (first | refine brLt (fun h3 => ?_) (fun h3 => ?_) | refine brLe (fun h3 => ?_) (fun h3 => ?_) | refine brEq (fun h3 => ?_) (fun h3 => ?_))
        · refine ⟨_, ⟨by omega, c, rfl, rfl⟩, ?_⟩
          (first | refine brLt (fun h4 => ?_) (fun h4 => ?_) | refine brLe (fun h4 => ?_) (fun h4 => ?_) | refine brEq (fun h4 => ?_) (fun h4 => ?_))
          · refine VDraw.seq rfl ?_
            refine ⟨_, ⟨by omega, c, rfl, rfl⟩, ?_⟩
            refine ⟨(c.toNat : Int) - 48, wrap8 (by omega) (by omega), ?_⟩
            refine ⟨_, wrap_i64 (by omega) (by omega), ?_⟩
            refine ⟨by (repeat' first | exact trivial | exact rfl | exact ⟨rfl, rfl⟩ | exact .inl rfl | refine ⟨_, rfl, rfl, rfl, ?_⟩ | refine ⟨_, _, rfl, ?_, ?_⟩ | refine ⟨_, rfl, ?_⟩ | refine And.intro ?_ ?_), ?_⟩
            refine ⟨by show 0 + 1 ≤ 1; omega, [i64 ((c.toNat : Int) - 48)], rfl, ?_⟩
            refine ⟨by show 0 + acc.length ≤ (acc.map i64).length; simp, acc.map i64, takeAll (by simp), by show (acc.length + 1) * 8 ≤ 140737488355328; omega, (acc ++ [(c.toNat : Int) - 48]).map i64, by simp, ?_⟩
            exact hK1 _ (by rw [stepW, if_neg (fun hh => h1 hh.1)]; exact if_pos (by omega))
          · exact hK2 (no fun c' e => by injection e with e _; subst e; omega)
        · exact hK2 (no fun c' e => by injection e with e _; subst e; omega)
      · exact hK2 (no fun c' e => by subst e; exact absurd rfl h2)
end Go.Proofs.YtmdmjnfdemgpoaaDoor

/- Package data: Parse. -/
namespace Go.Proofs.YtmdmjnfdemgpoaaDoor
open Go Y
set_option maxRecDepth 100000
set_option maxHeartbeats 4000000

theorem self_nil (n : Nat) : Self n (.p .nils) := fun _ _ _ _ _ => .inl rfl
theorem self_ints (n : Nat) (l : List Int) : Self n (.p (ints l)) := fun _ _ _ _ _ => rfl
theorem self_sl {n k m : Nat} (h : k < n) : Self n (.sl k 1 0 m) := fun ρ ni _ h1 h2 => by
  show match niGet ni k with
    | some s' => s' = 1 ∧ 0 = 0 ∧ m = 0 ∧ AV.sl k 1 0 m = .p .nils
    | none => AV.sl k 1 0 m = .sl (ρ k) 1 0 m
  rw [h2 k h]
  simp only []
  rw [h1 k h]

/-- The cases: lists of lines, the last one is empty. -/
def restP : List (List UInt8) → Option (List (List Int))
  | [] => none
  | [w] => if w = [] then some [] else none
  | w :: w' :: ws => match allS true (splitC 32 w) with
    | none => none
    | some l => (restP (w' :: ws)).map (l :: ·)
def readP (t : List UInt8) : Option Dt :=
  match splitC 10 t with
  | [] => none
  | [_] => none
  | w :: w' :: ws => match allS false (splitC 32 w) with
    | none => none
    | some cs => match restP (w' :: ws) with
      | none => none
      | some xs => some ⟨cs, xs⟩

theorem rest_in {t : List UInt8} (h : 10 ∈ t) : restP (splitC 10 t) = match allS true (splitC 32 (t.take (ahead 10 t))) with
    | none => none
    | some l => (restP (splitC 10 (t.drop (ahead 10 t + 1)))).map (l :: ·) := by
  rw [split_in h]
  cases e : splitC 10 (t.drop (ahead 10 t + 1)) with
  | nil => exact absurd e (split_ne _ _)
  | cons w ws => rfl
theorem rest_not {t : List UInt8} (h : 10 ∉ t) : restP (splitC 10 t) = if t = [] then some [] else none := by rw [split_not h]; rfl
theorem read_in {t : List UInt8} (h : 10 ∈ t) : readP t = match allS false (splitC 32 (t.take (ahead 10 t))) with
    | none => none
    | some cs => match restP (splitC 10 (t.drop (ahead 10 t + 1))) with
      | none => none
      | some xs => some ⟨cs, xs⟩ := by
  rw [readP, split_in h]
  cases e : splitC 10 (t.drop (ahead 10 t + 1)) with
  | nil => exact absurd e (split_ne _ _)
  | cons w ws => rfl
theorem read_not {t : List UInt8} (h : 10 ∉ t) : readP t = none := by rw [readP, split_not h]

theorem allS_len {m : Bool} : ∀ {ws : List (List UInt8)} {l : List Int}, allS m ws = some l → l.length = ws.length
  | [], l, h => by simp [allS] at h; subst h; rfl
  | w :: ws, l, h => by
    rw [allS] at h
    split at h
    · cases h
    · rw [Option.map_eq_some_iff] at h
      obtain ⟨l', h1, rfl⟩ := h
      simp [allS_len h1]
theorem split_len (c : UInt8) (s : List UInt8) : (splitC c s).length ≤ s.length + 1 := by
  induction s with
  | nil => simp [splitC]
  | cons b r ih =>
    rw [splitC]
    split
    · simp; omega
    · split
      · simp
      · rename_i e; rw [e] at ih; simp at ih ⊢; omega
theorem next_len {m : Bool} {t : List UInt8} {l : List Int} (h : nextL m t = some l) (ht : t.length ≤ 1000) : l.length ≤ 1001 := by
  rw [nextL] at h
  split at h
  · rw [allS_len h]
    have := split_len 32 (t.take (ahead 10 t))
    rw [List.length_take] at this
    omega
  · cases h

/-- The reader behind its first line. -/
def rdr (cs : List Int) (n : Nat) (acc : List (List Int)) (rest : List UInt8) : AObj := ⟨101, false, .bx [.p (ints cs), .sl n 1 0 acc.length, vS rest]⟩
def rd0 (t : List UInt8) : AObj := ⟨101, false, .bx [.p .nils, .p .nils, vS t]⟩

theorem read_c (t : List UInt8) (ht : t.length ≤ 1000) :
    HoldsG cx 58 [.ptr 0 0 0] ⟨1, [(0, rd0 t)]⟩ fun e H' => match readP t with
      | some d => e = .returned (vB true) ∧ H' = ⟨2, [(1, csO d.cases), (0, rdr d.cards 1 d.cases [])]⟩
      | none => e = .returned (vB false) ∧ H' = ⟨1, []⟩ := by
  refine holdsN_of_vc Tryd.func58 rfl rfl rfl ?_
  have hN := next_c false (.p .nils) (.p .nils) (fun n _ => self_nil n) (fun n _ => self_nil n) t ht
  obtain ⟨P, hP⟩ : ∃ P, P = readP t := ⟨_, rfl⟩
  rw [← hP]
  by_cases hc : 10 ∈ t
  rotate_left
  · rw [nextL, if_neg hc] at hN
    rw [read_not hc] at hP
    subst hP
    refine hN.useE [] [(0, 1), (1, 0), (2, 0)] rfl (by (repeat' first | exact trivial | exact rfl | exact ⟨rfl, rfl⟩ | exact .inl rfl | refine ⟨_, rfl, rfl, rfl, ?_⟩ | refine ⟨_, _, rfl, ?_, ?_⟩ | refine ⟨_, rfl, ?_⟩ | refine And.intro ?_ ?_)) (by (repeat' first | exact trivial | exact rfl | exact ⟨rfl, rfl⟩ | exact .inl rfl | refine ⟨_, rfl, rfl, rfl, ?_⟩ | refine ⟨_, _, rfl, ?_, ?_⟩ | refine ⟨_, rfl, ?_⟩ | refine And.intro ?_ ?_)) ?_
    exact ⟨[], [], [], .returned (vB false), ⟨1, []⟩, rfl, by (repeat' first | exact trivial | exact rfl | exact ⟨rfl, rfl⟩ | exact .inl rfl | refine ⟨_, rfl, rfl, rfl, ?_⟩ | refine ⟨_, _, rfl, ?_, ?_⟩ | refine ⟨_, rfl, ?_⟩ | refine And.intro ?_ ?_), trivial, And.intro rfl rfl⟩
  rw [read_in hc] at hP
  rw [nextL, if_pos hc, nextR, if_pos hc] at hN
  have hlen : ∀ l, allS false (splitC 32 (t.take (ahead 10 t))) = some l → l.length ≤ 1001 := fun l h => next_len (m := false) (t := t) (by rw [nextL, if_pos hc, h]) ht
  have ha := (ahead_split hc).2.2
  obtain ⟨r0, hr0⟩ : ∃ r0, r0 = t.drop (ahead 10 t + 1) := ⟨_, rfl⟩
  have hr0l : r0.length ≤ 1000 := by rw [hr0, List.length_drop]; omega
  rw [← hr0] at hP hN
  refine Or.elim (optC (allS false (splitC 32 (t.take (ahead 10 t))))) (fun hn => ?_) (fun hn => Exists.elim hn fun cs hn => ?_)
  · rw [hn] at hN hP
    subst hP
    refine hN.useE [] [(0, 1), (1, 0), (2, 0)] rfl (by (repeat' first | exact trivial | exact rfl | exact ⟨rfl, rfl⟩ | exact .inl rfl | refine ⟨_, rfl, rfl, rfl, ?_⟩ | refine ⟨_, _, rfl, ?_, ?_⟩ | refine ⟨_, rfl, ?_⟩ | refine And.intro ?_ ?_)) (by (repeat' first | exact trivial | exact rfl | exact ⟨rfl, rfl⟩ | exact .inl rfl | refine ⟨_, rfl, rfl, rfl, ?_⟩ | refine ⟨_, _, rfl, ?_, ?_⟩ | refine ⟨_, rfl, ?_⟩ | refine And.intro ?_ ?_)) ?_
    exact ⟨[], [], [], .returned (vB false), ⟨1, []⟩, rfl, by (repeat' first | exact trivial | exact rfl | exact ⟨rfl, rfl⟩ | exact .inl rfl | refine ⟨_, rfl, rfl, rfl, ?_⟩ | refine ⟨_, _, rfl, ?_, ?_⟩ | refine ⟨_, rfl, ?_⟩ | refine And.intro ?_ ?_), trivial, And.intro rfl rfl⟩
  rw [hn] at hN hP
  simp only [] at hP
  refine hN.useE [] [(0, 1), (1, 0), (2, 0)] rfl (by (repeat' first | exact trivial | exact rfl | exact ⟨rfl, rfl⟩ | exact .inl rfl | refine ⟨_, rfl, rfl, rfl, ?_⟩ | refine ⟨_, _, rfl, ?_, ?_⟩ | refine ⟨_, rfl, ?_⟩ | refine And.intro ?_ ?_)) (by (repeat' first | exact trivial | exact rfl | exact ⟨rfl, rfl⟩ | exact .inl rfl | refine ⟨_, rfl, rfl, rfl, ?_⟩ | refine ⟨_, _, rfl, ?_, ?_⟩ | refine ⟨_, rfl, ?_⟩ | refine And.intro ?_ ?_)) ?_
  refine VDraw.altTo [(1, .ptr 1 0 0), (3, .fn (.func 74) [] [.ptr 1 0 0])] ⟨3, [(2, csO []), (1, ⟨115, false, .bx [.ptr 0 0 0]⟩), (0, rdr cs 2 [] r0)]⟩ rfl ?_ ?_
  · refine And.intro ?_ ?_
    · refine ⟨by (repeat' first | exact trivial | exact rfl | exact ⟨rfl, rfl⟩ | exact .inl rfl | refine ⟨_, rfl, rfl, rfl, ?_⟩ | refine ⟨_, _, rfl, ?_, ?_⟩ | refine ⟨_, rfl, ?_⟩ | refine And.intro ?_ ?_), ?_⟩
      refine ⟨by (repeat' first | exact trivial | exact rfl | exact ⟨rfl, rfl⟩ | exact .inl rfl | refine ⟨_, rfl, rfl, rfl, ?_⟩ | refine ⟨_, _, rfl, ?_, ?_⟩ | refine ⟨_, rfl, ?_⟩ | refine And.intro ?_ ?_), ?_⟩
      exact ent_of [] [] [] rfl (by (repeat' first | exact trivial | exact rfl | exact ⟨rfl, rfl⟩ | exact .inl rfl | refine ⟨_, rfl, rfl, rfl, ?_⟩ | refine ⟨_, _, rfl, ?_, ?_⟩ | refine ⟨_, rfl, ?_⟩ | refine And.intro ?_ ?_)) (by (repeat' first | exact trivial | exact rfl | exact ⟨rfl, rfl⟩ | exact .inl rfl | refine ⟨_, rfl, rfl, rfl, ?_⟩ | refine ⟨_, _, rfl, ?_, ?_⟩ | refine ⟨_, rfl, ?_⟩ | refine And.intro ?_ ?_)) rfl
    · repeat refine ⟨by (repeat' first | exact trivial | exact rfl | exact ⟨rfl, rfl⟩ | exact .inl rfl | refine ⟨_, rfl, rfl, rfl, ?_⟩ | refine ⟨_, _, rfl, ?_, ?_⟩ | refine ⟨_, rfl, ?_⟩ | refine And.intro ?_ ?_), ?_⟩
      exact ent_of [] [] [] rfl (by (repeat' first | exact trivial | exact rfl | exact ⟨rfl, rfl⟩ | exact .inl rfl | refine ⟨_, rfl, rfl, rfl, ?_⟩ | refine ⟨_, _, rfl, ?_, ?_⟩ | refine ⟨_, rfl, ?_⟩ | refine And.intro ?_ ?_)) (by (repeat' first | exact trivial | exact rfl | exact ⟨rfl, rfl⟩ | exact .inl rfl | refine ⟨_, rfl, rfl, rfl, ?_⟩ | refine ⟨_, _, rfl, ?_, ?_⟩ | refine ⟨_, rfl, ?_⟩ | refine And.intro ?_ ?_)) rfl
  refine ⟨List (List Int) × List UInt8, fun _ => [(1, .ptr 1 0 0), (3, .fn (.func 74) [] [.ptr 1 0 0])], fun x => ⟨3, [(2, csO x.1), (1, ⟨115, false, .bx [.ptr 0 0 0]⟩), (0, rdr cs 2 x.1 x.2)]⟩,
    fun x => x.1.length + x.2.length ≤ 1000 ∧ restP (splitC 10 r0) = (restP (splitC 10 x.2)).map (x.1 ++ ·), fun x => x.2.length, ?_, ?_⟩
  · exact ⟨([], r0), ⟨by simp only [List.length_nil]; omega, by cases restP (splitC 10 r0) <;> simp⟩, ent_of [] [] [] rfl (by (repeat' first | exact trivial | exact rfl | exact ⟨rfl, rfl⟩ | exact .inl rfl | refine ⟨_, rfl, rfl, rfl, ?_⟩ | refine ⟨_, _, rfl, ?_, ?_⟩ | refine ⟨_, rfl, ?_⟩ | refine And.intro ?_ ?_)) (by (repeat' first | exact trivial | exact rfl | exact ⟨rfl, rfl⟩ | exact .inl rfl | refine ⟨_, rfl, rfl, rfl, ?_⟩ | refine ⟨_, _, rfl, ?_, ?_⟩ | refine ⟨_, rfl, ?_⟩ | refine And.intro ?_ ?_)) rfl⟩
  rintro ⟨acc, r⟩ ⟨g1, g2⟩
  simp only [] at g1 g2
  (first | refine brLt (fun h1 => ?_) (fun h1 => ?_) | refine brLe (fun h1 => ?_) (fun h1 => ?_) | refine brEq (fun h1 => ?_) (fun h1 => ?_))
  · subst h1
    rw [rest_not (t := []) (by simp), if_pos rfl] at g2
    rw [g2] at hP
    simp only [Option.map_some, List.append_nil] at hP
    subst hP
    exact ⟨[], [(1, 2)], [], .returned (vB true), ⟨2, [(1, csO acc), (0, rdr cs 1 acc [])]⟩, rfl, ⟨_, rfl, rfl⟩, by (repeat' first | exact trivial | exact rfl | exact ⟨rfl, rfl⟩ | exact .inl rfl | refine ⟨_, rfl, rfl, rfl, ?_⟩ | refine ⟨_, _, rfl, ?_, ?_⟩ | refine ⟨_, rfl, ?_⟩ | refine And.intro ?_ ?_), And.intro rfl rfl⟩
  · have hM := next_c true (.p (ints cs)) (.sl 2 1 0 acc.length) (fun n _ => self_ints n cs) (fun n h => self_sl (by omega)) r (by omega)
    by_cases hd : 10 ∈ r
    rotate_left
    · rw [nextL, if_neg hd] at hM
      rw [rest_not hd, if_neg h1] at g2
      rw [g2] at hP
      simp only [Option.map_none] at hP
      subst hP
      refine hM.useE [] [(0, 1), (1, 0), (2, 2)] rfl (by (repeat' first | exact trivial | exact rfl | exact ⟨rfl, rfl⟩ | exact .inl rfl | refine ⟨_, rfl, rfl, rfl, ?_⟩ | refine ⟨_, _, rfl, ?_, ?_⟩ | refine ⟨_, rfl, ?_⟩ | refine And.intro ?_ ?_)) (by (repeat' first | exact trivial | exact rfl | exact ⟨rfl, rfl⟩ | exact .inl rfl | refine ⟨_, rfl, rfl, rfl, ?_⟩ | refine ⟨_, _, rfl, ?_, ?_⟩ | refine ⟨_, rfl, ?_⟩ | refine And.intro ?_ ?_)) ?_
      exact ⟨[], [], [], .returned (vB false), ⟨1, []⟩, rfl, by (repeat' first | exact trivial | exact rfl | exact ⟨rfl, rfl⟩ | exact .inl rfl | refine ⟨_, rfl, rfl, rfl, ?_⟩ | refine ⟨_, _, rfl, ?_, ?_⟩ | refine ⟨_, rfl, ?_⟩ | refine And.intro ?_ ?_), trivial, And.intro rfl rfl⟩
    have hb := (ahead_split hd).2.2
    rw [rest_in hd] at g2
    rw [nextL, if_pos hd, nextR, if_pos hd] at hM
    refine Or.elim (optC (allS true (splitC 32 (r.take (ahead 10 r))))) (fun hm => ?_) (fun hm => Exists.elim hm fun l hm => ?_)
    · rw [hm] at hM g2
      rw [g2] at hP
      simp only [Option.map_none] at hP
      subst hP
      refine hM.useE [] [(0, 1), (1, 0), (2, 2)] rfl (by (repeat' first | exact trivial | exact rfl | exact ⟨rfl, rfl⟩ | exact .inl rfl | refine ⟨_, rfl, rfl, rfl, ?_⟩ | refine ⟨_, _, rfl, ?_, ?_⟩ | refine ⟨_, rfl, ?_⟩ | refine And.intro ?_ ?_)) (by (repeat' first | exact trivial | exact rfl | exact ⟨rfl, rfl⟩ | exact .inl rfl | refine ⟨_, rfl, rfl, rfl, ?_⟩ | refine ⟨_, _, rfl, ?_, ?_⟩ | refine ⟨_, rfl, ?_⟩ | refine And.intro ?_ ?_)) ?_
      exact ⟨[], [], [], .returned (vB false), ⟨1, []⟩, rfl, by (repeat' first | exact trivial | exact rfl | exact ⟨rfl, rfl⟩ | exact .inl rfl | refine ⟨_, rfl, rfl, rfl, ?_⟩ | refine ⟨_, _, rfl, ?_, ?_⟩ | refine ⟨_, rfl, ?_⟩ | refine And.intro ?_ ?_), trivial, And.intro rfl rfl⟩
    · rw [hm] at hM g2
      simp only [] at g2
      rw [mapc_snoc] at g2
      refine hM.useE [] [(0, 1), (1, 0), (2, 2)] rfl (by (repeat' first | exact trivial | exact rfl | exact ⟨rfl, rfl⟩ | exact .inl rfl | refine ⟨_, rfl, rfl, rfl, ?_⟩ | refine ⟨_, _, rfl, ?_, ?_⟩ | refine ⟨_, rfl, ?_⟩ | refine And.intro ?_ ?_)) (by (repeat' first | exact trivial | exact rfl | exact ⟨rfl, rfl⟩ | exact .inl rfl | refine ⟨_, rfl, rfl, rfl, ?_⟩ | refine ⟨_, _, rfl, ?_, ?_⟩ | refine ⟨_, rfl, ?_⟩ | refine And.intro ?_ ?_)) ?_
      refine VDraw.seq rfl ?_
      refine ⟨by (repeat' first | exact trivial | exact rfl | exact ⟨rfl, rfl⟩ | exact .inl rfl | refine ⟨_, rfl, rfl, rfl, ?_⟩ | refine ⟨_, _, rfl, ?_, ?_⟩ | refine ⟨_, rfl, ?_⟩ | refine And.intro ?_ ?_), ?_⟩
      refine ⟨by show 0 + 1 ≤ 1; omega, [ints l], rfl, ?_⟩
      refine ⟨by show 0 + acc.length ≤ (acc.map ints).length; simp, acc.map ints, takeAll (by simp), by show (acc.length + 1) * 24 ≤ 140737488355328; omega, (acc ++ [l]).map ints, by simp, ?_⟩
      refine ⟨by (repeat' first | exact trivial | exact rfl | exact ⟨rfl, rfl⟩ | exact .inl rfl | refine ⟨_, rfl, rfl, rfl, ?_⟩ | refine ⟨_, _, rfl, ?_, ?_⟩ | refine ⟨_, rfl, ?_⟩ | refine And.intro ?_ ?_), ?_⟩
      refine ⟨(acc ++ [l], r.drop (ahead 10 r + 1)), ⟨by simp only [List.length_append, List.length_singleton, List.length_drop]; omega, g2⟩, ent_of [] [(2, 4)] [] rfl (by (repeat' first | exact trivial | exact rfl | exact ⟨rfl, rfl⟩ | exact .inl rfl | refine ⟨_, rfl, rfl, rfl, ?_⟩ | refine ⟨_, _, rfl, ?_, ?_⟩ | refine ⟨_, rfl, ?_⟩ | refine And.intro ?_ ?_)) ⟨⟨_, rfl, rfl, rfl, rfl⟩, ⟨_, rfl, rfl, rfl, _, rfl, by (repeat' first | exact trivial | exact rfl | exact ⟨rfl, rfl⟩ | exact .inl rfl | refine ⟨_, rfl, rfl, rfl, ?_⟩ | refine ⟨_, _, rfl, ?_, ?_⟩ | refine ⟨_, rfl, ?_⟩ | refine And.intro ?_ ?_)⟩, ⟨_, rfl, rfl, rfl, _, rfl, _, _, rfl, rfl, _, _, rfl, congrArg (fun n => AV.sl 4 1 0 n) (snoc_len acc l).symm, by (repeat' first | exact trivial | exact rfl | exact ⟨rfl, rfl⟩ | exact .inl rfl | refine ⟨_, rfl, rfl, rfl, ?_⟩ | refine ⟨_, _, rfl, ?_, ?_⟩ | refine ⟨_, rfl, ?_⟩ | refine And.intro ?_ ?_)⟩, trivial⟩ rfl, by simp only [List.length_drop]; omega⟩
end Go.Proofs.YtmdmjnfdemgpoaaDoor

/- Package data: Parse equals the reference. -/
namespace Go.Proofs.YtmdmjnfdemgpoaaDoor
open Go Y
set_option maxRecDepth 100000
set_option maxHeartbeats 4000000

theorem step1 (c : UInt8) : stepW true [c] = digQ c := by
  unfold stepW digQ
  by_cases h : c = 63
  · subst h; rfl
  · rw [if_neg (by simp [h])]
    have h' : ¬ c.toNat = 63 := fun e => h (UInt8.toNat_inj.1 e)
    simp only [h', if_false]
theorem step_two {m : Bool} {a b : UInt8} {r : List UInt8} : stepW m (a :: b :: r) = none := by
  unfold stepW; rw [if_neg (by simp)]
theorem all_nums : ∀ (n : Nat) (w : List UInt8), w.length ≤ n → allS true (splitC 32 w) = numsN w
  | 0, w, h => by
    have : w = [] := List.eq_nil_of_length_eq_zero (by omega)
    subst this
    rfl
  | n + 1, [], _ => rfl
  | n + 1, [c], _ => by
    by_cases h : c = 32
    · subst h; rfl
    · have e : splitC 32 [c] = [[c]] := split_not (by simpa using fun e => h e.symm)
      rw [e, allS, step1, numsN, if_neg (by simp), scanN]
      cases digQ c <;> rfl
  | n + 1, c :: d :: r, h => by
    have ih := all_nums n r (by simp at h; omega)
    have hp : (c :: d :: r).length % 2 = r.length % 2 := by simp only [List.length_cons]; omega
    by_cases hc : c = 32
    · subst hc
      rw [splitC, if_pos rfl, allS, numsN]
      have e1 : stepW true [] = none := rfl
      have e2 : digQ 32 = none := rfl
      rw [e1, scanN, e2]
      simp
    · rw [splitC, if_neg hc, splitC]
      by_cases hd : d = 32
      · subst hd
        rw [if_pos rfl]
        simp only []
        rw [allS, step1, ih, numsN, numsN, hp]
        have e3 : scanN false (c :: 32 :: r) = match digQ c with
          | some x => (scanN false r).map (x :: ·)
          | none => none := rfl
        rw [e3]
        cases digQ c with
        | none => simp only []; split <;> rfl
        | some x => simp only []; split <;> rfl
      · rw [if_neg hd]
        have hd' : ¬ d.toNat = 32 := fun e => hd (UInt8.toNat_inj.1 e)
        have e0 : numsN (c :: d :: r) = none := by
          rw [numsN, scanN, scanN, if_neg hd']
          cases digQ c <;> simp
        rw [e0]
        cases splitC 32 r with
        | nil => rw [allS, step_two]
        | cons x xs => rw [allS, step_two]
theorem all_false {ws : List (List UInt8)} : (allS true ws = none → allS false ws = none) ∧ ∀ l, allS true ws = some l → allS false ws = some l ∨ (allS false ws = none ∧ -1 ∈ l) := by
  induction ws with
  | nil => exact And.intro (fun h => by cases h) (fun l h => Or.inl h)
  | cons w ws ih =>
    by_cases hw : w = [63]
    · subst hw
      have e1 : stepW true [63] = some (-1) := rfl
      have e2 : stepW false [63] = none := rfl
      simp only [allS, e1, e2]
      refine ⟨fun _ => trivial, fun l h => .inr ⟨trivial, ?_⟩⟩
      rw [Option.map_eq_some_iff] at h
      obtain ⟨l', _, rfl⟩ := h
      simp
    · have e : stepW false w = stepW true w := by unfold stepW; rw [if_neg fun h => hw h.1, if_neg fun h => hw h.1]
      simp only [allS, e]
      cases stepW true w with
      | none => exact ⟨fun _ => rfl, fun l h => by cases h⟩
      | some x =>
        simp only []
        refine ⟨fun h => ?_, fun l h => ?_⟩
        · rw [Option.map_eq_none_iff] at h ⊢
          exact ih.1 h
        · rw [Option.map_eq_some_iff] at h
          obtain ⟨l', h1, rfl⟩ := h
          rcases ih.2 l' h1 with h2 | ⟨h2, h3⟩
          · exact .inl (by rw [h2]; rfl)
          · exact .inr ⟨by rw [h2]; rfl, by simp [h3]⟩

/-- Words in front. -/
def hd (cur : List UInt8) : List (List UInt8) → List (List UInt8)
  | [] => [cur]
  | w :: ws => (cur ++ w) :: ws
theorem rest_lines : ∀ (t cur : List UInt8), restP (hd cur (splitC 10 t)) = linesR cur t
  | [], cur => by simp [splitC, hd, restP, linesR]
  | c :: r, cur => by
    rw [linesR, splitC]
    by_cases hc : c = 10
    · subst hc
      rw [if_pos rfl, if_pos (by decide)]
      have ih := rest_lines r []
      cases e : splitC 10 r with
      | nil => exact absurd e (split_ne _ _)
      | cons w ws =>
        rw [e] at ih
        simp only [hd, List.nil_append, List.append_nil] at ih ⊢
        rw [restP, all_nums _ _ (Nat.le_refl _), ih]
        cases numsN cur <;> rfl
    · have hc' : ¬ c.toNat = 10 := fun e => hc (UInt8.toNat_inj.1 e)
      rw [if_neg hc, if_neg hc', ← rest_lines r (cur ++ [c])]
      cases splitC 10 r with
      | nil => simp [hd]
      | cons w ws => simp [hd]
theorem hd_nil {l : List (List UInt8)} (h : l ≠ []) : hd [] l = l := by
  cases l with
  | nil => exact absurd rfl h
  | cons w ws => rfl

theorem split_mem {c : UInt8} : ∀ {s w : List UInt8}, w ∈ splitC c s → w.length ≤ s.length
  | [], w, h => by simp [splitC] at h; subst h; simp
  | b :: r, w, h => by
    rw [splitC] at h
    split at h
    · rcases List.mem_cons.1 h with rfl | h
      · simp
      · have := split_mem h; simp; omega
    · split at h
      · simp at h; subst h; simp
      · rename_i x xs e
        rcases List.mem_cons.1 h with rfl | h
        · have := split_mem (s := r) (w := x) (by rw [e]; simp); simp; omega
        · have := split_mem (s := r) (w := w) (by rw [e]; simp [h]); simp; omega
theorem rest_sm : ∀ {ws : List (List UInt8)} {xs : List (List Int)}, restP ws = some xs → xs.length ≤ ws.length ∧ ∀ c ∈ xs, ∃ w ∈ ws, c.length ≤ w.length + 1
  | [], xs, h => by simp [restP] at h
  | [w], xs, h => by
    rw [restP] at h
    split at h
    · injection h with h; subst h; simp
    · cases h
  | w :: w' :: ws, xs, h => by
    rw [restP] at h
    split at h
    · cases h
    · rename_i l e
      rw [Option.map_eq_some_iff] at h
      obtain ⟨ys, h1, rfl⟩ := h
      obtain ⟨h2, h3⟩ := rest_sm h1
      refine ⟨by simp at h2 ⊢; omega, fun c hc => ?_⟩
      rcases List.mem_cons.1 hc with rfl | hc
      · exact ⟨w, by simp, by rw [allS_len e]; exact split_len _ _⟩
      · obtain ⟨v, hv, h4⟩ := h3 c hc
        exact ⟨v, by simp [hv], h4⟩
theorem read_sm {t : List UInt8} {d : Dt} (h : readP t = some d) (ht : t.length ≤ 600) : Sm7 d := by
  have hl := split_len 10 t
  have hm : ∀ w ∈ splitC 10 t, w.length ≤ 600 := fun w hw => Nat.le_trans (split_mem hw) ht
  rw [readP] at h
  split at h
  · cases h
  · cases h
  · rename_i w w' ws e
    rw [e] at hl hm
    split at h
    · cases h
    · rename_i cs e1
      split at h
      · cases h
      · rename_i xs e2
        injection h with h
        subst h
        obtain ⟨h2, h3⟩ := rest_sm e2
        refine ⟨?_, ?_, fun c hc => ?_⟩
        · rw [allS_len e1]
          have := split_len 32 w
          have := hm w (by simp)
          omega
        · simp only [List.length_cons] at hl h2 ⊢; omega
        · obtain ⟨v, hv, h4⟩ := h3 c hc
          have := hm v (by simp at hv ⊢; rcases hv with rfl | hv <;> simp_all)
          omega

theorem parse_eq (t : List UInt8) (ht : t.length ≤ 600) : parseN t = match readP t with
    | some d => if rightP d then (d, 0) else (dtZero, 5)
    | none => (dtZero, 5) := by
  rw [parseN, if_neg (by omega), readP, ← rest_lines t [], hd_nil (split_ne _ _)]
  cases e : splitC 10 t with
  | nil => exact absurd e (split_ne _ _)
  | cons w ws =>
    cases ws with
    | nil =>
      simp only [restP]
      by_cases h : w = []
      · rw [if_pos h]
      · rw [if_neg h]
    | cons w' ws =>
      simp only []
      rw [restP]
      obtain ⟨h1, h2⟩ := all_false (ws := splitC 32 w)
      cases e1 : allS true (splitC 32 w) with
      | none => rw [h1 e1]
      | some l =>
        simp only []
        cases e2 : restP (w' :: ws) with
        | none =>
          simp only [Option.map_none]
          cases allS false (splitC 32 w) <;> rfl
        | some xs =>
          simp only [Option.map_some]
          rcases h2 l e1 with h3 | ⟨h3, h4⟩
          · rw [h3]
          · rw [h3]
            simp only []
            rw [if_neg]
            intro h
            have := (h.2.1 _ h4).1
            omega

theorem parse_c (t : List UInt8) : Pure cx 32 [.str t] (· = .ret (parseV t)) := by
  refine pure_of_vc Tryd.func32 rfl rfl rfl ?_
  (first | refine brLt (fun h1 => ?_) (fun h1 => ?_) | refine brLe (fun h1 => ?_) (fun h1 => ?_) | refine brEq (fun h1 => ?_) (fun h1 => ?_))
  · refine end2 dtZero.pv (i64 3) rfl ⟨_, rfl, _, _, rfl, .inr (.inl rfl), _, _, rfl, .inr (.inl rfl), rfl⟩ rfl ?_
    rw [parseV, parseN, if_pos (by omega)]
  have ht : t.length ≤ 600 := by omega
  have hE := parse_eq t ht
  have hR := read_c t (by omega)
  have bad : parseN t = (dtZero, 5) → PEnd.ret [dtZero.pv, i64 5] = .ret (parseV t) := fun h => by rw [parseV, h]
  refine Or.elim (optC (readP t)) (fun hn => ?_) (fun hn => Exists.elim hn fun d hn => ?_)
  · rw [hn] at hR hE
    refine hR.useE [] [(0, 1)] rfl (by (repeat' first | exact trivial | exact rfl | exact ⟨rfl, rfl⟩ | exact .inl rfl | refine ⟨_, rfl, rfl, rfl, ?_⟩ | refine ⟨_, _, rfl, ?_, ?_⟩ | refine ⟨_, rfl, ?_⟩ | refine And.intro ?_ ?_)) (by (repeat' first | exact trivial | exact rfl | exact ⟨rfl, rfl⟩ | exact .inl rfl | refine ⟨_, rfl, rfl, rfl, ?_⟩ | refine ⟨_, _, rfl, ?_, ?_⟩ | refine ⟨_, rfl, ?_⟩ | refine And.intro ?_ ?_)) ?_
    exact end2 dtZero.pv (i64 5) rfl ⟨_, rfl, _, _, rfl, .inr (.inl rfl), _, _, rfl, .inr (.inl rfl), rfl⟩ rfl (bad hE)
  · have hS := read_sm hn ht
    rw [hn] at hR hE
    simp only [] at hE
    have hC := check_c d hS
    refine hR.useE [] [(0, 1)] rfl (by (repeat' first | exact trivial | exact rfl | exact ⟨rfl, rfl⟩ | exact .inl rfl | refine ⟨_, rfl, rfl, rfl, ?_⟩ | refine ⟨_, _, rfl, ?_, ?_⟩ | refine ⟨_, rfl, ?_⟩ | refine And.intro ?_ ?_)) (by (repeat' first | exact trivial | exact rfl | exact ⟨rfl, rfl⟩ | exact .inl rfl | refine ⟨_, rfl, rfl, rfl, ?_⟩ | refine ⟨_, _, rfl, ?_, ?_⟩ | refine ⟨_, rfl, ?_⟩ | refine And.intro ?_ ?_)) ?_
    obtain ⟨cs, xs⟩ := d
    by_cases hr : rightP ⟨cs, xs⟩
    · rw [checkD, if_pos hr] at hC
      rw [if_pos hr] at hE
      refine hC.lends [2] rfl ⟨_, _, rfl, ⟨_, rfl, _, _, rfl, rfl, _, _, rfl, ⟨_, rfl, by show 0 + xs.length ≤ (xs.map ints).length; simp, takeAll (by simp)⟩, rfl⟩, rfl⟩ ?_
      refine And.intro (fun _ => ?_) (fun h => absurd rfl h)
      refine end2 (Dt.mk cs xs).pv (i64 0) rfl ⟨_, rfl, _, _, rfl, rfl, _, _, rfl, ⟨_, rfl, by show 0 + xs.length ≤ (xs.map ints).length; simp, takeAll (by simp)⟩, rfl⟩ rfl (by rw [parseV, hE])
    · rw [checkD, if_neg hr] at hC
      rw [if_neg hr] at hE
      refine hC.lends [2] rfl ⟨_, _, rfl, ⟨_, rfl, _, _, rfl, rfl, _, _, rfl, ⟨_, rfl, by show 0 + xs.length ≤ (xs.map ints).length; simp, takeAll (by simp)⟩, rfl⟩, rfl⟩ ?_
      refine And.intro (fun h => absurd (show (250 : Int) = 0 from h) (by decide)) (fun _ => ?_)
      exact end2 dtZero.pv (i64 5) rfl ⟨_, rfl, _, _, rfl, .inr (.inl rfl), _, _, rfl, .inr (.inl rfl), rfl⟩ rfl (bad hE)
end Go.Proofs.YtmdmjnfdemgpoaaDoor

/- Drafts of data. -/
namespace Go.Proofs.YtmdmjnfdemgpoaaDoor
open Go Y
set_option maxRecDepth 100000
set_option maxHeartbeats 4000000

structure Df where
  cards : List UInt8
  cases : List (List UInt8)
  follow : UInt8
  missing : List UInt8
abbrev u8s (l : List UInt8) : List PV := l.map u8
abbrev Df.cells (d : Df) : List PV := [.lst (u8s d.cards), .lsts 5 (d.cases.map u8s), u8 d.follow, .lst (u8s d.missing)]
abbrev Df.pv (d : Df) : PV := .agg d.cells
def dfO' (d : Df) : AObj := ⟨25, false, .bx (d.cells.map .p)⟩

theorem ucell {l : List UInt8} {k : Nat} (h : k < l.length) : (u8s l)[k]? = some (u8 (l.getD k 0)) := by
  show (l.map u8)[k]? = _
  rw [List.getElem?_map, List.getD_eq_getElem?_getD, List.getElem?_eq_getElem h]; rfl
theorem uucell {l : List (List UInt8)} {k : Nat} (h : k < l.length) : (l.map u8s)[k]? = some (u8s (l.getD k [])) := by
  rw [List.getElem?_map, List.getD_eq_getElem?_getD, List.getElem?_eq_getElem h]; rfl
theorem lenU (l : List UInt8) : (u8s l).length = l.length := List.length_map ..

/-- Drafted data. -/
structure DrOK (miss : Prop) (d : Dt) : Prop where
  right : rightP d
  whole : ¬ miss → ∀ c ∈ d.cases, ∀ x ∈ c, 0 ≤ x

def okCs (cs : List Int) : Prop := cs.length ≤ 5 ∧ ∀ x ∈ cs, 2 ≤ x ∧ x ≤ 3
theorem prod_le3 {l : List Int} (h : ∀ x ∈ l, 2 ≤ x ∧ x ≤ 3) : 0 ≤ prodN l ∧ prodN l ≤ 3 ^ l.length := by
  induction l with
  | nil => decide
  | cons x l ih =>
    obtain ⟨h1, h2⟩ := ih fun y hy => h y (by simp [hy])
    obtain ⟨h3, h4⟩ := h x (by simp)
    rw [prod_cons]
    refine ⟨Int.mul_nonneg (by omega) h1, ?_⟩
    rw [List.length_cons, Int.pow_succ, Int.mul_comm]
    exact Int.mul_le_mul h2 h4 (by omega) (by omega)
theorem pow3 : ∀ i ≤ 5, (3 : Int) ^ i ≤ 243 := by decide
theorem okCs_prod {cs : List Int} (h : okCs cs) : prodN cs ≤ 1024 := by
  have h1 := (prod_le3 h.2).2
  have h2 := pow3 _ h.1
  omega

def outO (cs : List Int) : AObj := ⟨TD, false, .bx [.sl 3 1 0 cs.length, .p .nils]⟩
def refsO (B : Nat) (rows : List (List Int)) : AObj := ⟨TI, false, .mx (refsL B ((rows.map fun r => r.map i64).map fun r => (0, r.length)))⟩
def outR (cs : List Int) (rows : List (List Int)) : AObj := ⟨TD, false, .bx [.sl 3 1 0 cs.length, .sl 4 1 0 rows.length]⟩
def rowsI (B : Nat) (rows : List (List Int)) : List (Nat × AObj) := rowsL TN B (rows.map fun r => r.map i64)
/-- The drafted data, being made: rows from 10 on. -/
def drL (D : Df) (cs : List Int) (rows : List (List Int)) : List (Nat × AObj) := [(4, refsO 10 rows), (3, iO cs), (2, outR cs rows), (1, zeroO), (0, dfO' D)]
def drH (D : Df) (cs : List Int) (rows : List (List Int)) : Hp := ⟨100, drL D cs rows ++ rowsI 10 rows⟩
def drI (D : Df) (cs : List Int) (rows : List (List Int)) (c : List Int) : Hp := ⟨100, ((5, iO c) :: drL D cs rows) ++ rowsI 10 rows⟩

theorem refs_len (B : Nat) (rows : List (List Int)) : (refsL B ((rows.map fun r => r.map i64).map fun r => (0, r.length))).length = rows.length := by
  rw [refsL_len, List.length_map, List.length_map]
theorem refs_get {B : Nat} {rows : List (List Int)} {i : Nat} (h : i < rows.length) : (refsL B ((rows.map fun r => r.map i64).map fun r => (0, r.length)))[i]? = some (.sl (B + i) 1 0 (rows.getD i []).length) := by
  rw [refsL_get, List.map_map, List.getElem?_map, List.getElem?_eq_getElem h, List.getD_eq_getElem?_getD, List.getElem?_eq_getElem h]
  simp

def inRow (cs r : List Int) : Prop := r.length = cs.length ∧ ∀ i, i < cs.length → 0 ≤ r.getD i 0 ∧ r.getD i 0 < cs.getD i 0

theorem no_rows : ∀ (i : Nat) (r : List PV), (([] : List (List Int)).map fun r => r.map i64)[i]? = some r → False := by simp

theorem rowsI_get {rows : List (List Int)} {i : Nat} {r : List PV} (h : (rows.map fun r => r.map i64)[i]? = some r) : i < rows.length := by
  have := (List.getElem?_eq_some_iff.1 h).1
  simpa using this
theorem row_snoc {rows : List (List Int)} {c : List Int} {i : Nat} {r : List PV} (h : ((rows ++ [c]).map fun r => r.map i64)[i]? = some r) : (i < rows.length ∧ (rows.map fun r => r.map i64)[i]? = some r) ∨ (i = rows.length ∧ r = c.map i64) := by
  rw [List.map_append, List.getElem?_append] at h
  split at h
  · rename_i hl
    rw [List.length_map] at hl
    exact .inl ⟨hl, h⟩
  · rename_i hl
    rw [List.length_map] at hl h
    have h1 := (List.getElem?_eq_some_iff.1 h).1
    simp at h1
    have : i = rows.length := by omega
    subst this
    simp at h
    exact .inr ⟨rfl, h.symm⟩

theorem snoc_get {c : List Int} {y : Int} {i : Nat} (h : i < c.length + 1) : (c ++ [y]).getD i 0 = if i < c.length then c.getD i 0 else y := by
  rw [List.getD_eq_getElem?_getD, List.getElem?_append]
  split
  · rw [List.getD_eq_getElem?_getD]
  · have : i - c.length = 0 := by omega
    rw [this]; rfl
theorem refs_snoc {rows : List (List Int)} {c : List Int} {i : Nat} {x : Nat × Nat} (hx : (((rows ++ [c]).map fun r => r.map i64).map fun r => (0, r.length))[i]? = some x) :
    (refsL 10 ((rows.map fun r => r.map i64).map fun r => (0, r.length)) ++ [AV.sl 5 1 0 c.length])[i]? = some (.sl (if i < rows.length then 10 + i else 5) 1 x.1 x.2) := by
  rw [List.map_append, List.map_append, List.getElem?_append] at hx
  rw [List.getElem?_append, refs_len]
  simp only [List.length_map] at hx
  split
  · rename_i h
    rw [if_pos h] at hx
    rw [refsL_get, hx]
    rfl
  · rename_i h
    rw [if_neg h] at hx
    have h1 := (List.getElem?_eq_some_iff.1 hx).1
    simp at h1
    have : i - rows.length = 0 := by omega
    rw [this] at hx ⊢
    simp at hx
    subst hx
    rfl
def okRow (D : Df) (cs r : List Int) : Prop := okCase cs r ∧ (D.missing = [] → ∀ x ∈ r, 0 ≤ x)
theorem inRow_ok {D : Df} {cs r : List Int} (h : inRow cs r) : okRow D cs r := by
  refine ⟨⟨h.1, fun i hi => by have := h.2 i hi; omega⟩, fun _ x hx => ?_⟩
  obtain ⟨i, hi, rfl⟩ := List.mem_iff_getElem.1 hx
  have h1 := (h.2 i (by have := h.1; omega)).1
  rw [List.getD_eq_getElem?_getD, List.getElem?_eq_getElem hi] at h1
  exact h1
theorem set_lens {rows : List (List Int)} {j : Nat} {r : List Int} (hj : j < rows.length) (hr : r.length = (rows.getD j []).length) : (((rows.set j r).map fun r => r.map i64).map fun r => (0, r.length)) = ((rows.map fun r => r.map i64).map fun r => (0, r.length)) := by
  rw [List.map_map, List.map_map]
  apply List.ext_getElem
  · simp
  · intro i h1 h2
    rw [List.getElem_map, List.getElem_map, List.getElem_set]
    split
    · rename_i h
      subst h
      rw [List.getD_eq_getElem?_getD, List.getElem?_eq_getElem hj] at hr
      simp only [Function.comp, List.length_map]
      exact congrArg (fun n => (0, n)) hr
    · rfl
theorem rows_data {D : Df} {cs : List Int} {rows : List (List Int)} (h0 : okCs cs) (h1 : 1 ≤ cs.length) (h2 : rows.length ≤ 40) (h3 : ∀ r ∈ rows, okRow D cs r) : DrOK (D.missing ≠ []) ⟨cs, rows⟩ := by
  refine ⟨⟨⟨h1, by have := h0.1; simp only []; omega, h2⟩, fun c hc => ?_, fun c hc => (h3 c hc).1, okCs_prod h0⟩, fun hm c hc => (h3 c hc).2 (Classical.not_not.1 hm)⟩
  have := h0.2 c hc
  exact ⟨by omega, by omega⟩
theorem data_c (D : Df) (h5 : ∀ c ∈ D.cases, c.length = 5) (hms : D.missing.length ≤ 9223372036854775807) : Pure cx 12 [D.pv] fun r => ∃ d, DrOK (D.missing ≠ []) d ∧ r = .ret [d.pv] := by
  refine pure_of_vc Tryd.func12 rfl rfl rfl ?_
  apply cut
  case h =>
    intro key
    refine ⟨Nat × List Int, fun x => [(1, .ptr 0 0 0), (2, .ptr 1 0 0), (3, .ptr 2 0 0), (4, .p (i64 x.1))], fun x => ⟨4, [(3, iO x.2), (2, outO x.2), (1, zeroO), (0, dfO' D)]⟩, fun x => x.1 ≤ D.cards.length ∧ x.2.length = x.1 ∧ okCs x.2, fun x => D.cards.length - x.1, ?_, ?_⟩
    · exact ⟨(0, []), ⟨by simp, rfl, by simp, by simp⟩, ent_of [] [] [(3, 1)] rfl (by (repeat' first | exact trivial | exact rfl | exact ⟨rfl, rfl⟩ | exact .inl rfl | refine ⟨_, rfl, rfl, rfl, ?_⟩ | refine ⟨_, _, rfl, ?_, ?_⟩ | refine ⟨_, rfl, ?_⟩ | refine And.intro ?_ ?_)) (by (repeat' first | exact trivial | exact rfl | exact ⟨rfl, rfl⟩ | exact .inl rfl | refine ⟨_, rfl, rfl, rfl, ?_⟩ | refine ⟨_, _, rfl, ?_, ?_⟩ | refine ⟨_, rfl, ?_⟩ | refine And.intro ?_ ?_)) rfl⟩
    rintro ⟨k, cs⟩ ⟨g1, g2, g3⟩
    simp only [] at g1 g2 g3
    have g4 := g3.1
    (first | refine brLt (fun h1 => ?_) (fun h1 => ?_) | refine brLe (fun h1 => ?_) (fun h1 => ?_) | refine brEq (fun h1 => ?_) (fun h1 => ?_))
    · have h1 : (k : Int) < ((u8s D.cards).length : Nat) := h1
      rw [lenU] at h1
      have hk : k < D.cards.length := by omega
      (first | refine brLt (fun h2 => ?_) (fun h2 => ?_) | refine brLe (fun h2 => ?_) (fun h2 => ?_) | refine brEq (fun h2 => ?_) (fun h2 => ?_))
      · refine VDraw.seq rfl ?_
        refine ⟨_, ⟨by omega, u8 (D.cards.getD k 0), ucell hk, rfl⟩, ?_⟩
        generalize D.cards.getD k 0 = b
        have hb := b.toNat_lt
        have e : ((b.toNat : Nat) : Int).tmod 2 = ((b.toNat % 2 : Nat) : Int) := rfl
        refine ⟨by decide, ?_⟩
        refine ⟨((b.toNat % 2 : Nat) : Int), by show _ = IntKind.i64.wrap (((b.toNat : Nat) : Int).tmod 2); rw [e]; exact wrap_i64 (by omega) (by omega), ?_⟩
        refine ⟨_, wrap_i64 (by omega) (by omega), ?_⟩
        refine ⟨by (repeat' first | exact trivial | exact rfl | exact ⟨rfl, rfl⟩ | exact .inl rfl | refine ⟨_, rfl, rfl, rfl, ?_⟩ | refine ⟨_, _, rfl, ?_, ?_⟩ | refine ⟨_, rfl, ?_⟩ | refine And.intro ?_ ?_), ?_⟩
        refine ⟨by show 0 + 1 ≤ 1; omega, [i64 (2 + ((b.toNat % 2 : Nat) : Int))], rfl, ?_⟩
        refine ⟨by show 0 + cs.length ≤ (cs.map i64).length; simp, cs.map i64, takeAll (by simp), by show (cs.length + 1) * 8 ≤ 140737488355328; omega, (cs ++ [2 + ((b.toNat % 2 : Nat) : Int)]).map i64, by simp, ?_⟩
        refine ⟨_, wrap_i64 (by omega) (by omega), ?_⟩
        refine ⟨(k + 1, cs ++ [2 + ((b.toNat % 2 : Nat) : Int)]), ⟨by simp only []; omega, by simp only [List.length_append, List.length_singleton]; omega, by simp only [List.length_append, List.length_singleton]; omega, fun x hx => ?_⟩, ent_of [] [(3, 5)] [] rfl (by (repeat' first | exact trivial | exact rfl | exact ⟨rfl, rfl⟩ | exact .inl rfl | refine ⟨_, rfl, rfl, rfl, ?_⟩ | refine ⟨_, _, rfl, ?_, ?_⟩ | refine ⟨_, rfl, ?_⟩ | refine And.intro ?_ ?_)) ⟨⟨_, rfl, rfl, rfl, rfl⟩, ⟨_, rfl, rfl, rfl, _, rfl, _, _, rfl, congrArg (fun n => AV.sl 5 1 0 n) (snoc_len cs _).symm, by (repeat' first | exact trivial | exact rfl | exact ⟨rfl, rfl⟩ | exact .inl rfl | refine ⟨_, rfl, rfl, rfl, ?_⟩ | refine ⟨_, _, rfl, ?_, ?_⟩ | refine ⟨_, rfl, ?_⟩ | refine And.intro ?_ ?_)⟩, ⟨_, rfl, rfl, rfl, _, rfl, by (repeat' first | exact trivial | exact rfl | exact ⟨rfl, rfl⟩ | exact .inl rfl | refine ⟨_, rfl, rfl, rfl, ?_⟩ | refine ⟨_, _, rfl, ?_, ?_⟩ | refine ⟨_, rfl, ?_⟩ | refine And.intro ?_ ?_)⟩, ⟨_, rfl, rfl, rfl, _, rfl, by (repeat' first | exact trivial | exact rfl | exact ⟨rfl, rfl⟩ | exact .inl rfl | refine ⟨_, rfl, rfl, rfl, ?_⟩ | refine ⟨_, _, rfl, ?_, ?_⟩ | refine ⟨_, rfl, ?_⟩ | refine And.intro ?_ ?_)⟩, trivial⟩ rfl, by simp only []; omega⟩
        rcases List.mem_append.1 hx with hx | hx
        · exact g3.2 x hx
        · simp only [List.mem_singleton] at hx; omega
      · (first | refine brLt (fun h3 => ?_) (fun h3 => ?_) | refine brLe (fun h3 => ?_) (fun h3 => ?_) | refine brEq (fun h3 => ?_) (fun h3 => ?_))
        · refine ⟨List Int × Nat × List (List Int), fun x => [(1, .ptr 0 0 0), (2, .ptr 1 0 0), (3, .ptr 2 0 0), (5, .p (i64 x.2.1))], fun x => drH D x.1 x.2.2, fun x => (okCs x.1 ∧ 1 ≤ x.1.length) ∧ x.2.1 ≤ D.cases.length ∧ x.2.2.length = x.2.1 ∧ x.2.2.length ≤ 40 ∧ ∀ r ∈ x.2.2, inRow x.1 r, fun x => D.cases.length - x.2.1, ?_, key.get⟩
          exact ⟨([2], 0, []), ⟨⟨⟨by simp, by simp⟩, by simp⟩, by simp, rfl, by simp, by simp⟩, ent_rows 10 [(3, 4)] [(4, 1)] (fun i => i) rfl (by simp) (fun i j h => by simp at h) (fun i h => by simp at h) (fun i r h => (no_rows i r h).elim) ⟨⟨rfl, rfl⟩, ⟨rfl, rfl⟩, ⟨rfl, rfl⟩, rfl, trivial⟩ ⟨⟨rfl, rfl, rfl⟩, ⟨_, rfl, rfl, rfl, rfl⟩, ⟨_, rfl, rfl, rfl, _, rfl, by (repeat' first | exact trivial | exact rfl | exact ⟨rfl, rfl⟩ | exact .inl rfl | refine ⟨_, rfl, rfl, rfl, ?_⟩ | refine ⟨_, _, rfl, ?_, ?_⟩ | refine ⟨_, rfl, ?_⟩ | refine And.intro ?_ ?_)⟩, ⟨_, rfl, rfl, rfl, _, rfl, by (repeat' first | exact trivial | exact rfl | exact ⟨rfl, rfl⟩ | exact .inl rfl | refine ⟨_, rfl, rfl, rfl, ?_⟩ | refine ⟨_, _, rfl, ?_, ?_⟩ | refine ⟨_, rfl, ?_⟩ | refine And.intro ?_ ?_)⟩, ⟨_, rfl, rfl, rfl, _, rfl, by (repeat' first | exact trivial | exact rfl | exact ⟨rfl, rfl⟩ | exact .inl rfl | refine ⟨_, rfl, rfl, rfl, ?_⟩ | refine ⟨_, _, rfl, ?_, ?_⟩ | refine ⟨_, rfl, ?_⟩ | refine And.intro ?_ ?_)⟩, trivial⟩ rfl⟩
        · have h3 : ¬ (cs.length : Int) = 0 := h3
          have hlen : 1 ≤ cs.length := by omega
          refine ⟨_, _, _, _, _, ?_, key.get⟩
          exact ⟨(cs, 0, []), ⟨⟨g3, hlen⟩, by simp, rfl, by simp, by simp⟩, ent_rows 10 [] [(4, 1)] (fun i => i) rfl (by simp) (fun i j h => by simp at h) (fun i h => by simp at h) (fun i r h => (no_rows i r h).elim) ⟨⟨rfl, rfl⟩, ⟨rfl, rfl⟩, ⟨rfl, rfl⟩, rfl, trivial⟩ ⟨⟨rfl, rfl, rfl⟩, ⟨_, rfl, rfl, rfl, rfl⟩, ⟨_, rfl, rfl, rfl, _, rfl, by (repeat' first | exact trivial | exact rfl | exact ⟨rfl, rfl⟩ | exact .inl rfl | refine ⟨_, rfl, rfl, rfl, ?_⟩ | refine ⟨_, _, rfl, ?_, ?_⟩ | refine ⟨_, rfl, ?_⟩ | refine And.intro ?_ ?_)⟩, ⟨_, rfl, rfl, rfl, _, rfl, by (repeat' first | exact trivial | exact rfl | exact ⟨rfl, rfl⟩ | exact .inl rfl | refine ⟨_, rfl, rfl, rfl, ?_⟩ | refine ⟨_, _, rfl, ?_, ?_⟩ | refine ⟨_, rfl, ?_⟩ | refine And.intro ?_ ?_)⟩, ⟨_, rfl, rfl, rfl, _, rfl, by (repeat' first | exact trivial | exact rfl | exact ⟨rfl, rfl⟩ | exact .inl rfl | refine ⟨_, rfl, rfl, rfl, ?_⟩ | refine ⟨_, _, rfl, ?_, ?_⟩ | refine ⟨_, rfl, ?_⟩ | refine And.intro ?_ ?_)⟩, trivial⟩ rfl⟩
    · (first | refine brLt (fun h3 => ?_) (fun h3 => ?_) | refine brLe (fun h3 => ?_) (fun h3 => ?_) | refine brEq (fun h3 => ?_) (fun h3 => ?_))
      · refine ⟨List Int × Nat × List (List Int), fun x => [(1, .ptr 0 0 0), (2, .ptr 1 0 0), (3, .ptr 2 0 0), (5, .p (i64 x.2.1))], fun x => drH D x.1 x.2.2, fun x => (okCs x.1 ∧ 1 ≤ x.1.length) ∧ x.2.1 ≤ D.cases.length ∧ x.2.2.length = x.2.1 ∧ x.2.2.length ≤ 40 ∧ ∀ r ∈ x.2.2, inRow x.1 r, fun x => D.cases.length - x.2.1, ?_, key.get⟩
        exact ⟨([2], 0, []), ⟨⟨⟨by simp, by simp⟩, by simp⟩, by simp, rfl, by simp, by simp⟩, ent_rows 10 [(3, 4)] [(4, 1)] (fun i => i) rfl (by simp) (fun i j h => by simp at h) (fun i h => by simp at h) (fun i r h => (no_rows i r h).elim) ⟨⟨rfl, rfl⟩, ⟨rfl, rfl⟩, ⟨rfl, rfl⟩, rfl, trivial⟩ ⟨⟨rfl, rfl, rfl⟩, ⟨_, rfl, rfl, rfl, rfl⟩, ⟨_, rfl, rfl, rfl, _, rfl, by (repeat' first | exact trivial | exact rfl | exact ⟨rfl, rfl⟩ | exact .inl rfl | refine ⟨_, rfl, rfl, rfl, ?_⟩ | refine ⟨_, _, rfl, ?_, ?_⟩ | refine ⟨_, rfl, ?_⟩ | refine And.intro ?_ ?_)⟩, ⟨_, rfl, rfl, rfl, _, rfl, by (repeat' first | exact trivial | exact rfl | exact ⟨rfl, rfl⟩ | exact .inl rfl | refine ⟨_, rfl, rfl, rfl, ?_⟩ | refine ⟨_, _, rfl, ?_, ?_⟩ | refine ⟨_, rfl, ?_⟩ | refine And.intro ?_ ?_)⟩, ⟨_, rfl, rfl, rfl, _, rfl, by (repeat' first | exact trivial | exact rfl | exact ⟨rfl, rfl⟩ | exact .inl rfl | refine ⟨_, rfl, rfl, rfl, ?_⟩ | refine ⟨_, _, rfl, ?_, ?_⟩ | refine ⟨_, rfl, ?_⟩ | refine And.intro ?_ ?_)⟩, trivial⟩ rfl⟩
      · have h3 : ¬ (cs.length : Int) = 0 := h3
        have hlen : 1 ≤ cs.length := by omega
        refine ⟨_, _, _, _, _, ?_, key.get⟩
        exact ⟨(cs, 0, []), ⟨⟨g3, hlen⟩, by simp, rfl, by simp, by simp⟩, ent_rows 10 [] [(4, 1)] (fun i => i) rfl (by simp) (fun i j h => by simp at h) (fun i h => by simp at h) (fun i r h => (no_rows i r h).elim) ⟨⟨rfl, rfl⟩, ⟨rfl, rfl⟩, ⟨rfl, rfl⟩, rfl, trivial⟩ ⟨⟨rfl, rfl, rfl⟩, ⟨_, rfl, rfl, rfl, rfl⟩, ⟨_, rfl, rfl, rfl, _, rfl, by (repeat' first | exact trivial | exact rfl | exact ⟨rfl, rfl⟩ | exact .inl rfl | refine ⟨_, rfl, rfl, rfl, ?_⟩ | refine ⟨_, _, rfl, ?_, ?_⟩ | refine ⟨_, rfl, ?_⟩ | refine And.intro ?_ ?_)⟩, ⟨_, rfl, rfl, rfl, _, rfl, by (repeat' first | exact trivial | exact rfl | exact ⟨rfl, rfl⟩ | exact .inl rfl | refine ⟨_, rfl, rfl, rfl, ?_⟩ | refine ⟨_, _, rfl, ?_, ?_⟩ | refine ⟨_, rfl, ?_⟩ | refine And.intro ?_ ?_)⟩, ⟨_, rfl, rfl, rfl, _, rfl, by (repeat' first | exact trivial | exact rfl | exact ⟨rfl, rfl⟩ | exact .inl rfl | refine ⟨_, rfl, rfl, rfl, ?_⟩ | refine ⟨_, _, rfl, ?_, ?_⟩ | refine ⟨_, rfl, ?_⟩ | refine And.intro ?_ ?_)⟩, trivial⟩ rfl⟩
  case k =>
    rintro ⟨cs, k, rows⟩ ⟨⟨⟨g0, g1⟩, g2⟩, g3, g4, g5, g6⟩
    simp only [] at g0 g1 g2 g3 g4 g5 g6
    apply cut
    case h =>
      intro key
      (first | refine brLt (fun h1 => ?_) (fun h1 => ?_) | refine brLe (fun h1 => ?_) (fun h1 => ?_) | refine brEq (fun h1 => ?_) (fun h1 => ?_))
      · have h1 : (k : Int) < ((D.cases.map u8s).length : Nat) := h1
        rw [List.length_map] at h1
        have hk : k < D.cases.length := by omega
        (first | refine brLt (fun h2 => ?_) (fun h2 => ?_) | refine brLe (fun h2 => ?_) (fun h2 => ?_) | refine brEq (fun h2 => ?_) (fun h2 => ?_))
        · have h2 : (k : Int) < 40 := h2
          refine ⟨Nat × List Int, fun x => [(1, .ptr 0 0 0), (2, .ptr 1 0 0), (3, .ptr 2 0 0), (5, .p (i64 k)), (6, .sl 5 1 0 x.2.length), (7, .p (i64 x.1))], fun x => drI D cs rows x.2, fun x => x.2.length = x.1 ∧ x.1 ≤ cs.length ∧ ∀ i, i < x.1 → 0 ≤ x.2.getD i 0 ∧ x.2.getD i 0 < cs.getD i 0, fun x => cs.length - x.1, ?_, ?_⟩
          · refine ⟨(0, []), ⟨rfl, by simp, fun i hi => by simp at hi⟩, ent_rows 10 [] [(5, 1)] (fun i => 10 + i) rfl (by rw [List.length_map]; omega) (fun i j h1 h2 e => by have e : 10 + i = 10 + j := e; omega) (fun i hi p hp _ => ?_) (fun i r hr => lget_rows TN rfl hr) ⟨⟨rfl, rfl⟩, ⟨rfl, rfl⟩, ⟨rfl, rfl⟩, rfl, ⟨rfl, rfl, rfl, rfl⟩, rfl, trivial⟩ ⟨⟨rfl, rfl, rfl⟩, ⟨_, rfl, rfl, rfl, _, rfl, seeL_refs rfl (by rw [List.length_map, List.length_map]; omega) (refsL_len _ _) fun i x hx => ?_⟩, ⟨_, rfl, rfl, rfl, rfl⟩, ⟨_, rfl, rfl, rfl, _, rfl, by (repeat' first | exact trivial | exact rfl | exact ⟨rfl, rfl⟩ | exact .inl rfl | refine ⟨_, rfl, rfl, rfl, ?_⟩ | refine ⟨_, _, rfl, ?_, ?_⟩ | refine ⟨_, rfl, ?_⟩ | refine And.intro ?_ ?_)⟩, ⟨_, rfl, rfl, rfl, _, rfl, by (repeat' first | exact trivial | exact rfl | exact ⟨rfl, rfl⟩ | exact .inl rfl | refine ⟨_, rfl, rfl, rfl, ?_⟩ | refine ⟨_, _, rfl, ?_, ?_⟩ | refine ⟨_, rfl, ?_⟩ | refine And.intro ?_ ?_)⟩, ⟨_, rfl, rfl, rfl, _, rfl, by (repeat' first | exact trivial | exact rfl | exact ⟨rfl, rfl⟩ | exact .inl rfl | refine ⟨_, rfl, rfl, rfl, ?_⟩ | refine ⟨_, _, rfl, ?_, ?_⟩ | refine ⟨_, rfl, ?_⟩ | refine And.intro ?_ ?_)⟩, trivial⟩ rfl⟩
            · exact names_off (a := 10) (b := 100) rfl (Nat.le_add_right 10 _) (by have hi := hi; rw [List.length_map] at hi; show 10 + i < 100; omega) p hp ‹_›
            · rw [refsL_get, hx]; rfl
          rintro ⟨v, c⟩ ⟨q1, q2, q3⟩
          simp only [] at q1 q2 q3
          (first | refine brLt (fun h3 => ?_) (fun h3 => ?_) | refine brLe (fun h3 => ?_) (fun h3 => ?_) | refine brEq (fun h3 => ?_) (fun h3 => ?_))
          · have h3 : (v : Int) < (cs.length : Nat) := h3
            have hv : v < cs.length := by omega
            have hcv := g1 _ (getD_memL 0 hv)
            have hl5 := h5 _ (getD_memL [] hk)
            obtain ⟨row, hrow⟩ : ∃ row, row = D.cases.getD k [] := ⟨_, rfl⟩
            rw [← hrow] at hl5
            refine ⟨_, ⟨by omega, u8s row, by rw [hrow]; exact uucell hk, rfl⟩, ?_⟩
            refine ⟨_, ⟨⟨by omega, by show (v : Int) < 5; omega⟩, _, getN1 (show (u8s row)[(v : Int).toNat * (0 + 1)]? = some (u8 (row.getD v 0)) by rw [show (v : Int).toNat * (0 + 1) = v by omega]; exact ucell (by omega)), rfl⟩, ?_⟩
            generalize row.getD v 0 = b
            have hb := b.toNat_lt
            refine ⟨(b.toNat : Int), wrap_i64 (by omega) (by omega), ?_⟩
            (first | refine brLt (fun h4 => ?_) (fun h4 => ?_) | refine brLe (fun h4 => ?_) (fun h4 => ?_) | refine brEq (fun h4 => ?_) (fun h4 => ?_))
            · refine ⟨by decide, ?_⟩
              refine ⟨by decide, ?_⟩
              refine ⟨((D.follow.toNat % 8 : Nat) : Int), wrap_i64 (by omega) (by omega), ?_⟩
              (first | refine brLt (fun h6 => ?_) (fun h6 => ?_) | refine brLe (fun h6 => ?_) (fun h6 => ?_) | refine brEq (fun h6 => ?_) (fun h6 => ?_))
              · refine ⟨(v : Int) - 1, wrap_i64 (by omega) (by omega), ?_⟩
                refine ⟨by show (0 : Int) ≤ (v : Int) - 1 ∧ (v : Int) - 1 < (c.length : Nat); omega, ?_⟩
                have hv1 : ((v : Int) - 1).toNat = v - 1 := by omega
                obtain ⟨w1, w2⟩ := q3 (v - 1) (by omega)
                refine ⟨_, ⟨i64 (c.getD (v - 1) 0), by show (c.map i64)[0 + ((v : Int) - 1).toNat]? = _; rw [Nat.zero_add, hv1]; exact icell (by omega), rfl⟩, ?_⟩
                have hy := Int.tmod_lt_of_pos ((c.getD (v - 1) 0) : Int) (show 0 < cs.getD v 0 by omega)
                have hy0 := Int.tmod_nonneg (cs.getD v 0) (show 0 ≤ ((c.getD (v - 1) 0) : Int) by omega)
                refine ⟨by show (0 : Int) ≤ v ∧ (v : Int) < (cs.length : Nat); omega, ?_⟩
                refine ⟨_, ⟨i64 (cs.getD v 0), by show (cs.map i64)[0 + v]? = _; rw [Nat.zero_add]; exact icell hv, rfl⟩, ?_⟩
                refine ⟨show cs.getD v 0 ≠ 0 by omega, ?_⟩
                obtain ⟨y, hyy⟩ : ∃ y, y = ((c.getD (v - 1) 0) : Int).tmod (cs.getD v 0) := ⟨_, rfl⟩
                rw [← hyy] at hy hy0
                refine ⟨by show 0 + 1 ≤ 1; omega, [i64 y], by rw [hyy]; rfl, ?_⟩
                refine ⟨by show 0 + c.length ≤ (c.map i64).length; simp, c.map i64, takeAll (by simp), by show (c.length + 1) * 8 ≤ 140737488355328; omega, (c ++ [y]).map i64, by simp, ?_⟩
                refine ⟨_, wrap_i64 (by omega) (by omega), ?_⟩
                refine ⟨(v + 1, c ++ [y]), ⟨by simp only [List.length_append, List.length_singleton]; omega, by simp only []; omega, fun i hi => ?_⟩, ent_rows 10 [(5, 101)] [] (fun i => 10 + i) rfl (by rw [List.length_map]; omega) (fun i j h1 h2 e => by have e : 10 + i = 10 + j := e; omega) (fun i hi p hp _ => ?_) (fun i r hr => ?_) ⟨⟨rfl, rfl⟩, ⟨rfl, rfl⟩, ⟨rfl, rfl⟩, rfl, congrArg (fun n => AV.sl 101 1 0 n) (snoc_len c y).symm, rfl, trivial⟩ ⟨⟨_, rfl, rfl, rfl, rfl⟩, ⟨_, rfl, rfl, rfl, _, rfl, seeL_refs rfl (by rw [List.length_map, List.length_map]; omega) (refsL_len _ _) fun i x hx => ?_⟩, ⟨_, rfl, rfl, rfl, rfl⟩, ⟨_, rfl, rfl, rfl, _, rfl, by (repeat' first | exact trivial | exact rfl | exact ⟨rfl, rfl⟩ | exact .inl rfl | refine ⟨_, rfl, rfl, rfl, ?_⟩ | refine ⟨_, _, rfl, ?_, ?_⟩ | refine ⟨_, rfl, ?_⟩ | refine And.intro ?_ ?_)⟩, ⟨_, rfl, rfl, rfl, _, rfl, by (repeat' first | exact trivial | exact rfl | exact ⟨rfl, rfl⟩ | exact .inl rfl | refine ⟨_, rfl, rfl, rfl, ?_⟩ | refine ⟨_, _, rfl, ?_, ?_⟩ | refine ⟨_, rfl, ?_⟩ | refine And.intro ?_ ?_)⟩, ⟨_, rfl, rfl, rfl, _, rfl, by (repeat' first | exact trivial | exact rfl | exact ⟨rfl, rfl⟩ | exact .inl rfl | refine ⟨_, rfl, rfl, rfl, ?_⟩ | refine ⟨_, _, rfl, ?_, ?_⟩ | refine ⟨_, rfl, ?_⟩ | refine And.intro ?_ ?_)⟩, trivial⟩ rfl, by simp only []; omega⟩
                · simp only [] at hi ⊢
                  rw [snoc_get (by omega)]
                  split
                  · exact q3 i (by omega)
                  · have : i = v := by omega
                    subst this
                    omega
                · exact names_off (a := 10) (b := 100) rfl (Nat.le_add_right 10 _) (by have hi := hi; rw [List.length_map] at hi; show 10 + i < 100; omega) p hp ‹_›
                · show lget ((101, _) :: ldel ((100, _) :: (((5, _) :: drL D cs rows) ++ rowsI 10 rows)) 5) (10 + i) = _
                  have := rowsI_get hr
                  rw [lget_cons_ne (by omega), lget_ldel_ne (by omega), lget_cons_ne (by omega)]
                  exact lget_rows TN rfl hr
                · rw [refsL_get, hx]; rfl
              · have hy := Int.tmod_lt_of_pos ((b.toNat : Int) : Int) (show 0 < cs.getD v 0 by omega)
                have hy0 := Int.tmod_nonneg (cs.getD v 0) (show 0 ≤ ((b.toNat : Int) : Int) by omega)
                refine ⟨by show (0 : Int) ≤ v ∧ (v : Int) < (cs.length : Nat); omega, ?_⟩
                refine ⟨_, ⟨i64 (cs.getD v 0), by show (cs.map i64)[0 + v]? = _; rw [Nat.zero_add]; exact icell hv, rfl⟩, ?_⟩
                refine ⟨show cs.getD v 0 ≠ 0 by omega, ?_⟩
                obtain ⟨y, hyy⟩ : ∃ y, y = ((b.toNat : Int) : Int).tmod (cs.getD v 0) := ⟨_, rfl⟩
                rw [← hyy] at hy hy0
                refine ⟨by show 0 + 1 ≤ 1; omega, [i64 y], by rw [hyy]; rfl, ?_⟩
                refine ⟨by show 0 + c.length ≤ (c.map i64).length; simp, c.map i64, takeAll (by simp), by show (c.length + 1) * 8 ≤ 140737488355328; omega, (c ++ [y]).map i64, by simp, ?_⟩
                refine ⟨_, wrap_i64 (by omega) (by omega), ?_⟩
                refine ⟨(v + 1, c ++ [y]), ⟨by simp only [List.length_append, List.length_singleton]; omega, by simp only []; omega, fun i hi => ?_⟩, ent_rows 10 [(5, 101)] [] (fun i => 10 + i) rfl (by rw [List.length_map]; omega) (fun i j h1 h2 e => by have e : 10 + i = 10 + j := e; omega) (fun i hi p hp _ => ?_) (fun i r hr => ?_) ⟨⟨rfl, rfl⟩, ⟨rfl, rfl⟩, ⟨rfl, rfl⟩, rfl, congrArg (fun n => AV.sl 101 1 0 n) (snoc_len c y).symm, rfl, trivial⟩ ⟨⟨_, rfl, rfl, rfl, rfl⟩, ⟨_, rfl, rfl, rfl, _, rfl, seeL_refs rfl (by rw [List.length_map, List.length_map]; omega) (refsL_len _ _) fun i x hx => ?_⟩, ⟨_, rfl, rfl, rfl, rfl⟩, ⟨_, rfl, rfl, rfl, _, rfl, by (repeat' first | exact trivial | exact rfl | exact ⟨rfl, rfl⟩ | exact .inl rfl | refine ⟨_, rfl, rfl, rfl, ?_⟩ | refine ⟨_, _, rfl, ?_, ?_⟩ | refine ⟨_, rfl, ?_⟩ | refine And.intro ?_ ?_)⟩, ⟨_, rfl, rfl, rfl, _, rfl, by (repeat' first | exact trivial | exact rfl | exact ⟨rfl, rfl⟩ | exact .inl rfl | refine ⟨_, rfl, rfl, rfl, ?_⟩ | refine ⟨_, _, rfl, ?_, ?_⟩ | refine ⟨_, rfl, ?_⟩ | refine And.intro ?_ ?_)⟩, ⟨_, rfl, rfl, rfl, _, rfl, by (repeat' first | exact trivial | exact rfl | exact ⟨rfl, rfl⟩ | exact .inl rfl | refine ⟨_, rfl, rfl, rfl, ?_⟩ | refine ⟨_, _, rfl, ?_, ?_⟩ | refine ⟨_, rfl, ?_⟩ | refine And.intro ?_ ?_)⟩, trivial⟩ rfl, by simp only []; omega⟩
                · simp only [] at hi ⊢
                  rw [snoc_get (by omega)]
                  split
                  · exact q3 i (by omega)
                  · have : i = v := by omega
                    subst this
                    omega
                · exact names_off (a := 10) (b := 100) rfl (Nat.le_add_right 10 _) (by have hi := hi; rw [List.length_map] at hi; show 10 + i < 100; omega) p hp ‹_›
                · show lget ((101, _) :: ldel ((100, _) :: (((5, _) :: drL D cs rows) ++ rowsI 10 rows)) 5) (10 + i) = _
                  have := rowsI_get hr
                  rw [lget_cons_ne (by omega), lget_ldel_ne (by omega), lget_cons_ne (by omega)]
                  exact lget_rows TN rfl hr
                · rw [refsL_get, hx]; rfl
            · have hy := Int.tmod_lt_of_pos ((b.toNat : Int) : Int) (show 0 < cs.getD v 0 by omega)
              have hy0 := Int.tmod_nonneg (cs.getD v 0) (show 0 ≤ ((b.toNat : Int) : Int) by omega)
              refine ⟨by show (0 : Int) ≤ v ∧ (v : Int) < (cs.length : Nat); omega, ?_⟩
              refine ⟨_, ⟨i64 (cs.getD v 0), by show (cs.map i64)[0 + v]? = _; rw [Nat.zero_add]; exact icell hv, rfl⟩, ?_⟩
              refine ⟨show cs.getD v 0 ≠ 0 by omega, ?_⟩
              obtain ⟨y, hyy⟩ : ∃ y, y = ((b.toNat : Int) : Int).tmod (cs.getD v 0) := ⟨_, rfl⟩
              rw [← hyy] at hy hy0
              refine ⟨by show 0 + 1 ≤ 1; omega, [i64 y], by rw [hyy]; rfl, ?_⟩
              refine ⟨by show 0 + c.length ≤ (c.map i64).length; simp, c.map i64, takeAll (by simp), by show (c.length + 1) * 8 ≤ 140737488355328; omega, (c ++ [y]).map i64, by simp, ?_⟩
              refine ⟨_, wrap_i64 (by omega) (by omega), ?_⟩
              refine ⟨(v + 1, c ++ [y]), ⟨by simp only [List.length_append, List.length_singleton]; omega, by simp only []; omega, fun i hi => ?_⟩, ent_rows 10 [(5, 101)] [] (fun i => 10 + i) rfl (by rw [List.length_map]; omega) (fun i j h1 h2 e => by have e : 10 + i = 10 + j := e; omega) (fun i hi p hp _ => ?_) (fun i r hr => ?_) ⟨⟨rfl, rfl⟩, ⟨rfl, rfl⟩, ⟨rfl, rfl⟩, rfl, congrArg (fun n => AV.sl 101 1 0 n) (snoc_len c y).symm, rfl, trivial⟩ ⟨⟨_, rfl, rfl, rfl, rfl⟩, ⟨_, rfl, rfl, rfl, _, rfl, seeL_refs rfl (by rw [List.length_map, List.length_map]; omega) (refsL_len _ _) fun i x hx => ?_⟩, ⟨_, rfl, rfl, rfl, rfl⟩, ⟨_, rfl, rfl, rfl, _, rfl, by (repeat' first | exact trivial | exact rfl | exact ⟨rfl, rfl⟩ | exact .inl rfl | refine ⟨_, rfl, rfl, rfl, ?_⟩ | refine ⟨_, _, rfl, ?_, ?_⟩ | refine ⟨_, rfl, ?_⟩ | refine And.intro ?_ ?_)⟩, ⟨_, rfl, rfl, rfl, _, rfl, by (repeat' first | exact trivial | exact rfl | exact ⟨rfl, rfl⟩ | exact .inl rfl | refine ⟨_, rfl, rfl, rfl, ?_⟩ | refine ⟨_, _, rfl, ?_, ?_⟩ | refine ⟨_, rfl, ?_⟩ | refine And.intro ?_ ?_)⟩, ⟨_, rfl, rfl, rfl, _, rfl, by (repeat' first | exact trivial | exact rfl | exact ⟨rfl, rfl⟩ | exact .inl rfl | refine ⟨_, rfl, rfl, rfl, ?_⟩ | refine ⟨_, _, rfl, ?_, ?_⟩ | refine ⟨_, rfl, ?_⟩ | refine And.intro ?_ ?_)⟩, trivial⟩ rfl, by simp only []; omega⟩
              · simp only [] at hi ⊢
                rw [snoc_get (by omega)]
                split
                · exact q3 i (by omega)
                · have : i = v := by omega
                  subst this
                  omega
              · exact names_off (a := 10) (b := 100) rfl (Nat.le_add_right 10 _) (by have hi := hi; rw [List.length_map] at hi; show 10 + i < 100; omega) p hp ‹_›
              · show lget ((101, _) :: ldel ((100, _) :: (((5, _) :: drL D cs rows) ++ rowsI 10 rows)) 5) (10 + i) = _
                have := rowsI_get hr
                rw [lget_cons_ne (by omega), lget_ldel_ne (by omega), lget_cons_ne (by omega)]
                exact lget_rows TN rfl hr
              · rw [refsL_get, hx]; rfl
          · have h3 : ¬ (v : Int) < (cs.length : Nat) := h3
            refine Or.inr ?_
            refine part1_mx (refs_len _ _) ?_
            refine ⟨by show (rows.length + 1) * 24 ≤ 140737488355328; omega, ?_⟩
            refine ⟨_, wrap_i64 (by omega) (by omega), ?_⟩
            refine ⟨(cs, k + 1, rows ++ [c]), ⟨⟨⟨g0, g1⟩, g2⟩, by simp only []; omega, by simp only [List.length_append, List.length_singleton]; omega, by simp only [List.length_append, List.length_singleton]; omega, fun r hr => ?_⟩, ent_rows 10 [(4, 101)] [] (fun i => if i < rows.length then 10 + i else 5) rfl (by rw [List.length_map, List.length_append]; simp only [List.length_singleton]; omega) (fun i j h1 h2 e => ?_) (fun i hi p hp _ => ?_) (fun i r hr => ?_) ⟨⟨rfl, rfl⟩, ⟨rfl, rfl⟩, ⟨rfl, rfl⟩, rfl, trivial⟩ ⟨⟨_, rfl, rfl, rfl, _, rfl, seeL_refs rfl (by rw [List.length_map, List.length_map, List.length_append]; simp only [List.length_singleton]; omega) ?_ fun i x hx => refs_snoc hx⟩, ⟨_, rfl, rfl, rfl, rfl⟩, ⟨_, rfl, rfl, rfl, _, rfl, _, _, rfl, rfl, _, _, rfl, congrArg (fun n => AV.sl 101 1 0 n) (snoc_len rows c).symm, rfl⟩, ⟨_, rfl, rfl, rfl, _, rfl, by (repeat' first | exact trivial | exact rfl | exact ⟨rfl, rfl⟩ | exact .inl rfl | refine ⟨_, rfl, rfl, rfl, ?_⟩ | refine ⟨_, _, rfl, ?_, ?_⟩ | refine ⟨_, rfl, ?_⟩ | refine And.intro ?_ ?_)⟩, ⟨_, rfl, rfl, rfl, _, rfl, by (repeat' first | exact trivial | exact rfl | exact ⟨rfl, rfl⟩ | exact .inl rfl | refine ⟨_, rfl, rfl, rfl, ?_⟩ | refine ⟨_, _, rfl, ?_, ?_⟩ | refine ⟨_, rfl, ?_⟩ | refine And.intro ?_ ?_)⟩, trivial⟩ rfl, by simp only []; omega⟩
            · rcases List.mem_append.1 hr with hr | hr
              · exact g6 r hr
              · simp only [List.mem_singleton] at hr
                rw [hr]
                exact ⟨show c.length = cs.length by omega, fun i hi => q3 i (by have hi : i < cs.length := hi; omega)⟩
            · simp only [List.length_map, List.length_append, List.length_singleton] at h1 h2
              have e : (if i < rows.length then 10 + i else 5) = (if j < rows.length then 10 + j else 5) := e
              split at e <;> split at e <;> omega
            · simp only [List.length_map, List.length_append, List.length_singleton] at hi
              show Y.look _ p.1 ≠ if i < rows.length then 10 + i else 5
              split
              · exact names_off (a := 10) (b := 100) rfl (Nat.le_add_right 10 _) (by omega) p hp ‹_›
              · exact names_off (a := 5) (b := 6) rfl (by omega) (by omega) p hp ‹_›
            · show lget (lset ((101, _) :: ldel ((100, _) :: (((5, _) :: drL D cs rows) ++ rowsI 10 rows)) 4) 2 _) (if i < rows.length then 10 + i else 5) = _
              rcases row_snoc hr with ⟨h, hr⟩ | ⟨h, rfl⟩
              · rw [if_pos h]
                rw [lget_lset_other (by omega), lget_cons_ne (by omega), lget_ldel_ne (by omega), lget_cons_ne (by omega)]
                exact lget_rows TN rfl hr
              · rw [if_neg (by omega)]
                rfl
            · rw [List.length_append, refs_len]; simp
        · refine ⟨Nat × List (List Int), fun x => [(1, .ptr 0 0 0), (2, .ptr 1 0 0), (3, .ptr 2 0 0), (9, .p (i64 x.1))], fun x => drH D cs x.2, fun x => x.1 ≤ D.missing.length ∧ x.2.length = rows.length ∧ x.2.length ≤ 40 ∧ ∀ r ∈ x.2, okRow D cs r, fun x => D.missing.length - x.1, ?_, key.get⟩
          exact ⟨(0, rows), ⟨by simp, rfl, g5, fun r hr => inRow_ok (g6 r hr)⟩, ent_rows 10 [] [] (fun i => 10 + i) rfl (by rw [List.length_map]; show 10 + rows.length ≤ 100; omega) (fun i j h1 h2 e => by have e : 10 + i = 10 + j := e; omega) (fun i hi p hp _ => names_off (a := 10) (b := 100) rfl (Nat.le_add_right 10 _) (by have hi := hi; rw [List.length_map] at hi; have hi : i < rows.length := hi; show 10 + i < 100; omega) p hp ‹_›) (fun i r hr => lget_rows TN rfl hr) ⟨⟨rfl, rfl⟩, ⟨rfl, rfl⟩, ⟨rfl, rfl⟩, rfl, trivial⟩ ⟨⟨_, rfl, rfl, rfl, _, rfl, seeL_refs rfl (by rw [List.length_map, List.length_map]; show 10 + rows.length ≤ 100; omega) (refsL_len _ _) fun i x hx => by rw [refsL_get, hx]; rfl⟩, ⟨_, rfl, rfl, rfl, rfl⟩, ⟨_, rfl, rfl, rfl, _, rfl, by (repeat' first | exact trivial | exact rfl | exact ⟨rfl, rfl⟩ | exact .inl rfl | refine ⟨_, rfl, rfl, rfl, ?_⟩ | refine ⟨_, _, rfl, ?_, ?_⟩ | refine ⟨_, rfl, ?_⟩ | refine And.intro ?_ ?_)⟩, ⟨_, rfl, rfl, rfl, _, rfl, by (repeat' first | exact trivial | exact rfl | exact ⟨rfl, rfl⟩ | exact .inl rfl | refine ⟨_, rfl, rfl, rfl, ?_⟩ | refine ⟨_, _, rfl, ?_, ?_⟩ | refine ⟨_, rfl, ?_⟩ | refine And.intro ?_ ?_)⟩, ⟨_, rfl, rfl, rfl, _, rfl, by (repeat' first | exact trivial | exact rfl | exact ⟨rfl, rfl⟩ | exact .inl rfl | refine ⟨_, rfl, rfl, rfl, ?_⟩ | refine ⟨_, _, rfl, ?_, ?_⟩ | refine ⟨_, rfl, ?_⟩ | refine And.intro ?_ ?_)⟩, trivial⟩ rfl⟩
      · refine ⟨Nat × List (List Int), fun x => [(1, .ptr 0 0 0), (2, .ptr 1 0 0), (3, .ptr 2 0 0), (9, .p (i64 x.1))], fun x => drH D cs x.2, fun x => x.1 ≤ D.missing.length ∧ x.2.length = rows.length ∧ x.2.length ≤ 40 ∧ ∀ r ∈ x.2, okRow D cs r, fun x => D.missing.length - x.1, ?_, key.get⟩
        exact ⟨(0, rows), ⟨by simp, rfl, g5, fun r hr => inRow_ok (g6 r hr)⟩, ent_rows 10 [] [] (fun i => 10 + i) rfl (by rw [List.length_map]; show 10 + rows.length ≤ 100; omega) (fun i j h1 h2 e => by have e : 10 + i = 10 + j := e; omega) (fun i hi p hp _ => names_off (a := 10) (b := 100) rfl (Nat.le_add_right 10 _) (by have hi := hi; rw [List.length_map] at hi; have hi : i < rows.length := hi; show 10 + i < 100; omega) p hp ‹_›) (fun i r hr => lget_rows TN rfl hr) ⟨⟨rfl, rfl⟩, ⟨rfl, rfl⟩, ⟨rfl, rfl⟩, rfl, trivial⟩ ⟨⟨_, rfl, rfl, rfl, _, rfl, seeL_refs rfl (by rw [List.length_map, List.length_map]; show 10 + rows.length ≤ 100; omega) (refsL_len _ _) fun i x hx => by rw [refsL_get, hx]; rfl⟩, ⟨_, rfl, rfl, rfl, rfl⟩, ⟨_, rfl, rfl, rfl, _, rfl, by (repeat' first | exact trivial | exact rfl | exact ⟨rfl, rfl⟩ | exact .inl rfl | refine ⟨_, rfl, rfl, rfl, ?_⟩ | refine ⟨_, _, rfl, ?_, ?_⟩ | refine ⟨_, rfl, ?_⟩ | refine And.intro ?_ ?_)⟩, ⟨_, rfl, rfl, rfl, _, rfl, by (repeat' first | exact trivial | exact rfl | exact ⟨rfl, rfl⟩ | exact .inl rfl | refine ⟨_, rfl, rfl, rfl, ?_⟩ | refine ⟨_, _, rfl, ?_, ?_⟩ | refine ⟨_, rfl, ?_⟩ | refine And.intro ?_ ?_)⟩, ⟨_, rfl, rfl, rfl, _, rfl, by (repeat' first | exact trivial | exact rfl | exact ⟨rfl, rfl⟩ | exact .inl rfl | refine ⟨_, rfl, rfl, rfl, ?_⟩ | refine ⟨_, _, rfl, ?_, ?_⟩ | refine ⟨_, rfl, ?_⟩ | refine And.intro ?_ ?_)⟩, trivial⟩ rfl⟩
    case k =>
      rintro ⟨m, rows⟩ ⟨k1, k2, k3, k4⟩
      simp only [] at k1 k2 k3 k4
      (first | refine brLt (fun h1 => ?_) (fun h1 => ?_) | refine brLe (fun h1 => ?_) (fun h1 => ?_) | refine brEq (fun h1 => ?_) (fun h1 => ?_))
      · have h1 : (m : Int) < ((u8s D.missing).length : Nat) := h1
        rw [lenU] at h1
        have hm : m < D.missing.length := by omega
        (first | refine brLt (fun h2 => ?_) (fun h2 => ?_) | refine brLe (fun h2 => ?_) (fun h2 => ?_) | refine brEq (fun h2 => ?_) (fun h2 => ?_))
        · have h2 : (0 : Int) < (rows.length : Nat) := h2
          have hne : D.missing ≠ [] := fun e => by rw [e] at hm; simp at hm
          obtain ⟨b, hb⟩ : ∃ b, b = D.missing.getD m 0 := ⟨_, rfl⟩
          have hbl := b.toNat_lt
          have hj : b.toNat / 5 % rows.length < rows.length := Nat.mod_lt _ (by omega)
          obtain ⟨j, hjj⟩ : ∃ j, j = b.toNat / 5 % rows.length := ⟨_, rfl⟩
          rw [← hjj] at hj
          have ej : ((b.toNat / 5 : Nat) : Int).tmod (rows.length : Nat) = (j : Nat) := by rw [hjj]; rfl
          obtain ⟨r, hr⟩ : ∃ r, r = rows.getD j [] := ⟨_, rfl⟩
          have hrm : r ∈ rows := by rw [hr]; exact getD_memL [] hj
          have hok := k4 r hrm
          have hrl := hok.1.1
          have hq : b.toNat % r.length < r.length := Nat.mod_lt _ (by omega)
          obtain ⟨q, hqq⟩ : ∃ q, q = b.toNat % r.length := ⟨_, rfl⟩
          rw [← hqq] at hq
          have eq : ((b.toNat : Nat) : Int).tmod (r.length : Nat) = (q : Nat) := by rw [hqq]; rfl
          have hrow : (rows.map fun r => r.map i64)[j]? = some (r.map i64) := by rw [List.getElem?_map, List.getElem?_eq_getElem hj, hr, List.getD_eq_getElem?_getD, List.getElem?_eq_getElem hj]; rfl
          refine VDraw.seq rfl ?_
          refine ⟨_, ⟨by omega, u8 b, by rw [hb]; exact ucell hm, rfl⟩, ?_⟩
          refine ⟨by decide, ((b.toNat / 5 : Nat) : Int), wrap8 (by omega) (by omega), ?_⟩
          refine ⟨((b.toNat / 5 : Nat) : Int), wrap_i64 (by omega) (by omega), ?_⟩
          refine ⟨show (rows.length : Int) ≠ 0 by omega, ?_⟩
          refine ⟨by show (0 : Int) ≤ ((b.toNat / 5 : Nat) : Int).tmod (rows.length : Nat) ∧ ((b.toNat / 5 : Nat) : Int).tmod (rows.length : Nat) < (rows.length : Nat); rw [ej]; omega, ?_⟩
          show (popLoad Tryd.prog TI (.ptr 4 (0 + (((b.toNat / 5 : Nat) : Int).tmod (rows.length : Nat)).toNat) 0) (lget (drH D cs rows).l)).Then _
          refine then_mx (P := Tryd.prog) (t := TI) (o := refsO 10 rows) (x := .sl (10 + j) 1 0 r.length) rfl rfl rfl (by show (refsL 10 ((rows.map fun r => r.map i64).map fun r => (0, r.length)))[0 + (((b.toNat / 5 : Nat) : Int).tmod (rows.length : Nat)).toNat]? = _; rw [ej, Nat.zero_add, Int.toNat_natCast, hr]; exact refs_get hj) ?_
          refine ⟨_, ⟨by omega, u8 b, by rw [hb]; exact ucell hm, rfl⟩, ?_⟩
          refine ⟨(b.toNat : Int), wrap_i64 (by omega) (by omega), ?_⟩
          refine ⟨show (r.length : Int) ≠ 0 by omega, ?_⟩
          refine ⟨by show (0 : Int) ≤ ((b.toNat : Nat) : Int).tmod (r.length : Nat) ∧ ((b.toNat : Nat) : Int).tmod (r.length : Nat) < (r.length : Nat); rw [eq]; omega, ?_⟩
          conv => whnf
          generalize hz : lget _ _ = z
          rw [show z = some (rowO TN (r.map i64)) from hz.symm.trans (lget_rows (lit := drL D cs rows) (B := 10) TN rfl hrow)]
          refine ⟨by show 0 + (((b.toNat : Nat) : Int).tmod (r.length : Nat)).toNat < (r.map i64).length; rw [eq, List.length_map]; omega, ?_⟩
          generalize hL : lset _ _ _ = L
          rw [show L = drL D cs rows ++ rowsL TN 10 ((rows.map fun r => r.map i64).set j ((r.map i64).set (0 + (((b.toNat : Nat) : Int).tmod (r.length : Nat)).toNat) (i64 (-1)))) from hL.symm.trans (lset_rows (lit := drL D cs rows) (B := 10) TN rfl)]
          refine ⟨_, wrap_i64 (by omega) (by omega), ?_⟩
          refine ⟨(m + 1, rows.set j (r.set q (-1))), ⟨by simp only []; omega, by simp only [List.length_set]; exact k2, by simp only [List.length_set]; exact k3, fun x hx => ?_⟩, ent_rows 10 [] [] (fun i => 10 + i) rfl (by rw [List.length_map, List.length_set]; omega) (fun i j h1 h2 e => by have e : 10 + i = 10 + j := e; omega) (fun i hi p hp _ => names_off (a := 10) (b := 100) rfl (Nat.le_add_right 10 _) (by have hi := hi; rw [List.length_map, List.length_set] at hi; show 10 + i < 100; omega) p hp ‹_›) (fun i r' hr' => ?_) ⟨⟨rfl, rfl⟩, ⟨rfl, rfl⟩, ⟨rfl, rfl⟩, rfl, trivial⟩ ⟨⟨_, rfl, rfl, rfl, _, rfl, seeL_refs rfl (by rw [List.length_map, List.length_map, List.length_set]; omega) ?_ fun i x hx => ?_⟩, ⟨_, rfl, rfl, rfl, rfl⟩, ⟨_, rfl, rfl, rfl, _, rfl, _, _, rfl, rfl, _, _, rfl, congrArg (fun n => AV.sl 4 1 0 n) (List.length_set).symm, rfl⟩, ⟨_, rfl, rfl, rfl, _, rfl, by (repeat' first | exact trivial | exact rfl | exact ⟨rfl, rfl⟩ | exact .inl rfl | refine ⟨_, rfl, rfl, rfl, ?_⟩ | refine ⟨_, _, rfl, ?_, ?_⟩ | refine ⟨_, rfl, ?_⟩ | refine And.intro ?_ ?_)⟩, ⟨_, rfl, rfl, rfl, _, rfl, by (repeat' first | exact trivial | exact rfl | exact ⟨rfl, rfl⟩ | exact .inl rfl | refine ⟨_, rfl, rfl, rfl, ?_⟩ | refine ⟨_, _, rfl, ?_, ?_⟩ | refine ⟨_, rfl, ?_⟩ | refine And.intro ?_ ?_)⟩, trivial⟩ rfl, by simp only []; omega⟩
          · rcases List.mem_or_eq_of_mem_set hx with hx | hx
            · exact k4 x hx
            · rw [hx]
              refine ⟨⟨by rw [List.length_set]; exact hrl, fun i hi => ?_⟩, fun e => absurd e hne⟩
              have h3 := hok.1.2 i hi
              rw [set_getD hq]
              split <;> omega
          · rw [List.map_set, List.map_set] at hr'
            rw [show 0 + (((b.toNat : Nat) : Int).tmod (r.length : Nat)).toNat = q by rw [eq]; omega]
            exact lget_rows TN rfl hr'
          · rw [refsL_len, List.length_map, List.length_map, List.length_map, List.length_map, List.length_set]
          · rw [set_lens hj (by rw [List.length_set, hr])] at hx
            rw [refsL_get, hx]; rfl
        · refine endR (Dt.mk cs rows).pv ?_ ⟨_, rfl, _, _, rfl, ⟨_, rfl, by show 0 + cs.length ≤ (cs.map i64).length; simp, takeAll (by simp)⟩, _, _, rfl, ⟨_, rows.map ints, getN_len (refs_len _ _), rfl, ?_⟩, rfl⟩ ⟨⟨cs, rows⟩, rows_data ⟨g0, g1⟩ g2 k3 k4, rfl⟩
          · exact nodup_rows (T := TN) (B := 10) (lit := [(4, refsO 10 rows), (3, iO cs), (2, outR cs rows), (1, outR cs rows), (0, dfO' D)]) (rows := rows.map fun r => r.map i64) 100 (by rw [List.length_map]; omega) rfl
          · have := resL_refs (T := TN) (d := 2) (B := 10) (rows := rows.map fun r => r.map i64) (L := allFr ([(4, refsO 10 rows), (3, iO cs), (2, outR cs rows), (1, outR cs rows), (0, dfO' D)] ++ rowsI 10 rows)) fun i r hr => lget_allFr_rows TN rfl hr
            have e : (rows.map fun r => r.map i64).map PV.lst = rows.map ints := by rw [List.map_map]; rfl
            rw [e] at this
            exact this
      · refine endR (Dt.mk cs rows).pv ?_ ⟨_, rfl, _, _, rfl, ⟨_, rfl, by show 0 + cs.length ≤ (cs.map i64).length; simp, takeAll (by simp)⟩, _, _, rfl, ⟨_, rows.map ints, getN_len (refs_len _ _), rfl, ?_⟩, rfl⟩ ⟨⟨cs, rows⟩, rows_data ⟨g0, g1⟩ g2 k3 k4, rfl⟩
        · exact nodup_rows (T := TN) (B := 10) (lit := [(4, refsO 10 rows), (3, iO cs), (2, outR cs rows), (1, outR cs rows), (0, dfO' D)]) (rows := rows.map fun r => r.map i64) 100 (by rw [List.length_map]; omega) rfl
        · have := resL_refs (T := TN) (d := 2) (B := 10) (rows := rows.map fun r => r.map i64) (L := allFr ([(4, refsO 10 rows), (3, iO cs), (2, outR cs rows), (1, outR cs rows), (0, dfO' D)] ++ rowsI 10 rows)) fun i r hr => lget_allFr_rows TN rfl hr
          have e : (rows.map fun r => r.map i64).map PV.lst = rows.map ints := by rw [List.map_map]; rfl
          rw [e] at this
          exact this
end Go.Proofs.YtmdmjnfdemgpoaaDoor
