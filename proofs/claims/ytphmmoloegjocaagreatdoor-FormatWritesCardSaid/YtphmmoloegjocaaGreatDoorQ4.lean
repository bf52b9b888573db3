/- Part 4 of the proof: Ua Ub Uc Ud Ue Va Vb Vc Vd Ve Vf Vg Vh Vi Vj Vk Vl Bb Vm Vn Vo Vp Vq Vr Vs Vt Vu Wa Wb Sf Wc -/
import Derived.Lib.Bytealg
import Derived.Laws.Externs
import Derived.Lib.FieldsP
import Derived.Shelf.Strings.Builder1
import Derived.Shelf.Strings.Builder2
import Derived.Shelf.Strings.Trim
import Derived.Shelf.Small.Utf8
import Derived.Shelf.Small.Strs
import Derived.Shelf.Strings.BuilderF
import Derived.Shelf.Strconv.Itoa0
import Derived.Shelf.Strings.Search1
import Derived.Shelf.Strings.Search2
import Derived.Shelf.Strings.Search3
import Derived.Shelf.Strings.Cut
import Derived.Shelf.Strings.Count
import Derived.Shelf.LaysM
import Derived.Shelf.Strings.Shaped
import Derived.Shelf.Strings.Prefix
import Derived.Shelf.Strings.Split
import Derived.Shelf.Strings.Replace
import Derived.Shelf.Strings.SplitShaped
import Derived.Shelf.Strings.Runes
import Derived.Shelf.Strings.AsciiSet
import Derived.Shelf.Unicode.DecodeSlow
import Derived.Shelf.Unicode.DecodeAny
import Derived.Shelf.Strings.FieldsFuncAny
import Derived.Shelf.Strings.FieldsFuncGrows
import Derived.Shelf.Strings.SlTrimAscii
import Derived.Test.YtphmmoloegjocaaGreatDoorProg
import Derived.Below
import Derived.Test.YtphmmoloegjocaaGreatDoorQ3
/- Forms of networks: numbers; the reference's writers. -/
namespace Go.Proofs.YtphmmoloegjocaaGreatDoor
open Go Y
set_option maxRecDepth 100000
set_option maxHeartbeats 40000000

def dg (x : Int) : UInt8 := (48 + x.toNat).toUInt8
/-- A number below 100. -/
def dec (n : Int) : List UInt8 := if n < 10 then [dg n] else [dg (n / 10), dg (n % 10)]
theorem dec_len (n : Int) : 1 ≤ (dec n).length ∧ (dec n).length ≤ 2 := by
  unfold dec
  split <;> simp
def tenL : List UInt8 := [48, 49, 50, 51, 52, 53, 54, 55, 56, 57]
theorem ten_at : ∀ n < 10, sub [48, 49, 50, 51, 52, 53, 54, 55, 56, 57] (some ((n : Nat) : Int)) (some ((n : Int) + 1)) = [dg n] := by decide
theorem digit1_c (n : Nat) (h : n < 10) : Pure cx 46 [i64 n] (· = .ret [.str [dg n]]) := by
  refine pure_of_vc Tryz.func46 rfl rfl rfl ?_
  (first | refine brLt (fun h1 => ?_) (fun h1 => ?_) | refine brLe (fun h1 => ?_) (fun h1 => ?_) | refine brEq (fun h1 => ?_) (fun h1 => ?_))
  · refine ⟨_, wrap_i64 (by omega) (by omega), ?_⟩
    refine ⟨by show (0 : Int) ≤ n ∧ (n : Int) ≤ (n : Int) + 1 ∧ (n : Int) + 1 ≤ 10; omega, ?_⟩
    exact end1 _ rfl rfl (congrArg (fun z => PEnd.ret [.str z]) (ten_at n h))
  · have h1 : ¬ (n : Int) < 10 := h1
    omega
theorem digits_c (n : Int) (h0 : 0 ≤ n) (h9 : n < 100) : Pure cx 46 [i64 n] (· = .ret [.str (dec n)]) := by
  obtain ⟨m, rfl⟩ : ∃ m : Nat, n = m := ⟨n.toNat, by omega⟩
  by_cases hs : m < 10
  · have := digit1_c m hs
    rw [dec, if_pos (by omega)]
    exact this
  refine pure_of_vc Tryz.func46 rfl rfl rfl ?_
  (first | refine brLt (fun h1 => ?_) (fun h1 => ?_) | refine brLe (fun h1 => ?_) (fun h1 => ?_) | refine brEq (fun h1 => ?_) (fun h1 => ?_))
  · have h1 : (m : Int) < 10 := h1
    omega
  · refine VDraw.seq rfl ?_
    refine ⟨by decide, ((m / 10 : Nat) : Int), by show ((m / 10 : Nat) : Int) = IntKind.i64.wrap ((m / 10 : Nat) : Int); exact wrap_i64 (by omega) (by omega), ?_⟩
    refine ⟨by decide, ?_⟩
    refine ⟨by decide, ?_⟩
    refine ⟨((m % 10 : Nat) : Int) + 1, by show _ = IntKind.i64.wrap (((m % 10 : Nat) : Int) + 1); exact wrap_i64 (by omega) (by omega), ?_⟩
    refine ⟨by show (0 : Int) ≤ (m % 10 : Nat) ∧ ((m % 10 : Nat) : Int) ≤ ((m % 10 : Nat) : Int) + 1 ∧ ((m % 10 : Nat) : Int) + 1 ≤ 10; omega, ?_⟩
    refine (digit1_c (m / 10) (by omega)).eq rfl ?_
    refine ⟨by show 1 + (sub tenL (some ((m % 10 : Nat) : Int)) (some (((m % 10 : Nat) : Int) + 1))).length ≤ 9223372036854775807; rw [tenL, ten_at _ (by omega)]; show 1 + 1 ≤ 9223372036854775807; omega, ?_⟩
    refine end1 _ rfl rfl ?_
    rw [dec, if_neg (by omega)]
    show PEnd.ret [.str ([dg ((m / 10 : Nat) : Int)] ++ sub tenL (some ((m % 10 : Nat) : Int)) (some (((m % 10 : Nat) : Int) + 1)))] = _
    rw [tenL, ten_at _ (by omega)]
    rfl

/-- Numbers with an octet 32 in front of each. -/
def numsN (l : List Int) : List UInt8 := l.flatMap fun n => 32 :: dec n
theorem nums_snoc (l : List Int) (x : Int) : numsN (l ++ [x]) = numsN l ++ 32 :: dec x := by simp [numsN]
theorem nums_len (l : List Int) : (numsN l).length ≤ 3 * l.length := by
  induction l with
  | nil => simp [numsN]
  | cons x l ih =>
    have := (dec_len x).2
    have e : numsN (x :: l) = (32 :: dec x) ++ numsN l := rfl
    rw [e, List.length_append, List.length_cons, List.length_cons]; omega
def two (l : List Int) : Prop := ∀ x ∈ l, 0 ≤ x ∧ x < 100
theorem numbers_c (l : List Int) (hl : l.length ≤ 100000) (h : two l) : Pure cx 47 [ints l] (· = .ret [.str (numsN l)]) := by
  refine pure_of_vc Tryz.func47 rfl rfl rfl ?_
  refine ⟨Nat, fun k => [(0, .p (ints l)), (3, .p (.str (numsN (l.take k)))), (4, .p (i64 k))], fun _ => ⟨0, []⟩, fun k => k ≤ l.length, fun k => l.length - k, ?_, ?_⟩
  · exact ⟨0, by omega, ent0 rfl ⟨rfl, rfl, rfl, trivial⟩ trivial rfl⟩
  intro k hk
  have hnl := nums_len (l.take k)
  rw [List.length_take] at hnl
  (first | refine brLt (fun h1 => ?_) (fun h1 => ?_) | refine brLe (fun h1 => ?_) (fun h1 => ?_) | refine brEq (fun h1 => ?_) (fun h1 => ?_))
  · have h1 : (k : Int) < ((l.map i64).length : Nat) := h1
    rw [List.length_map] at h1
    have hkl : k < l.length := by omega
    obtain ⟨x, hx⟩ : ∃ x, x = l.getD k 0 := ⟨_, rfl⟩
    have hx2 := h _ (getD_memL 0 hkl)
    rw [← hx] at hx2
    have hdl := dec_len x
    refine ⟨by show (numsN (l.take k)).length + 1 ≤ 9223372036854775807; omega, ?_⟩
    refine ⟨_, ⟨by omega, i64 x, by rw [hx]; exact icell hkl, rfl⟩, ?_⟩
    refine (digits_c x hx2.1 hx2.2).eq rfl ?_
    refine ⟨by show (numsN (l.take k) ++ [32]).length + (dec x).length ≤ 9223372036854775807; rw [snoc_len]; omega, ?_⟩
    refine ⟨_, wrap_i64 (by omega) (by omega), ?_⟩
    exact ⟨k + 1, by omega, ent0 rfl ⟨rfl, by rw [take_succ_getD 0 hkl, ← hx, nums_snoc]; show PV.str _ = PV.str ((numsN (l.take k) ++ [32]) ++ dec x); rw [List.append_assoc]; rfl, rfl, trivial⟩ trivial rfl, by show l.length - (k + 1) < l.length - k; omega⟩
  · have h1 : ¬ (k : Int) < ((l.map i64).length : Nat) := h1
    rw [List.length_map] at h1
    exact end1 _ rfl rfl (by rw [take_all (by omega)])
/-- Numbers in parentheses. -/
def listN (l : List Int) : List UInt8 := 40 :: ((numsN l).drop 1 ++ [41])
theorem list_len41 (l : List Int) : (listN l).length ≤ 3 * l.length + 2 := by
  have := nums_len l
  rw [listN, List.length_cons, List.length_append, List.length_drop]
  simp; omega
theorem rList_c (l : List Int) (hl : l.length ≤ 100000) (h : two l) : Pure cx 48 [ints l] (· = .ret [.str (listN l)]) := by
  refine pure_of_vc Tryz.func48 rfl rfl rfl ?_
  have hnl := nums_len l
  refine (numbers_c l hl h).eq rfl ?_
  (first | refine brLt (fun h1 => ?_) (fun h1 => ?_) | refine brLe (fun h1 => ?_) (fun h1 => ?_) | refine brEq (fun h1 => ?_) (fun h1 => ?_))
  · have h1 : numsN l = [] := h1
    refine ⟨by show 1 + (numsN l).length ≤ 9223372036854775807; omega, ?_⟩
    refine ⟨by show ([40] ++ numsN l).length + 1 ≤ 9223372036854775807; rw [List.length_append]; simp; omega, ?_⟩
    exact end1 _ rfl rfl (by show PEnd.ret [.str (([40] ++ numsN l) ++ [41])] = _; rw [listN, h1]; rfl)
  · have h1 : ¬ numsN l = [] := h1
    have hpos : 0 < (numsN l).length := List.length_pos_iff.2 h1
    refine ⟨by show (0 : Int) ≤ 1 ∧ (1 : Int) ≤ ((numsN l).length : Nat); omega, ?_⟩
    refine ⟨by show 1 + ((numsN l).drop 1).length ≤ 9223372036854775807; rw [List.length_drop]; omega, ?_⟩
    refine ⟨by show ([40] ++ (numsN l).drop 1).length + 1 ≤ 9223372036854775807; rw [List.length_append, List.length_drop]; simp; omega, ?_⟩
    exact end1 _ rfl rfl rfl

/-! ### Whole forms -/
def rowLine (r : List Int) : List UInt8 := [114, 111, 119] ++ (numsN r ++ [10])
def nodeHead (x : Nd) : List UInt8 := [110, 111, 100, 101, 32] ++ (dec x.card ++ ((if x.parents = [] then [] else [32, 102, 114, 111, 109] ++ numsN x.parents) ++ [10]))
def nodeLines (x : Nd) : List UInt8 := nodeHead x ++ x.rows.flatMap rowLine
def byLines (n : Nt) : List UInt8 := ([110, 101, 116, 32] ++ (dec n.grain ++ [10])) ++ n.nodes.flatMap nodeLines
def nodeNest (x : Nd) : List UInt8 := [40, 110, 111, 100, 101, 32] ++ (dec x.card ++ (32 :: (listN x.parents ++ ((x.rows.flatMap fun r => 32 :: listN r) ++ [41]))))
def nested (n : Nt) : List UInt8 := [40, 110, 101, 116, 32] ++ (dec n.grain ++ ((n.nodes.flatMap fun x => 32 :: nodeNest x) ++ [41]))
/-- Networks whose numbers are below 100. -/
structure SmT (n : Nt) : Prop where
  grain : 0 ≤ n.grain ∧ n.grain < 100
  len : n.nodes.length ≤ 8
  card : ∀ x ∈ n.nodes, 1 ≤ x.card ∧ x.card < 100
  par : ∀ x ∈ n.nodes, two x.parents ∧ x.parents.length ≤ 8
  rows : ∀ x ∈ n.nodes, 1 ≤ x.rows.length ∧ x.rows.length ≤ 65536
  row : ∀ x ∈ n.nodes, ∀ r ∈ x.rows, two r ∧ 1 ≤ r.length ∧ r.length ≤ 4
theorem valid_sm {n : Nt} (h : validP n) : SmT n := by
  have hl := h.len
  have hc := h.cards
  refine ⟨by have := h.grain; omega, by omega, fun x hx => by have := hc x hx; exact ⟨this.1, by have := this.2; omega⟩, fun x hx => ?_, fun x hx => ?_, fun x hx r hr => ?_⟩
  · have hp := h.placed x hx
    exact ⟨fun q hq => by have := list_mem hp q hq; omega, by have := list_len hp; omega⟩
  · obtain ⟨v, hv, rfl⟩ := mem_getD nd0 hx
    have hp := h.placed _ hx
    have h1 := (h.node v hv).1
    have h2 := list_len hp
    have hok := atN_ok (l := cardsN n) (ps := (n.nodes.getD v nd0).parents) (fun c hc' => by obtain ⟨y, hy, rfl⟩ := List.mem_map.1 hc'; exact hc y hy) (by rw [cardsN, List.length_map]; exact list_mem hp)
    have hal : (atN (cardsN n) (n.nodes.getD v nd0).parents).length = (n.nodes.getD v nd0).parents.length := List.length_map ..
    have h3 := prod_take hok _ (Nat.le_refl _)
    rw [take_all (Nat.le_refl _)] at h3
    have h4 : (4 : Int) ^ (atN (cardsN n) (n.nodes.getD v nd0).parents).length ≤ 65536 := by
      have : ∀ i ≤ 8, (4 : Int) ^ i ≤ 65536 := by decide
      exact this _ (by omega)
    have h5 : prodN (pcardsN n v) = prodN (atN (cardsN n) (n.nodes.getD v nd0).parents) := rfl
    omega
  · obtain ⟨v, hv, rfl⟩ := mem_getD nd0 hx
    have h1 := (h.node v hv).2 r hr
    have h2 := hc _ hx
    have h3 := h1.1
    have h4 := h.grain
    have h5 := h2.1
    have h6 := h2.2
    exact ⟨fun w hw => by have := h1.2.1 w hw; omega, by omega, by omega⟩
theorem flat_len {α : Type} {f : α → List UInt8} {B : Nat} : ∀ {l : List α}, (∀ x ∈ l, (f x).length ≤ B) → (l.flatMap f).length ≤ B * l.length
  | [], _ => by simp
  | x :: l, h => by
    have h1 := h x (by simp)
    have h2 := flat_len (l := l) fun y hy => h y (by simp [hy])
    rw [List.flatMap_cons, List.length_append, List.length_cons, Nat.mul_succ]; omega
theorem flat_snoc {α β : Type} {f : α → List β} (l : List α) (x : α) : (l ++ [x]).flatMap f = l.flatMap f ++ f x := by simp
theorem SmT.head_len {n : Nt} (h : SmT n) {x : Nd} (hx : x ∈ n.nodes) : (nodeHead x).length ≤ 50 := by
  have h1 := nums_len x.parents
  have h2 := (h.par x hx).2
  have h3 := dec_len x.card
  rw [nodeHead]
  split <;> simp <;> omega
theorem SmT.row_len {n : Nt} (h : SmT n) {x : Nd} (hx : x ∈ n.nodes) {r : List Int} (hr : r ∈ x.rows) : (rowLine r).length ≤ 16 := by
  have h1 := nums_len r
  have h2 := (h.row x hx r hr).2.2
  rw [rowLine]
  simp; omega
theorem SmT.rows_len {n : Nt} (h : SmT n) {x : Nd} (hx : x ∈ n.nodes) (k : Nat) : ((x.rows.take k).flatMap rowLine).length ≤ 16 * 65536 := by
  have h1 := flat_len (f := rowLine) (B := 16) (l := x.rows.take k) fun r hr => h.row_len hx (List.mem_of_mem_take hr)
  have h2 := (h.rows x hx).2
  rw [List.length_take] at h1
  have : 16 * min k x.rows.length ≤ 16 * 65536 := Nat.mul_le_mul_left _ (by omega)
  omega
theorem SmT.lines_len {n : Nt} (h : SmT n) (k : Nat) : ((n.nodes.take k).flatMap nodeLines).length ≤ 8 * 1100000 := by
  have h1 := flat_len (f := nodeLines) (B := 1100000) (l := n.nodes.take k) fun x hx => by
    have hx := List.mem_of_mem_take hx
    have h2 := h.head_len hx
    have h3 := h.rows_len hx x.rows.length
    rw [take_all (Nat.le_refl _)] at h3
    rw [nodeLines, List.length_append]; omega
  have h2 := h.len
  rw [List.length_take] at h1
  have : 1100000 * min k n.nodes.length ≤ 1100000 * 8 := Nat.mul_le_mul_left _ (by omega)
  omega

theorem rByLines_c (n : Nt) (h : SmT n) : Pure cx 14 [n.pv] (· = .ret [.str (byLines n)]) := by
  refine pure_of_vc Tryz.func14 rfl rfl rfl ?_
  have hgl := dec_len n.grain
  obtain ⟨A, hA⟩ : ∃ A, A = [110, 101, 116, 32] ++ (dec n.grain ++ [10]) := ⟨_, rfl⟩
  have hAl : A.length ≤ 10 := by rw [hA]; simp; omega
  refine (digits_c n.grain h.grain.1 h.grain.2).eq rfl ?_
  refine ⟨by show 4 + (dec n.grain).length ≤ 9223372036854775807; omega, ?_⟩
  refine ⟨by show ([110, 101, 116, 32] ++ dec n.grain).length + 1 ≤ 9223372036854775807; rw [List.length_append]; simp; omega, ?_⟩
  refine ⟨Nat, fun k => [(1, .ptr 0 0 0), (3, .p (.str (A ++ (n.nodes.take k).flatMap nodeLines))), (4, .p (i64 k))], fun _ => ⟨1, [(0, ntO n)]⟩, fun k => k ≤ n.nodes.length, fun k => n.nodes.length - k, ?_, ?_⟩
  · exact ⟨0, by omega, ent_of [] [] [] rfl ⟨⟨rfl, rfl⟩, by rw [hA]; show PV.str _ = PV.str (([110, 101, 116, 32] ++ dec n.grain) ++ [10]); simp, rfl, trivial⟩ (by (repeat' first | exact trivial | exact rfl | exact ⟨rfl, rfl⟩ | exact .inl rfl | refine ⟨_, rfl, rfl, rfl, ?_⟩ | refine ⟨_, _, rfl, ?_, ?_⟩ | refine ⟨_, rfl, ?_⟩ | refine And.intro ?_ ?_)) rfl⟩
  intro k hk
  have hll := h.lines_len k
  (first | refine brLt (fun h1 => ?_) (fun h1 => ?_) | refine brLe (fun h1 => ?_) (fun h1 => ?_) | refine brEq (fun h1 => ?_) (fun h1 => ?_))
  rotate_left
  · have h1 : ¬ (k : Int) < ((n.nodes.map Nd.cells).length : Nat) := h1
    rw [List.length_map] at h1
    exact end1 _ rfl rfl (by rw [take_all (by omega), byLines, hA])
  have h1 : (k : Int) < ((n.nodes.map Nd.cells).length : Nat) := h1
  rw [List.length_map] at h1
  have hkl : k < n.nodes.length := by omega
  obtain ⟨x, hx⟩ : ∃ x, x = n.nodes.getD k nd0 := ⟨_, rfl⟩
  have hxm : x ∈ n.nodes := by rw [hx]; exact getD_memL nd0 hkl
  have hcell : (n.nodes.map Nd.cells)[k]? = some x.cells := by rw [hx]; exact ncell hkl
  have hxc := h.card x hxm
  have hcl := dec_len x.card
  have hhl := h.head_len hxm
  have hpl := nums_len x.parents
  have hp8 := h.par x hxm
  obtain ⟨B, hB⟩ : ∃ B, B = A ++ (n.nodes.take k).flatMap nodeLines := ⟨_, rfl⟩
  have hBl : B.length ≤ 9000000 := by rw [hB, List.length_append]; omega
  have hrest : ∀ T : List UInt8, T = B ++ nodeHead x → T.length ≤ 9000100 := fun T hT => by rw [hT, List.length_append]; omega
  refine ⟨_, ⟨by omega, x.cells, hcell, rfl⟩, ?_⟩
  refine ⟨by show (A ++ (n.nodes.take k).flatMap nodeLines).length + 5 ≤ 9223372036854775807; rw [← hB]; omega, ?_⟩
  refine (digits_c x.card (by omega) hxc.2).eq rfl ?_
  refine ⟨by show ((A ++ (n.nodes.take k).flatMap nodeLines) ++ [110, 111, 100, 101, 32]).length + (dec x.card).length ≤ 9223372036854775807; rw [← hB, List.length_append]; simp; omega, ?_⟩
  apply cut
  case h =>
    intro key
    (first | refine brLt (fun h2 => ?_) (fun h2 => ?_) | refine brLe (fun h2 => ?_) (fun h2 => ?_) | refine brEq (fun h2 => ?_) (fun h2 => ?_))
    · have h2 : (0 : Int) < ((x.parents.map i64).length : Nat) := h2
      rw [List.length_map] at h2
      have hpn : x.parents ≠ [] := fun e => by rw [e] at h2; simp at h2
      refine ⟨by show (((A ++ (n.nodes.take k).flatMap nodeLines) ++ [110, 111, 100, 101, 32]) ++ dec x.card).length + 5 ≤ 9223372036854775807; rw [← hB, List.length_append, List.length_append]; simp; omega, ?_⟩
      refine (numbers_c x.parents (by omega) hp8.1).eq rfl ?_
      refine ⟨by show ((((A ++ (n.nodes.take k).flatMap nodeLines) ++ [110, 111, 100, 101, 32]) ++ dec x.card) ++ [32, 102, 114, 111, 109]).length + (numsN x.parents).length ≤ 9223372036854775807; rw [← hB, List.length_append, List.length_append, List.length_append]; simp; omega, ?_⟩
      refine ⟨by show (((((A ++ (n.nodes.take k).flatMap nodeLines) ++ [110, 111, 100, 101, 32]) ++ dec x.card) ++ [32, 102, 114, 111, 109]) ++ numsN x.parents).length + 1 ≤ 9223372036854775807; rw [← hB, List.length_append, List.length_append, List.length_append, List.length_append]; simp; omega, ?_⟩
      refine ⟨Nat, fun j => [(1, .ptr 0 0 0), (3, .p (.str ((B ++ nodeHead x) ++ (x.rows.take j).flatMap rowLine))), (4, .p (i64 k)), (5, .ptr 1 0 0), (6, .p (i64 j))], fun _ => ⟨2, [(1, ndO x), (0, ntO n)]⟩, fun j => j ≤ x.rows.length, fun j => x.rows.length - j, ?_, key.get⟩
      refine ⟨0, by omega, ent_of [] [] [] rfl ⟨⟨rfl, rfl⟩, congrArg PV.str ?_, rfl, ⟨rfl, rfl⟩, rfl, trivial⟩ (by (repeat' first | exact trivial | exact rfl | exact ⟨rfl, rfl⟩ | exact .inl rfl | refine ⟨_, rfl, rfl, rfl, ?_⟩ | refine ⟨_, _, rfl, ?_, ?_⟩ | refine ⟨_, rfl, ?_⟩ | refine And.intro ?_ ?_)) rfl⟩
      rw [nodeHead, if_neg hpn, hB]
      show _ = (((((A ++ (n.nodes.take k).flatMap nodeLines) ++ [110, 111, 100, 101, 32]) ++ dec x.card) ++ [32, 102, 114, 111, 109]) ++ numsN x.parents) ++ [10]
      simp
    · have h2 : ¬ (0 : Int) < ((x.parents.map i64).length : Nat) := h2
      rw [List.length_map] at h2
      have hpn : x.parents = [] := List.eq_nil_of_length_eq_zero (by omega)
      refine ⟨by show (((A ++ (n.nodes.take k).flatMap nodeLines) ++ [110, 111, 100, 101, 32]) ++ dec x.card).length + 1 ≤ 9223372036854775807; rw [← hB, List.length_append, List.length_append]; simp; omega, ?_⟩
      refine ⟨Nat, fun j => [(1, .ptr 0 0 0), (3, .p (.str ((B ++ nodeHead x) ++ (x.rows.take j).flatMap rowLine))), (4, .p (i64 k)), (5, .ptr 1 0 0), (6, .p (i64 j))], fun _ => ⟨2, [(1, ndO x), (0, ntO n)]⟩, fun j => j ≤ x.rows.length, fun j => x.rows.length - j, ?_, key.get⟩
      refine ⟨0, by omega, ent_of [] [] [] rfl ⟨⟨rfl, rfl⟩, congrArg PV.str ?_, rfl, ⟨rfl, rfl⟩, rfl, trivial⟩ (by (repeat' first | exact trivial | exact rfl | exact ⟨rfl, rfl⟩ | exact .inl rfl | refine ⟨_, rfl, rfl, rfl, ?_⟩ | refine ⟨_, _, rfl, ?_, ?_⟩ | refine ⟨_, rfl, ?_⟩ | refine And.intro ?_ ?_)) rfl⟩
      rw [nodeHead, if_pos hpn, hB]
      show _ = (((A ++ (n.nodes.take k).flatMap nodeLines) ++ [110, 111, 100, 101, 32]) ++ dec x.card) ++ [10]
      simp
  case k =>
    intro j hj
    have hBh := hrest _ rfl
    have hrw := (h.rows x hxm).2
    have hnlen := h.len
    have hrl := h.rows_len hxm j
    (first | refine brLt (fun h3 => ?_) (fun h3 => ?_) | refine brLe (fun h3 => ?_) (fun h3 => ?_) | refine brEq (fun h3 => ?_) (fun h3 => ?_))
    · have h3 : (j : Int) < ((x.rows.map ints).length : Nat) := h3
      rw [List.length_map] at h3
      have hjl : j < x.rows.length := by omega
      obtain ⟨r, hr⟩ : ∃ r, r = x.rows.getD j [] := ⟨_, rfl⟩
      have hrm : r ∈ x.rows := by rw [hr]; exact getD_memL [] hjl
      have hr4 := h.row x hxm r hrm
      have hnr := nums_len r
      obtain ⟨T, hT⟩ : ∃ T, T = (B ++ nodeHead x) ++ (x.rows.take j).flatMap rowLine := ⟨_, rfl⟩
      have hTl : T.length ≤ 20000000 := by rw [hT, List.length_append]; omega
      refine ⟨by show ((B ++ nodeHead x) ++ (x.rows.take j).flatMap rowLine).length + 3 ≤ 9223372036854775807; rw [← hT]; omega, ?_⟩
      refine ⟨_, ⟨by omega, ints r, by rw [hr]; exact ccell hjl, rfl⟩, ?_⟩
      refine (numbers_c r (by omega) hr4.1).eq rfl ?_
      refine ⟨by show (((B ++ nodeHead x) ++ (x.rows.take j).flatMap rowLine) ++ [114, 111, 119]).length + (numsN r).length ≤ 9223372036854775807; rw [← hT, List.length_append]; simp; omega, ?_⟩
      refine ⟨by show ((((B ++ nodeHead x) ++ (x.rows.take j).flatMap rowLine) ++ [114, 111, 119]) ++ numsN r).length + 1 ≤ 9223372036854775807; rw [← hT, List.length_append, List.length_append]; simp; omega, ?_⟩
      refine ⟨_, wrap_i64 (by omega) (by omega), ?_⟩
      refine ⟨j + 1, by omega, ent_of [] [] [] rfl ⟨⟨rfl, rfl⟩, congrArg PV.str ?_, rfl, ⟨rfl, rfl⟩, rfl, trivial⟩ (by (repeat' first | exact trivial | exact rfl | exact ⟨rfl, rfl⟩ | exact .inl rfl | refine ⟨_, rfl, rfl, rfl, ?_⟩ | refine ⟨_, _, rfl, ?_, ?_⟩ | refine ⟨_, rfl, ?_⟩ | refine And.intro ?_ ?_)) rfl, by show x.rows.length - (j + 1) < x.rows.length - j; omega⟩
      rw [take_succ_getD [] hjl, ← hr, flat_snoc, rowLine]
      show _ = ((((B ++ nodeHead x) ++ (x.rows.take j).flatMap rowLine) ++ [114, 111, 119]) ++ numsN r) ++ [10]
      simp
    · have h3 : ¬ (j : Int) < ((x.rows.map ints).length : Nat) := h3
      rw [List.length_map] at h3
      refine ⟨_, wrap_i64 (by omega) (by omega), ?_⟩
      refine ⟨k + 1, by omega, ent_of [] [] [] rfl ⟨⟨rfl, rfl⟩, congrArg PV.str ?_, rfl, trivial⟩ (by (repeat' first | exact trivial | exact rfl | exact ⟨rfl, rfl⟩ | exact .inl rfl | refine ⟨_, rfl, rfl, rfl, ?_⟩ | refine ⟨_, _, rfl, ?_, ?_⟩ | refine ⟨_, rfl, ?_⟩ | refine And.intro ?_ ?_)) rfl, by show n.nodes.length - (k + 1) < n.nodes.length - k; omega⟩
      rw [take_succ_getD nd0 hkl, ← hx, flat_snoc, nodeLines]
      show _ = (B ++ nodeHead x) ++ (x.rows.take j).flatMap rowLine
      rw [hB, show x.rows.take j = x.rows from take_all (by omega)]
      simp
end Go.Proofs.YtphmmoloegjocaaGreatDoor

/- The reference's nested form; its Lines and Nested. -/
namespace Go.Proofs.YtphmmoloegjocaaGreatDoor
open Go Y
set_option maxRecDepth 100000
set_option maxHeartbeats 40000000

theorem SmT.lists_len {n : Nt} (h : SmT n) {x : Nd} (hx : x ∈ n.nodes) (k : Nat) : ((x.rows.take k).flatMap fun r => 32 :: listN r).length ≤ 15 * 65536 := by
  have h1 := flat_len (f := fun r => 32 :: listN r) (B := 15) (l := x.rows.take k) fun r hr => by
    have h2 := list_len41 r
    have h3 := (h.row x hx r (List.mem_of_mem_take hr)).2.2
    simp only [List.length_cons]; omega
  have h2 := (h.rows x hx).2
  rw [List.length_take] at h1
  have : 15 * min k x.rows.length ≤ 15 * 65536 := Nat.mul_le_mul_left _ (by omega)
  omega
theorem SmT.nest_len {n : Nt} (h : SmT n) (k : Nat) : ((n.nodes.take k).flatMap fun x => 32 :: nodeNest x).length ≤ 8 * 1100000 := by
  have h1 := flat_len (f := fun x => 32 :: nodeNest x) (B := 1100000) (l := n.nodes.take k) fun x hx => by
    have hx := List.mem_of_mem_take hx
    have h2 := h.lists_len hx x.rows.length
    rw [take_all (Nat.le_refl _)] at h2
    have h3 := list_len41 x.parents
    have h4 := (h.par x hx).2
    have h5 := dec_len x.card
    simp only [List.length_cons, nodeNest, List.length_append, List.length_nil]; omega
  have h2 := h.len
  rw [List.length_take] at h1
  have : 1100000 * min k n.nodes.length ≤ 1100000 * 8 := Nat.mul_le_mul_left _ (by omega)
  omega
theorem rNested_c (n : Nt) (h : SmT n) : Pure cx 15 [n.pv] (· = .ret [.str (nested n)]) := by
  refine pure_of_vc Tryz.func15 rfl rfl rfl ?_
  have hgl := dec_len n.grain
  have hnlen := h.len
  obtain ⟨A, hA⟩ : ∃ A, A = [40, 110, 101, 116, 32] ++ dec n.grain := ⟨_, rfl⟩
  have hAl : A.length ≤ 10 := by rw [hA]; simp; omega
  refine (digits_c n.grain h.grain.1 h.grain.2).eq rfl ?_
  refine ⟨by show 5 + (dec n.grain).length ≤ 9223372036854775807; omega, ?_⟩
  refine ⟨Nat, fun k => [(1, .ptr 0 0 0), (3, .p (.str (A ++ (n.nodes.take k).flatMap fun x => 32 :: nodeNest x))), (4, .p (i64 k))], fun _ => ⟨1, [(0, ntO n)]⟩, fun k => k ≤ n.nodes.length, fun k => n.nodes.length - k, ?_, ?_⟩
  · exact ⟨0, by omega, ent_of [] [] [] rfl ⟨⟨rfl, rfl⟩, by rw [hA]; show PV.str _ = PV.str ([40, 110, 101, 116, 32] ++ dec n.grain); simp, rfl, trivial⟩ (by (repeat' first | exact trivial | exact rfl | exact ⟨rfl, rfl⟩ | exact .inl rfl | refine ⟨_, rfl, rfl, rfl, ?_⟩ | refine ⟨_, _, rfl, ?_, ?_⟩ | refine ⟨_, rfl, ?_⟩ | refine And.intro ?_ ?_)) rfl⟩
  intro k hk
  have hll := h.nest_len k
  obtain ⟨B, hB⟩ : ∃ B, B = A ++ (n.nodes.take k).flatMap fun x => 32 :: nodeNest x := ⟨_, rfl⟩
  have hBl : B.length ≤ 9000000 := by rw [hB, List.length_append]; omega
  (first | refine brLt (fun h1 => ?_) (fun h1 => ?_) | refine brLe (fun h1 => ?_) (fun h1 => ?_) | refine brEq (fun h1 => ?_) (fun h1 => ?_))
  rotate_left
  · have h1 : ¬ (k : Int) < ((n.nodes.map Nd.cells).length : Nat) := h1
    rw [List.length_map] at h1
    refine ⟨by show (A ++ (n.nodes.take k).flatMap fun x => 32 :: nodeNest x).length + 1 ≤ 9223372036854775807; rw [← hB]; omega, ?_⟩
    exact end1 _ rfl rfl (by show PEnd.ret [.str ((A ++ (n.nodes.take k).flatMap fun x => 32 :: nodeNest x) ++ [41])] = _; rw [take_all (by omega), nested, hA]; simp)
  have h1 : (k : Int) < ((n.nodes.map Nd.cells).length : Nat) := h1
  rw [List.length_map] at h1
  have hkl : k < n.nodes.length := by omega
  obtain ⟨x, hx⟩ : ∃ x, x = n.nodes.getD k nd0 := ⟨_, rfl⟩
  have hxm : x ∈ n.nodes := by rw [hx]; exact getD_memL nd0 hkl
  have hcell : (n.nodes.map Nd.cells)[k]? = some x.cells := by rw [hx]; exact ncell hkl
  have hxc := h.card x hxm
  have hcl := dec_len x.card
  have hp8 := h.par x hxm
  have hpl := list_len41 x.parents
  have hrw := (h.rows x hxm).2
  obtain ⟨F, hF⟩ : ∃ F, F = [32, 40, 110, 111, 100, 101, 32] ++ (dec x.card ++ (32 :: listN x.parents)) := ⟨_, rfl⟩
  have hFl : F.length ≤ 60 := by rw [hF]; simp; omega
  refine ⟨_, ⟨by omega, x.cells, hcell, rfl⟩, ?_⟩
  refine VDraw.seq rfl ?_
  refine ⟨by show (A ++ (n.nodes.take k).flatMap fun x => 32 :: nodeNest x).length + 7 ≤ 9223372036854775807; rw [← hB]; omega, ?_⟩
  refine (digits_c x.card (by omega) hxc.2).eq rfl ?_
  refine ⟨by (repeat' first | exact trivial | exact rfl | exact ⟨rfl, rfl⟩ | exact .inl rfl | refine ⟨_, rfl, rfl, rfl, ?_⟩ | refine ⟨_, _, rfl, ?_, ?_⟩ | refine ⟨_, rfl, ?_⟩ | refine And.intro ?_ ?_), ?_⟩
  refine ⟨by show ((A ++ (n.nodes.take k).flatMap fun x => 32 :: nodeNest x) ++ [32, 40, 110, 111, 100, 101, 32]).length + (dec x.card).length ≤ 9223372036854775807; rw [← hB, List.length_append]; simp; omega, ?_⟩
  refine ⟨by show (((A ++ (n.nodes.take k).flatMap fun x => 32 :: nodeNest x) ++ [32, 40, 110, 111, 100, 101, 32]) ++ dec x.card).length + 1 ≤ 9223372036854775807; rw [← hB, List.length_append, List.length_append]; simp; omega, ?_⟩
  refine (rList_c x.parents (by omega) hp8.1).eq rfl ?_
  refine ⟨by show ((((A ++ (n.nodes.take k).flatMap fun x => 32 :: nodeNest x) ++ [32, 40, 110, 111, 100, 101, 32]) ++ dec x.card) ++ [32]).length + (listN x.parents).length ≤ 9223372036854775807; rw [← hB, List.length_append, List.length_append, List.length_append]; simp; omega, ?_⟩
  refine ⟨Nat, fun j => [(1, .ptr 0 0 0), (3, .p (.str ((B ++ F) ++ (x.rows.take j).flatMap fun r => 32 :: listN r))), (4, .p (i64 k)), (5, .ptr 1 0 0), (6, .p (i64 j))], fun _ => ⟨2, [(1, ndO x), (0, ntO n)]⟩, fun j => j ≤ x.rows.length, fun j => x.rows.length - j, ?_, ?_⟩
  · refine ⟨0, by omega, ent_of [] [] [] rfl ⟨⟨rfl, rfl⟩, congrArg PV.str ?_, rfl, ⟨rfl, rfl⟩, rfl, trivial⟩ (by (repeat' first | exact trivial | exact rfl | exact ⟨rfl, rfl⟩ | exact .inl rfl | refine ⟨_, rfl, rfl, rfl, ?_⟩ | refine ⟨_, _, rfl, ?_, ?_⟩ | refine ⟨_, rfl, ?_⟩ | refine And.intro ?_ ?_)) rfl⟩
    show _ = ((((A ++ (n.nodes.take k).flatMap fun x => 32 :: nodeNest x) ++ [32, 40, 110, 111, 100, 101, 32]) ++ dec x.card) ++ [32]) ++ listN x.parents
    rw [hF, hB]
    simp
  intro j hj
  have hrl := h.lists_len hxm j
  obtain ⟨T, hT⟩ : ∃ T, T = (B ++ F) ++ (x.rows.take j).flatMap fun r => 32 :: listN r := ⟨_, rfl⟩
  have hTl : T.length ≤ 20000000 := by rw [hT, List.length_append, List.length_append]; omega
  (first | refine brLt (fun h3 => ?_) (fun h3 => ?_) | refine brLe (fun h3 => ?_) (fun h3 => ?_) | refine brEq (fun h3 => ?_) (fun h3 => ?_))
  · have h3 : (j : Int) < ((x.rows.map ints).length : Nat) := h3
    rw [List.length_map] at h3
    have hjl : j < x.rows.length := by omega
    obtain ⟨r, hr⟩ : ∃ r, r = x.rows.getD j [] := ⟨_, rfl⟩
    have hrm : r ∈ x.rows := by rw [hr]; exact getD_memL [] hjl
    have hr4 := h.row x hxm r hrm
    have hnr := list_len41 r
    refine ⟨by show ((B ++ F) ++ (x.rows.take j).flatMap fun r => 32 :: listN r).length + 1 ≤ 9223372036854775807; rw [← hT]; omega, ?_⟩
    refine ⟨_, ⟨by omega, ints r, by rw [hr]; exact ccell hjl, rfl⟩, ?_⟩
    refine (rList_c r (by omega) hr4.1).eq rfl ?_
    refine ⟨by show (((B ++ F) ++ (x.rows.take j).flatMap fun r => 32 :: listN r) ++ [32]).length + (listN r).length ≤ 9223372036854775807; rw [← hT, List.length_append]; simp; omega, ?_⟩
    refine ⟨_, wrap_i64 (by omega) (by omega), ?_⟩
    refine ⟨j + 1, by omega, ent_of [] [] [] rfl ⟨⟨rfl, rfl⟩, congrArg PV.str ?_, rfl, ⟨rfl, rfl⟩, rfl, trivial⟩ (by (repeat' first | exact trivial | exact rfl | exact ⟨rfl, rfl⟩ | exact .inl rfl | refine ⟨_, rfl, rfl, rfl, ?_⟩ | refine ⟨_, _, rfl, ?_, ?_⟩ | refine ⟨_, rfl, ?_⟩ | refine And.intro ?_ ?_)) rfl, by show x.rows.length - (j + 1) < x.rows.length - j; omega⟩
    rw [take_succ_getD [] hjl, ← hr, flat_snoc]
    show _ = (((B ++ F) ++ (x.rows.take j).flatMap fun r => 32 :: listN r) ++ [32]) ++ listN r
    simp
  · have h3 : ¬ (j : Int) < ((x.rows.map ints).length : Nat) := h3
    rw [List.length_map] at h3
    refine ⟨by show ((B ++ F) ++ (x.rows.take j).flatMap fun r => 32 :: listN r).length + 1 ≤ 9223372036854775807; rw [← hT]; omega, ?_⟩
    refine ⟨_, wrap_i64 (by omega) (by omega), ?_⟩
    refine ⟨k + 1, by omega, ent_of [] [] [] rfl ⟨⟨rfl, rfl⟩, congrArg PV.str ?_, rfl, trivial⟩ (by (repeat' first | exact trivial | exact rfl | exact ⟨rfl, rfl⟩ | exact .inl rfl | refine ⟨_, rfl, rfl, rfl, ?_⟩ | refine ⟨_, _, rfl, ?_, ?_⟩ | refine ⟨_, rfl, ?_⟩ | refine And.intro ?_ ?_)) rfl, by show n.nodes.length - (k + 1) < n.nodes.length - k; omega⟩
    rw [take_succ_getD nd0 hkl, ← hx, flat_snoc, nodeNest]
    show _ = ((B ++ F) ++ (x.rows.take j).flatMap fun r => 32 :: listN r) ++ [41]
    rw [hB, hF, show x.rows.take j = x.rows from take_all (by omega)]
    simp

noncomputable def linesP (n : Nt) : List PV := if validP n then [.str (byLines n), i64 0] else [.str [], i64 50]
noncomputable def nestedP (n : Nt) : List PV := if validP n then [.str (nested n), i64 0] else [.str [], i64 50]
theorem rLines_c (n : Nt) (hb : BigN n) : Pure cx 10 [n.pv] (· = .ret (linesP n)) := by
  refine pure_of_vc Tryz.func10 rfl rfl rfl ?_
  have hR := right_c n hb
  by_cases h : validP n
  · rw [decide_eq_true h] at hR
    refine hR.eq rfl ?_
    refine (rByLines_c n (valid_sm h)).eq rfl ?_
    exact end2 (.str (byLines n)) (i64 0) rfl rfl rfl (by rw [linesP, if_pos h])
  · rw [decide_eq_false h] at hR
    refine hR.eq rfl ?_
    exact end2 (.str []) (i64 50) rfl rfl rfl (by rw [linesP, if_neg h])
theorem rNestedE_c (n : Nt) (hb : BigN n) : Pure cx 12 [n.pv] (· = .ret (nestedP n)) := by
  refine pure_of_vc Tryz.func12 rfl rfl rfl ?_
  have hR := right_c n hb
  by_cases h : validP n
  · rw [decide_eq_true h] at hR
    refine hR.eq rfl ?_
    refine (rNested_c n (valid_sm h)).eq rfl ?_
    exact end2 (.str (nested n)) (i64 0) rfl rfl rfl (by rw [nestedP, if_pos h])
  · rw [decide_eq_false h] at hR
    refine hR.eq rfl ?_
    exact end2 (.str []) (i64 50) rfl rfl rfl (by rw [nestedP, if_neg h])
end Go.Proofs.YtphmmoloegjocaaGreatDoor

/- Package format: Itoa of small numbers, Join, lists. -/
namespace Go.Proofs.YtphmmoloegjocaaGreatDoor
open Go Y
set_option maxRecDepth 100000
set_option maxHeartbeats 40000000

theorem small1_at : ∀ n < 10, sub [48, 49, 50, 51, 52, 53, 54, 55, 56, 57, 97, 98, 99, 100, 101, 102, 103, 104, 105, 106, 107, 108, 109, 110, 111, 112, 113, 114, 115, 116, 117, 118, 119, 120, 121, 122] (some ((n : Nat) : Int)) (some ((n : Int) + 1)) = [dg n] := by decide
def smallT : List UInt8 := [48, 48, 48, 49, 48, 50, 48, 51, 48, 52, 48, 53, 48, 54, 48, 55, 48, 56, 48, 57, 49, 48, 49, 49, 49, 50, 49, 51, 49, 52, 49, 53, 49, 54, 49, 55, 49, 56, 49, 57, 50, 48, 50, 49, 50, 50, 50, 51, 50, 52, 50, 53, 50, 54, 50, 55, 50, 56, 50, 57, 51, 48, 51, 49, 51, 50, 51, 51, 51, 52, 51, 53, 51, 54, 51, 55, 51, 56, 51, 57, 52, 48, 52, 49, 52, 50, 52, 51, 52, 52, 52, 53, 52, 54, 52, 55, 52, 56, 52, 57, 53, 48, 53, 49, 53, 50, 53, 51, 53, 52, 53, 53, 53, 54, 53, 55, 53, 56, 53, 57, 54, 48, 54, 49, 54, 50, 54, 51, 54, 52, 54, 53, 54, 54, 54, 55, 54, 56, 54, 57, 55, 48, 55, 49, 55, 50, 55, 51, 55, 52, 55, 53, 55, 54, 55, 55, 55, 56, 55, 57, 56, 48, 56, 49, 56, 50, 56, 51, 56, 52, 56, 53, 56, 54, 56, 55, 56, 56, 56, 57, 57, 48, 57, 49, 57, 50, 57, 51, 57, 52, 57, 53, 57, 54, 57, 55, 57, 56, 57, 57]
theorem small2_at : ∀ n < 100, 10 ≤ n → sub smallT (some ((n : Nat) * 2 : Int)) (some ((n : Int) * 2 + 2)) = dec n := by decide +kernel
theorem small_c (x : Int) (h0 : 0 ≤ x) (h9 : x < 100) : Pure cx 104 [i64 x] (· = .ret [.str (dec x)]) := by
  refine pure_of_vc Tryz.func104 rfl rfl rfl ?_
  obtain ⟨n, rfl⟩ : ∃ n : Nat, x = n := ⟨x.toNat, by omega⟩
  (first | refine brLt (fun h1 => ?_) (fun h1 => ?_) | refine brLe (fun h1 => ?_) (fun h1 => ?_) | refine brEq (fun h1 => ?_) (fun h1 => ?_))
  · have h1 : (n : Int) < 10 := h1
    refine ⟨_, wrap_i64 (by omega) (by omega), ?_⟩
    refine ⟨by show (0 : Int) ≤ n ∧ (n : Int) ≤ (n : Int) + 1 ∧ (n : Int) + 1 ≤ 36; omega, ?_⟩
    refine end1 _ rfl rfl ?_
    rw [dec, if_pos h1]
    exact congrArg (fun z => PEnd.ret [.str z]) (small1_at n (by omega))
  · have h1 : ¬ (n : Int) < 10 := h1
    refine ⟨(n : Int) * 2, wrap_i64 (by omega) (by omega), ?_⟩
    refine ⟨(n : Int) * 2, wrap_i64 (by omega) (by omega), ?_⟩
    refine ⟨(n : Int) * 2 + 2, wrap_i64 (by omega) (by omega), ?_⟩
    refine ⟨by show (0 : Int) ≤ (n : Int) * 2 ∧ (n : Int) * 2 ≤ (n : Int) * 2 + 2 ∧ (n : Int) * 2 + 2 ≤ 200; omega, ?_⟩
    exact end1 _ rfl rfl (congrArg (fun z => PEnd.ret [.str z]) (small2_at n (by omega) (by omega)))
theorem fmt_c (x : Int) (h0 : 0 ≤ x) (h9 : x < 100) : Pure cx 87 [i64 x, i64 10] (· = .ret [.str (dec x)]) := by
  refine pure_of_vc Tryz.func87 rfl rfl rfl ?_
  refine And.intro (fun _ => ?_) (fun h => absurd rfl h)
  (first | refine brLt (fun h1 => ?_) (fun h1 => ?_) | refine brLe (fun h1 => ?_) (fun h1 => ?_) | refine brEq (fun h1 => ?_) (fun h1 => ?_))
  · (first | refine brLt (fun h2 => ?_) (fun h2 => ?_) | refine brLe (fun h2 => ?_) (fun h2 => ?_) | refine brEq (fun h2 => ?_) (fun h2 => ?_))
    · exact (small_c x h0 h9).eq rfl (end1 _ rfl rfl rfl)
    · omega
  · omega
theorem itoaI_c (x : Int) (h0 : 0 ≤ x) (h9 : x < 100) : Pure cx 64 [i64 x] (· = .ret [.str (dec x)]) := by
  refine pure_of_vc Tryz.func64 rfl rfl rfl ?_
  exact (fmt_c x h0 h9).eq rfl (end1 _ rfl rfl rfl)
theorem itoa_c (x : Int) (h0 : 0 ≤ x) (h9 : x < 100) : Pure cx 34 [i64 x] (· = .ret [.str (dec x)]) := by
  refine pure_of_vc Tryz.func34 rfl rfl rfl ?_
  exact (itoaI_c x h0 h9).eq rfl (end1 _ rfl rfl rfl)

/-! ### Join with single octets 32 -/
def preN (l : List (List UInt8)) : List UInt8 := l.flatMap fun x => 32 :: x
def joinS (l : List (List UInt8)) : List UInt8 := (preN l).drop 1
theorem pre_snoc (l : List (List UInt8)) (x : List UInt8) : preN (l ++ [x]) = preN l ++ 32 :: x := by simp [preN]
theorem pre_join {l : List (List UInt8)} (h : l ≠ []) : 32 :: joinS l = preN l := by
  cases l with
  | nil => exact absurd rfl h
  | cons x l => rfl
theorem join_snoc {l : List (List UInt8)} (h : l ≠ []) (x : List UInt8) : joinS (l ++ [x]) = joinS l ++ 32 :: x := by
  have h1 := pre_join (l := l ++ [x]) (by simp)
  rw [pre_snoc, ← pre_join h] at h1
  exact List.cons.inj h1 |>.2
theorem take_ne {α : Type} {l : List α} {k : Nat} (h : 0 < k) (hl : 0 < l.length) : l.take k ≠ [] := fun e => by
  have := congrArg List.length e
  rw [List.length_take, List.length_nil] at this; omega
theorem join_one (x : List UInt8) : joinS [x] = x := by simp [joinS, preN]
theorem pre_len_le {l : List (List UInt8)} (k : Nat) : (preN (l.take k)).length ≤ (preN l).length := by
  conv => rhs; rw [← List.take_append_drop k l]
  rw [preN, preN, List.flatMap_append, List.length_append]; omega
theorem join_len_le {l : List (List UInt8)} (k : Nat) : (joinS (l.take k)).length ≤ (preN l).length := by
  have := pre_len_le (l := l) k
  rw [joinS, List.length_drop]; omega
def lensN (l : List (List UInt8)) : Nat := l.foldl (fun n x => n + x.length) 0
theorem lens_snoc (l : List (List UInt8)) (x : List UInt8) : lensN (l ++ [x]) = lensN l + x.length := by rw [lensN, List.foldl_append]; rfl
theorem lens_le (l : List (List UInt8)) : lensN l ≤ (preN l).length := by
  have key : ∀ (l : List (List UInt8)) (n : Nat), l.foldl (fun n x => n + x.length) n ≤ n + (preN l).length := by
    intro l
    induction l with
    | nil => intro n; simp [preN]
    | cons x l ih =>
      intro n
      have := ih (n + x.length)
      have e : preN (x :: l) = (32 :: x) ++ preN l := rfl
      rw [List.foldl_cons, e, List.length_append, List.length_cons]; omega
  have := key l 0
  rw [lensN]; omega
abbrev strs (l : List (List UInt8)) : PV := .lst (l.map .str)
theorem tcell {l : List (List UInt8)} {k : Nat} (h : k < l.length) : (l.map PV.str)[k]? = some (.str (l.getD k [])) := map_at [] h

theorem strJoin_c (l : List (List UInt8)) (hl : l.length ≤ 70000) (hp : (preN l).length ≤ 50000000) : Pure cx 20 [strs l, .str [32]] (· = .ret [.str (joinS l)]) := by
  refine pure_of_vc Tryz.func20 rfl rfl rfl ?_
  (first | refine brLt (fun h1 => ?_) (fun h1 => ?_) | refine brLe (fun h1 => ?_) (fun h1 => ?_) | refine brEq (fun h1 => ?_) (fun h1 => ?_))
  · have h1 : (((l.map PV.str).length : Nat) : Int) = 0 := h1
    rw [List.length_map] at h1
    have : l = [] := List.eq_nil_of_length_eq_zero (by omega)
    subst this
    exact end1 _ rfl rfl rfl
  have h1 : ¬ (((l.map PV.str).length : Nat) : Int) = 0 := h1
  rw [List.length_map] at h1
  (first | refine brLt (fun h2 => ?_) (fun h2 => ?_) | refine brLe (fun h2 => ?_) (fun h2 => ?_) | refine brEq (fun h2 => ?_) (fun h2 => ?_))
  · have h2 : (((l.map PV.str).length : Nat) : Int) = 1 := h2
    rw [List.length_map] at h2
    match l, h2 with
    | [x], _ =>
      refine ⟨_, ⟨by omega, .str x, rfl, rfl⟩, ?_⟩
      exact end1 _ rfl rfl (by rw [join_one])
    | [], h2 => simp at h2
    | _ :: _ :: _, h2 => simp at h2; omega
  have h2 : ¬ (((l.map PV.str).length : Nat) : Int) = 1 := h2
  rw [List.length_map] at h2
  have hl2 : 2 ≤ l.length := by omega
  refine And.intro (fun _ => ?_) (fun h => absurd (show (0 : Int) < 1 by decide) h)
  have hm : (((l.map PV.str).length : Nat) : Int) - 1 = ((l.length - 1 : Nat) : Int) := by rw [List.length_map]; omega
  obtain ⟨q, hq⟩ : ∃ q : Int, q = Int.tdiv 9223372036854775807 ((l.length - 1 : Nat) : Int) := ⟨_, rfl⟩
  have hq2 : 2 ≤ q ∧ q ≤ 9223372036854775807 := by
    rw [hq, Int.tdiv_eq_ediv_of_nonneg (by decide)]
    refine ⟨?_, Int.ediv_le_self _ (by decide)⟩
    exact Int.le_ediv_of_mul_le (by omega) (by omega)
  refine ⟨((l.length - 1 : Nat) : Int), by show _ = IntKind.i64.wrap ((((l.map PV.str).length : Nat) : Int) - 1); rw [hm]; exact wrap_i64 (by omega) (by omega), ?_⟩
  refine ⟨by show ((l.length - 1 : Nat) : Int) ≠ 0; omega, q, by rw [hq] at hq2 ⊢; exact wrap_i64 (by omega) (by omega), ?_⟩
  (first | refine brLt (fun h3 => ?_) (fun h3 => ?_) | refine brLe (fun h3 => ?_) (fun h3 => ?_) | refine brEq (fun h3 => ?_) (fun h3 => ?_))
  · have h3 : q ≤ 1 := h3
    omega
  refine ⟨((l.length - 1 : Nat) : Int), by show _ = IntKind.i64.wrap ((((l.map PV.str).length : Nat) : Int) - 1); rw [hm]; exact wrap_i64 (by omega) (by omega), ?_⟩
  refine ⟨((l.length - 1 : Nat) : Int), by show _ = IntKind.i64.wrap (1 * ((l.length - 1 : Nat) : Int)); rw [Int.one_mul]; exact wrap_i64 (by omega) (by omega), ?_⟩
  refine ⟨((l.length - 1 : Nat) : Int), by show _ = IntKind.i64.wrap (0 + ((l.length - 1 : Nat) : Int)); rw [Int.zero_add]; exact wrap_i64 (by omega) (by omega), ?_⟩
  have hll : ∀ k, lensN (l.take k) ≤ 50000000 := fun k => by
    have h4 := lens_le (l.take k)
    have h5 := pre_len_le (l := l) k
    omega
  refine ⟨Nat, fun k => [(0, .p (strs l)), (1, .p (.str [32])), (5, .p (i64 ((l.length - 1 + lensN (l.take k) : Nat) : Int))), (39, .p (strs l)), (40, .p (i64 l.length)), (41, .p (i64 k))], fun _ => ⟨0, []⟩, fun k => k ≤ l.length, fun k => l.length - k, ?_, ?_⟩
  · exact ⟨0, by omega, ent0 rfl ⟨rfl, rfl, rfl, rfl, lenM PV.str l, rfl, trivial⟩ trivial rfl⟩
  intro k hk
  have hk5 := hll k
  (first | refine brLt (fun h4 => ?_) (fun h4 => ?_) | refine brLe (fun h4 => ?_) (fun h4 => ?_) | refine brEq (fun h4 => ?_) (fun h4 => ?_))
  · have h4 : (k : Int) < (l.length : Nat) := h4
    have hkl : k < l.length := by omega
    obtain ⟨x, hx⟩ : ∃ x, x = l.getD k [] := ⟨_, rfl⟩
    have hk6 := hll (k + 1)
    have hsn : lensN (l.take (k + 1)) = lensN (l.take k) + x.length := by rw [take_succ_getD [] hkl, ← hx, lens_snoc]
    refine ⟨_, ⟨by omega, .str x, by rw [hx]; exact tcell hkl, rfl⟩, ?_⟩
    refine ⟨9223372036854775807 - ((l.length - 1 + lensN (l.take k) : Nat) : Int), wrap_i64 (by omega) (by omega), ?_⟩
    (first | refine brLt (fun h5 => ?_) (fun h5 => ?_) | refine brLe (fun h5 => ?_) (fun h5 => ?_) | refine brEq (fun h5 => ?_) (fun h5 => ?_))
    · have h5 : 9223372036854775807 - ((l.length - 1 + lensN (l.take k) : Nat) : Int) < (x.length : Nat) := h5
      omega
    refine ⟨((l.length - 1 + lensN (l.take (k + 1)) : Nat) : Int), by show _ = IntKind.i64.wrap (((l.length - 1 + lensN (l.take k) : Nat) : Int) + (x.length : Nat)); rw [hsn, show ((l.length - 1 + lensN (l.take k) : Nat) : Int) + (x.length : Nat) = ((l.length - 1 + (lensN (l.take k) + x.length) : Nat) : Int) by omega]; exact wrap_i64 (by omega) (by omega), ?_⟩
    refine ⟨_, wrap_i64 (by omega) (by omega), ?_⟩
    exact ⟨k + 1, by omega, ent0 rfl ⟨rfl, rfl, rfl, rfl, rfl, rfl, trivial⟩ trivial rfl, by show l.length - (k + 1) < l.length - k; omega⟩
  have h4 : ¬ (k : Int) < (l.length : Nat) := h4
  obtain ⟨G, hG⟩ : ∃ G, G = l.length - 1 + lensN (l.take k) := ⟨_, rfl⟩
  have hx0 := tcell (l := l) (k := 0) (by omega)
  obtain ⟨x0, hx0'⟩ : ∃ x, x = l.getD 0 [] := ⟨_, rfl⟩
  rw [← hx0'] at hx0
  have hj1 : joinS (l.take 1) = x0 := by
    rw [take_succ_getD [] (show 0 < l.length by omega), ← hx0']
    exact join_one x0
  have hjl := fun k => join_len_le (l := l) k
  have hx0l := hjl 1
  rw [hj1] at hx0l
  refine (growN_c false (l.length - 1 + lensN (l.take k)) (by omega) (by omega)).useE [] [] rfl (by (repeat' first | exact trivial | exact rfl | exact ⟨rfl, rfl⟩ | exact .inl rfl | refine ⟨_, rfl, rfl, rfl, ?_⟩ | refine ⟨_, _, rfl, ?_, ?_⟩ | refine ⟨_, rfl, ?_⟩ | refine And.intro ?_ ?_)) (by (repeat' first | exact trivial | exact rfl | exact ⟨rfl, rfl⟩ | exact .inl rfl | refine ⟨_, rfl, rfl, rfl, ?_⟩ | refine ⟨_, _, rfl, ?_, ?_⟩ | refine ⟨_, rfl, ?_⟩ | refine And.intro ?_ ?_)) ?_
  refine ⟨_, ⟨by omega, .str x0, hx0, rfl⟩, ?_⟩
  refine (writeString_c true [] x0 (by simp) (by omega)).useE [] [] rfl (by (repeat' first | exact trivial | exact rfl | exact ⟨rfl, rfl⟩ | exact .inl rfl | refine ⟨_, rfl, rfl, rfl, ?_⟩ | refine ⟨_, _, rfl, ?_, ?_⟩ | refine ⟨_, rfl, ?_⟩ | refine And.intro ?_ ?_)) (by (repeat' first | exact trivial | exact rfl | exact ⟨rfl, rfl⟩ | exact .inl rfl | refine ⟨_, rfl, rfl, rfl, ?_⟩ | refine ⟨_, _, rfl, ?_, ?_⟩ | refine ⟨_, rfl, ?_⟩ | refine And.intro ?_ ?_)) ?_
  refine ⟨by show (0 : Int) ≤ 1 ∧ (1 : Int) ≤ ((l.map PV.str).length : Nat); rw [List.length_map]; omega, ?_⟩
  refine ⟨Nat × List UInt8, fun y => [(1, .p (.str [32])), (8, .ptr 0 0 0), (63, .p (strs (l.drop 1))), (64, .p (i64 (l.drop 1).length)), (65, .p (i64 y.1))], fun y => bldH true y.2, fun y => y.1 ≤ (l.drop 1).length ∧ y.2 = joinS (l.take (y.1 + 1)), fun y => (l.drop 1).length - y.1, ?_, ?_⟩
  · refine ⟨(0, x0), ⟨by simp, hj1.symm⟩, ent_of [] [(1, 2)] [] rfl ⟨rfl, ⟨rfl, rfl⟩, ?_, ?_, rfl, trivial⟩ (by (repeat' first | exact trivial | exact rfl | exact ⟨rfl, rfl⟩ | exact .inl rfl | refine ⟨_, rfl, rfl, rfl, ?_⟩ | refine ⟨_, _, rfl, ?_, ?_⟩ | refine ⟨_, rfl, ?_⟩ | refine And.intro ?_ ?_)) rfl⟩
    · show PV.lst ((l.drop 1).map PV.str) = .lst ((l.map PV.str).drop 1)
      rw [List.map_drop]
    · show i64 ((l.drop 1).length : Nat) = i64 (((l.map PV.str).drop 1).length : Nat)
      rw [List.length_drop, List.length_drop, List.length_map]
  rintro ⟨j, ys⟩ ⟨j1, j2⟩
  simp only [] at j1 j2
  have hdl : (l.drop 1).length = l.length - 1 := List.length_drop ..
  have hyl : ys.length ≤ 50000000 := by rw [j2]; have := hjl (j + 1); omega
  (first | refine brLt (fun h5 => ?_) (fun h5 => ?_) | refine brLe (fun h5 => ?_) (fun h5 => ?_) | refine brEq (fun h5 => ?_) (fun h5 => ?_))
  · have h5 : (j : Int) < ((l.drop 1).length : Nat) := h5
    have hj : j + 1 < l.length := by omega
    obtain ⟨x, hx⟩ : ∃ x, x = l.getD (j + 1) [] := ⟨_, rfl⟩
    have hxc : ((l.drop 1).map PV.str)[j]? = some (.str x) := by
      rw [List.map_drop, List.getElem?_drop, Nat.add_comm, hx]; exact tcell hj
    have hsn : joinS (l.take (j + 1 + 1)) = ys ++ 32 :: x := by
      rw [take_succ_getD [] hj, ← hx, join_snoc (take_ne (by omega) (by omega)), j2]
    have hxl : x.length ≤ 50000000 := by
      have h6 := congrArg List.length hsn
      have h7 := hjl (j + 1 + 1)
      rw [List.length_append, List.length_cons] at h6
      omega
    refine ⟨_, ⟨by omega, .str x, hxc, rfl⟩, ?_⟩
    refine (writeString_c true ys [32] (by omega) (by simp)).useE [] [] rfl (by (repeat' first | exact trivial | exact rfl | exact ⟨rfl, rfl⟩ | exact .inl rfl | refine ⟨_, rfl, rfl, rfl, ?_⟩ | refine ⟨_, _, rfl, ?_, ?_⟩ | refine ⟨_, rfl, ?_⟩ | refine And.intro ?_ ?_)) (by (repeat' first | exact trivial | exact rfl | exact ⟨rfl, rfl⟩ | exact .inl rfl | refine ⟨_, rfl, rfl, rfl, ?_⟩ | refine ⟨_, _, rfl, ?_, ?_⟩ | refine ⟨_, rfl, ?_⟩ | refine And.intro ?_ ?_)) ?_
    refine (writeString_c true (ys ++ [32]) x (by rw [snoc_len]; omega) (by omega)).useE [] [(1, 2)] rfl (by (repeat' first | exact trivial | exact rfl | exact ⟨rfl, rfl⟩ | exact .inl rfl | refine ⟨_, rfl, rfl, rfl, ?_⟩ | refine ⟨_, _, rfl, ?_, ?_⟩ | refine ⟨_, rfl, ?_⟩ | refine And.intro ?_ ?_)) (by (repeat' first | exact trivial | exact rfl | exact ⟨rfl, rfl⟩ | exact .inl rfl | refine ⟨_, rfl, rfl, rfl, ?_⟩ | refine ⟨_, _, rfl, ?_, ?_⟩ | refine ⟨_, rfl, ?_⟩ | refine And.intro ?_ ?_)) ?_
    refine ⟨_, wrap_i64 (by omega) (by omega), ?_⟩
    refine ⟨(j + 1, (ys ++ [32]) ++ x), ⟨by simp only []; omega, by simp only []; rw [hsn]; simp⟩, ent_of [] [(1, 3)] [] rfl (by (repeat' first | exact trivial | exact rfl | exact ⟨rfl, rfl⟩ | exact .inl rfl | refine ⟨_, rfl, rfl, rfl, ?_⟩ | refine ⟨_, _, rfl, ?_, ?_⟩ | refine ⟨_, rfl, ?_⟩ | refine And.intro ?_ ?_)) (by (repeat' first | exact trivial | exact rfl | exact ⟨rfl, rfl⟩ | exact .inl rfl | refine ⟨_, rfl, rfl, rfl, ?_⟩ | refine ⟨_, _, rfl, ?_, ?_⟩ | refine ⟨_, rfl, ?_⟩ | refine And.intro ?_ ?_)) rfl, by simp only []; omega⟩
  · have h5 : ¬ (j : Int) < ((l.drop 1).length : Nat) := h5
    have hyj : ys = joinS l := by rw [j2, take_all (by omega)]
    have hne : ys ≠ [] := fun e => by
      have h6 : joinS (l.take (j + 1)) = [] := by rw [← j2]; exact e
      obtain ⟨i, hi⟩ : ∃ i, j = i + 1 := ⟨j - 1, by omega⟩
      rw [hi, take_succ_getD [] (show i + 1 < l.length by omega), join_snoc (take_ne (by omega) (by omega))] at h6
      simp at h6
    refine (string_c true ys hne (by omega)).useE [] [] rfl (by (repeat' first | exact trivial | exact rfl | exact ⟨rfl, rfl⟩ | exact .inl rfl | refine ⟨_, rfl, rfl, rfl, ?_⟩ | refine ⟨_, _, rfl, ?_, ?_⟩ | refine ⟨_, rfl, ?_⟩ | refine And.intro ?_ ?_)) (by (repeat' first | exact trivial | exact rfl | exact ⟨rfl, rfl⟩ | exact .inl rfl | refine ⟨_, rfl, rfl, rfl, ?_⟩ | refine ⟨_, _, rfl, ?_, ?_⟩ | refine ⟨_, rfl, ?_⟩ | refine And.intro ?_ ?_)) ?_
    exact end1 _ rfl rfl (by rw [← hyj])
end Go.Proofs.YtphmmoloegjocaaGreatDoor

/- Package format: Nested. -/
namespace Go.Proofs.YtphmmoloegjocaaGreatDoor
open Go Y
set_option maxRecDepth 100000
set_option maxHeartbeats 40000000

abbrev TS : TypeId := 9
def sO (l : List (List UInt8)) : AObj := ⟨TS, false, .pu (l.map .str)⟩
theorem pre_nums (l : List Int) : preN (l.map dec) = numsN l := by rw [preN, List.flatMap_map]; rfl
theorem join_nums (l : List Int) : joinS (l.map dec) = (numsN l).drop 1 := by rw [joinS, pre_nums]

theorem listI_c (l : List Int) (hl : l.length ≤ 1000) (h : two l) : Pure cx 35 [ints l, .fn (.func 34) [] []] (· = .ret [.str ((numsN l).drop 1)]) := by
  refine pure_of_vc Tryz.func35 rfl rfl rfl ?_
  refine ⟨by show (0 : Int) ≤ 0 ∧ (0 : Int) ≤ ((l.map i64).length : Nat) ∧ (((l.map i64).length : Nat) : Int) * 16 ≤ 281474976710656 ∧ (((l.map i64).length : Nat) : Int) ≤ 281474976710656; rw [List.length_map]; omega, ?_⟩
  refine ⟨Nat, fun k => [(1, .p (.fn (.func 34) [] [])), (5, .sl 0 1 0 ((l.take k).map dec).length), (11, .p (ints l)), (12, .p (i64 l.length)), (13, .p (i64 k))], fun k => ⟨1, [(0, sO ((l.take k).map dec))]⟩, fun k => k ≤ l.length, fun k => l.length - k, ?_, ?_⟩
  · exact ⟨0, by omega, ent_of [] [] [] rfl ⟨rfl, rfl, rfl, lenM i64 l, rfl, trivial⟩ ⟨⟨_, rfl, rfl, rfl, rfl⟩, trivial⟩ rfl⟩
  intro k hk
  have hkm : ((l.take k).map dec).length ≤ l.length := by rw [List.length_map, List.length_take]; omega
  (first | refine brLt (fun h1 => ?_) (fun h1 => ?_) | refine brLe (fun h1 => ?_) (fun h1 => ?_) | refine brEq (fun h1 => ?_) (fun h1 => ?_))
  · have h1 : (k : Int) < (l.length : Nat) := h1
    have hkl : k < l.length := by omega
    obtain ⟨x, hx⟩ : ∃ x, x = l.getD k 0 := ⟨_, rfl⟩
    have hx2 := h _ (getD_memL 0 hkl)
    rw [← hx] at hx2
    have e : (l.take (k + 1)).map dec = (l.take k).map dec ++ [dec x] := by rw [take_succ_getD 0 hkl, ← hx, List.map_append]; rfl
    refine ⟨_, ⟨by omega, i64 x, by rw [hx]; exact icell hkl, rfl⟩, ?_⟩
    refine (itoa_c x hx2.1 hx2.2).eq rfl ?_
    refine ⟨by show 0 + 1 ≤ 1; omega, [.str (dec x)], rfl, ?_⟩
    refine ⟨by show 0 + ((l.take k).map dec).length ≤ (((l.take k).map dec).map PV.str).length; simp, ((l.take k).map dec).map .str, takeAll (by simp), by show (((l.take k).map dec).length + 1) * 16 ≤ 140737488355328; omega, ((l.take k).map dec ++ [dec x]).map .str, by simp, ?_⟩
    refine ⟨_, wrap_i64 (by omega) (by omega), ?_⟩
    refine ⟨k + 1, by omega, ent_of [] [(0, 2)] [] rfl ⟨rfl, ?_, rfl, rfl, rfl, trivial⟩ ⟨⟨_, rfl, rfl, rfl, congrArg (List.map PV.str) e.symm⟩, trivial⟩ rfl, by show l.length - (k + 1) < l.length - k; omega⟩
    exact congrArg (fun m => AV.sl 2 1 0 m) (by rw [e, snoc_len])
  · have h1 : ¬ (k : Int) < (l.length : Nat) := h1
    have hn := nums_len l
    refine (strJoin_c (l.map dec) (by rw [List.length_map]; omega) (by rw [pre_nums]; omega)).lends [0] rfl ⟨_, _, rfl, ⟨_, rfl, ?_, ?_⟩, _, _, rfl, rfl, rfl⟩ ?_
    · show 0 + ((l.take k).map dec).length ≤ (((l.take k).map dec).map PV.str).length
      simp
    · rw [show l.take k = l from take_all (by omega)]
      exact takeAll (by simp)
    · exact end1 _ rfl rfl (by rw [← join_nums])

theorem nest11_c (r : List Int) (hl : r.length ≤ 1000) (h : two r) : Pure cx 42 [ints r] (· = .ret [.str (listN r)]) := by
  refine pure_of_vc Tryz.func42 rfl rfl rfl ?_
  have hn := nums_len r
  refine (listI_c r hl h).eq rfl ?_
  refine ⟨by show 1 + ((numsN r).drop 1).length ≤ 9223372036854775807; rw [List.length_drop]; omega, ?_⟩
  refine ⟨by show ([40] ++ (numsN r).drop 1).length + 1 ≤ 9223372036854775807; rw [List.length_append, List.length_drop]; simp <;> omega, ?_⟩
  exact end1 _ rfl rfl rfl

theorem listR_c (l : List (List Int)) (hl : l.length ≤ 65536) (h : ∀ r ∈ l, two r ∧ r.length ≤ 4) : Pure cx 41 [.lst (l.map ints), .fn (.func 42) [] []] (· = .ret [.str (joinS (l.map listN))]) := by
  refine pure_of_vc Tryz.func41 rfl rfl rfl ?_
  refine ⟨by show (0 : Int) ≤ 0 ∧ (0 : Int) ≤ ((l.map ints).length : Nat) ∧ (((l.map ints).length : Nat) : Int) * 16 ≤ 281474976710656 ∧ (((l.map ints).length : Nat) : Int) ≤ 281474976710656; rw [List.length_map]; omega, ?_⟩
  refine ⟨Nat, fun k => [(1, .p (.fn (.func 42) [] [])), (5, .sl 0 1 0 ((l.take k).map listN).length), (11, .p (.lst (l.map ints))), (12, .p (i64 l.length)), (13, .p (i64 k))], fun k => ⟨1, [(0, sO ((l.take k).map listN))]⟩, fun k => k ≤ l.length, fun k => l.length - k, ?_, ?_⟩
  · exact ⟨0, by omega, ent_of [] [] [] rfl ⟨rfl, rfl, rfl, lenM ints l, rfl, trivial⟩ ⟨⟨_, rfl, rfl, rfl, rfl⟩, trivial⟩ rfl⟩
  intro k hk
  have hkm : ((l.take k).map listN).length ≤ l.length := by rw [List.length_map, List.length_take]; omega
  (first | refine brLt (fun h1 => ?_) (fun h1 => ?_) | refine brLe (fun h1 => ?_) (fun h1 => ?_) | refine brEq (fun h1 => ?_) (fun h1 => ?_))
  · have h1 : (k : Int) < (l.length : Nat) := h1
    have hkl : k < l.length := by omega
    obtain ⟨x, hx⟩ : ∃ x, x = l.getD k [] := ⟨_, rfl⟩
    have hx2 := h _ (getD_memL [] hkl)
    rw [← hx] at hx2
    have e : (l.take (k + 1)).map listN = (l.take k).map listN ++ [listN x] := by rw [take_succ_getD [] hkl, ← hx, List.map_append]; rfl
    refine ⟨_, ⟨by omega, ints x, by rw [hx]; exact ccell hkl, rfl⟩, ?_⟩
    refine (nest11_c x (by omega) hx2.1).eq rfl ?_
    refine ⟨by show 0 + 1 ≤ 1; omega, [.str (listN x)], rfl, ?_⟩
    refine ⟨by show 0 + ((l.take k).map listN).length ≤ (((l.take k).map listN).map PV.str).length; simp, ((l.take k).map listN).map .str, takeAll (by simp), by show (((l.take k).map listN).length + 1) * 16 ≤ 140737488355328; omega, ((l.take k).map listN ++ [listN x]).map .str, by simp, ?_⟩
    refine ⟨_, wrap_i64 (by omega) (by omega), ?_⟩
    refine ⟨k + 1, by omega, ent_of [] [(0, 2)] [] rfl ⟨rfl, ?_, rfl, rfl, rfl, trivial⟩ ⟨⟨_, rfl, rfl, rfl, congrArg (List.map PV.str) e.symm⟩, trivial⟩ rfl, by show l.length - (k + 1) < l.length - k; omega⟩
    exact congrArg (fun m => AV.sl 2 1 0 m) (by rw [e, snoc_len])
  · have h1 : ¬ (k : Int) < (l.length : Nat) := h1
    have hn : (preN (l.map listN)).length ≤ 15 * l.length := by
      rw [preN, List.flatMap_map]
      refine flat_len fun r hr => ?_
      have h3 := list_len41 r
      have h4 := (h r hr).2
      simp only [List.length_cons]; omega
    refine (strJoin_c (l.map listN) (by rw [List.length_map]; omega) (by omega)).lends [0] rfl ⟨_, _, rfl, ⟨_, rfl, ?_, ?_⟩, _, _, rfl, rfl, rfl⟩ ?_
    · show 0 + ((l.take k).map listN).length ≤ (((l.take k).map listN).map PV.str).length
      simp
    · rw [show l.take k = l from take_all (by omega)]
      exact takeAll (by simp)
    · exact end1 _ rfl rfl rfl

theorem nest_eq {x : Nd} (h : x.rows ≠ []) : nodeNest x = ((((([40, 110, 111, 100, 101, 32] ++ dec x.card) ++ [32, 40]) ++ (numsN x.parents).drop 1) ++ [41, 32]) ++ joinS (x.rows.map listN)) ++ [41] := by
  have h1 : (x.rows.flatMap fun r => 32 :: listN r) = 32 :: joinS (x.rows.map listN) := by
    rw [pre_join (by simpa using h), preN, List.flatMap_map]
  rw [nodeNest, h1, listN]
  simp
theorem nest1_c (n : Nt) (h : SmT n) (x : Nd) (hx : x ∈ n.nodes) : Pure cx 40 [x.pv] (· = .ret [.str (nodeNest x)]) := by
  refine pure_of_vc Tryz.func40 rfl rfl rfl ?_
  have hc := h.card x hx
  have hdl := dec_len x.card
  have hp := h.par x hx
  have hpl := nums_len x.parents
  have hrw := h.rows x hx
  have hrn : x.rows ≠ [] := fun e => by rw [e] at hrw; simp at hrw
  have hjl : (joinS (x.rows.map listN)).length ≤ 15 * 65536 := by
    have h1 := h.lists_len hx x.rows.length
    rw [take_all (Nat.le_refl _)] at h1
    have h2 : (preN (x.rows.map listN)).length ≤ 15 * 65536 := by rw [preN, List.flatMap_map]; exact h1
    rw [joinS, List.length_drop]; omega
  obtain ⟨J, hJ⟩ : ∃ J, J = joinS (x.rows.map listN) := ⟨_, rfl⟩
  have hR := listR_c x.rows hrw.2 fun r hr => ⟨(h.row x hx r hr).1, (h.row x hx r hr).2.2⟩
  rw [← hJ] at hR hjl
  refine VDraw.seq rfl ?_
  refine (itoa_c x.card (by omega) hc.2).eq rfl ?_
  refine ⟨by (repeat' first | exact trivial | exact rfl | exact ⟨rfl, rfl⟩ | exact .inl rfl | refine ⟨_, rfl, rfl, rfl, ?_⟩ | refine ⟨_, _, rfl, ?_, ?_⟩ | refine ⟨_, rfl, ?_⟩ | refine And.intro ?_ ?_), ?_⟩
  refine ⟨by show 6 + (dec x.card).length ≤ 9223372036854775807; omega, ?_⟩
  refine ⟨by show ([40, 110, 111, 100, 101, 32] ++ dec x.card).length + 2 ≤ 9223372036854775807; rw [List.length_append]; simp <;> omega, ?_⟩
  refine (listI_c x.parents (by omega) hp.1).eq rfl ?_
  refine ⟨by show (([40, 110, 111, 100, 101, 32] ++ dec x.card) ++ [32, 40]).length + ((numsN x.parents).drop 1).length ≤ 9223372036854775807; rw [List.length_append, List.length_append, List.length_drop]; simp <;> omega, ?_⟩
  refine ⟨by show ((([40, 110, 111, 100, 101, 32] ++ dec x.card) ++ [32, 40]) ++ (numsN x.parents).drop 1).length + 2 ≤ 9223372036854775807; rw [List.length_append, List.length_append, List.length_append, List.length_drop]; simp <;> omega, ?_⟩
  refine hR.eq rfl ?_
  refine ⟨by show (((([40, 110, 111, 100, 101, 32] ++ dec x.card) ++ [32, 40]) ++ (numsN x.parents).drop 1) ++ [41, 32]).length + J.length ≤ 9223372036854775807; rw [List.length_append, List.length_append, List.length_append, List.length_append, List.length_drop]; simp <;> omega, ?_⟩
  refine ⟨by show ((((([40, 110, 111, 100, 101, 32] ++ dec x.card) ++ [32, 40]) ++ (numsN x.parents).drop 1) ++ [41, 32]) ++ J).length + 1 ≤ 9223372036854775807; rw [List.length_append, List.length_append, List.length_append, List.length_append, List.length_append, List.length_drop]; simp <;> omega, ?_⟩
  exact end1 _ rfl rfl (by rw [nest_eq hrn, ← hJ])

theorem listNd_c (n : Nt) (h : SmT n) : Pure cx 39 [.lsts 3 (n.nodes.map Nd.cells), .fn (.func 40) [] []] (· = .ret [.str (joinS (n.nodes.map nodeNest))]) := by
  refine pure_of_vc Tryz.func39 rfl rfl rfl ?_
  have hnl := h.len
  refine ⟨by show (0 : Int) ≤ 0 ∧ (0 : Int) ≤ ((n.nodes.map Nd.cells).length : Nat) ∧ (((n.nodes.map Nd.cells).length : Nat) : Int) * 16 ≤ 281474976710656 ∧ (((n.nodes.map Nd.cells).length : Nat) : Int) ≤ 281474976710656; rw [List.length_map]; omega, ?_⟩
  refine ⟨Nat, fun k => [(1, .p (.fn (.func 40) [] [])), (5, .sl 0 1 0 ((n.nodes.take k).map nodeNest).length), (11, .p (.lsts 3 (n.nodes.map Nd.cells))), (12, .p (i64 n.nodes.length)), (13, .p (i64 k))], fun k => ⟨1, [(0, sO ((n.nodes.take k).map nodeNest))]⟩, fun k => k ≤ n.nodes.length, fun k => n.nodes.length - k, ?_, ?_⟩
  · exact ⟨0, by omega, ent_of [] [] [] rfl ⟨rfl, rfl, rfl, lenM Nd.cells n.nodes, rfl, trivial⟩ ⟨⟨_, rfl, rfl, rfl, rfl⟩, trivial⟩ rfl⟩
  intro k hk
  have hkm : ((n.nodes.take k).map nodeNest).length ≤ n.nodes.length := by rw [List.length_map, List.length_take]; omega
  (first | refine brLt (fun h1 => ?_) (fun h1 => ?_) | refine brLe (fun h1 => ?_) (fun h1 => ?_) | refine brEq (fun h1 => ?_) (fun h1 => ?_))
  · have h1 : (k : Int) < (n.nodes.length : Nat) := h1
    have hkl : k < n.nodes.length := by omega
    obtain ⟨x, hx⟩ : ∃ x, x = n.nodes.getD k nd0 := ⟨_, rfl⟩
    have hxm : x ∈ n.nodes := by rw [hx]; exact getD_memL nd0 hkl
    have e : (n.nodes.take (k + 1)).map nodeNest = (n.nodes.take k).map nodeNest ++ [nodeNest x] := by rw [take_succ_getD nd0 hkl, ← hx, List.map_append]; rfl
    refine ⟨_, ⟨by omega, x.cells, by rw [hx]; exact ncell hkl, rfl⟩, ?_⟩
    refine (nest1_c n h x hxm).eq rfl ?_
    refine ⟨by show 0 + 1 ≤ 1; omega, [.str (nodeNest x)], rfl, ?_⟩
    refine ⟨by show 0 + ((n.nodes.take k).map nodeNest).length ≤ (((n.nodes.take k).map nodeNest).map PV.str).length; simp, ((n.nodes.take k).map nodeNest).map .str, takeAll (by simp), by show (((n.nodes.take k).map nodeNest).length + 1) * 16 ≤ 140737488355328; omega, ((n.nodes.take k).map nodeNest ++ [nodeNest x]).map .str, by simp, ?_⟩
    refine ⟨_, wrap_i64 (by omega) (by omega), ?_⟩
    refine ⟨k + 1, by omega, ent_of [] [(0, 3)] [] rfl ⟨rfl, ?_, rfl, rfl, rfl, trivial⟩ ⟨⟨_, rfl, rfl, rfl, congrArg (List.map PV.str) e.symm⟩, trivial⟩ rfl, by show n.nodes.length - (k + 1) < n.nodes.length - k; omega⟩
    exact congrArg (fun m => AV.sl 3 1 0 m) (by rw [e, snoc_len])
  · have h1 : ¬ (k : Int) < (n.nodes.length : Nat) := h1
    have hn : (preN (n.nodes.map nodeNest)).length ≤ 8 * 1100000 := by
      have h2 := h.nest_len n.nodes.length
      rw [take_all (Nat.le_refl _)] at h2
      rw [preN, List.flatMap_map]; exact h2
    refine (strJoin_c (n.nodes.map nodeNest) (by rw [List.length_map]; omega) (by omega)).lends [0] rfl ⟨_, _, rfl, ⟨_, rfl, ?_, ?_⟩, _, _, rfl, rfl, rfl⟩ ?_
    · show 0 + ((n.nodes.take k).map nodeNest).length ≤ (((n.nodes.take k).map nodeNest).map PV.str).length
      simp
    · rw [show n.nodes.take k = n.nodes from take_all (by omega)]
      exact takeAll (by simp)
    · exact end1 _ rfl rfl rfl

theorem nestedE_c (n : Nt) (hb : BigN n) : Pure cx 11 [n.pv] (· = .ret (nestedP n)) := by
  refine pure_of_vc Tryz.func11 rfl rfl rfl ?_
  have hC := check_c n hb
  by_cases hv : validP n
  rotate_left
  · rw [checkN, if_neg hv] at hC
    refine hC.eq rfl ?_
    refine And.intro (fun h => absurd (show (50 : Int) = 0 from h) (by decide)) (fun _ => ?_)
    exact end2 (.str []) (i64 50) rfl rfl rfl (by rw [nestedP, if_neg hv])
  rw [checkN, if_pos hv] at hC
  have h := valid_sm hv
  have hgl := dec_len n.grain
  have hnn : n.nodes ≠ [] := fun e => by have := hv.len.1; rw [e] at this; simp at this
  have hjl : (joinS (n.nodes.map nodeNest)).length ≤ 8 * 1100000 := by
    have h2 := h.nest_len n.nodes.length
    rw [take_all (Nat.le_refl _)] at h2
    have h3 : (preN (n.nodes.map nodeNest)).length ≤ 8 * 1100000 := by rw [preN, List.flatMap_map]; exact h2
    rw [joinS, List.length_drop]; omega
  have heq : nested n = (([40, 110, 101, 116, 32] ++ dec n.grain) ++ [32]) ++ joinS (n.nodes.map nodeNest) ++ [41] := by
    have h1 : (n.nodes.flatMap fun x => 32 :: nodeNest x) = 32 :: joinS (n.nodes.map nodeNest) := by
      rw [pre_join (by simpa using hnn), preN, List.flatMap_map]
    rw [nested, h1]
    simp
  obtain ⟨J, hJ⟩ : ∃ J, J = joinS (n.nodes.map nodeNest) := ⟨_, rfl⟩
  have hL := listNd_c n h
  rw [← hJ] at hL hjl heq
  refine hC.eq rfl ?_
  refine And.intro (fun _ => ?_) (fun h => absurd rfl h)
  refine hL.eq rfl ?_
  refine (itoa_c n.grain h.grain.1 h.grain.2).eq rfl ?_
  refine ⟨by show 5 + (dec n.grain).length ≤ 9223372036854775807; omega, ?_⟩
  refine ⟨by show ([40, 110, 101, 116, 32] ++ dec n.grain).length + 1 ≤ 9223372036854775807; rw [List.length_append]; simp <;> omega, ?_⟩
  refine ⟨by show (([40, 110, 101, 116, 32] ++ dec n.grain) ++ [32]).length + J.length ≤ 9223372036854775807; rw [List.length_append, List.length_append]; simp <;> omega, ?_⟩
  refine ⟨by show ((([40, 110, 101, 116, 32] ++ dec n.grain) ++ [32]) ++ J).length + 1 ≤ 9223372036854775807; rw [List.length_append, List.length_append, List.length_append]; simp <;> omega, ?_⟩
  exact end2 (.str (nested n)) (i64 0) rfl (by rw [heq]; rfl) rfl (by rw [nestedP, if_pos hv])
end Go.Proofs.YtphmmoloegjocaaGreatDoor

/- Package format: Lines. -/
namespace Go.Proofs.YtphmmoloegjocaaGreatDoor
open Go Y
set_option maxRecDepth 100000
set_option maxHeartbeats 40000000

def bufO (ys : List UInt8) : AObj := ⟨5, false, .pu (ys.map ub)⟩
def bdO (a b m : Nat) : AObj := ⟨TB, false, .bx [.ptr a 0 0, .sl b 1 0 m]⟩
theorem writeString0_c (s : List UInt8) (hs : s.length ≤ 100000000) :
    HoldsG cx 33 [.ptr 0 0 0, vS s] ⟨1, [(0, ⟨TB, false, .bx [.p .nilp, .p .nils]⟩)]⟩ fun e H' => e = .returned (.tup [.p (i64 s.length), .p .nilIface]) ∧ H' = ⟨2, [(1, bufO s), (0, bdO 0 1 s.length)]⟩ := by
  refine holdsN_of_vc Tryz.func33 rfl rfl rfl ?_
  refine (copyCheck_c false (.p .nils)).useE [] [(1, 0)] rfl (by (repeat' first | exact trivial | exact rfl | exact ⟨rfl, rfl⟩ | exact .inl rfl | refine ⟨_, rfl, rfl, rfl, ?_⟩ | refine ⟨_, _, rfl, ?_, ?_⟩ | refine ⟨_, rfl, ?_⟩ | refine And.intro ?_ ?_)) (by (repeat' first | exact trivial | exact rfl | exact ⟨rfl, rfl⟩ | exact .inl rfl | refine ⟨_, rfl, rfl, rfl, ?_⟩ | refine ⟨_, _, rfl, ?_, ?_⟩ | refine ⟨_, rfl, ?_⟩ | refine And.intro ?_ ?_)) ?_
  refine ⟨by show s.length * 1 ≤ 140737488355328; omega, ?_⟩
  exact ⟨[], [], [], .returned (.tup [.p (i64 s.length), .p .nilIface]), ⟨2, [(1, bufO s), (0, bdO 0 1 s.length)]⟩, rfl, ⟨_, rfl, _, rfl, by (repeat' first | exact trivial | exact rfl | exact ⟨rfl, rfl⟩ | exact .inl rfl | refine ⟨_, rfl, rfl, rfl, ?_⟩ | refine ⟨_, _, rfl, ?_, ?_⟩ | refine ⟨_, rfl, ?_⟩ | refine And.intro ?_ ?_)⟩, by (repeat' first | exact trivial | exact rfl | exact ⟨rfl, rfl⟩ | exact .inl rfl | refine ⟨_, rfl, rfl, rfl, ?_⟩ | refine ⟨_, _, rfl, ?_, ?_⟩ | refine ⟨_, rfl, ?_⟩ | refine And.intro ?_ ?_), rfl, rfl⟩

theorem nums_cons {p : List Int} (h : p ≠ []) : 32 :: (numsN p).drop 1 = numsN p := by
  cases p with
  | nil => exact absurd rfl h
  | cons x p => rfl
def lnH (n : Nt) (ys : List UInt8) : Hp := ⟨3, [(2, bufO ys), (1, bdO 1 2 ys.length), (0, ntO n)]⟩
def lnX (n : Nt) (x : Nd) (ys : List UInt8) : Hp := ⟨4, [(3, ndO x), (2, bufO ys), (1, bdO 1 2 ys.length), (0, ntO n)]⟩

theorem lines_c (n : Nt) (hb : BigN n) : Pure cx 9 [n.pv] (· = .ret (linesP n)) := by
  refine pure_of_vc Tryz.func9 rfl rfl rfl ?_
  have hC := check_c n hb
  by_cases hv : validP n
  rotate_left
  · rw [checkN, if_neg hv] at hC
    refine hC.eq rfl ?_
    refine And.intro (fun h => absurd (show (50 : Int) = 0 from h) (by decide)) (fun _ => ?_)
    exact end2 (.str []) (i64 50) rfl rfl rfl (by rw [linesP, if_neg hv])
  rw [checkN, if_pos hv] at hC
  have h := valid_sm hv
  have hgl := dec_len n.grain
  have hnl := h.len
  obtain ⟨A, hA⟩ : ∃ A, A = ([110, 101, 116, 32] ++ dec n.grain) ++ [10] := ⟨_, rfl⟩
  have hAl : A.length ≤ 10 := by rw [hA]; simp; omega
  refine hC.eq rfl ?_
  refine And.intro (fun _ => ?_) (fun h => absurd rfl h)
  refine (itoa_c n.grain h.grain.1 h.grain.2).eq rfl ?_
  refine ⟨by show 4 + (dec n.grain).length ≤ 9223372036854775807; omega, ?_⟩
  refine ⟨by show ([110, 101, 116, 32] ++ dec n.grain).length + 1 ≤ 9223372036854775807; rw [List.length_append]; simp; omega, ?_⟩
  refine (writeString0_c (([110, 101, 116, 32] ++ dec n.grain) ++ [10]) (by rw [← hA]; omega)).useE [] [(0, 1)] rfl (by (repeat' first | exact trivial | exact rfl | exact ⟨rfl, rfl⟩ | exact .inl rfl | refine ⟨_, rfl, rfl, rfl, ?_⟩ | refine ⟨_, _, rfl, ?_, ?_⟩ | refine ⟨_, rfl, ?_⟩ | refine And.intro ?_ ?_)) (by (repeat' first | exact trivial | exact rfl | exact ⟨rfl, rfl⟩ | exact .inl rfl | refine ⟨_, rfl, rfl, rfl, ?_⟩ | refine ⟨_, _, rfl, ?_, ?_⟩ | refine ⟨_, rfl, ?_⟩ | refine And.intro ?_ ?_)) ?_
  refine ⟨Nat × List UInt8, fun y => [(5, .ptr 1 0 0), (21, .p (.lsts 3 (n.nodes.map Nd.cells))), (22, .p (i64 n.nodes.length)), (23, .p (i64 y.1))], fun y => lnH n y.2, fun y => y.1 ≤ n.nodes.length ∧ y.2 = A ++ (n.nodes.take y.1).flatMap nodeLines, fun y => n.nodes.length - y.1, ?_, ?_⟩
  · exact ⟨(0, ([110, 101, 116, 32] ++ dec n.grain) ++ [10]), ⟨by simp, by rw [hA]; simp⟩, ent_of [] [] [] rfl ⟨⟨rfl, rfl⟩, rfl, lenM Nd.cells n.nodes, rfl, trivial⟩ (by (repeat' first | exact trivial | exact rfl | exact ⟨rfl, rfl⟩ | exact .inl rfl | refine ⟨_, rfl, rfl, rfl, ?_⟩ | refine ⟨_, _, rfl, ?_, ?_⟩ | refine ⟨_, rfl, ?_⟩ | refine And.intro ?_ ?_)) rfl⟩
  rintro ⟨k, ys⟩ ⟨k1, k2⟩
  simp only [] at k1 k2
  have hll := h.lines_len k
  have hyl : ys.length ≤ 9000000 := by rw [k2, List.length_append]; omega
  (first | refine brLt (fun h1 => ?_) (fun h1 => ?_) | refine brLe (fun h1 => ?_) (fun h1 => ?_) | refine brEq (fun h1 => ?_) (fun h1 => ?_))
  rotate_left
  · have h1 : ¬ (k : Int) < (n.nodes.length : Nat) := h1
    have hne : ys ≠ [] := fun e => by rw [e, hA] at k2; simp at k2
    refine (string_c true ys hne (by omega)).useE [] [(0, 1), (1, 2)] rfl (by (repeat' first | exact trivial | exact rfl | exact ⟨rfl, rfl⟩ | exact .inl rfl | refine ⟨_, rfl, rfl, rfl, ?_⟩ | refine ⟨_, _, rfl, ?_, ?_⟩ | refine ⟨_, rfl, ?_⟩ | refine And.intro ?_ ?_)) (by (repeat' first | exact trivial | exact rfl | exact ⟨rfl, rfl⟩ | exact .inl rfl | refine ⟨_, rfl, rfl, rfl, ?_⟩ | refine ⟨_, _, rfl, ?_, ?_⟩ | refine ⟨_, rfl, ?_⟩ | refine And.intro ?_ ?_)) ?_
    refine end2 (.str ys) (i64 0) rfl rfl rfl ?_
    rw [linesP, if_pos hv, k2, show n.nodes.take k = n.nodes from take_all (by omega), byLines, hA]
    simp
  have h1 : (k : Int) < (n.nodes.length : Nat) := h1
  have hkl : k < n.nodes.length := by omega
  obtain ⟨x, hx⟩ : ∃ x, x = n.nodes.getD k nd0 := ⟨_, rfl⟩
  have hxm : x ∈ n.nodes := by rw [hx]; exact getD_memL nd0 hkl
  have hxc := h.card x hxm
  have hcl := dec_len x.card
  have hhl := h.head_len hxm
  have hpl := nums_len x.parents
  have hp8 := h.par x hxm
  have hrw := (h.rows x hxm).2
  refine ⟨_, ⟨by omega, x.cells, by rw [hx]; exact ncell hkl, rfl⟩, ?_⟩
  refine (itoa_c x.card (by omega) hxc.2).eq rfl ?_
  refine ⟨by show 5 + (dec x.card).length ≤ 9223372036854775807; omega, ?_⟩
  refine (writeString_c true ys ([110, 111, 100, 101, 32] ++ dec x.card) (by omega) (by simp; omega)).useE [] [(0, 1), (1, 2)] rfl (by (repeat' first | exact trivial | exact rfl | exact ⟨rfl, rfl⟩ | exact .inl rfl | refine ⟨_, rfl, rfl, rfl, ?_⟩ | refine ⟨_, _, rfl, ?_, ?_⟩ | refine ⟨_, rfl, ?_⟩ | refine And.intro ?_ ?_)) (by (repeat' first | exact trivial | exact rfl | exact ⟨rfl, rfl⟩ | exact .inl rfl | refine ⟨_, rfl, rfl, rfl, ?_⟩ | refine ⟨_, _, rfl, ?_, ?_⟩ | refine ⟨_, rfl, ?_⟩ | refine And.intro ?_ ?_)) ?_
  apply cut
  case h =>
    intro key
    (first | refine brLt (fun h2 => ?_) (fun h2 => ?_) | refine brLe (fun h2 => ?_) (fun h2 => ?_) | refine brEq (fun h2 => ?_) (fun h2 => ?_))
    · have h2 : (0 : Int) < ((x.parents.map i64).length : Nat) := h2
      rw [List.length_map] at h2
      have hpn : x.parents ≠ [] := fun e => by rw [e] at h2; simp at h2
      refine (listI_c x.parents (by omega) hp8.1).eq rfl ?_
      refine ⟨by show 6 + ((numsN x.parents).drop 1).length ≤ 9223372036854775807; rw [List.length_drop]; omega, ?_⟩
      refine (writeString_c true (ys ++ ([110, 111, 100, 101, 32] ++ dec x.card)) ([32, 102, 114, 111, 109, 32] ++ (numsN x.parents).drop 1) (by simp <;> omega) (by simp <;> omega)).useE [] [(0, 1), (1, 4)] rfl (by (repeat' first | exact trivial | exact rfl | exact ⟨rfl, rfl⟩ | exact .inl rfl | refine ⟨_, rfl, rfl, rfl, ?_⟩ | refine ⟨_, _, rfl, ?_, ?_⟩ | refine ⟨_, rfl, ?_⟩ | refine And.intro ?_ ?_)) (by (repeat' first | exact trivial | exact rfl | exact ⟨rfl, rfl⟩ | exact .inl rfl | refine ⟨_, rfl, rfl, rfl, ?_⟩ | refine ⟨_, _, rfl, ?_, ?_⟩ | refine ⟨_, rfl, ?_⟩ | refine And.intro ?_ ?_)) ?_
      refine (writeByte_c true ((ys ++ ([110, 111, 100, 101, 32] ++ dec x.card)) ++ ([32, 102, 114, 111, 109, 32] ++ (numsN x.parents).drop 1)) 10 (by simp <;> omega)).useE [] [(0, 1), (1, 5)] rfl (by (repeat' first | exact trivial | exact rfl | exact ⟨rfl, rfl⟩ | exact .inl rfl | refine ⟨_, rfl, rfl, rfl, ?_⟩ | refine ⟨_, _, rfl, ?_, ?_⟩ | refine ⟨_, rfl, ?_⟩ | refine And.intro ?_ ?_)) (by (repeat' first | exact trivial | exact rfl | exact ⟨rfl, rfl⟩ | exact .inl rfl | refine ⟨_, rfl, rfl, rfl, ?_⟩ | refine ⟨_, _, rfl, ?_, ?_⟩ | refine ⟨_, rfl, ?_⟩ | refine And.intro ?_ ?_)) ?_
      refine ⟨Nat × List UInt8, fun y => [(5, .ptr 1 0 0), (21, .p (.lsts 3 (n.nodes.map Nd.cells))), (22, .p (i64 n.nodes.length)), (23, .p (i64 k)), (43, .p (.lst (x.rows.map ints))), (44, .p (i64 x.rows.length)), (45, .p (i64 y.1))], fun y => lnX n x y.2, fun y => y.1 ≤ x.rows.length ∧ y.2 = (ys ++ nodeHead x) ++ (x.rows.take y.1).flatMap rowLine, fun y => x.rows.length - y.1, ?_, key.get⟩
      refine ⟨(0, ((ys ++ ([110, 111, 100, 101, 32] ++ dec x.card)) ++ ([32, 102, 114, 111, 109, 32] ++ (numsN x.parents).drop 1)) ++ [10]), ⟨by simp, ?_⟩, ent_of [] [(2, 6)] [] rfl ⟨⟨rfl, rfl⟩, rfl, rfl, rfl, rfl, lenM ints x.rows, rfl, trivial⟩ (by (repeat' first | exact trivial | exact rfl | exact ⟨rfl, rfl⟩ | exact .inl rfl | refine ⟨_, rfl, rfl, rfl, ?_⟩ | refine ⟨_, _, rfl, ?_, ?_⟩ | refine ⟨_, rfl, ?_⟩ | refine And.intro ?_ ?_)) rfl⟩
      have e : ([32, 102, 114, 111, 109, 32] : List UInt8) ++ (numsN x.parents).drop 1 = [32, 102, 114, 111, 109] ++ numsN x.parents := by
        rw [← nums_cons hpn]; rfl
      rw [e, nodeHead, if_neg hpn]
      simp
    · have h2 : ¬ (0 : Int) < ((x.parents.map i64).length : Nat) := h2
      rw [List.length_map] at h2
      have hpn : x.parents = [] := List.eq_nil_of_length_eq_zero (by omega)
      refine (writeByte_c true (ys ++ ([110, 111, 100, 101, 32] ++ dec x.card)) 10 (by simp <;> omega)).useE [] [(0, 1), (1, 4)] rfl (by (repeat' first | exact trivial | exact rfl | exact ⟨rfl, rfl⟩ | exact .inl rfl | refine ⟨_, rfl, rfl, rfl, ?_⟩ | refine ⟨_, _, rfl, ?_, ?_⟩ | refine ⟨_, rfl, ?_⟩ | refine And.intro ?_ ?_)) (by (repeat' first | exact trivial | exact rfl | exact ⟨rfl, rfl⟩ | exact .inl rfl | refine ⟨_, rfl, rfl, rfl, ?_⟩ | refine ⟨_, _, rfl, ?_, ?_⟩ | refine ⟨_, rfl, ?_⟩ | refine And.intro ?_ ?_)) ?_
      refine ⟨Nat × List UInt8, fun y => [(5, .ptr 1 0 0), (21, .p (.lsts 3 (n.nodes.map Nd.cells))), (22, .p (i64 n.nodes.length)), (23, .p (i64 k)), (43, .p (.lst (x.rows.map ints))), (44, .p (i64 x.rows.length)), (45, .p (i64 y.1))], fun y => lnX n x y.2, fun y => y.1 ≤ x.rows.length ∧ y.2 = (ys ++ nodeHead x) ++ (x.rows.take y.1).flatMap rowLine, fun y => x.rows.length - y.1, ?_, key.get⟩
      refine ⟨(0, (ys ++ ([110, 111, 100, 101, 32] ++ dec x.card)) ++ [10]), ⟨by simp, ?_⟩, ent_of [] [(2, 5)] [] rfl ⟨⟨rfl, rfl⟩, rfl, rfl, rfl, rfl, lenM ints x.rows, rfl, trivial⟩ (by (repeat' first | exact trivial | exact rfl | exact ⟨rfl, rfl⟩ | exact .inl rfl | refine ⟨_, rfl, rfl, rfl, ?_⟩ | refine ⟨_, _, rfl, ?_, ?_⟩ | refine ⟨_, rfl, ?_⟩ | refine And.intro ?_ ?_)) rfl⟩
      rw [nodeHead, if_pos hpn]
      simp
  case k =>
    rintro ⟨j, zs⟩ ⟨j1, j2⟩
    simp only [] at j1 j2
    have hrl := h.rows_len hxm j
    have hzl : zs.length ≤ 20000000 := by rw [j2, List.length_append, List.length_append]; omega
    (first | refine brLt (fun h3 => ?_) (fun h3 => ?_) | refine brLe (fun h3 => ?_) (fun h3 => ?_) | refine brEq (fun h3 => ?_) (fun h3 => ?_))
    · have h3 : (j : Int) < (x.rows.length : Nat) := h3
      have hjl : j < x.rows.length := by omega
      obtain ⟨r, hr⟩ : ∃ r, r = x.rows.getD j [] := ⟨_, rfl⟩
      have hrm : r ∈ x.rows := by rw [hr]; exact getD_memL [] hjl
      have hr4 := h.row x hxm r hrm
      have hrn : r ≠ [] := fun e => by have := hr4.2.1; rw [e] at this; simp at this
      have hnr := nums_len r
      refine ⟨_, ⟨by omega, ints r, by rw [hr]; exact ccell hjl, rfl⟩, ?_⟩
      refine (listI_c r (by omega) hr4.1).eq rfl ?_
      refine ⟨by show 4 + ((numsN r).drop 1).length ≤ 9223372036854775807; rw [List.length_drop]; omega, ?_⟩
      refine ⟨by show ([114, 111, 119, 32] ++ (numsN r).drop 1).length + 1 ≤ 9223372036854775807; rw [List.length_append, List.length_drop]; simp <;> omega, ?_⟩
      refine (writeString_c true zs (([114, 111, 119, 32] ++ (numsN r).drop 1) ++ [10]) (by omega) (by simp <;> omega)).useE [] [(0, 1), (1, 2)] rfl (by (repeat' first | exact trivial | exact rfl | exact ⟨rfl, rfl⟩ | exact .inl rfl | refine ⟨_, rfl, rfl, rfl, ?_⟩ | refine ⟨_, _, rfl, ?_, ?_⟩ | refine ⟨_, rfl, ?_⟩ | refine And.intro ?_ ?_)) (by (repeat' first | exact trivial | exact rfl | exact ⟨rfl, rfl⟩ | exact .inl rfl | refine ⟨_, rfl, rfl, rfl, ?_⟩ | refine ⟨_, _, rfl, ?_, ?_⟩ | refine ⟨_, rfl, ?_⟩ | refine And.intro ?_ ?_)) ?_
      refine ⟨_, wrap_i64 (by omega) (by omega), ?_⟩
      refine ⟨(j + 1, zs ++ (([114, 111, 119, 32] ++ (numsN r).drop 1) ++ [10])), ⟨by simp only []; omega, ?_⟩, ent_of [] [(2, 4)] [] rfl (by (repeat' first | exact trivial | exact rfl | exact ⟨rfl, rfl⟩ | exact .inl rfl | refine ⟨_, rfl, rfl, rfl, ?_⟩ | refine ⟨_, _, rfl, ?_, ?_⟩ | refine ⟨_, rfl, ?_⟩ | refine And.intro ?_ ?_)) (by (repeat' first | exact trivial | exact rfl | exact ⟨rfl, rfl⟩ | exact .inl rfl | refine ⟨_, rfl, rfl, rfl, ?_⟩ | refine ⟨_, _, rfl, ?_, ?_⟩ | refine ⟨_, rfl, ?_⟩ | refine And.intro ?_ ?_)) rfl, by show x.rows.length - (j + 1) < x.rows.length - j; omega⟩
      have e : ([114, 111, 119, 32] : List UInt8) ++ (numsN r).drop 1 = [114, 111, 119] ++ numsN r := by
        rw [← nums_cons hrn]; rfl
      simp only []
      rw [e, take_succ_getD [] hjl, ← hr, flat_snoc, rowLine, j2]
      simp
    · have h3 : ¬ (j : Int) < (x.rows.length : Nat) := h3
      refine ⟨_, wrap_i64 (by omega) (by omega), ?_⟩
      refine ⟨(k + 1, zs), ⟨by simp only []; omega, ?_⟩, ent_of [] [] [] rfl (by (repeat' first | exact trivial | exact rfl | exact ⟨rfl, rfl⟩ | exact .inl rfl | refine ⟨_, rfl, rfl, rfl, ?_⟩ | refine ⟨_, _, rfl, ?_, ?_⟩ | refine ⟨_, rfl, ?_⟩ | refine And.intro ?_ ?_)) (by (repeat' first | exact trivial | exact rfl | exact ⟨rfl, rfl⟩ | exact .inl rfl | refine ⟨_, rfl, rfl, rfl, ?_⟩ | refine ⟨_, _, rfl, ?_, ?_⟩ | refine ⟨_, rfl, ?_⟩ | refine And.intro ?_ ?_)) rfl, by show n.nodes.length - (k + 1) < n.nodes.length - k; omega⟩
      simp only []
      rw [j2, show x.rows.take j = x.rows from take_all (by omega), take_succ_getD nd0 hkl, ← hx, flat_snoc, nodeLines, k2]
      simp
end Go.Proofs.YtphmmoloegjocaaGreatDoor

/- Reading: numbers, words, lines; the reference's functions. -/
namespace Go.Proofs.YtphmmoloegjocaaGreatDoor
open Go Y
set_option maxRecDepth 100000
set_option maxHeartbeats 40000000

def isDg (b : UInt8) : Bool := decide (48 ≤ b.toNat ∧ b.toNat ≤ 57)
/-- Is a text a number? -/
def numB (w : List UInt8) : Bool := w.all isDg && (decide (w = [48]) || (decide (w ≠ []) && decide (w.getD 0 0 ≠ 48) && decide (w.length ≤ 4)))
def valN (w : List UInt8) : Int := w.foldl (fun n b => 10 * n + ((b.toNat : Int) - 48)) 0
theorem val_snoc (w : List UInt8) (b : UInt8) : valN (w ++ [b]) = 10 * valN w + ((b.toNat : Int) - 48) := by rw [valN, List.foldl_append]; rfl
theorem num_len {w : List UInt8} (h : numB w = true) : 1 ≤ w.length ∧ w.length ≤ 4 := by
  rw [numB, Bool.and_eq_true, Bool.or_eq_true, Bool.and_eq_true, Bool.and_eq_true] at h
  rcases h.2 with h1 | ⟨⟨h1, _⟩, h2⟩
  · rw [of_decide_eq_true h1]; simp
  · have h1 := of_decide_eq_true h1
    have h2 := of_decide_eq_true h2
    have := List.length_pos_iff.2 h1
    omega
theorem ten_pow : ∀ i ≤ 4, (10 : Int) ^ i ≤ 10000 := by decide
theorem val_take {w : List UInt8} (h : ∀ b ∈ w, isDg b = true) : ∀ k, k ≤ w.length → 0 ≤ valN (w.take k) ∧ valN (w.take k) < 10 ^ k
  | 0, _ => by simp [valN]
  | k + 1, hk => by
    obtain ⟨h1, h2⟩ := val_take h k (by omega)
    have hd := h _ (getD_memL 0 (show k < w.length by omega))
    have hd := of_decide_eq_true hd
    rw [take_succ_getD 0 (by omega), val_snoc, Int.pow_succ]
    omega
theorem scan_at {s : List UInt8} {k : Nat} (h : k < s.length) : s[k]? = some (s.getD k 0) := by
  rw [List.getD_eq_getElem?_getD, List.getElem?_eq_getElem h]; rfl

/-- Numbers of texts. -/
def allB (l : List (List UInt8)) : Bool := l.all numB
end Go.Proofs.YtphmmoloegjocaaGreatDoor

/- The reference's words and lines. -/
namespace Go.Proofs.YtphmmoloegjocaaGreatDoor
open Go Y
set_option maxRecDepth 100000
set_option maxHeartbeats 40000000

/-- The words of a line; a word under way. -/
def wordsA : List UInt8 → List UInt8 → List (List UInt8)
  | w, [] => if w = [] then [] else [w]
  | w, b :: r => if b = 32 then (if w = [] then wordsA [] r else w :: wordsA [] r) else wordsA (w ++ [b]) r
def wordsN (s : List UInt8) : List (List UInt8) := wordsA [] s
/-- The lines of a text; a line under way. -/
def linesA : List UInt8 → List UInt8 → List (List UInt8)
  | w, [] => if w = [] then [] else [w]
  | w, b :: r => if b = 10 then w :: linesA [] r else linesA (w ++ [b]) r
def linesN (s : List UInt8) : List (List UInt8) := linesA [] s
theorem words_mem : ∀ {s w : List UInt8} {v : List UInt8}, v ∈ wordsA w s → v.length ≤ w.length + s.length ∧ v ≠ []
  | [], w, v, h => by
    rw [wordsA] at h
    split at h
    · simp at h
    · simp only [List.mem_singleton] at h; subst h; exact ⟨by simp, ‹_›⟩
  | b :: r, w, v, h => by
    rw [wordsA] at h
    split at h
    · split at h
      · obtain ⟨h1, h2⟩ := words_mem h
        refine ⟨?_, h2⟩
        simp only [List.length_nil, List.length_cons] at h1 ⊢; omega
      · rcases List.mem_cons.1 h with rfl | h
        · exact ⟨by omega, ‹_›⟩
        · obtain ⟨h1, h2⟩ := words_mem h
          refine ⟨?_, h2⟩
          simp only [List.length_nil, List.length_cons] at h1 ⊢; omega
    · obtain ⟨h1, h2⟩ := words_mem h
      refine ⟨?_, h2⟩
      simp only [List.length_append, List.length_cons, List.length_nil] at h1 ⊢; omega
theorem words_count : ∀ (s w : List UInt8), (wordsA w s).length ≤ s.length + (if w = [] then 0 else 1)
  | [], w => by rw [wordsA]; split <;> simp
  | b :: r, w => by
    rw [wordsA]
    split
    · split
      · have := words_count r []
        simp only [if_true, List.length_cons] at this ⊢; omega
      · have := words_count r []
        simp only [if_true, List.length_cons] at this ⊢; omega
    · have := words_count r (w ++ [b])
      simp only [List.append_eq_nil_iff, List.cons_ne_nil, and_false, if_false, List.length_cons] at this ⊢
      omega
theorem drop_cons {α : Type} {s : List α} {k : Nat} (d : α) (h : k < s.length) : s.drop k = s.getD k d :: s.drop (k + 1) := by
  rw [List.drop_eq_getElem_cons h, List.getD_eq_getElem?_getD, List.getElem?_eq_getElem h]; rfl

end Go.Proofs.YtphmmoloegjocaaGreatDoor

/- The reference's `add`: a line's words. -/
namespace Go.Proofs.YtphmmoloegjocaaGreatDoor
open Go Y
set_option maxRecDepth 100000
set_option maxHeartbeats 40000000

abbrev kNet : List UInt8 := [110, 101, 116]
abbrev kNode : List UInt8 := [110, 111, 100, 101]
abbrev kRow : List UInt8 := [114, 111, 119]
abbrev kFrom : List UInt8 := [102, 114, 111, 109]
/-- A network under way: its grain, its nodes but the last one, the last one. -/
structure Ns where
  g : Int
  init : List Nd
  last : Option Nd
def Ns.len (n : Ns) : Nat := match n.last with
  | none => n.init.length
  | some _ => n.init.length + 1
def Ns.net (n : Ns) : Nt := ⟨n.g, n.init ++ n.last.toList⟩
def lastC (r : Nat) : Option Nd → List (List AV)
  | none => []
  | some x => [[.p (i64 x.card), .p (ints x.parents), .sl r 1 0 x.rows.length]]
def nbS (s : Nat) (g : Int) (N : Nat) : AObj := ⟨TNet, false, .bx [.p (i64 g), .sl s 3 0 N]⟩
def lastR : Option Nd → List (List Int)
  | none => []
  | some x => x.rows
def Ns.rows (n : Ns) (r : Nat) : List (List AV) := mapsP (n.init.map Nd.cells) ++ lastC r n.last
abbrev Ns.heap (n : Ns) (s r : Nat) : Hp := ⟨r + 1, [(r, rO (lastR n.last)), (s, mO (n.rows r)), (1, nbS s n.g n.len), (0, znO)]⟩

def stepN (first : Bool) (n : Ns) (w : List (List UInt8)) : Option Ns :=
  if first = true then
    if w.length = 2 ∧ numB (w.getD 1 []) = true ∧ w.getD 0 [] = kNet then some { n with g := valN (w.getD 1 []) } else none
  else if w.getD 0 [] = kNode then
    if 2 ≤ w.length ∧ numB (w.getD 1 []) = true then
      if w.length = 2 then some ⟨n.g, n.init ++ n.last.toList, some ⟨valN (w.getD 1 []), [], []⟩⟩
      else if allB (w.drop 3) = true ∧ 3 < w.length ∧ w.getD 2 [] = kFrom then some ⟨n.g, n.init ++ n.last.toList, some ⟨valN (w.getD 1 []), (w.drop 3).map valN, []⟩⟩
      else none
    else none
  else if w.getD 0 [] = kRow then
    match n.last with
    | none => none
    | some x => if allB (w.drop 1) = true ∧ 1 < w.length then some ⟨n.g, n.init, some { x with rows := x.rows ++ [(w.drop 1).map valN] }⟩ else none
  else none
theorem seeLL_app {ρ : Nat → Nat} {ni : List (Nat × Nat)} {L : List (Nat × AObj)} : ∀ {a c b d : List (List AV)}, SeeLL ρ ni L a b → SeeLL ρ ni L c d → SeeLL ρ ni L (a ++ c) (b ++ d)
  | a, c, [], d, h, k => by simp only [SeeLL] at h; subst h; exact k
  | a, c, v :: b, d, h, k => by
    simp only [SeeLL] at h
    obtain ⟨u, us, rfl, h1, h2⟩ := h
    exact ⟨u, us ++ c, rfl, h1, seeLL_app h2 k⟩
theorem rows_at (n : Ns) (r : Nat) {x : Nd} (hx : n.last = some x) : (n.rows r)[n.init.length]? = some [.p (i64 x.card), .p (ints x.parents), .sl r 1 0 x.rows.length] := by
  have hl : (mapsP (n.init.map Nd.cells)).length = n.init.length := by rw [mapsP_length, List.length_map]
  rw [Ns.rows, hx, List.getElem?_append_right (by omega), hl, Nat.sub_self]; rfl
theorem rows_put (n : Ns) (r : Nat) {x : Nd} (hx : n.last = some x) (v : List AV) : (n.rows r).set n.init.length v = mapsP (n.init.map Nd.cells) ++ [v] := by
  have hl : (mapsP (n.init.map Nd.cells)).length = n.init.length := by rw [mapsP_length, List.length_map]
  rw [Ns.rows, hx, List.set_append_right _ _ (by omega), hl, Nat.sub_self]; rfl
theorem rows_len' (n : Ns) (r : Nat) : (n.rows r).length = n.len := by
  have hl : (mapsP (n.init.map Nd.cells)).length = n.init.length := by rw [mapsP_length, List.length_map]
  obtain ⟨g, i, l⟩ := n
  cases l <;> simp [Ns.rows, Ns.len, lastC, hl] <;> exact hl

/-- The rows, the last one's frozen. -/
theorem rows_freeze {ρ : Nat → Nat} {ni : List (Nat × Nat)} {L : List (Nat × AObj)} (n : Ns) (r : Nat) (h : lget L r = some { rO (lastR n.last) with fr := true }) : SeeLL ρ ni L (n.rows r) (mapsP ((n.init ++ n.last.toList).map Nd.cells)) := by
  rw [List.map_append, mapsP_eq, List.map_append, ← mapsP_eq, ← mapsP_eq, Ns.rows]
  refine seeLL_app (seeLL_p _) ?_
  obtain ⟨g, i, l⟩ := n
  cases l with
  | none => rfl
  | some x =>
    refine ⟨_, _, rfl, ⟨_, _, rfl, rfl, _, _, rfl, rfl, _, _, rfl, ?_, rfl⟩, rfl⟩
    show Res L 5 (.sl r 1 0 x.rows.length) (.lst (x.rows.map ints))
    simp only [Res]
    rw [h]
    exact ⟨_, rfl, by show 0 + x.rows.length ≤ (x.rows.map ints).length; simp, takeAll (by simp)⟩
end Go.Proofs.YtphmmoloegjocaaGreatDoor

/- The reference's `add`: the walk. -/
namespace Go.Proofs.YtphmmoloegjocaaGreatDoor
open Go Y
set_option maxRecDepth 100000
set_option maxHeartbeats 40000000

theorem seeLL_self {ρ : Nat → Nat} {ni : List (Nat × Nat)} {L : List (Nat × AObj)} (n : Ns) (r r' : Nat) (h : See ρ ni L (.sl r 1 0 (lastR n.last).length) (.sl r' 1 0 (lastR n.last).length)) : SeeLL ρ ni L (n.rows r) (n.rows r') := by
  rw [Ns.rows]
  refine seeLL_app (seeLL_p _) ?_
  obtain ⟨g, i, l⟩ := n
  cases l with
  | none => rfl
  | some x => exact ⟨_, _, rfl, ⟨_, _, rfl, rfl, _, _, rfl, rfl, _, _, rfl, h, rfl⟩, rfl⟩
end Go.Proofs.YtphmmoloegjocaaGreatDoor

/- The reference's ReadLines. -/
namespace Go.Proofs.YtphmmoloegjocaaGreatDoor
open Go Y
set_option maxRecDepth 100000
set_option maxHeartbeats 40000000

theorem end3 {Q : PEnd → Prop} {v1 v2 v3 : AV} {H' : Hp} (x1 x2 x3 : PV) (hm : marksOK H'.l (fsOf H'.l) = true) (h1 : Res (marks H'.l (fsOf H'.l)) 5 v1 x1) (h2 : Res (marks H'.l (fsOf H'.l)) 5 v2 x2) (h3 : Res (marks H'.l (fsOf H'.l)) 5 v3 x3) (hq : Q (.ret [x1, x2, x3])) : EndP Q (.returned (.tup [v1, v2, v3])) H' :=
  ⟨.ret [x1, x2, x3], ⟨hm, _, rfl, _, _, rfl, h1, _, _, rfl, h2, _, _, rfl, h3, rfl⟩, hq⟩

/-- Is a line passed over? -/
def passW (w : List (List UInt8)) : Bool := decide (w = []) || decide ((w.getD 0 []).getD 0 0 = 59)
def runL : Bool → Ns → Nat → List (List UInt8) → Sum Nat (Bool × Ns)
  | first, n, _, [] => .inr (first, n)
  | first, n, i, l :: r => if passW (wordsN l) = true then runL first n (i + 1) r else match stepN first n (wordsN l) with
    | none => .inl (i + 1)
    | some n' => runL false n' (i + 1) r
abbrev znV : PV := .agg [i64 0, .nils]
def ns0 : Ns := ⟨0, [], none⟩
noncomputable def readLV (t : List UInt8) : List PV :=
  if 40000 < t.length then [znV, i64 0, i64 3] else match runL true ns0 0 (linesN t) with
  | .inl k => [znV, i64 (k : Nat), i64 5]
  | .inr (true, _) => [znV, i64 0, i64 5]
  | .inr (false, n) => if validP n.net then [n.net.pv, i64 0, i64 0] else [znV, i64 0, i64 50]

structure OkNs (n : Ns) (i : Nat) : Prop where
  no : n.last = none → n.init = []
  len : n.len ≤ i
  par : ∀ x ∈ n.init ++ n.last.toList, x.parents.length ≤ 100000 ∧ x.rows.length ≤ i ∧ ∀ r ∈ x.rows, r.length ≤ 100000
theorem ns_len (n : Ns) : (n.init ++ n.last.toList).length = n.len := by
  obtain ⟨g, i, l⟩ := n
  cases l <;> simp [Ns.len]
theorem OkNs.mono {n : Ns} {i j : Nat} (h : OkNs n i) (hij : i ≤ j) : OkNs n j :=
  ⟨h.no, by have := h.len; omega, fun x hx => ⟨(h.par x hx).1, by have := (h.par x hx).2.1; omega, (h.par x hx).2.2⟩⟩
theorem OkNs.big {n : Ns} {i : Nat} (h : OkNs n i) (hi : i ≤ 100000) : BigN n.net :=
  ⟨by have := h.len; show (n.init ++ n.last.toList).length ≤ _; rw [ns_len]; omega, fun x hx => by have := (h.par x hx).1; omega, fun x hx => by have := (h.par x hx).2.1; omega, fun x hx r hr => by have := (h.par x hx).2.2 r hr; omega⟩
theorem OkNs.last {n : Ns} {i : Nat} (h : OkNs n i) : (lastR n.last).length ≤ i := by
  cases e : n.last with
  | none => simp [lastR]
  | some x => exact (h.par x (by rw [e]; simp)).2.1
theorem step_ok {first : Bool} {n n' : Ns} {w : List (List UInt8)} {i : Nat} (h : OkNs n i) (hw : w.length ≤ 100000) (hs : stepN first n w = some n') : OkNs n' (i + 1) := by
  have hm := h.mono (Nat.le_succ i)
  have push : ∀ (c : Int) (ps : List Int), ps.length ≤ 100000 → OkNs ⟨n.g, n.init ++ n.last.toList, some ⟨c, ps, []⟩⟩ (i + 1) := fun c ps hps => by
    refine ⟨fun h => by simp at h, ?_, fun x hx => ?_⟩
    · show (n.init ++ n.last.toList).length + 1 ≤ i + 1
      rw [ns_len]; have := h.len; omega
    · rcases List.mem_append.1 hx with hx | hx
      · exact hm.par x hx
      · simp only [Option.toList, List.mem_singleton] at hx
        subst hx
        exact ⟨hps, by simp, by simp⟩
  rw [stepN] at hs
  split at hs
  · split at hs
    · cases hs; exact ⟨hm.no, hm.len, hm.par⟩
    · cases hs
  · split at hs
    · split at hs
      · split at hs
        · cases hs; exact push _ _ (by simp)
        · split at hs
          · cases hs; exact push _ _ (by rw [List.length_map, List.length_drop]; omega)
          · cases hs
      · cases hs
    · split at hs
      · split at hs
        · cases hs
        · rename_i x hx
          split at hs
          · cases hs
            refine ⟨fun h => by simp at h, ?_, fun y hy => ?_⟩
            · have := h.len
              rw [Ns.len, hx] at this
              show n.init.length + 1 ≤ i + 1
              simp only [] at this; omega
            · rcases List.mem_append.1 hy with hy | hy
              · exact hm.par y (List.mem_append.2 (.inl hy))
              · simp only [Option.toList, List.mem_singleton] at hy
                subst hy
                obtain ⟨h1, h2, h3⟩ := h.par x (by rw [hx]; simp)
                refine ⟨h1, by simp only [snoc_len]; omega, fun r hr => ?_⟩
                rcases List.mem_append.1 hr with hr | hr
                · exact h3 r hr
                · simp only [List.mem_singleton] at hr
                  subst hr
                  rw [List.length_map, List.length_drop]; omega
          · cases hs
      · cases hs

theorem resLL_app {f : AV → PV → Prop} : ∀ {a c : List (List AV)} {b d : List (List PV)}, ResLL f a b → ResLL f c d → ResLL f (a ++ c) (b ++ d)
  | [], c, b, d, h, k => by simp only [ResLL] at h; subst h; exact k
  | v :: a, c, b, d, h, k => by
    simp only [ResLL] at h
    obtain ⟨z, zs, rfl, h1, h2⟩ := h
    exact ⟨z, zs ++ d, rfl, h1, resLL_app h2 k⟩
theorem resLL_nd {L : List (Nat × AObj)} {d : Nat} : ∀ l : List Nd, ResLL (Res L (d + 1)) (mapsP (l.map Nd.cells)) (l.map Nd.cells)
  | [] => rfl
  | _ :: xss => ⟨_, _, rfl, ⟨_, _, rfl, rfl, _, _, rfl, rfl, _, _, rfl, rfl, rfl⟩, resLL_nd xss⟩
theorem rows_done {L : List (Nat × AObj)} {d : Nat} (n : Ns) (r : Nat) (h : lget L r = some { rO (lastR n.last) with fr := true }) : ResLL (Res L (d + 1)) (((n.rows r).drop 0).take n.len) ((n.init ++ n.last.toList).map Nd.cells) := by
  rw [List.drop_zero, List.take_of_length_le (by rw [rows_len']; omega), List.map_append, Ns.rows]
  refine resLL_app (resLL_nd _) ?_
  obtain ⟨g, i, l⟩ := n
  cases l with
  | none => rfl
  | some x =>
    refine ⟨_, _, rfl, ⟨_, _, rfl, rfl, _, _, rfl, rfl, _, _, rfl, ?_, rfl⟩, rfl⟩
    show Res L (d + 1) (.sl r 1 0 x.rows.length) (.lst (x.rows.map ints))
    simp only [Res]
    rw [h]
    exact ⟨_, rfl, by show 0 + x.rows.length ≤ (x.rows.map ints).length; simp, takeAll (by simp)⟩
theorem words_ok (l : List UInt8) (hl : l.length ≤ 50000) : (wordsN l).length ≤ 100000 ∧ ∀ v ∈ wordsN l, v.length ≤ 100000 ∧ v ≠ [] := by
  have := words_count l []
  simp only [if_true] at this
  refine ⟨by rw [wordsN]; omega, fun v hv => ?_⟩
  obtain ⟨h1, h2⟩ := words_mem hv
  simp only [List.length_nil] at h1
  exact ⟨by omega, h2⟩

end Go.Proofs.YtphmmoloegjocaaGreatDoor

/- Reading nested texts: words, what is read (plain). -/
namespace Go.Proofs.YtphmmoloegjocaaGreatDoor
open Go Y
set_option maxRecDepth 100000
set_option maxHeartbeats 40000000

/-- The place behind the octets from p on that satisfy f. -/
def scanF (f : UInt8 → Bool) (s : List UInt8) (p : Nat) : Nat := p + ((s.drop p).takeWhile f).length
theorem scan_step {f : UInt8 → Bool} {s : List UInt8} {p : Nat} (h : p < s.length) (hf : f (s.getD p 0) = true) : scanF f s (p + 1) = scanF f s p := by
  rw [scanF, scanF, drop_cons 0 h, List.takeWhile_cons, if_pos hf]
  simp only [List.length_cons]; omega
theorem scan_stop {f : UInt8 → Bool} {s : List UInt8} {p : Nat} (h : p < s.length) (hf : f (s.getD p 0) = false) : scanF f s p = p := by
  rw [scanF, drop_cons 0 h, List.takeWhile_cons, if_neg (by rw [hf]; decide)]; rfl
theorem scan_end {f : UInt8 → Bool} {s : List UInt8} {p : Nat} (h : s.length ≤ p) : scanF f s p = p := by
  rw [scanF, List.drop_eq_nil_of_le h]; rfl
theorem tw_len (f : UInt8 → Bool) : ∀ l : List UInt8, (l.takeWhile f).length ≤ l.length
  | [] => by simp
  | a :: l => by
    rw [List.takeWhile_cons]
    split
    · have := tw_len f l
      simp only [List.length_cons]; omega
    · simp
theorem scan_le {f : UInt8 → Bool} {s : List UInt8} {p : Nat} (h : p ≤ s.length) : p ≤ scanF f s p ∧ scanF f s p ≤ s.length := by
  have := tw_len f (s.drop p)
  rw [List.length_drop] at this
  rw [scanF]; omega
theorem tw_tail (f : UInt8 → Bool) : ∀ l : List UInt8, ((l.drop (l.takeWhile f).length).takeWhile f) = []
  | [] => rfl
  | a :: l => by
    rw [List.takeWhile_cons]
    split
    · rw [List.length_cons, List.drop_succ_cons]; exact tw_tail f l
    · rename_i h
      show (a :: l).takeWhile f = []
      rw [List.takeWhile_cons, if_neg h]
theorem scan_scan {f : UInt8 → Bool} {s : List UInt8} {p : Nat} : scanF f s (scanF f s p) = scanF f s p := by
  have h : (s.drop (scanF f s p)).takeWhile f = [] := by
    rw [scanF, ← List.drop_drop]; exact tw_tail f _
  rw [scanF, h]; rfl
/-- Behind the first octet of a run the run's end is the same. -/
def isBl (b : UInt8) : Bool := b.toNat == 32 || b.toNat == 10
def isWd (b : UInt8) : Bool := !(b.toNat == 32) && !(b.toNat == 10) && !(b.toNat == 40) && !(b.toNat == 41)
/-- The place of the next word; the place behind it; the word. -/
def nx (s : List UInt8) (p : Nat) : Nat := scanF isBl s p
def te (s : List UInt8) (p : Nat) : Nat := if scanF isWd s (nx s p) = nx s p ∧ nx s p < s.length then nx s p + 1 else scanF isWd s (nx s p)
def tok (s : List UInt8) (p : Nat) : List UInt8 := (s.drop (nx s p)).take (te s p - nx s p)
theorem nx_nx (s : List UInt8) (p : Nat) : nx s (nx s p) = nx s p := scan_scan
theorem te_nx (s : List UInt8) (p : Nat) : te s (nx s p) = te s p := by rw [te, nx_nx]; rfl
theorem tok_nx (s : List UInt8) (p : Nat) : tok s (nx s p) = tok s p := by rw [tok, te_nx, nx_nx]; rfl
theorem nx_le {s : List UInt8} {p : Nat} (h : p ≤ s.length) : p ≤ nx s p ∧ nx s p ≤ s.length := scan_le h
theorem te_le {s : List UInt8} {p : Nat} (h : p ≤ s.length) : nx s p ≤ te s p ∧ te s p ≤ s.length := by
  have h1 := scan_le (f := isWd) (nx_le h).2
  rw [te]
  split <;> omega
theorem tok_len {s : List UInt8} {p : Nat} (h : p ≤ s.length) : (tok s p).length = te s p - nx s p := by
  have := te_le h
  rw [tok, List.length_take, List.length_drop]; omega
theorem te_lt {s : List UInt8} {p : Nat} (h : p ≤ s.length) (h0 : tok s p ≠ []) : p < te s p := by
  have h1 := List.length_pos_iff.2 h0
  rw [tok_len h] at h1
  have := nx_le h
  omega

abbrev kOpen : List UInt8 := [40]
abbrev kClose : List UInt8 := [41]
/-- A reading: where it cannot go on, or what was read and the place behind it. -/
abbrev Rd (α : Type) := Sum Nat (α × Nat)
def mustP (s w : List UInt8) (p : Nat) : Rd Unit := if tok s p = w then .inr ((), te s p) else .inl (nx s p)
def numP (s : List UInt8) (p : Nat) : Rd Int := if numB (tok s p) = true then .inr (valN (tok s p), te s p) else .inl (nx s p)
def Rd.then {α β : Type} (r : Rd α) (k : α → Nat → Rd β) : Rd β := match r with
  | .inl e => .inl e
  | .inr (a, p) => k a p
/-- Numbers, to the parenthesis that closes them. -/
def numsP (s : List UInt8) : Nat → List Int → Nat → Rd (List Int)
  | 0, _, p => .inl p
  | f + 1, acc, p => if tok s p = kClose then .inr (acc, nx s p) else (numP s p).then fun v q => numsP s f (acc ++ [v]) q
def lstP (s : List UInt8) (F : Nat) (p : Nat) : Rd (List Int) := (mustP s kOpen p).then fun _ q => (numsP s F [] q).then fun l q => (mustP s kClose q).then fun _ q => .inr (l, q)
def rowRd (s : List UInt8) (F : Nat) (p : Nat) : Rd (List Int) := (mustP s kOpen p).then fun _ q => (numP s q).then fun v q => (numsP s F [v] q).then fun l q => (mustP s kClose q).then fun _ q => .inr (l, q)
def rowsP (s : List UInt8) (F : Nat) : Nat → List (List Int) → Nat → Rd (List (List Int))
  | 0, _, p => .inl p
  | f + 1, acc, p => if tok s p = kClose then .inr (acc, nx s p) else (rowRd s F p).then fun r q => rowsP s F f (acc ++ [r]) q
def nodeRd (s : List UInt8) (F : Nat) (p : Nat) : Rd Nd := (mustP s kOpen p).then fun _ q => (mustP s kNode q).then fun _ q => (numP s q).then fun c q => (lstP s F q).then fun ps q =>
  (rowsP s F F [] q).then fun rs q => (mustP s kClose q).then fun _ q => .inr (⟨c, ps, rs⟩, q)
def nodesP (s : List UInt8) (F : Nat) : Nat → List Nd → Nat → Rd (List Nd)
  | 0, _, p => .inl p
  | f + 1, acc, p => if tok s p = kClose then .inr (acc, nx s p) else (nodeRd s F p).then fun x q => nodesP s F f (acc ++ [x]) q
def netP (s : List UInt8) (F : Nat) : Rd Nt := (mustP s kOpen 0).then fun _ q => (mustP s kNet q).then fun _ q => (numP s q).then fun g q => (nodesP s F F [] q).then fun l q =>
  (mustP s kClose q).then fun _ q => if tok s q = [] then .inr (⟨g, l⟩, q) else .inl (nx s q)
noncomputable def readNV (s : List UInt8) : List PV :=
  if 40000 < s.length then [znV, i64 0, i64 3] else match netP s (s.length + 1) with
  | .inl e => [znV, i64 (e : Nat), i64 5]
  | .inr (n, _) => if validP n then [n.pv, i64 0, i64 0] else [znV, i64 0, i64 50]
theorem must_nx (s w : List UInt8) (p : Nat) : mustP s w (nx s p) = mustP s w p := by rw [mustP, tok_nx, te_nx, nx_nx]; rfl
theorem tok_is {s : List UInt8} {p q k m : Nat} (hnp : nx s p = q) (hk : scanF isWd s q = k) (hm : m = if k = q ∧ q < s.length then q + 1 else k) : tok s p = (s.drop q).take (m - q) := by
  rw [tok, te, hnp, hk, ← hm]
end Go.Proofs.YtphmmoloegjocaaGreatDoor

/- The reference's reader: must, number. -/
namespace Go.Proofs.YtphmmoloegjocaaGreatDoor
open Go Y
set_option maxRecDepth 100000
set_option maxHeartbeats 40000000

/-- How a reader (at p, b: it cannot go on) does a reading. -/
def Out {α : Type} (b : Bool) (p : Nat) (r : Rd α) (a : α) (q : Nat) (b' : Bool) : Prop := if b = true then b' = true ∧ q = p else r = if b' = true then .inl q else .inr (a, q)
theorem Out.then {α β : Type} {b b1 b2 : Bool} {p q q2 : Nat} {r : Rd α} {k : α → Nat → Rd β} {a : α} {c : β} (h : Out b p r a q b1) (h2 : Out b1 q (k a q) c q2 b2) : Out b p (r.then k) c q2 b2 := by
  cases b
  · have h : r = if b1 = true then .inl q else .inr (a, q) := h
    show r.then k = _
    cases b1
    · rw [if_neg (by decide)] at h
      subst h
      exact h2
    · rw [if_pos rfl] at h
      subst h
      obtain ⟨rfl, rfl⟩ : b2 = true ∧ q2 = q := h2
      rfl
  · obtain ⟨rfl, rfl⟩ : b1 = true ∧ q = p := h
    exact h2
theorem Out.bad {α : Type} {p : Nat} {r : Rd α} {a : α} : Out true p r a p true := ⟨rfl, rfl⟩

end Go.Proofs.YtphmmoloegjocaaGreatDoor

/- The reference's reader: list. -/
namespace Go.Proofs.YtphmmoloegjocaaGreatDoor
open Go Y
set_option maxRecDepth 100000
set_option maxHeartbeats 40000000

/-- A loop's invariant: R is what the loop comes to, go what it comes to from here. -/
def LInv {α : Type} (b1 : Bool) (q1 : Nat) (R : Rd α) (go : Nat → Rd α) (n p : Nat) (b : Bool) : Prop := if b1 = true then b = true ∧ p = q1 else if b = true then R = .inl p else ∃ f, n - p < f ∧ R = go f
theorem LInv.init {α : Type} {go : Nat → Rd α} {n F q1 : Nat} {b1 : Bool} (hF : n - q1 < F) : LInv b1 q1 (go F) go n q1 b1 := by
  cases b1
  · exact ⟨F, hF, rfl⟩
  · exact ⟨rfl, rfl⟩
theorem LInv.bad {α : Type} {R : Rd α} {go : Nat → Rd α} {n q1 p : Nat} {b1 : Bool} {a : α} (h : LInv b1 q1 R go n p true) : Out b1 q1 R a p true := by
  cases b1
  · exact h
  · exact h
theorem LInv.step {α β : Type} {R : Rd α} {go : Nat → Rd α} {go' : β → Nat → Nat → Rd α} {n q1 p p0 q : Nat} {b1 b' : Bool} {r : Rd β} {v : β} (h : LInv b1 q1 R go n p false) (hgo : ∀ f, go (f + 1) = r.then fun v q => go' v q f) (ho : Out false p0 r v q b') (hlt : b' = false → p < q) (hq : q ≤ n) : LInv b1 q1 R (go' v q) n q b' := by
  cases b1
  · obtain ⟨f, hf, rfl⟩ : ∃ f, n - p < f ∧ R = go f := h
    obtain ⟨f, rfl⟩ : ∃ g, f = g + 1 := ⟨f - 1, by omega⟩
    have ho : r = if b' = true then .inl q else .inr (v, q) := ho
    have hg := hgo f
    cases b'
    · rw [ho, if_neg (by decide)] at hg
      exact ⟨f, by have := hlt rfl; omega, hg⟩
    · rw [ho, if_pos rfl] at hg
      exact hg
  · exact absurd h.1 (by decide)

end Go.Proofs.YtphmmoloegjocaaGreatDoor

/- The reference's reader: node. -/
namespace Go.Proofs.YtphmmoloegjocaaGreatDoor
open Go Y
set_option maxRecDepth 100000
set_option maxHeartbeats 40000000

theorem Out.fl {α : Type} {p q : Nat} {r : Rd α} {a : α} {b : Bool} (h : Out b p r a q false) : b = false := by
  cases b
  · rfl
  · exact absurd h.1 (by decide)
theorem LInv.fl {α : Type} {R : Rd α} {go : Nat → Rd α} {n q1 p : Nat} {b1 : Bool} (h : LInv b1 q1 R go n p false) : b1 = false := by
  cases b1
  · rfl
  · exact absurd h.1 (by decide)
def ndqO (c : Int) (ps : List Int) (n : Nat) : AObj := ⟨TNode, false, .bx [.p (i64 c), .p (ints ps), .sl 3 1 0 n]⟩
structure OkX (x : Nd) (n : Nat) : Prop where
  par : x.parents.length ≤ n
  rows : x.rows.length ≤ n
  row : ∀ r ∈ x.rows, r.length ≤ n

theorem Out.ret {α : Type} (b : Bool) (q : Nat) (a : α) : Out b q (.inr (a, q)) a q b := by
  cases b
  · rfl
  · exact ⟨rfl, rfl⟩
end Go.Proofs.YtphmmoloegjocaaGreatDoor

/- The reference's ReadNested. -/
namespace Go.Proofs.YtphmmoloegjocaaGreatDoor
open Go Y
set_option maxRecDepth 100000
set_option maxHeartbeats 40000000

def nsO (l : List Nd) : AObj := ⟨TNode, false, .pus (l.map Nd.cells)⟩
theorem big_of {g : Int} {l : List Nd} {n : Nat} (hn : n ≤ 1000000) (h : l.length ≤ n) (hx : ∀ x ∈ l, OkX x n) : BigN ⟨g, l⟩ :=
  ⟨by show l.length ≤ _; omega, fun x h => by have := (hx x h).par; omega, fun x h => by have := (hx x h).rows; omega, fun x h r hr => by have := (hx x h).row r hr; omega⟩

end Go.Proofs.YtphmmoloegjocaaGreatDoor

/- The reference's Turn. -/
namespace Go.Proofs.YtphmmoloegjocaaGreatDoor
open Go Y
set_option maxRecDepth 100000
set_option maxHeartbeats 40000000

/-- What a reading comes to: the place and the error, or the network. -/
noncomputable def readLR (t : List UInt8) : Sum (Nat × Int) Nt :=
  if 40000 < t.length then .inl (0, 3) else match runL true ns0 0 (linesN t) with
  | .inl k => .inl (k, 5)
  | .inr (true, _) => .inl (0, 5)
  | .inr (false, n) => if validP n.net then .inr n.net else .inl (0, 50)
noncomputable def readNR (s : List UInt8) : Sum (Nat × Int) Nt :=
  if 40000 < s.length then .inl (0, 3) else match netP s (s.length + 1) with
  | .inl e => .inl (e, 5)
  | .inr (n, _) => if validP n then .inr n else .inl (0, 50)
def resV : Sum (Nat × Int) Nt → List PV
  | .inl (p, e) => [znV, i64 (p : Nat), i64 e]
  | .inr n => [n.pv, i64 0, i64 0]
theorem readL_res (t : List UInt8) : readLV t = resV (readLR t) := by
  rw [readLV, readLR]
  split
  · rfl
  · generalize runL true ns0 0 (linesN t) = x
    rcases x with k | ⟨_ | _, n⟩
    · rfl
    · simp only []
      split <;> rfl
    · rfl
theorem readN_res (t : List UInt8) : readNV t = resV (readNR t) := by
  rw [readNV, readNR]
  split
  · rfl
  · generalize netP t (t.length + 1) = x
    rcases x with k | ⟨n, q⟩
    · rfl
    · simp only []
      split <;> rfl
theorem readL_ok {t : List UInt8} {n : Nt} (h : readLR t = .inr n) : validP n := by
  rw [readLR] at h
  split at h
  · cases h
  · split at h
    · cases h
    · cases h
    · split at h
      · cases h; assumption
      · cases h
theorem readN_ok {t : List UInt8} {n : Nt} (h : readNR t = .inr n) : validP n := by
  rw [readNR] at h
  split at h
  · cases h
  · split at h
    · cases h
    · split at h
      · cases h; assumption
      · cases h
theorem readL_err {t : List UInt8} {p : Nat} {e : Int} (h : readLR t = .inl (p, e)) : e = 3 ∨ e = 5 ∨ e = 50 := by
  rw [readLR] at h
  split at h
  · cases h; simp
  · split at h
    · cases h; simp
    · cases h; simp
    · split at h
      · cases h
      · cases h; simp
theorem readN_err {t : List UInt8} {p : Nat} {e : Int} (h : readNR t = .inl (p, e)) : e = 3 ∨ e = 5 ∨ e = 50 := by
  rw [readNR] at h
  split at h
  · cases h; simp
  · split at h
    · cases h; simp
    · split at h
      · cases h
      · cases h; simp
noncomputable def turnV (s : List UInt8) : List PV :=
  if s.length ≤ 40000 ∧ tok s 0 = kOpen then match readNR s with
    | .inl (_, e) => [.str [], i64 e]
    | .inr n => [.str (byLines n), i64 0]
  else match readLR s with
    | .inl (_, e) => [.str [], i64 e]
    | .inr n => [.str (nested n), i64 0]

end Go.Proofs.YtphmmoloegjocaaGreatDoor

/- The program's readers: fail, number. -/
namespace Go.Proofs.YtphmmoloegjocaaGreatDoor
open Go Y
set_option maxRecDepth 100000
set_option maxHeartbeats 40000000

def Self (n0 : Nat) (v : AV) : Prop := ∀ (ρ : Nat → Nat) (ni : List (Nat × Nat)) (L : List (Nat × AObj)), (∀ n, n < n0 → ρ n = n) → (∀ n, n < n0 → niGet ni n = none) → See ρ ni L v v
theorem self_nil (n : Nat) : Self n (.p .nils) := fun _ _ _ _ _ => .inl rfl
theorem self_sl {n k m : Nat} (h : k < n) : Self n (.sl k 3 0 m) := fun ρ ni _ h1 h2 => by
  show match niGet ni k with
    | some s' => s' = 3 ∧ 0 = 0 ∧ m = 0 ∧ AV.sl k 3 0 m = .p .nils
    | none => AV.sl k 3 0 m = .sl (ρ k) 3 0 m
  rw [h2 k h]
  simp only []
  rw [h1 k h]
/-- A reader: its grain, its nodes, its place, what else it has. -/
def cmO (T : TypeId) (g : Int) (v : AV) (p : Nat) (rest : List PV) : AObj := ⟨T, false, .bx (.p (i64 g) :: v :: .p (i64 p) :: rest.map .p)⟩
abbrev cmH (T : TypeId) (g : Int) (v : AV) (p : Nat) (rest : List PV) : Hp := ⟨2, [(0, cmO T g v p rest)]⟩
abbrev placeX (p : Nat) : AE := .panicked [⟨.p (.iface 133 (i64 p)), false⟩]

theorem fail_h (T : TypeId) (g : Int) (v : AV) (p : Nat) (rest : List PV) : HoldsG cx 145 [.ptr 0 0 0] (cmH T g v p rest) fun e H' => e = placeX p ∧ H' = cmH T g v p rest := by
  refine holds_of_vc Tryz.func145 rfl rfl rfl ?_
  exact ⟨rfl, rfl⟩

theorem num_no {w : List UInt8} {k : Nat} (h : k < w.length) (hd : isDg (w.getD k 0) = false) : numB w = false := by
  have : w.all isDg = false := by
    rw [Bool.eq_false_iff]
    intro ha
    have := List.all_eq_true.1 ha _ (getD_memL 0 h)
    rw [hd] at this; cases this
  rw [numB, this]; rfl
theorem min4 {w : List UInt8} {k : Nat} (hk : 4 ≤ k) : w.take (min k 4) = w.take 4 := by rw [Nat.min_eq_right hk]

/-- What a number's reading ends with. -/
def numQ (T : TypeId) (g : Int) (v : AV) (p : Nat) (rest : List PV) (w : List UInt8) (e : AE) (H' : Hp) : Prop :=
  H' = cmH T g v p rest ∧ if numB w = true then e = .returned (.p (i64 (valN w))) else e = placeX p
theorem num_h' (T : TypeId) (g : Int) (v : AV) (p : Nat) (rest : List PV) (hv : Self 2 v) (w : List UInt8) (hw : w.length ≤ 100000) : HoldsG cx 152 [.ptr 0 0 0, .p (.str w)] (cmH T g v p rest) (numQ T g v p rest w) := by
  refine holdsN_of_vc Tryz.func152 rfl rfl rfl ?_
  have fix : ∀ ps N1 N n, n < 2 → rmap 2 ps N1 N n = n := fun ps N1 N n h => rmap_fix h
  refine ⟨Nat, fun k => [(0, .ptr 0 0 0), (1, .p (.str w)), (5, .p (i64 (valN (w.take (min k 4))))), (8, .p (i64 w.length)), (9, .p (i64 k))], fun _ => cmH T g v p rest, fun k => k ≤ w.length ∧ ∀ b ∈ w.take k, isDg b = true, fun k => w.length - k, ?_, ?_⟩
  · exact ⟨0, ⟨by omega, by simp⟩, ent_of [] [] [] rfl (by (repeat' first | exact trivial | exact rfl | exact ⟨rfl, rfl⟩ | exact .inl rfl | refine ⟨_, rfl, rfl, rfl, ?_⟩ | refine ⟨_, _, rfl, ?_, ?_⟩ | refine ⟨_, rfl, ?_⟩ | refine And.intro ?_ ?_)) ⟨⟨_, rfl, rfl, rfl, _, rfl, _, _, rfl, rfl, _, _, rfl, hv _ _ _ (fix _ _ _) (fun _ _ => rfl), _, _, rfl, rfl, seeL_p rest⟩, trivial⟩ rfl⟩
  rintro k ⟨k1, k2⟩
  have hmem : ∀ b ∈ w.take (min k 4), isDg b = true := fun b hb => k2 b (List.take_subset_take_left w (Nat.min_le_left k 4) hb)
  have hv4 : 0 ≤ valN (w.take (min k 4)) ∧ valN (w.take (min k 4)) < 10000 := by
    have h1 := val_take hmem (min k 4) (by rw [List.length_take]; omega)
    rw [List.take_take, Nat.min_self] at h1
    have h2 := ten_pow (min k 4) (by omega)
    omega
  (first | refine brLt (fun h1 => ?_) (fun h1 => ?_) | refine brLe (fun h1 => ?_) (fun h1 => ?_) | refine brEq (fun h1 => ?_) (fun h1 => ?_))
  · have h1 : (k : Int) < (w.length : Nat) := h1
    have hk : k < w.length := by omega
    obtain ⟨b, hb⟩ : ∃ b, b = w.getD k 0 := ⟨_, rfl⟩
    refine ⟨_, ⟨by omega, b, by rw [hb]; exact scan_at hk, rfl⟩, ?_⟩
    (first | refine brLt (fun h2 => ?_) (fun h2 => ?_) | refine brLe (fun h2 => ?_) (fun h2 => ?_) | refine brEq (fun h2 => ?_) (fun h2 => ?_))
    · have h2 : (b.toNat : Int) < 48 := h2
      refine (fail_h T g v p rest).holds.mono fun e H' hq => ?_
      obtain ⟨rfl, rfl⟩ := hq
      exact ⟨[], [], [], placeX p, cmH T g v p rest, rfl, ⟨_, rfl, _, _, rfl, rfl, rfl⟩, ⟨⟨_, rfl, rfl, rfl, _, rfl, _, _, rfl, rfl, _, _, rfl, hv _ _ _ (fix _ _ _) (fun _ _ => rfl), _, _, rfl, rfl, seeL_p rest⟩, trivial⟩, rfl, by rw [show numB w = false from (num_no hk (by rw [← hb, isDg, decide_eq_false (by omega)]))]; exact rfl⟩
    have h2 : ¬ (b.toNat : Int) < 48 := h2
    refine ⟨_, ⟨by omega, b, by rw [hb]; exact scan_at hk, rfl⟩, ?_⟩
    (first | refine brLt (fun h3 => ?_) (fun h3 => ?_) | refine brLe (fun h3 => ?_) (fun h3 => ?_) | refine brEq (fun h3 => ?_) (fun h3 => ?_))
    · have h3 : (57 : Int) < (b.toNat : Int) := h3
      refine (fail_h T g v p rest).holds.mono fun e H' hq => ?_
      obtain ⟨rfl, rfl⟩ := hq
      exact ⟨[], [], [], placeX p, cmH T g v p rest, rfl, ⟨_, rfl, _, _, rfl, rfl, rfl⟩, ⟨⟨_, rfl, rfl, rfl, _, rfl, _, _, rfl, rfl, _, _, rfl, hv _ _ _ (fix _ _ _) (fun _ _ => rfl), _, _, rfl, rfl, seeL_p rest⟩, trivial⟩, rfl, by rw [show numB w = false from (num_no hk (by rw [← hb, isDg, decide_eq_false (by omega)]))]; exact rfl⟩
    have h3 : ¬ (57 : Int) < (b.toNat : Int) := h3
    have hdg : isDg b = true := by rw [isDg, decide_eq_true ⟨by omega, by omega⟩]
    have hnx : ∀ c ∈ w.take (k + 1), isDg c = true := mem_take 0 hk k2 (by rw [← hb]; exact hdg)
    (first | refine brLt (fun h4 => ?_) (fun h4 => ?_) | refine brLe (fun h4 => ?_) (fun h4 => ?_) | refine brEq (fun h4 => ?_) (fun h4 => ?_))
    · have h4 : (k : Int) < 4 := h4
      have e1 : min k 4 = k := by omega
      have e2 : min (k + 1) 4 = k + 1 := by omega
      have hval : valN (w.take (min (k + 1) 4)) = 10 * valN (w.take (min k 4)) + ((b.toNat : Int) - 48) := by rw [e1, e2, take_succ_getD 0 hk, ← hb, val_snoc]
      refine ⟨10 * valN (w.take (min k 4)), wrap_i64 (by omega) (by omega), ?_⟩
      refine ⟨_, ⟨by omega, b, by rw [hb]; exact scan_at hk, rfl⟩, ?_⟩
      refine ⟨(b.toNat : Int) - 48, wrap8 (by omega) (by omega), ?_⟩
      refine ⟨(b.toNat : Int) - 48, wrap_i64 (by omega) (by omega), ?_⟩
      refine ⟨10 * valN (w.take (min k 4)) + ((b.toNat : Int) - 48), wrap_i64 (by omega) (by omega), ?_⟩
      refine ⟨_, wrap_i64 (by omega) (by omega), ?_⟩
      exact ⟨k + 1, ⟨by omega, hnx⟩, ent_of [] [] [] rfl ⟨⟨rfl, rfl⟩, rfl, congrArg i64 hval, rfl, rfl, trivial⟩ ⟨⟨_, rfl, rfl, rfl, _, rfl, _, _, rfl, rfl, _, _, rfl, hv _ _ _ (fix _ _ _) (fun _ _ => rfl), _, _, rfl, rfl, seeL_p rest⟩, trivial⟩ rfl, by show w.length - (k + 1) < w.length - k; omega⟩
    · have h4 : ¬ (k : Int) < 4 := h4
      refine ⟨_, wrap_i64 (by omega) (by omega), ?_⟩
      exact ⟨k + 1, ⟨by omega, hnx⟩, ent_of [] [] [] rfl ⟨⟨rfl, rfl⟩, rfl, congrArg (fun l => i64 (valN l)) (by rw [min4 (by omega), min4 (by omega)]), rfl, rfl, trivial⟩ ⟨⟨_, rfl, rfl, rfl, _, rfl, _, _, rfl, rfl, _, _, rfl, hv _ _ _ (fix _ _ _) (fun _ _ => rfl), _, _, rfl, rfl, seeL_p rest⟩, trivial⟩ rfl, by show w.length - (k + 1) < w.length - k; omega⟩
  · have h1 : ¬ (k : Int) < (w.length : Nat) := h1
    have hkl : k = w.length := by omega
    rw [take_all (show w.length ≤ k by omega)] at k2
    have ha : w.all isDg = true := List.all_eq_true.2 k2
    (first | refine brLt (fun h2 => ?_) (fun h2 => ?_) | refine brLe (fun h2 => ?_) (fun h2 => ?_) | refine brEq (fun h2 => ?_) (fun h2 => ?_))
    · have h2 : w = [] := h2
      refine (fail_h T g v p rest).holds.mono fun e H' hq => ?_
      obtain ⟨rfl, rfl⟩ := hq
      exact ⟨[], [], [], placeX p, cmH T g v p rest, rfl, ⟨_, rfl, _, _, rfl, rfl, rfl⟩, ⟨⟨_, rfl, rfl, rfl, _, rfl, _, _, rfl, rfl, _, _, rfl, hv _ _ _ (fix _ _ _) (fun _ _ => rfl), _, _, rfl, rfl, seeL_p rest⟩, trivial⟩, rfl, by rw [show numB w = false from (by rw [h2]; rfl)]; exact rfl⟩
    have h2 : ¬ w = [] := h2
    have hpos := List.length_pos_iff.2 h2
    (first | refine brLt (fun h3 => ?_) (fun h3 => ?_) | refine brLe (fun h3 => ?_) (fun h3 => ?_) | refine brEq (fun h3 => ?_) (fun h3 => ?_))
    · have h3 : (4 : Int) < (w.length : Nat) := h3
      refine (fail_h T g v p rest).holds.mono fun e H' hq => ?_
      obtain ⟨rfl, rfl⟩ := hq
      exact ⟨[], [], [], placeX p, cmH T g v p rest, rfl, ⟨_, rfl, _, _, rfl, rfl, rfl⟩, ⟨⟨_, rfl, rfl, rfl, _, rfl, _, _, rfl, rfl, _, _, rfl, hv _ _ _ (fix _ _ _) (fun _ _ => rfl), _, _, rfl, rfl, seeL_p rest⟩, trivial⟩, rfl, by rw [show numB w = false from (by rw [numB, ha, decide_eq_false (show ¬ w.length ≤ 4 by omega), decide_eq_false (show ¬ w = [48] from fun e => by rw [e] at h3; simp at h3)]; simp)]; exact rfl⟩
    have h3 : ¬ (4 : Int) < (w.length : Nat) := h3
    have hmk : min k 4 = w.length := by omega
    refine ⟨_, ⟨by omega, w.getD 0 0, scan_at hpos, rfl⟩, ?_⟩
    (first | refine brLt (fun h4 => ?_) (fun h4 => ?_) | refine brLe (fun h4 => ?_) (fun h4 => ?_) | refine brEq (fun h4 => ?_) (fun h4 => ?_))
    · have h4 : ((w.getD 0 0).toNat : Int) = 48 := h4
      have h5 : w.getD 0 0 = 48 := UInt8.toNat_inj.1 (by rw [show (48 : UInt8).toNat = 48 from rfl]; omega)
      (first | refine brLt (fun h6 => ?_) (fun h6 => ?_) | refine brLe (fun h6 => ?_) (fun h6 => ?_) | refine brEq (fun h6 => ?_) (fun h6 => ?_))
      · have h6 : w = [48] := h6
        have hn : numB w = true := (by rw [h6]; decide)
        refine ⟨[], [], [], .returned (.p (i64 (valN w))), cmH T g v p rest, rfl, ⟨_, rfl, congrArg (fun l => i64 (valN l)) (show w = w.take (min k 4) by rw [hmk, take_all (Nat.le_refl _)])⟩, ⟨⟨_, rfl, rfl, rfl, _, rfl, _, _, rfl, rfl, _, _, rfl, hv _ _ _ (fix _ _ _) (fun _ _ => rfl), _, _, rfl, rfl, seeL_p rest⟩, trivial⟩, rfl, ?_⟩
        rw [if_pos hn]
      · have h6 : ¬ w = [48] := h6
        refine (fail_h T g v p rest).holds.mono fun e H' hq => ?_
        obtain ⟨rfl, rfl⟩ := hq
        exact ⟨[], [], [], placeX p, cmH T g v p rest, rfl, ⟨_, rfl, _, _, rfl, rfl, rfl⟩, ⟨⟨_, rfl, rfl, rfl, _, rfl, _, _, rfl, rfl, _, _, rfl, hv _ _ _ (fix _ _ _) (fun _ _ => rfl), _, _, rfl, rfl, seeL_p rest⟩, trivial⟩, rfl, by rw [show numB w = false from (by rw [numB, ha, decide_eq_false h6, decide_eq_false (show ¬ w.getD 0 0 ≠ 48 from fun h => h h5)]; simp)]; exact rfl⟩
    · have h4 : ¬ ((w.getD 0 0).toNat : Int) = 48 := h4
      have h5 : w.getD 0 0 ≠ 48 := fun e => h4 (by rw [e]; rfl)
      have hn : numB w = true := (by rw [numB, ha, decide_eq_true (show w ≠ [] from h2), decide_eq_true h5, decide_eq_true (show w.length ≤ 4 by omega)]; simp)
      refine ⟨[], [], [], .returned (.p (i64 (valN w))), cmH T g v p rest, rfl, ⟨_, rfl, congrArg (fun l => i64 (valN l)) (show w = w.take (min k 4) by rw [hmk, take_all (Nat.le_refl _)])⟩, ⟨⟨_, rfl, rfl, rfl, _, rfl, _, _, rfl, rfl, _, _, rfl, hv _ _ _ (fix _ _ _) (fun _ _ => rfl), _, _, rfl, rfl, seeL_p rest⟩, trivial⟩, rfl, ?_⟩
      rw [if_pos hn]
end Go.Proofs.YtphmmoloegjocaaGreatDoor

/- Searching a byte in a string: strings.Index, strings.Count at one byte. -/
namespace Go.Proofs.YtphmmoloegjocaaGreatDoor
open Go Y
set_option maxRecDepth 100000
set_option maxHeartbeats 4000000

theorem byteBack (c : UInt8) : ((c.toNat : Int)).toNat.toUInt8 = c := by
  show (c.toNat).toUInt8 = c
  exact UInt8.ofNat_toNat

theorem pure_extern {g : FuncId} {args : List PV} {x : PV} (hx : Res [] 5 (.p x) x) (h : ∀ (Γ : Gm) (w : World) (args' : List Value), VRL Γ (args.map .p) args' → ∃ v', (callFunc g ⟨args'⟩).run cx.P w = .ok (.value v') w ∧ VP Γ.fz x v') : Pure cx g args (· = .ret [x]) := by
  intro Γ w args' hR hA
  obtain ⟨v', h1, h2⟩ := h Γ w args' hA
  refine .inr ⟨v', w, h1, .returned (.p x), ⟨0, []⟩, Γ, ?_, ⟨v', rfl, h2⟩, Later.refl hR _ (Nat.le_refl _)⟩
  exact ⟨.ret [x], ⟨rfl, _, rfl, hx⟩, rfl⟩

theorem indexByteString_c (s : List UInt8) (c : UInt8) : Pure cx 123 [.str s, u8 c] (· = .ret [i64 (Lib.indexByte s c)]) := by
  refine pure_extern rfl fun Γ w args' hA => ?_
  simp only [List.map, VRL, VR, VP] at hA
  obtain ⟨a, as', rfl, rfl, b, bs', rfl, rfl, rfl⟩ := hA
  refine ⟨_, ?_, rfl⟩
  show (callFunc 123 #[.string ⟨⟨s⟩⟩, .int .u8 c.toNat]).run Tryz.prog w = _
  rw [run_callFunc_extern Tryz.func123 (by kernel_rfl) (by kernel_rfl) (by kernel_rfl) (e := Extern.BytealgIndexByte.indexByte) (by kernel_rfl), Lib.run_indexByteString, byteBack]
  rfl
theorem indexByte_c (s : List UInt8) (c : UInt8) : Pure cx 111 [.str s, u8 c] (· = .ret [i64 (Lib.indexByte s c)]) := by
  refine pure_of_vc Tryz.func111 rfl rfl rfl ?_
  refine (indexByteString_c s c).eq rfl ?_
  exact end1 _ rfl rfl rfl
theorem index1_c (s : List UInt8) (c : UInt8) : Pure cx 100 [.str s, .str [c]] (· = .ret [i64 (Lib.indexByte s c)]) := by
  refine pure_of_vc Tryz.func100 rfl rfl rfl ?_
  refine And.intro (fun h => absurd (show (1 : Int) = 0 from h) (by decide)) (fun _ => ?_)
  refine And.intro (fun h => ?_) (fun _ => ?_)
  · have h : [c] = s := h
    subst h
    exact end1 _ rfl rfl (retI (by simp [Lib.indexByte]))
  · refine And.intro (fun _ => ?_) (fun h => absurd rfl h)
    refine ⟨_, ⟨by omega, c, rfl, rfl⟩, ?_⟩
    refine (indexByte_c s c).eq rfl ?_
    exact end1 _ rfl rfl rfl
/-- How many octets come ahead of the first one that is so. -/
def ahead (c : UInt8) : List UInt8 → Nat
  | [] => 0
  | b :: r => if b = c then 0 else ahead c r + 1
theorem index_ahead {c : UInt8} {s : List UInt8} : (c ∈ s → Lib.indexByte s c = (ahead c s : Nat)) ∧ (c ∉ s → Lib.indexByte s c = -1) := by
  induction s with
  | nil => simp [Lib.indexByte]
  | cons b r ih =>
    simp only [Lib.indexByte, ahead, List.mem_cons]
    by_cases h : b = c
    · subst h; simp
    · have hb : (b == c) = false := by simpa using h
      have hc : ¬ c = b := fun e => h e.symm
      rw [hb, if_neg h]
      simp only [Bool.false_eq_true, if_false, hc, false_or]
      refine ⟨fun hm => ?_, fun hm => ?_⟩
      · rw [ih.1 hm, if_neg (by simp)]; rfl
      · rw [ih.2 hm]; rfl
theorem ahead_split {c : UInt8} {s : List UInt8} (h : c ∈ s) : s = s.take (ahead c s) ++ c :: s.drop (ahead c s + 1) ∧ c ∉ s.take (ahead c s) ∧ ahead c s < s.length := by
  induction s with
  | nil => simp at h
  | cons b r ih =>
    by_cases e : b = c
    · subst e; simp [ahead]
    · have hr : c ∈ r := by
        rcases List.mem_cons.1 h with h | h
        · exact absurd h.symm e
        · exact h
      obtain ⟨h1, h2, h3⟩ := ih hr
      have ea : ahead c (b :: r) = ahead c r + 1 := by simp [ahead, e]
      rw [ea]
      refine ⟨?_, ?_, by simp; omega⟩
      · simp only [List.take_succ_cons, List.drop_succ_cons, List.cons_append]
        exact congrArg _ h1
      · simp only [List.take_succ_cons, List.mem_cons, not_or]
        exact ⟨fun e' => e e'.symm, h2⟩

end Go.Proofs.YtphmmoloegjocaaGreatDoor

/- strings.ContainsRune at the octets that end a word. -/
namespace Go.Proofs.YtphmmoloegjocaaGreatDoor
open Go Y
set_option maxRecDepth 100000
set_option maxHeartbeats 40000000

theorem wrap_i32 {n : Int} (h0 : -2147483648 ≤ n) (h1 : n ≤ 2147483647) : n = IntKind.i32.wrap n := by
  simp [IntKind.wrap, IntKind.bits, IntKind.signed]
  omega
abbrev i32 (n : Int) : PV := .int .i32 n
abbrev kDel : List UInt8 := [32, 10, 40, 41]
theorem runeL_two {n : Nat} (h0 : 128 ≤ n) (h1 : n ≤ 255) : ∃ c0 c1 : UInt8, runeL (n : Int) = [c0, c1] ∧ 128 ≤ c1.toNat := by
  have hv : Utf8.valid (n : Int) = true := by simp [Utf8.valid]; omega
  refine ⟨UInt8.ofNat (0xC0 + n / 64), UInt8.ofNat (0x80 + n % 64), ?_, ?_⟩
  · rw [runeL, Utf8.encode]
    simp only [hv, if_true, Int.toNat_natCast]
    rw [if_neg (by omega), if_pos (by omega)]
  · rw [UInt8.toNat_ofNat']
    omega
theorem indexByte_in {l : List UInt8} {c : UInt8} : (0 ≤ Lib.indexByte l c) ↔ c ∈ l := by
  induction l with
  | nil => simp [Lib.indexByte]
  | cons b l ih =>
    have hg := Lib.indexByte_ge l c
    rw [Lib.indexByte]
    by_cases h : b = c
    · subst h; simp
    · have hb : (b == c) = false := by simpa using h
      rw [hb]
      simp only [Bool.false_eq_true, if_false, List.mem_cons]
      by_cases h2 : Lib.indexByte l c = -1
      · have : (Lib.indexByte l c == -1) = true := by simpa using h2
        rw [this]
        simp only [if_true]
        constructor
        · intro h; omega
        · rintro (h3 | h3)
          · exact absurd h3.symm h
          · have := ih.2 h3; omega
      · have h3 : (Lib.indexByte l c == -1) = false := by simpa using h2
        rw [h3]
        simp only [Bool.false_eq_true, if_false]
        constructor
        · intro _; exact .inr (ih.1 (by omega))
        · intro _; omega
theorem isWd_mem (b : UInt8) : isWd b = true ↔ ¬ b ∈ kDel := by
  have e : ∀ m : Nat, m < 256 → ((b.toNat == m) = true ↔ b = UInt8.ofNat m) := fun m hm => by
    rw [beq_iff_eq]
    constructor
    · intro h; rw [← h]; exact UInt8.ofNat_toNat.symm
    · intro h; rw [h, UInt8.toNat_ofNat']; omega
  simp only [isWd, Bool.and_eq_true, Bool.not_eq_true', ← Bool.not_eq_true, List.mem_cons, List.not_mem_nil, or_false, not_or, e 32 (by omega), e 10 (by omega), e 40 (by omega), e 41 (by omega)]
  exact ⟨fun ⟨⟨⟨h1, h2⟩, h3⟩, h4⟩ => ⟨h1, h2, h3, h4⟩, fun ⟨h1, h2, h3, h4⟩ => ⟨⟨⟨h1, h2⟩, h3⟩, h4⟩⟩

theorem strIndexByte_c (s : List UInt8) (c : UInt8) : Pure cx 127 [.str s, u8 c] (· = .ret [i64 (Lib.indexByte s c)]) := by
  refine pure_of_vc Tryz.func127 rfl rfl rfl ?_
  refine (indexByte_c s c).eq rfl ?_
  exact end1 _ rfl rfl rfl
theorem validRune_c (n : Nat) (h : n < 55296) : Pure cx 128 [i32 n] (· = .ret [.bool true]) := by
  refine pure_of_vc Tryz.func128 rfl rfl rfl ?_
  (first | refine brLt (fun h1 => ?_) (fun h1 => ?_) | refine brLe (fun h1 => ?_) (fun h1 => ?_) | refine brEq (fun h1 => ?_) (fun h1 => ?_))
  · have h1 : (0 : Int) ≤ (n : Nat) := h1
    (first | refine brLt (fun h2 => ?_) (fun h2 => ?_) | refine brLe (fun h2 => ?_) (fun h2 => ?_) | refine brEq (fun h2 => ?_) (fun h2 => ?_))
    · exact end1 _ rfl rfl rfl
    · have h2 : ¬ (n : Int) < 55296 := h2
      omega
  · have h1 : ¬ (0 : Int) ≤ (n : Nat) := h1
    omega
theorem indexRune_c (b : UInt8) : Pure cx 121 [.str kDel, i32 b.toNat] (· = .ret [i64 (Lib.indexByte kDel b)]) := by
  refine pure_of_vc Tryz.func121 rfl rfl rfl ?_
  have hb := b.toNat_lt
  (first | refine brLt (fun h1 => ?_) (fun h1 => ?_) | refine brLe (fun h1 => ?_) (fun h1 => ?_) | refine brEq (fun h1 => ?_) (fun h1 => ?_))
  rotate_left
  · have h1 : ¬ (0 : Int) ≤ (b.toNat : Nat) := h1
    omega
  (first | refine brLt (fun h2 => ?_) (fun h2 => ?_) | refine brLe (fun h2 => ?_) (fun h2 => ?_) | refine brEq (fun h2 => ?_) (fun h2 => ?_))
  · have h2 : (b.toNat : Int) < 128 := h2
    refine ⟨(b.toNat : Int), wrap8 (by omega) (by omega), ?_⟩
    refine (strIndexByte_c kDel b).eq rfl ?_
    exact end1 _ rfl rfl rfl
  have h2 : ¬ (b.toNat : Int) < 128 := h2
  have hno : Lib.indexByte kDel b = -1 := by
    have hg := Lib.indexByte_ge kDel b
    have : ¬ b ∈ kDel := fun hm => by
      simp only [List.mem_cons, List.not_mem_nil, or_false] at hm
      rcases hm with rfl | rfl | rfl | rfl <;> exact absurd h2 (by decide)
    have := mt indexByte_in.1 this
    omega
  (first | refine brLt (fun h3 => ?_) (fun h3 => ?_) | refine brLe (fun h3 => ?_) (fun h3 => ?_) | refine brEq (fun h3 => ?_) (fun h3 => ?_))
  · have h3 : (b.toNat : Int) = 65533 := h3
    omega
  have h3 : ¬ (b.toNat : Int) = 65533 := h3
  refine (validRune_c b.toNat (by omega)).eq rfl ?_
  obtain ⟨c0, c1, hr, hc⟩ := runeL_two (n := b.toNat) (by omega) (by omega)
  have hlen : (runeL (b.toNat : Int)).length = 2 := by rw [hr]; rfl
  refine ⟨1, by show _ = IntKind.i64.wrap (((runeL (b.toNat : Int)).length : Nat) - 1); rw [hlen]; exact wrap_i64 (by omega) (by omega), ?_⟩
  refine ⟨Unit, fun _ => [(0, .p (.str kDel)), (1, .p (i32 b.toNat)), (7, .p (.str [c0, c1])), (8, .p (i64 1)), (9, .p (i64 1)), (10, .p (i64 0))], fun _ => ⟨0, []⟩, fun _ => True, fun _ => 0, ?_, ?_⟩
  · exact ⟨(), trivial, ent0 rfl ⟨rfl, rfl, congrArg PV.str hr.symm, rfl, rfl, rfl, trivial⟩ trivial rfl⟩
  rintro ⟨⟩ -
  (first | refine brLt (fun h4 => ?_) (fun h4 => ?_) | refine brLe (fun h4 => ?_) (fun h4 => ?_) | refine brEq (fun h4 => ?_) (fun h4 => ?_))
  rotate_left
  · have h4 : ¬ (1 : Int) < (4 : Nat) := h4
    omega
  refine VDraw.seq rfl ?_
  refine ⟨_, ⟨by decide, 10, rfl, rfl⟩, ?_⟩
  refine ⟨_, ⟨by decide, c1, rfl, rfl⟩, ?_⟩
  (first | refine brLt (fun h5 => ?_) (fun h5 => ?_) | refine brLe (fun h5 => ?_) (fun h5 => ?_) | refine brEq (fun h5 => ?_) (fun h5 => ?_))
  · have h5 : (10 : Int) = (c1.toNat : Nat) := h5
    omega
  have hI : Lib.indexByte [40, 41] c1 = -1 := by
    have hg := Lib.indexByte_ge [40, 41] c1
    have : ¬ c1 ∈ ([40, 41] : List UInt8) := fun hm => by
      simp only [List.mem_cons, List.not_mem_nil, or_false] at hm
      rcases hm with rfl | rfl <;> exact absurd hc (by decide)
    have := mt indexByte_in.1 this
    omega
  have hX := strIndexByte_c [40, 41] c1
  rw [hI] at hX
  refine VDraw.seq rfl ?_
  refine ⟨2, wrap_i64 (by omega) (by omega), ?_⟩
  refine ⟨by show (0 : Int) ≤ 2 ∧ (2 : Int) ≤ ((4 : Nat) : Int); omega, ?_⟩
  refine ⟨_, ⟨by decide, c1, rfl, rfl⟩, ?_⟩
  refine hX.eq rfl ?_
  (first | refine brLt (fun h6 => ?_) (fun h6 => ?_) | refine brLe (fun h6 => ?_) (fun h6 => ?_) | refine brEq (fun h6 => ?_) (fun h6 => ?_))
  rotate_left
  · have h6 : ¬ (-1 : Int) < 0 := h6
    omega
  exact end1 _ rfl rfl (retI hno.symm)
theorem contains_c (b : UInt8) : Pure cx 109 [.str kDel, i32 b.toNat] (· = .ret [.bool (!isWd b)]) := by
  refine pure_of_vc Tryz.func109 rfl rfl rfl ?_
  refine (indexRune_c b).eq rfl ?_
  (first | refine brLt (fun h1 => ?_) (fun h1 => ?_) | refine brLe (fun h1 => ?_) (fun h1 => ?_) | refine brEq (fun h1 => ?_) (fun h1 => ?_))
  · have h1 : (0 : Int) ≤ Lib.indexByte kDel b := h1
    exact end1 _ rfl rfl (retB (by have := indexByte_in.1 h1; rw [Bool.eq_false_iff.2 (fun h => (isWd_mem b).1 h this)]; rfl))
  · have h1 : ¬ (0 : Int) ≤ Lib.indexByte kDel b := h1
    exact end1 _ rfl rfl (retB (by have := mt indexByte_in.2 h1; rw [(isWd_mem b).2 this]; rfl))
end Go.Proofs.YtphmmoloegjocaaGreatDoor

/- The program's nested reader: next. -/
namespace Go.Proofs.YtphmmoloegjocaaGreatDoor
open Go Y
set_option maxRecDepth 100000
set_option maxHeartbeats 40000000

abbrev TNs : TypeId := 102
abbrev nrO (g : Int) (v : AV) (p : Nat) (s t : List UInt8) : AObj := cmO TNs g v p [.str s, .str t]
abbrev nrH (g : Int) (v : AV) (p : Nat) (s t : List UInt8) : Hp := cmH TNs g v p [.str s, .str t]

theorem next_h (g : Int) (v : AV) (p : Nat) (s tk : List UInt8) (x : Nat) (hv : Self 2 v) (hx : x = p + tk.length) (hs : s.length ≤ 100000) (hp : x ≤ s.length) : HoldsG cx 148 [.ptr 0 0 0] (nrH g v p s tk) fun e H' => e = .returned und ∧ H' = nrH g v (nx s x) s (tok s x) := by
  refine holdsN_of_vc Tryz.func148 rfl rfl rfl ?_
  have fix : ∀ ps N1 N n, n < 2 → rmap 2 ps N1 N n = n := fun ps N1 N n h => rmap_fix h
  refine VDraw.seq rfl ?_
  refine ⟨(x : Int), by show _ = IntKind.i64.wrap ((p : Int) + ((tk.length : Nat) : Int)); rw [show (p : Int) + ((tk.length : Nat) : Int) = (x : Int) by omega]; exact wrap_i64 (by omega) (by omega), ?_⟩
  refine ⟨Nat, fun _ => [(0, .ptr 0 0 0)], fun q => nrH g v q s tk, fun q => x ≤ q ∧ q ≤ s.length ∧ nx s q = nx s x, fun q => s.length - q, ?_, ?_⟩
  · exact ⟨x, ⟨Nat.le_refl _, hp, rfl⟩, ent_of [] [] [] rfl (by (repeat' first | exact trivial | exact rfl | exact ⟨rfl, rfl⟩ | exact .inl rfl | refine ⟨_, rfl, rfl, rfl, ?_⟩ | refine ⟨_, _, rfl, ?_, ?_⟩ | refine ⟨_, rfl, ?_⟩ | refine And.intro ?_ ?_)) ⟨⟨_, rfl, rfl, rfl, _, rfl, _, _, rfl, rfl, _, _, rfl, hv _ _ _ (fix _ _ _) (fun _ _ => rfl), _, _, rfl, rfl, _, _, rfl, rfl, _, _, rfl, rfl, rfl⟩, trivial⟩ rfl⟩
  rintro q ⟨q1, q2, q3⟩
  refine VDraw.seq rfl ?_
  (first | refine brLt (fun h1 => ?_) (fun h1 => ?_) | refine brLe (fun h1 => ?_) (fun h1 => ?_) | refine brEq (fun h1 => ?_) (fun h1 => ?_))
  · have h1 : (q : Int) < (s.length : Nat) := h1
    have hq : q < s.length := by omega
    obtain ⟨c, hc⟩ : ∃ c, c = s.getD q 0 := ⟨_, rfl⟩
    refine ⟨_, ⟨by omega, c, by rw [hc]; exact scan_at hq, rfl⟩, ?_⟩
    (first | refine brLt (fun h2 => ?_) (fun h2 => ?_) | refine brLe (fun h2 => ?_) (fun h2 => ?_) | refine brEq (fun h2 => ?_) (fun h2 => ?_))
    · have h2 : (c.toNat : Int) = 32 := h2
      have hb : isBl (s.getD q 0) = true := by rw [← hc, isBl, show c.toNat = 32 by omega]; rfl
      have hn : nx s (q + 1) = nx s q := scan_step hq hb
      refine ⟨_, wrap_i64 (by omega) (by omega), ?_⟩
      exact ⟨q + 1, ⟨by omega, by omega, by rw [hn]; exact q3⟩, ent_of [] [] [] rfl (by (repeat' first | exact trivial | exact rfl | exact ⟨rfl, rfl⟩ | exact .inl rfl | refine ⟨_, rfl, rfl, rfl, ?_⟩ | refine ⟨_, _, rfl, ?_, ?_⟩ | refine ⟨_, rfl, ?_⟩ | refine And.intro ?_ ?_)) ⟨⟨_, rfl, rfl, rfl, _, rfl, _, _, rfl, rfl, _, _, rfl, hv _ _ _ (fix _ _ _) (fun _ _ => rfl), _, _, rfl, rfl, _, _, rfl, rfl, _, _, rfl, rfl, rfl⟩, trivial⟩ rfl, by show s.length - (q + 1) < s.length - q; omega⟩
    · have h2 : ¬ (c.toNat : Int) = 32 := h2
      refine ⟨_, ⟨by omega, c, by rw [hc]; exact scan_at hq, rfl⟩, ?_⟩
      (first | refine brLt (fun h3 => ?_) (fun h3 => ?_) | refine brLe (fun h3 => ?_) (fun h3 => ?_) | refine brEq (fun h3 => ?_) (fun h3 => ?_))
      · have h3 : (c.toNat : Int) = 10 := h3
        have hb : isBl (s.getD q 0) = true := by rw [← hc, isBl, show c.toNat = 10 by omega]; rfl
        have hn : nx s (q + 1) = nx s q := scan_step hq hb
        refine ⟨_, wrap_i64 (by omega) (by omega), ?_⟩
        exact ⟨q + 1, ⟨by omega, by omega, by rw [hn]; exact q3⟩, ent_of [] [] [] rfl (by (repeat' first | exact trivial | exact rfl | exact ⟨rfl, rfl⟩ | exact .inl rfl | refine ⟨_, rfl, rfl, rfl, ?_⟩ | refine ⟨_, _, rfl, ?_, ?_⟩ | refine ⟨_, rfl, ?_⟩ | refine And.intro ?_ ?_)) ⟨⟨_, rfl, rfl, rfl, _, rfl, _, _, rfl, rfl, _, _, rfl, hv _ _ _ (fix _ _ _) (fun _ _ => rfl), _, _, rfl, rfl, _, _, rfl, rfl, _, _, rfl, rfl, rfl⟩, trivial⟩ rfl, by show s.length - (q + 1) < s.length - q; omega⟩
      · have h3 : ¬ (c.toNat : Int) = 10 := h3
        have hn : nx s q = q := scan_stop hq (by rw [← hc, isBl, beq_false_of_ne (by omega), beq_false_of_ne (by omega)]; rfl)
        refine ⟨Nat, fun k => [(0, .ptr 0 0 0), (2, .p (i64 k))], fun _ => nrH g v q s tk, fun k => q ≤ k ∧ k ≤ s.length ∧ scanF isWd s k = scanF isWd s q, fun k => s.length - k, ?_, ?_⟩
        · exact ⟨q, ⟨Nat.le_refl _, q2, rfl⟩, ent_of [] [] [] rfl (by (repeat' first | exact trivial | exact rfl | exact ⟨rfl, rfl⟩ | exact .inl rfl | refine ⟨_, rfl, rfl, rfl, ?_⟩ | refine ⟨_, _, rfl, ?_, ?_⟩ | refine ⟨_, rfl, ?_⟩ | refine And.intro ?_ ?_)) ⟨⟨_, rfl, rfl, rfl, _, rfl, _, _, rfl, rfl, _, _, rfl, hv _ _ _ (fix _ _ _) (fun _ _ => rfl), _, _, rfl, rfl, _, _, rfl, rfl, _, _, rfl, rfl, rfl⟩, trivial⟩ rfl⟩
        rintro k ⟨k1, k2, k3⟩
        have hnp : nx s x = q := q3 ▸ hn
        (first | refine brLt (fun j1 => ?_) (fun j1 => ?_) | refine brLe (fun j1 => ?_) (fun j1 => ?_) | refine brEq (fun j1 => ?_) (fun j1 => ?_))
        · have j1 : (k : Int) < (s.length : Nat) := j1
          have hk : k < s.length := by omega
          obtain ⟨d, hd⟩ : ∃ d, d = s.getD k 0 := ⟨_, rfl⟩
          refine ⟨_, ⟨by omega, d, by rw [hd]; exact scan_at hk, rfl⟩, ?_⟩
          have hdl := d.toNat_lt
          refine ⟨(d.toNat : Int), wrap_i32 (by omega) (by omega), ?_⟩
          have hC := contains_c d
          by_cases hw : isWd d = true
          · rw [hw] at hC
            refine hC.eq rfl ?_
            have hst : scanF isWd s (k + 1) = scanF isWd s k := scan_step hk (by rw [← hd]; exact hw)
            refine ⟨_, wrap_i64 (by omega) (by omega), ?_⟩
            exact ⟨k + 1, ⟨by omega, by omega, by rw [hst]; exact k3⟩, ent_of [] [] [] rfl (by (repeat' first | exact trivial | exact rfl | exact ⟨rfl, rfl⟩ | exact .inl rfl | refine ⟨_, rfl, rfl, rfl, ?_⟩ | refine ⟨_, _, rfl, ?_, ?_⟩ | refine ⟨_, rfl, ?_⟩ | refine And.intro ?_ ?_)) ⟨⟨_, rfl, rfl, rfl, _, rfl, _, _, rfl, rfl, _, _, rfl, hv _ _ _ (fix _ _ _) (fun _ _ => rfl), _, _, rfl, rfl, _, _, rfl, rfl, _, _, rfl, rfl, rfl⟩, trivial⟩ rfl, by show s.length - (k + 1) < s.length - k; omega⟩
          · have hw := Bool.eq_false_iff.2 hw
            rw [hw] at hC
            refine hC.eq rfl ?_
            have he : scanF isWd s k = k := scan_stop hk (by rw [← hd]; exact hw)
            (first | refine brLt (fun t1 => ?_) (fun t1 => ?_) | refine brLe (fun t1 => ?_) (fun t1 => ?_) | refine brEq (fun t1 => ?_) (fun t1 => ?_))
            · have t1 : (k : Int) = (q : Nat) := t1
              (first | refine brLt (fun t2 => ?_) (fun t2 => ?_) | refine brLe (fun t2 => ?_) (fun t2 => ?_) | refine brEq (fun t2 => ?_) (fun t2 => ?_))
              · have t2 : (k : Int) < (s.length : Nat) := t2
                refine ⟨_, wrap_i64 (by omega) (by omega), ?_⟩
                refine VDraw.seq rfl ?_
                refine ⟨by show (0 : Int) ≤ (q : Nat) ∧ (q : Int) ≤ ((k : Int) + 1) ∧ ((k : Int) + 1) ≤ ((s.length : Nat) : Int); omega, ?_⟩
                refine ⟨[], [], [], .returned und, nrH g v (nx s x) s (tok s x), rfl, by (repeat' first | exact trivial | exact rfl | exact ⟨rfl, rfl⟩ | exact .inl rfl | refine ⟨_, rfl, rfl, rfl, ?_⟩ | refine ⟨_, _, rfl, ?_, ?_⟩ | refine ⟨_, rfl, ?_⟩ | refine And.intro ?_ ?_), ⟨⟨_, rfl, rfl, rfl, _, rfl, _, _, rfl, rfl, _, _, rfl, hv _ _ _ (fix _ _ _) (fun _ _ => rfl), _, _, rfl, congrArg (fun n : Nat => i64 n) hnp, _, _, rfl, rfl, _, _, rfl, ?_, rfl⟩, trivial⟩, rfl, rfl⟩
                show PV.str (tok s x) = PV.str ((s.drop ((q : Nat) : Int).toNat).take (((k : Int) + 1).toNat - ((q : Nat) : Int).toNat))
                rw [tok_is hnp (k3 ▸ he) rfl]
                refine congrArg (fun m => PV.str ((s.drop q).take m)) ?_
                split <;> omega
              · have t2 : ¬ (k : Int) < (s.length : Nat) := t2
                refine VDraw.seq rfl ?_
                refine ⟨by show (0 : Int) ≤ (q : Nat) ∧ (q : Int) ≤ ((k : Nat) : Int) ∧ ((k : Nat) : Int) ≤ ((s.length : Nat) : Int); omega, ?_⟩
                refine ⟨[], [], [], .returned und, nrH g v (nx s x) s (tok s x), rfl, by (repeat' first | exact trivial | exact rfl | exact ⟨rfl, rfl⟩ | exact .inl rfl | refine ⟨_, rfl, rfl, rfl, ?_⟩ | refine ⟨_, _, rfl, ?_, ?_⟩ | refine ⟨_, rfl, ?_⟩ | refine And.intro ?_ ?_), ⟨⟨_, rfl, rfl, rfl, _, rfl, _, _, rfl, rfl, _, _, rfl, hv _ _ _ (fix _ _ _) (fun _ _ => rfl), _, _, rfl, congrArg (fun n : Nat => i64 n) hnp, _, _, rfl, rfl, _, _, rfl, ?_, rfl⟩, trivial⟩, rfl, rfl⟩
                show PV.str (tok s x) = PV.str ((s.drop ((q : Nat) : Int).toNat).take (((k : Nat) : Int).toNat - ((q : Nat) : Int).toNat))
                rw [tok_is hnp (k3 ▸ he) rfl]
                refine congrArg (fun m => PV.str ((s.drop q).take m)) ?_
                split <;> omega
            · have t1 : ¬ (k : Int) = (q : Nat) := t1
              refine VDraw.seq rfl ?_
              refine ⟨by show (0 : Int) ≤ (q : Nat) ∧ (q : Int) ≤ ((k : Nat) : Int) ∧ ((k : Nat) : Int) ≤ ((s.length : Nat) : Int); omega, ?_⟩
              refine ⟨[], [], [], .returned und, nrH g v (nx s x) s (tok s x), rfl, by (repeat' first | exact trivial | exact rfl | exact ⟨rfl, rfl⟩ | exact .inl rfl | refine ⟨_, rfl, rfl, rfl, ?_⟩ | refine ⟨_, _, rfl, ?_, ?_⟩ | refine ⟨_, rfl, ?_⟩ | refine And.intro ?_ ?_), ⟨⟨_, rfl, rfl, rfl, _, rfl, _, _, rfl, rfl, _, _, rfl, hv _ _ _ (fix _ _ _) (fun _ _ => rfl), _, _, rfl, congrArg (fun n : Nat => i64 n) hnp, _, _, rfl, rfl, _, _, rfl, ?_, rfl⟩, trivial⟩, rfl, rfl⟩
              show PV.str (tok s x) = PV.str ((s.drop ((q : Nat) : Int).toNat).take (((k : Nat) : Int).toNat - ((q : Nat) : Int).toNat))
              rw [tok_is hnp (k3 ▸ he) rfl]
              refine congrArg (fun m => PV.str ((s.drop q).take m)) ?_
              split <;> omega
        · have j1 : ¬ (k : Int) < (s.length : Nat) := j1
          have he : scanF isWd s k = k := scan_end (by omega)
          (first | refine brLt (fun t1 => ?_) (fun t1 => ?_) | refine brLe (fun t1 => ?_) (fun t1 => ?_) | refine brEq (fun t1 => ?_) (fun t1 => ?_))
          · have t1 : (k : Int) = (q : Nat) := t1
            (first | refine brLt (fun t2 => ?_) (fun t2 => ?_) | refine brLe (fun t2 => ?_) (fun t2 => ?_) | refine brEq (fun t2 => ?_) (fun t2 => ?_))
            · have t2 : (k : Int) < (s.length : Nat) := t2
              refine ⟨_, wrap_i64 (by omega) (by omega), ?_⟩
              refine VDraw.seq rfl ?_
              refine ⟨by show (0 : Int) ≤ (q : Nat) ∧ (q : Int) ≤ ((k : Int) + 1) ∧ ((k : Int) + 1) ≤ ((s.length : Nat) : Int); omega, ?_⟩
              refine ⟨[], [], [], .returned und, nrH g v (nx s x) s (tok s x), rfl, by (repeat' first | exact trivial | exact rfl | exact ⟨rfl, rfl⟩ | exact .inl rfl | refine ⟨_, rfl, rfl, rfl, ?_⟩ | refine ⟨_, _, rfl, ?_, ?_⟩ | refine ⟨_, rfl, ?_⟩ | refine And.intro ?_ ?_), ⟨⟨_, rfl, rfl, rfl, _, rfl, _, _, rfl, rfl, _, _, rfl, hv _ _ _ (fix _ _ _) (fun _ _ => rfl), _, _, rfl, congrArg (fun n : Nat => i64 n) hnp, _, _, rfl, rfl, _, _, rfl, ?_, rfl⟩, trivial⟩, rfl, rfl⟩
              show PV.str (tok s x) = PV.str ((s.drop ((q : Nat) : Int).toNat).take (((k : Int) + 1).toNat - ((q : Nat) : Int).toNat))
              rw [tok_is hnp (k3 ▸ he) rfl]
              refine congrArg (fun m => PV.str ((s.drop q).take m)) ?_
              split <;> omega
            · have t2 : ¬ (k : Int) < (s.length : Nat) := t2
              refine VDraw.seq rfl ?_
              refine ⟨by show (0 : Int) ≤ (q : Nat) ∧ (q : Int) ≤ ((k : Nat) : Int) ∧ ((k : Nat) : Int) ≤ ((s.length : Nat) : Int); omega, ?_⟩
              refine ⟨[], [], [], .returned und, nrH g v (nx s x) s (tok s x), rfl, by (repeat' first | exact trivial | exact rfl | exact ⟨rfl, rfl⟩ | exact .inl rfl | refine ⟨_, rfl, rfl, rfl, ?_⟩ | refine ⟨_, _, rfl, ?_, ?_⟩ | refine ⟨_, rfl, ?_⟩ | refine And.intro ?_ ?_), ⟨⟨_, rfl, rfl, rfl, _, rfl, _, _, rfl, rfl, _, _, rfl, hv _ _ _ (fix _ _ _) (fun _ _ => rfl), _, _, rfl, congrArg (fun n : Nat => i64 n) hnp, _, _, rfl, rfl, _, _, rfl, ?_, rfl⟩, trivial⟩, rfl, rfl⟩
              show PV.str (tok s x) = PV.str ((s.drop ((q : Nat) : Int).toNat).take (((k : Nat) : Int).toNat - ((q : Nat) : Int).toNat))
              rw [tok_is hnp (k3 ▸ he) rfl]
              refine congrArg (fun m => PV.str ((s.drop q).take m)) ?_
              split <;> omega
          · have t1 : ¬ (k : Int) = (q : Nat) := t1
            refine VDraw.seq rfl ?_
            refine ⟨by show (0 : Int) ≤ (q : Nat) ∧ (q : Int) ≤ ((k : Nat) : Int) ∧ ((k : Nat) : Int) ≤ ((s.length : Nat) : Int); omega, ?_⟩
            refine ⟨[], [], [], .returned und, nrH g v (nx s x) s (tok s x), rfl, by (repeat' first | exact trivial | exact rfl | exact ⟨rfl, rfl⟩ | exact .inl rfl | refine ⟨_, rfl, rfl, rfl, ?_⟩ | refine ⟨_, _, rfl, ?_, ?_⟩ | refine ⟨_, rfl, ?_⟩ | refine And.intro ?_ ?_), ⟨⟨_, rfl, rfl, rfl, _, rfl, _, _, rfl, rfl, _, _, rfl, hv _ _ _ (fix _ _ _) (fun _ _ => rfl), _, _, rfl, congrArg (fun n : Nat => i64 n) hnp, _, _, rfl, rfl, _, _, rfl, ?_, rfl⟩, trivial⟩, rfl, rfl⟩
            show PV.str (tok s x) = PV.str ((s.drop ((q : Nat) : Int).toNat).take (((k : Nat) : Int).toNat - ((q : Nat) : Int).toNat))
            rw [tok_is hnp (k3 ▸ he) rfl]
            refine congrArg (fun m => PV.str ((s.drop q).take m)) ?_
            split <;> omega
  · have h1 : ¬ (q : Int) < (s.length : Nat) := h1
    have hn : nx s q = q := scan_end (by omega)
    refine ⟨Nat, fun k => [(0, .ptr 0 0 0), (2, .p (i64 k))], fun _ => nrH g v q s tk, fun k => q ≤ k ∧ k ≤ s.length ∧ scanF isWd s k = scanF isWd s q, fun k => s.length - k, ?_, ?_⟩
    · exact ⟨q, ⟨Nat.le_refl _, q2, rfl⟩, ent_of [] [] [] rfl (by (repeat' first | exact trivial | exact rfl | exact ⟨rfl, rfl⟩ | exact .inl rfl | refine ⟨_, rfl, rfl, rfl, ?_⟩ | refine ⟨_, _, rfl, ?_, ?_⟩ | refine ⟨_, rfl, ?_⟩ | refine And.intro ?_ ?_)) ⟨⟨_, rfl, rfl, rfl, _, rfl, _, _, rfl, rfl, _, _, rfl, hv _ _ _ (fix _ _ _) (fun _ _ => rfl), _, _, rfl, rfl, _, _, rfl, rfl, _, _, rfl, rfl, rfl⟩, trivial⟩ rfl⟩
    rintro k ⟨k1, k2, k3⟩
    have hnp : nx s x = q := q3 ▸ hn
    (first | refine brLt (fun j1 => ?_) (fun j1 => ?_) | refine brLe (fun j1 => ?_) (fun j1 => ?_) | refine brEq (fun j1 => ?_) (fun j1 => ?_))
    · have j1 : (k : Int) < (s.length : Nat) := j1
      have hk : k < s.length := by omega
      obtain ⟨d, hd⟩ : ∃ d, d = s.getD k 0 := ⟨_, rfl⟩
      refine ⟨_, ⟨by omega, d, by rw [hd]; exact scan_at hk, rfl⟩, ?_⟩
      have hdl := d.toNat_lt
      refine ⟨(d.toNat : Int), wrap_i32 (by omega) (by omega), ?_⟩
      have hC := contains_c d
      by_cases hw : isWd d = true
      · rw [hw] at hC
        refine hC.eq rfl ?_
        have hst : scanF isWd s (k + 1) = scanF isWd s k := scan_step hk (by rw [← hd]; exact hw)
        refine ⟨_, wrap_i64 (by omega) (by omega), ?_⟩
        exact ⟨k + 1, ⟨by omega, by omega, by rw [hst]; exact k3⟩, ent_of [] [] [] rfl (by (repeat' first | exact trivial | exact rfl | exact ⟨rfl, rfl⟩ | exact .inl rfl | refine ⟨_, rfl, rfl, rfl, ?_⟩ | refine ⟨_, _, rfl, ?_, ?_⟩ | refine ⟨_, rfl, ?_⟩ | refine And.intro ?_ ?_)) ⟨⟨_, rfl, rfl, rfl, _, rfl, _, _, rfl, rfl, _, _, rfl, hv _ _ _ (fix _ _ _) (fun _ _ => rfl), _, _, rfl, rfl, _, _, rfl, rfl, _, _, rfl, rfl, rfl⟩, trivial⟩ rfl, by show s.length - (k + 1) < s.length - k; omega⟩
      · have hw := Bool.eq_false_iff.2 hw
        rw [hw] at hC
        refine hC.eq rfl ?_
        have he : scanF isWd s k = k := scan_stop hk (by rw [← hd]; exact hw)
        (first | refine brLt (fun t1 => ?_) (fun t1 => ?_) | refine brLe (fun t1 => ?_) (fun t1 => ?_) | refine brEq (fun t1 => ?_) (fun t1 => ?_))
        · have t1 : (k : Int) = (q : Nat) := t1
          (first | refine brLt (fun t2 => ?_) (fun t2 => ?_) | refine brLe (fun t2 => ?_) (fun t2 => ?_) | refine brEq (fun t2 => ?_) (fun t2 => ?_))
          · have t2 : (k : Int) < (s.length : Nat) := t2
            refine ⟨_, wrap_i64 (by omega) (by omega), ?_⟩
            refine VDraw.seq rfl ?_
            refine ⟨by show (0 : Int) ≤ (q : Nat) ∧ (q : Int) ≤ ((k : Int) + 1) ∧ ((k : Int) + 1) ≤ ((s.length : Nat) : Int); omega, ?_⟩
            refine ⟨[], [], [], .returned und, nrH g v (nx s x) s (tok s x), rfl, by (repeat' first | exact trivial | exact rfl | exact ⟨rfl, rfl⟩ | exact .inl rfl | refine ⟨_, rfl, rfl, rfl, ?_⟩ | refine ⟨_, _, rfl, ?_, ?_⟩ | refine ⟨_, rfl, ?_⟩ | refine And.intro ?_ ?_), ⟨⟨_, rfl, rfl, rfl, _, rfl, _, _, rfl, rfl, _, _, rfl, hv _ _ _ (fix _ _ _) (fun _ _ => rfl), _, _, rfl, congrArg (fun n : Nat => i64 n) hnp, _, _, rfl, rfl, _, _, rfl, ?_, rfl⟩, trivial⟩, rfl, rfl⟩
            show PV.str (tok s x) = PV.str ((s.drop ((q : Nat) : Int).toNat).take (((k : Int) + 1).toNat - ((q : Nat) : Int).toNat))
            rw [tok_is hnp (k3 ▸ he) rfl]
            refine congrArg (fun m => PV.str ((s.drop q).take m)) ?_
            split <;> omega
          · have t2 : ¬ (k : Int) < (s.length : Nat) := t2
            refine VDraw.seq rfl ?_
            refine ⟨by show (0 : Int) ≤ (q : Nat) ∧ (q : Int) ≤ ((k : Nat) : Int) ∧ ((k : Nat) : Int) ≤ ((s.length : Nat) : Int); omega, ?_⟩
            refine ⟨[], [], [], .returned und, nrH g v (nx s x) s (tok s x), rfl, by (repeat' first | exact trivial | exact rfl | exact ⟨rfl, rfl⟩ | exact .inl rfl | refine ⟨_, rfl, rfl, rfl, ?_⟩ | refine ⟨_, _, rfl, ?_, ?_⟩ | refine ⟨_, rfl, ?_⟩ | refine And.intro ?_ ?_), ⟨⟨_, rfl, rfl, rfl, _, rfl, _, _, rfl, rfl, _, _, rfl, hv _ _ _ (fix _ _ _) (fun _ _ => rfl), _, _, rfl, congrArg (fun n : Nat => i64 n) hnp, _, _, rfl, rfl, _, _, rfl, ?_, rfl⟩, trivial⟩, rfl, rfl⟩
            show PV.str (tok s x) = PV.str ((s.drop ((q : Nat) : Int).toNat).take (((k : Nat) : Int).toNat - ((q : Nat) : Int).toNat))
            rw [tok_is hnp (k3 ▸ he) rfl]
            refine congrArg (fun m => PV.str ((s.drop q).take m)) ?_
            split <;> omega
        · have t1 : ¬ (k : Int) = (q : Nat) := t1
          refine VDraw.seq rfl ?_
          refine ⟨by show (0 : Int) ≤ (q : Nat) ∧ (q : Int) ≤ ((k : Nat) : Int) ∧ ((k : Nat) : Int) ≤ ((s.length : Nat) : Int); omega, ?_⟩
          refine ⟨[], [], [], .returned und, nrH g v (nx s x) s (tok s x), rfl, by (repeat' first | exact trivial | exact rfl | exact ⟨rfl, rfl⟩ | exact .inl rfl | refine ⟨_, rfl, rfl, rfl, ?_⟩ | refine ⟨_, _, rfl, ?_, ?_⟩ | refine ⟨_, rfl, ?_⟩ | refine And.intro ?_ ?_), ⟨⟨_, rfl, rfl, rfl, _, rfl, _, _, rfl, rfl, _, _, rfl, hv _ _ _ (fix _ _ _) (fun _ _ => rfl), _, _, rfl, congrArg (fun n : Nat => i64 n) hnp, _, _, rfl, rfl, _, _, rfl, ?_, rfl⟩, trivial⟩, rfl, rfl⟩
          show PV.str (tok s x) = PV.str ((s.drop ((q : Nat) : Int).toNat).take (((k : Nat) : Int).toNat - ((q : Nat) : Int).toNat))
          rw [tok_is hnp (k3 ▸ he) rfl]
          refine congrArg (fun m => PV.str ((s.drop q).take m)) ?_
          split <;> omega
    · have j1 : ¬ (k : Int) < (s.length : Nat) := j1
      have he : scanF isWd s k = k := scan_end (by omega)
      (first | refine brLt (fun t1 => ?_) (fun t1 => ?_) | refine brLe (fun t1 => ?_) (fun t1 => ?_) | refine brEq (fun t1 => ?_) (fun t1 => ?_))
      · have t1 : (k : Int) = (q : Nat) := t1
        (first | refine brLt (fun t2 => ?_) (fun t2 => ?_) | refine brLe (fun t2 => ?_) (fun t2 => ?_) | refine brEq (fun t2 => ?_) (fun t2 => ?_))
        · have t2 : (k : Int) < (s.length : Nat) := t2
          refine ⟨_, wrap_i64 (by omega) (by omega), ?_⟩
          refine VDraw.seq rfl ?_
          refine ⟨by show (0 : Int) ≤ (q : Nat) ∧ (q : Int) ≤ ((k : Int) + 1) ∧ ((k : Int) + 1) ≤ ((s.length : Nat) : Int); omega, ?_⟩
          refine ⟨[], [], [], .returned und, nrH g v (nx s x) s (tok s x), rfl, by (repeat' first | exact trivial | exact rfl | exact ⟨rfl, rfl⟩ | exact .inl rfl | refine ⟨_, rfl, rfl, rfl, ?_⟩ | refine ⟨_, _, rfl, ?_, ?_⟩ | refine ⟨_, rfl, ?_⟩ | refine And.intro ?_ ?_), ⟨⟨_, rfl, rfl, rfl, _, rfl, _, _, rfl, rfl, _, _, rfl, hv _ _ _ (fix _ _ _) (fun _ _ => rfl), _, _, rfl, congrArg (fun n : Nat => i64 n) hnp, _, _, rfl, rfl, _, _, rfl, ?_, rfl⟩, trivial⟩, rfl, rfl⟩
          show PV.str (tok s x) = PV.str ((s.drop ((q : Nat) : Int).toNat).take (((k : Int) + 1).toNat - ((q : Nat) : Int).toNat))
          rw [tok_is hnp (k3 ▸ he) rfl]
          refine congrArg (fun m => PV.str ((s.drop q).take m)) ?_
          split <;> omega
        · have t2 : ¬ (k : Int) < (s.length : Nat) := t2
          refine VDraw.seq rfl ?_
          refine ⟨by show (0 : Int) ≤ (q : Nat) ∧ (q : Int) ≤ ((k : Nat) : Int) ∧ ((k : Nat) : Int) ≤ ((s.length : Nat) : Int); omega, ?_⟩
          refine ⟨[], [], [], .returned und, nrH g v (nx s x) s (tok s x), rfl, by (repeat' first | exact trivial | exact rfl | exact ⟨rfl, rfl⟩ | exact .inl rfl | refine ⟨_, rfl, rfl, rfl, ?_⟩ | refine ⟨_, _, rfl, ?_, ?_⟩ | refine ⟨_, rfl, ?_⟩ | refine And.intro ?_ ?_), ⟨⟨_, rfl, rfl, rfl, _, rfl, _, _, rfl, rfl, _, _, rfl, hv _ _ _ (fix _ _ _) (fun _ _ => rfl), _, _, rfl, congrArg (fun n : Nat => i64 n) hnp, _, _, rfl, rfl, _, _, rfl, ?_, rfl⟩, trivial⟩, rfl, rfl⟩
          show PV.str (tok s x) = PV.str ((s.drop ((q : Nat) : Int).toNat).take (((k : Nat) : Int).toNat - ((q : Nat) : Int).toNat))
          rw [tok_is hnp (k3 ▸ he) rfl]
          refine congrArg (fun m => PV.str ((s.drop q).take m)) ?_
          split <;> omega
      · have t1 : ¬ (k : Int) = (q : Nat) := t1
        refine VDraw.seq rfl ?_
        refine ⟨by show (0 : Int) ≤ (q : Nat) ∧ (q : Int) ≤ ((k : Nat) : Int) ∧ ((k : Nat) : Int) ≤ ((s.length : Nat) : Int); omega, ?_⟩
        refine ⟨[], [], [], .returned und, nrH g v (nx s x) s (tok s x), rfl, by (repeat' first | exact trivial | exact rfl | exact ⟨rfl, rfl⟩ | exact .inl rfl | refine ⟨_, rfl, rfl, rfl, ?_⟩ | refine ⟨_, _, rfl, ?_, ?_⟩ | refine ⟨_, rfl, ?_⟩ | refine And.intro ?_ ?_), ⟨⟨_, rfl, rfl, rfl, _, rfl, _, _, rfl, rfl, _, _, rfl, hv _ _ _ (fix _ _ _) (fun _ _ => rfl), _, _, rfl, congrArg (fun n : Nat => i64 n) hnp, _, _, rfl, rfl, _, _, rfl, ?_, rfl⟩, trivial⟩, rfl, rfl⟩
        show PV.str (tok s x) = PV.str ((s.drop ((q : Nat) : Int).toNat).take (((k : Nat) : Int).toNat - ((q : Nat) : Int).toNat))
        rw [tok_is hnp (k3 ▸ he) rfl]
        refine congrArg (fun m => PV.str ((s.drop q).take m)) ?_
        split <;> omega
end Go.Proofs.YtphmmoloegjocaaGreatDoor

/- The program's nested reader: expect, take. -/
namespace Go.Proofs.YtphmmoloegjocaaGreatDoor
open Go Y
set_option maxRecDepth 100000
set_option maxHeartbeats 40000000

abbrev psH (g : Int) (v : AV) (s : List UInt8) (q : Nat) : Hp := nrH g v (nx s q) s (tok s q)
/-- How a reading of the program ends. -/
def rdQ {α : Type} (r : Rd α) (val : α → AV) (H : Nat → Hp) (e : AE) (H' : Hp) : Prop := match r with
  | .inl p => e = placeX p ∧ H' = ⟨2, []⟩
  | .inr (a, q) => e = .returned (val a) ∧ H' = H q
def expectP (s : List UInt8) : List (List UInt8) → Nat → Rd Unit
  | [], q => .inr ((), q)
  | w :: ws, q => (mustP s w q).then fun _ q => expectP s ws q
theorem expect_le {s : List UInt8} : ∀ {ws : List (List UInt8)} {q q' : Nat}, q ≤ s.length → expectP s ws q = .inr ((), q') → q ≤ q' ∧ q' ≤ s.length
  | [], q, q', h, e => by
    simp only [expectP, Sum.inr.injEq, Prod.mk.injEq, true_and] at e
    omega
  | w :: ws, q, q', h, e => by
    rw [expectP, mustP] at e
    have h1 := te_le h
    have h2 := nx_le h
    split at e
    · have := expect_le (by omega : te s q ≤ s.length) e
      omega
    · cases e
theorem next_ps (g : Int) (v : AV) (s : List UInt8) (q : Nat) (hv : Self 2 v) (hs : s.length ≤ 100000) (hq : q ≤ s.length) : HoldsG cx 148 [.ptr 0 0 0] (psH g v s q) fun e H' => e = .returned und ∧ H' = psH g v s (te s q) :=
  next_h g v (nx s q) s (tok s q) (te s q) hv (by have := tok_len hq; have := te_le hq; omega) hs (te_le hq).2

theorem expect_h (g : Int) (v : AV) (s : List UInt8) (q0 : Nat) (ws : List (List UInt8)) (hv : Self 2 v) (hs : s.length ≤ 100000) (hq : q0 ≤ s.length) (hw : ws.length ≤ 1000) : HoldsG cx 149 [.ptr 0 0 0, .p (strs ws)] (psH g v s q0) (rdQ (expectP s ws q0) (fun _ => und) (psH g v s)) := by
  refine holdsN_of_vc Tryz.func149 rfl rfl rfl ?_
  have fix : ∀ ps N1 N n, n < 2 → rmap 2 ps N1 N n = n := fun ps N1 N n h => rmap_fix h
  refine ⟨Nat × Nat, fun x => [(0, .ptr 0 0 0), (6, .p (strs ws)), (7, .p (i64 ws.length)), (8, .p (i64 x.1))], fun x => psH g v s x.2, fun x => x.1 ≤ ws.length ∧ x.2 ≤ s.length ∧ expectP s (ws.drop x.1) x.2 = expectP s ws q0, fun x => ws.length - x.1, ?_, ?_⟩
  · exact ⟨(0, q0), ⟨by simp, hq, rfl⟩, ent_of [] [] [] rfl ⟨⟨rfl, rfl⟩, rfl, congrArg (fun n : Nat => i64 n) (List.length_map ..).symm, rfl, trivial⟩ ⟨⟨_, rfl, rfl, rfl, _, rfl, _, _, rfl, rfl, _, _, rfl, hv _ _ _ (fix _ _ _) (fun _ _ => rfl), _, _, rfl, rfl, _, _, rfl, rfl, _, _, rfl, rfl, rfl⟩, trivial⟩ rfl⟩
  rintro ⟨k, q⟩ ⟨k1, k2, k3⟩
  simp only [] at k1 k2 k3
  (first | refine brLt (fun h1 => ?_) (fun h1 => ?_) | refine brLe (fun h1 => ?_) (fun h1 => ?_) | refine brEq (fun h1 => ?_) (fun h1 => ?_))
  · have h1 : (k : Int) < (ws.length : Nat) := h1
    have hk : k < ws.length := by omega
    obtain ⟨w, hw'⟩ : ∃ w, w = ws.getD k [] := ⟨_, rfl⟩
    rw [drop_cons [] hk, ← hw', expectP, mustP] at k3
    refine ⟨_, ⟨by omega, .str w, by rw [hw']; exact tcell hk, rfl⟩, ?_⟩
    (first | refine brLt (fun h2 => ?_) (fun h2 => ?_) | refine brLe (fun h2 => ?_) (fun h2 => ?_) | refine brEq (fun h2 => ?_) (fun h2 => ?_))
    · have h2 : tok s q = w := h2
      rw [if_pos h2] at k3
      refine (next_ps g v s q hv hs k2).holds.mono fun e H' hq => ?_
      obtain ⟨rfl, rfl⟩ := hq
      refine ⟨_, wrap_i64 (by omega) (by omega), ?_⟩
      exact ⟨(k + 1, te s q), ⟨by simp only []; omega, (te_le k2).2, k3⟩, ent_of [] [] [] rfl (by (repeat' first | exact trivial | exact rfl | exact ⟨rfl, rfl⟩ | exact .inl rfl | refine ⟨_, rfl, rfl, rfl, ?_⟩ | refine ⟨_, _, rfl, ?_, ?_⟩ | refine ⟨_, rfl, ?_⟩ | refine And.intro ?_ ?_)) ⟨⟨_, rfl, rfl, rfl, _, rfl, _, _, rfl, rfl, _, _, rfl, hv _ _ _ (fix _ _ _) (fun _ _ => rfl), _, _, rfl, rfl, _, _, rfl, rfl, _, _, rfl, rfl, rfl⟩, trivial⟩ rfl, by show ws.length - (k + 1) < ws.length - k; omega⟩
    · have h2 : ¬ tok s q = w := h2
      rw [if_neg h2] at k3
      refine (fail_h TNs g v (nx s q) [.str s, .str (tok s q)]).holds.mono fun e H' hq => ?_
      obtain ⟨rfl, rfl⟩ := hq
      exact ⟨[], [], [], placeX (nx s q), ⟨2, []⟩, rfl, ⟨_, rfl, _, _, rfl, rfl, rfl⟩, trivial, by rw [← k3]; exact ⟨rfl, rfl⟩⟩
  · have h1 : ¬ (k : Int) < (ws.length : Nat) := h1
    rw [show ws.drop k = [] from List.drop_eq_nil_of_le (by omega), expectP] at k3
    exact ⟨[], [], [], .returned und, psH g v s q, rfl, by (repeat' first | exact trivial | exact rfl | exact ⟨rfl, rfl⟩ | exact .inl rfl | refine ⟨_, rfl, rfl, rfl, ?_⟩ | refine ⟨_, _, rfl, ?_, ?_⟩ | refine ⟨_, rfl, ?_⟩ | refine And.intro ?_ ?_), ⟨⟨_, rfl, rfl, rfl, _, rfl, _, _, rfl, rfl, _, _, rfl, hv _ _ _ (fix _ _ _) (fun _ _ => rfl), _, _, rfl, rfl, _, _, rfl, rfl, _, _, rfl, rfl, rfl⟩, trivial⟩, by rw [← k3]; exact ⟨rfl, rfl⟩⟩

theorem take_h (g : Int) (v : AV) (s : List UInt8) (q : Nat) (hv : Self 2 v) (hs : s.length ≤ 100000) (hq : q ≤ s.length) : HoldsG cx 150 [.ptr 0 0 0] (psH g v s q) (rdQ (numP s q) (fun n => .p (i64 n)) (psH g v s)) := by
  refine holdsN_of_vc Tryz.func150 rfl rfl rfl ?_
  have fix : ∀ ps N1 N n, n < 2 → rmap 2 ps N1 N n = n := fun ps N1 N n h => rmap_fix h
  have hN := num_h' TNs g v (nx s q) [.str s, .str (tok s q)] hv (tok s q) (by have := tok_len hq; have := te_le hq; omega)
  refine VDraw.seq rfl ?_
  by_cases hn : numB (tok s q) = true
  · refine hN.holds.mono fun e H' hq' => ?_
    obtain ⟨rfl, h⟩ := hq'
    rw [if_pos hn] at h
    subst h
    refine (next_ps g v s q hv hs hq).holds.mono fun e H' hq' => ?_
    obtain ⟨rfl, rfl⟩ := hq'
    exact ⟨[], [], [], .returned (.p (i64 (valN (tok s q)))), psH g v s (te s q), rfl, by (repeat' first | exact trivial | exact rfl | exact ⟨rfl, rfl⟩ | exact .inl rfl | refine ⟨_, rfl, rfl, rfl, ?_⟩ | refine ⟨_, _, rfl, ?_, ?_⟩ | refine ⟨_, rfl, ?_⟩ | refine And.intro ?_ ?_), ⟨⟨_, rfl, rfl, rfl, _, rfl, _, _, rfl, rfl, _, _, rfl, hv _ _ _ (fix _ _ _) (fun _ _ => rfl), _, _, rfl, rfl, _, _, rfl, rfl, _, _, rfl, rfl, rfl⟩, trivial⟩, by rw [numP, if_pos hn]; exact ⟨rfl, rfl⟩⟩
  · refine hN.holds.mono fun e H' hq' => ?_
    obtain ⟨rfl, h⟩ := hq'
    rw [if_neg hn] at h
    subst h
    exact ⟨[], [], [], placeX (nx s q), ⟨2, []⟩, rfl, ⟨_, rfl, _, _, rfl, rfl, rfl⟩, trivial, by rw [numP, if_neg hn]; exact ⟨rfl, rfl⟩⟩
end Go.Proofs.YtphmmoloegjocaaGreatDoor

/- The program's nested reader: node. -/
namespace Go.Proofs.YtphmmoloegjocaaGreatDoor
open Go Y
set_option maxRecDepth 100000
set_option maxHeartbeats 40000000

theorem then_assoc {α β γ : Type} (r : Rd α) (k : α → Nat → Rd β) (m : β → Nat → Rd γ) : (r.then k).then m = r.then fun a q => (k a q).then m := by
  cases r <;> rfl
theorem exp1 {α : Type} (s w : List UInt8) (q : Nat) (k : Unit → Nat → Rd α) : (expectP s [w] q).then k = (mustP s w q).then k := by
  rw [expectP, then_assoc]; rfl
theorem exp2 {α : Type} (s w w' : List UInt8) (q : Nat) (k : Unit → Nat → Rd α) : (expectP s [w, w'] q).then k = (mustP s w q).then fun _ q => (mustP s w' q).then k := by
  rw [expectP, then_assoc]
  congr 1
  funext _ q
  exact exp1 s w' q k
theorem num_lt {s : List UInt8} {q q' : Nat} {n : Int} (hq : q ≤ s.length) (h : numP s q = .inr (n, q')) : q < q' ∧ q' ≤ s.length := by
  rw [numP] at h
  split at h
  · rename_i hn
    cases h
    have := num_len hn
    exact ⟨te_lt hq (fun e => by rw [e] at this; simp at this), (te_le hq).2⟩
  · cases h

theorem LInv.is {α : Type} {R x : Rd α} {go : Nat → Rd α} {n q1 p : Nat} (h : LInv false q1 R go n p false) (hgo : ∀ f, go (f + 1) = x) : R = x := by
  obtain ⟨f, hf, rfl⟩ : ∃ f, n - p < f ∧ R = go f := h
  obtain ⟨f, rfl⟩ : ∃ g, f = g + 1 := ⟨f - 1, by omega⟩
  exact hgo f
theorem LInv.nxt {α : Type} {R : Rd α} {go go' : Nat → Rd α} {n q1 p q : Nat} (h : LInv false q1 R go n p false) (hgo : ∀ f, go (f + 1) = go' f) (hlt : p < q) (hq : q ≤ n) : LInv false q1 R go' n q false := by
  obtain ⟨f, hf, rfl⟩ : ∃ f, n - p < f ∧ R = go f := h
  obtain ⟨f, rfl⟩ : ∃ g, f = g + 1 := ⟨f - 1, by omega⟩
  exact ⟨f, by omega, hgo f⟩
abbrev pn (acc : List Nd) : AV := .sl 1 3 0 acc.length
def nodeQ (g : Int) (s : List UInt8) (acc : List Nd) (r : Rd Nd) (e : AE) (H' : Hp) : Prop := match r with
  | .inl p => e = placeX p ∧ H' = ⟨2, []⟩
  | .inr (x, q) => e = .returned und ∧ H' = ⟨3, [(2, nsO (acc ++ [x])), (0, nrO g (.sl 2 3 0 (acc.length + 1)) (nx s q) s (tok s q))]⟩
def npO (c : Int) (n : Nat) : AObj := ⟨TNode, false, .bx [.p (i64 c), .sl 3 1 0 n, .p .nils]⟩
theorem node_p (g : Int) (s : List UInt8) (F q0 : Nat) (acc : List Nd) (hF : s.length < F) (hs : s.length ≤ 100000) (hq0 : q0 ≤ s.length) (ha : acc.length ≤ 100000) : HoldsG cx 151 [.ptr 0 0 0] ⟨2, [(1, nsO acc), (0, nrO g (pn acc) (nx s q0) s (tok s q0))]⟩ (nodeQ g s acc (nodeRd s F q0)) := by
  refine holdsN_of_vc Tryz.func151 rfl rfl rfl ?_
  have hv : Self 2 (pn acc) := self_sl (by omega)
  have hE := expect_h g (pn acc) s q0 [kOpen, kNode] hv hs hq0 (by simp)
  have hR : nodeRd s F q0 = (expectP s [kOpen, kNode] q0).then fun _ q => (numP s q).then fun c q => (lstP s F q).then fun ps q => (rowsP s F F [] q).then fun rs q => (mustP s kClose q).then fun _ q => .inr (⟨c, ps, rs⟩, q) := by rw [exp2]; rfl
  refine hE.holds.useN [2] [] rfl (by (repeat' first | exact trivial | exact rfl | exact ⟨rfl, rfl⟩ | exact .inl rfl | refine ⟨_, rfl, rfl, rfl, ?_⟩ | refine ⟨_, _, rfl, ?_, ?_⟩ | refine ⟨_, rfl, ?_⟩ | refine And.intro ?_ ?_)) ⟨_, _, rfl, ⟨rfl, rfl⟩, _, _, rfl, ⟨_, rfl, by decide, rfl⟩, rfl⟩ fun e0 H0 hq => ?_
  rcases hr : expectP s [kOpen, kNode] q0 with p | ⟨⟨⟩, q1⟩
  · rw [hr] at hq hR
    obtain ⟨rfl, rfl⟩ := hq
    refine ⟨rfl, ?_⟩
    exact ⟨[], [], [], placeX p, ⟨2, []⟩, rfl, ⟨_, rfl, _, _, rfl, rfl, rfl⟩, trivial, by rw [show nodeRd s F q0 = .inl p from hR]; exact ⟨rfl, rfl⟩⟩
  have hq1 := expect_le hq0 hr
  rw [hr] at hq hR
  obtain ⟨rfl, rfl⟩ := hq
  refine ⟨rfl, ?_⟩
  have hR : nodeRd s F q0 = (numP s q1).then fun c q => (lstP s F q).then fun ps q => (rowsP s F F [] q).then fun rs q => (mustP s kClose q).then fun _ q => .inr (⟨c, ps, rs⟩, q) := hR
  refine (take_h g (pn acc) s q1 hv hs hq1.2).holds.useN [] [] rfl (by (repeat' first | exact trivial | exact rfl | exact ⟨rfl, rfl⟩ | exact .inl rfl | refine ⟨_, rfl, rfl, rfl, ?_⟩ | refine ⟨_, _, rfl, ?_, ?_⟩ | refine ⟨_, rfl, ?_⟩ | refine And.intro ?_ ?_)) (by (repeat' first | exact trivial | exact rfl | exact ⟨rfl, rfl⟩ | exact .inl rfl | refine ⟨_, rfl, rfl, rfl, ?_⟩ | refine ⟨_, _, rfl, ?_, ?_⟩ | refine ⟨_, rfl, ?_⟩ | refine And.intro ?_ ?_)) fun e0 H0 hq => ?_
  rcases hn : numP s q1 with p | ⟨c, q2⟩
  · rw [hn] at hq hR
    obtain ⟨rfl, rfl⟩ := hq
    refine ⟨rfl, ?_⟩
    exact ⟨[], [], [], placeX p, ⟨2, []⟩, rfl, ⟨_, rfl, _, _, rfl, rfl, rfl⟩, trivial, by rw [show nodeRd s F q0 = .inl p from hR]; exact ⟨rfl, rfl⟩⟩
  have hq2 := num_lt hq1.2 hn
  rw [hn] at hq hR
  obtain ⟨rfl, rfl⟩ := hq
  refine ⟨rfl, ?_⟩
  have hR : nodeRd s F q0 = (expectP s [kOpen] q2).then fun _ q => (numsP s F [] q).then fun ps q => (mustP s kClose q).then fun _ q => (rowsP s F F [] q).then fun rs q => (mustP s kClose q).then fun _ q => .inr (⟨c, ps, rs⟩, q) := by
    rw [hR, exp1]
    show (lstP s F q2).then _ = _
    rw [lstP, then_assoc]
    congr 1
    funext _ q
    rw [then_assoc]
    congr 1
    funext _ q
    rw [then_assoc]
    rfl
  refine (expect_h g (pn acc) s q2 [kOpen] hv hs hq2.2 (by simp)).holds.useN [4] [] rfl (by (repeat' first | exact trivial | exact rfl | exact ⟨rfl, rfl⟩ | exact .inl rfl | refine ⟨_, rfl, rfl, rfl, ?_⟩ | refine ⟨_, _, rfl, ?_, ?_⟩ | refine ⟨_, rfl, ?_⟩ | refine And.intro ?_ ?_)) ⟨_, _, rfl, ⟨rfl, rfl⟩, _, _, rfl, ⟨_, rfl, by decide, rfl⟩, rfl⟩ fun e0 H0 hq => ?_
  rcases hr3 : expectP s [kOpen] q2 with p | ⟨⟨⟩, q3⟩
  · rw [hr3] at hq hR
    obtain ⟨rfl, rfl⟩ := hq
    refine ⟨rfl, ?_⟩
    exact ⟨[], [], [], placeX p, ⟨2, []⟩, rfl, ⟨_, rfl, _, _, rfl, rfl, rfl⟩, trivial, by rw [show nodeRd s F q0 = .inl p from hR]; exact ⟨rfl, rfl⟩⟩
  have hq3 := expect_le hq2.2 hr3
  rw [hr3] at hq hR
  obtain ⟨rfl, rfl⟩ := hq
  refine ⟨rfl, ?_⟩
  have hR : nodeRd s F q0 = (numsP s F [] q3).then fun ps q => (mustP s kClose q).then fun _ q => (rowsP s F F [] q).then fun rs q => (mustP s kClose q).then fun _ q => .inr (⟨c, ps, rs⟩, q) := hR
  refine ⟨List Int × Nat, fun x => [(0, .ptr 0 0 0), (2, .ptr 2 0 0)], fun x => ⟨4, [(3, iO x.1), (2, npO c x.1.length), (1, nsO acc), (0, nrO g (pn acc) (nx s x.2) s (tok s x.2))]⟩,
    fun x => x.2 ≤ s.length ∧ x.1.length ≤ x.2 ∧ LInv false q3 (numsP s F [] q3) (fun f => numsP s f x.1 x.2) s.length x.2 false, fun x => s.length - x.2, ?_, ?_⟩
  · exact ⟨([], q3), ⟨hq3.2, by simp, LInv.init (go := fun f => numsP s f [] q3) (F := F) (n := s.length) (by omega)⟩, ent_of [] [(2, 3)] [(3, 1)] rfl (by (repeat' first | exact trivial | exact rfl | exact ⟨rfl, rfl⟩ | exact .inl rfl | refine ⟨_, rfl, rfl, rfl, ?_⟩ | refine ⟨_, _, rfl, ?_, ?_⟩ | refine ⟨_, rfl, ?_⟩ | refine And.intro ?_ ?_)) ⟨⟨rfl, rfl, rfl⟩, ⟨_, rfl, rfl, rfl, _, rfl, _, _, rfl, rfl, _, _, rfl, ⟨rfl, rfl, rfl, rfl⟩, _, _, rfl, .inl rfl, rfl⟩, ⟨_, rfl, rfl, rfl, rfl⟩, ⟨_, rfl, rfl, rfl, _, rfl, by (repeat' first | exact trivial | exact rfl | exact ⟨rfl, rfl⟩ | exact .inl rfl | refine ⟨_, rfl, rfl, rfl, ?_⟩ | refine ⟨_, _, rfl, ?_, ?_⟩ | refine ⟨_, rfl, ?_⟩ | refine And.intro ?_ ?_)⟩, trivial⟩ rfl⟩
  rintro ⟨ps, q4⟩ ⟨g1, g2, g3⟩
  simp only [] at g1 g2 g3
  (first | refine brLt (fun h1 => ?_) (fun h1 => ?_) | refine brLe (fun h1 => ?_) (fun h1 => ?_) | refine brEq (fun h1 => ?_) (fun h1 => ?_))
  rotate_left
  · have h1 : ¬ tok s q4 = kClose := h1
    refine VDraw.seq rfl ?_
    refine (take_h g (pn acc) s q4 hv hs g1).holds.useN [] [] rfl (by (repeat' first | exact trivial | exact rfl | exact ⟨rfl, rfl⟩ | exact .inl rfl | refine ⟨_, rfl, rfl, rfl, ?_⟩ | refine ⟨_, _, rfl, ?_, ?_⟩ | refine ⟨_, rfl, ?_⟩ | refine And.intro ?_ ?_)) (by (repeat' first | exact trivial | exact rfl | exact ⟨rfl, rfl⟩ | exact .inl rfl | refine ⟨_, rfl, rfl, rfl, ?_⟩ | refine ⟨_, _, rfl, ?_, ?_⟩ | refine ⟨_, rfl, ?_⟩ | refine And.intro ?_ ?_)) fun e0 H0 hq => ?_
    rcases hn4 : numP s q4 with p | ⟨n, q5⟩
    · rw [hn4] at hq
      obtain ⟨rfl, rfl⟩ := hq
      have g4 : numsP s F [] q3 = .inl p := g3.is fun f => by rw [numsP, if_neg h1, hn4]; rfl
      rw [g4] at hR
      refine ⟨rfl, ?_⟩
      exact ⟨[], [], [], placeX p, ⟨2, []⟩, rfl, ⟨_, rfl, _, _, rfl, rfl, rfl⟩, trivial, by rw [show nodeRd s F q0 = .inl p from hR]; exact ⟨rfl, rfl⟩⟩
    have hq5 := num_lt g1 hn4
    rw [hn4] at hq
    obtain ⟨rfl, rfl⟩ := hq
    refine ⟨rfl, ?_⟩
    refine ⟨by (repeat' first | exact trivial | exact rfl | exact ⟨rfl, rfl⟩ | exact .inl rfl | refine ⟨_, rfl, rfl, rfl, ?_⟩ | refine ⟨_, _, rfl, ?_, ?_⟩ | refine ⟨_, rfl, ?_⟩ | refine And.intro ?_ ?_), ?_⟩
    refine ⟨by (repeat' first | exact trivial | exact rfl | exact ⟨rfl, rfl⟩ | exact .inl rfl | refine ⟨_, rfl, rfl, rfl, ?_⟩ | refine ⟨_, _, rfl, ?_, ?_⟩ | refine ⟨_, rfl, ?_⟩ | refine And.intro ?_ ?_), ?_⟩
    refine ⟨by show 0 + 1 ≤ 1; omega, [i64 n], rfl, ?_⟩
    refine ⟨by show 0 + ps.length ≤ (ps.map i64).length; simp, ps.map i64, takeAll (by simp), by show (ps.length + 1) * 8 ≤ 140737488355328; omega, (ps ++ [n]).map i64, by simp, ?_⟩
    refine ⟨(ps ++ [n], q5), ⟨hq5.2, by simp only [snoc_len]; omega, g3.nxt (fun f => by rw [numsP, if_neg h1, hn4]; rfl) hq5.1 hq5.2⟩, ent_of [] [(3, 5)] [] rfl (by (repeat' first | exact trivial | exact rfl | exact ⟨rfl, rfl⟩ | exact .inl rfl | refine ⟨_, rfl, rfl, rfl, ?_⟩ | refine ⟨_, _, rfl, ?_, ?_⟩ | refine ⟨_, rfl, ?_⟩ | refine And.intro ?_ ?_)) ⟨⟨_, rfl, rfl, rfl, rfl⟩, ⟨_, rfl, rfl, rfl, _, rfl, _, _, rfl, rfl, _, _, rfl, congrArg (fun m => AV.sl 5 1 0 m) (snoc_len ps n).symm, _, _, rfl, .inl rfl, rfl⟩, ⟨_, rfl, rfl, rfl, rfl⟩, ⟨_, rfl, rfl, rfl, _, rfl, by (repeat' first | exact trivial | exact rfl | exact ⟨rfl, rfl⟩ | exact .inl rfl | refine ⟨_, rfl, rfl, rfl, ?_⟩ | refine ⟨_, _, rfl, ?_, ?_⟩ | refine ⟨_, rfl, ?_⟩ | refine And.intro ?_ ?_)⟩, trivial⟩ rfl, by show s.length - q5 < s.length - q4; omega⟩
  have h1 : tok s q4 = kClose := h1
  have g4 : numsP s F [] q3 = .inr (ps, nx s q4) := g3.is fun f => by rw [numsP, if_pos h1]
  rw [g4] at hR
  have hR : nodeRd s F q0 = (mustP s kClose (nx s q4)).then fun _ q => (rowsP s F F [] q).then fun rs q => (mustP s kClose q).then fun _ q => .inr (⟨c, ps, rs⟩, q) := hR
  rw [must_nx, ← exp1] at hR
  refine (expect_h g (pn acc) s q4 [kClose] hv hs g1 (by simp)).holds.useN [4] [] rfl (by (repeat' first | exact trivial | exact rfl | exact ⟨rfl, rfl⟩ | exact .inl rfl | refine ⟨_, rfl, rfl, rfl, ?_⟩ | refine ⟨_, _, rfl, ?_, ?_⟩ | refine ⟨_, rfl, ?_⟩ | refine And.intro ?_ ?_)) ⟨_, _, rfl, ⟨rfl, rfl⟩, _, _, rfl, ⟨_, rfl, by decide, rfl⟩, rfl⟩ fun e0 H0 hq => ?_
  rcases hr6 : expectP s [kClose] q4 with p | ⟨⟨⟩, q6⟩
  · rw [hr6] at hq hR
    obtain ⟨rfl, rfl⟩ := hq
    refine ⟨rfl, ?_⟩
    exact ⟨[], [], [], placeX p, ⟨2, []⟩, rfl, ⟨_, rfl, _, _, rfl, rfl, rfl⟩, trivial, by rw [show nodeRd s F q0 = .inl p from hR]; exact ⟨rfl, rfl⟩⟩
  have hq6 := expect_le g1 hr6
  rw [hr6] at hq hR
  obtain ⟨rfl, rfl⟩ := hq
  refine ⟨rfl, ?_⟩
  have hR : nodeRd s F q0 = (rowsP s F F [] q6).then fun rs q => (mustP s kClose q).then fun _ q => .inr (⟨c, ps, rs⟩, q) := hR
  refine ⟨List (List Int) × Nat, fun x => [(0, .ptr 0 0 0), (2, .ptr 2 0 0)], fun x => ⟨4, [(3, rO x.1), (2, ndqO c ps x.1.length), (1, nsO acc), (0, nrO g (pn acc) (nx s x.2) s (tok s x.2))]⟩,
    fun x => x.2 ≤ s.length ∧ x.1.length ≤ x.2 ∧ LInv false q6 (rowsP s F F [] q6) (fun f => rowsP s F f x.1 x.2) s.length x.2 false, fun x => s.length - x.2, ?_, ?_⟩
  · exact ⟨([], q6), ⟨hq6.2, by simp, LInv.init (go := fun f => rowsP s F f [] q6) (F := F) (n := s.length) (by omega)⟩, ent_of [3] [] [(3, 1)] rfl (by (repeat' first | exact trivial | exact rfl | exact ⟨rfl, rfl⟩ | exact .inl rfl | refine ⟨_, rfl, rfl, rfl, ?_⟩ | refine ⟨_, _, rfl, ?_, ?_⟩ | refine ⟨_, rfl, ?_⟩ | refine And.intro ?_ ?_)) ⟨⟨rfl, rfl, rfl⟩, ⟨_, rfl, rfl, rfl, _, rfl, _, _, rfl, rfl, _, _, rfl, ⟨_, rfl, by show 0 + ps.length ≤ (ps.map i64).length; simp, takeAll (by simp)⟩, _, _, rfl, ⟨rfl, rfl, rfl, rfl⟩, rfl⟩, ⟨_, rfl, rfl, rfl, rfl⟩, ⟨_, rfl, rfl, rfl, _, rfl, by (repeat' first | exact trivial | exact rfl | exact ⟨rfl, rfl⟩ | exact .inl rfl | refine ⟨_, rfl, rfl, rfl, ?_⟩ | refine ⟨_, _, rfl, ?_, ?_⟩ | refine ⟨_, rfl, ?_⟩ | refine And.intro ?_ ?_)⟩, trivial⟩ rfl⟩
  rintro ⟨rs, q7⟩ ⟨i1, i2, i3⟩
  simp only [] at i1 i2 i3
  (first | refine brLt (fun h2 => ?_) (fun h2 => ?_) | refine brLe (fun h2 => ?_) (fun h2 => ?_) | refine brEq (fun h2 => ?_) (fun h2 => ?_))
  rotate_left
  · have h2 : ¬ tok s q7 = kOpen := h2
    have hE := expect_h g (pn acc) s q7 [kClose] hv hs i1 (by simp)
    rw [expectP, mustP] at hE
    by_cases h3 : tok s q7 = kClose
    · have g6 : rowsP s F F [] q6 = .inr (rs, nx s q7) := i3.is fun f => by rw [rowsP, if_pos h3]
      rw [g6] at hR
      have hR : nodeRd s F q0 = (mustP s kClose (nx s q7)).then fun _ q => .inr (⟨c, ps, rs⟩, q) := hR
      rw [must_nx, mustP, if_pos h3] at hR
      rw [if_pos h3] at hE
      refine hE.holds.useN [4] [] rfl (by (repeat' first | exact trivial | exact rfl | exact ⟨rfl, rfl⟩ | exact .inl rfl | refine ⟨_, rfl, rfl, rfl, ?_⟩ | refine ⟨_, _, rfl, ?_, ?_⟩ | refine ⟨_, rfl, ?_⟩ | refine And.intro ?_ ?_)) ⟨_, _, rfl, ⟨rfl, rfl⟩, _, _, rfl, ⟨_, rfl, by decide, rfl⟩, rfl⟩ fun e0 H0 hq => ?_
      obtain ⟨rfl, rfl⟩ := hq
      refine ⟨rfl, ?_⟩
      refine VDraw.seq rfl ?_
      refine ⟨by (repeat' first | exact trivial | exact rfl | exact ⟨rfl, rfl⟩ | exact .inl rfl | refine ⟨_, rfl, rfl, rfl, ?_⟩ | refine ⟨_, _, rfl, ?_, ?_⟩ | refine ⟨_, rfl, ?_⟩ | refine And.intro ?_ ?_), ?_⟩
      refine ⟨by show 0 + 1 ≤ 1; omega, [[.p (i64 c), .p (ints ps), .sl 3 1 0 rs.length]], rfl, .inl ⟨[3], [(⟨c, ps, rs⟩ : Nd).cells], rfl, ⟨_, _, rfl, ⟨_, _, rfl, rfl, _, _, rfl, rfl, _, _, rfl, ⟨_, rfl, by show 0 + rs.length ≤ (rs.map ints).length; simp, takeAll (by simp)⟩, rfl⟩, rfl⟩, ?_⟩⟩
      refine ⟨by show 0 + acc.length ≤ (acc.map Nd.cells).length; simp, acc.map Nd.cells, takeAll (by simp), by show (acc.length + 1) * 56 ≤ 140737488355328; omega, (acc ++ [(⟨c, ps, rs⟩ : Nd)]).map Nd.cells, by simp, ?_⟩
      exact ⟨[], [(2, 6)], [], .returned und, ⟨3, [(2, nsO (acc ++ [(⟨c, ps, rs⟩ : Nd)])), (0, nrO g (.sl 2 3 0 (acc.length + 1)) (nx s (te s q7)) s (tok s (te s q7)))]⟩, rfl, by (repeat' first | exact trivial | exact rfl | exact ⟨rfl, rfl⟩ | exact .inl rfl | refine ⟨_, rfl, rfl, rfl, ?_⟩ | refine ⟨_, _, rfl, ?_, ?_⟩ | refine ⟨_, rfl, ?_⟩ | refine And.intro ?_ ?_), ⟨⟨_, rfl, rfl, rfl, rfl⟩, ⟨_, rfl, rfl, rfl, _, rfl, _, _, rfl, rfl, _, _, rfl, rfl, _, _, rfl, rfl, _, _, rfl, rfl, _, _, rfl, rfl, rfl⟩, trivial⟩, by rw [hR]; exact ⟨rfl, rfl⟩⟩
    · have g6 : rowsP s F F [] q6 = .inl (nx s q7) := i3.is fun f => by rw [rowsP, if_neg h3, rowRd, mustP, if_neg h2]; rfl
      rw [g6] at hR
      rw [if_neg h3] at hE
      refine hE.holds.useN [4] [] rfl (by (repeat' first | exact trivial | exact rfl | exact ⟨rfl, rfl⟩ | exact .inl rfl | refine ⟨_, rfl, rfl, rfl, ?_⟩ | refine ⟨_, _, rfl, ?_, ?_⟩ | refine ⟨_, rfl, ?_⟩ | refine And.intro ?_ ?_)) ⟨_, _, rfl, ⟨rfl, rfl⟩, _, _, rfl, ⟨_, rfl, by decide, rfl⟩, rfl⟩ fun e0 H0 hq => ?_
      obtain ⟨rfl, rfl⟩ := hq
      refine ⟨rfl, ?_⟩
      exact ⟨[], [], [], placeX (nx s q7), ⟨2, []⟩, rfl, ⟨_, rfl, _, _, rfl, rfl, rfl⟩, trivial, by rw [show nodeRd s F q0 = .inl (nx s q7) from hR]; exact ⟨rfl, rfl⟩⟩
  have h2 : tok s q7 = kOpen := h2
  have h2c : ¬ tok s q7 = kClose := by rw [h2]; decide
  have hrow : rowRd s F q7 = (numP s (te s q7)).then fun v q => (numsP s F [v] q).then fun l q => (mustP s kClose q).then fun _ q => .inr (l, q) := by rw [rowRd, mustP, if_pos h2]; rfl
  have hte := te_le i1
  have hnxl := nx_le i1
  have hE := expect_h g (pn acc) s q7 [kOpen] hv hs i1 (by simp)
  rw [expectP, mustP, if_pos h2] at hE
  refine hE.holds.useN [4] [] rfl (by (repeat' first | exact trivial | exact rfl | exact ⟨rfl, rfl⟩ | exact .inl rfl | refine ⟨_, rfl, rfl, rfl, ?_⟩ | refine ⟨_, _, rfl, ?_, ?_⟩ | refine ⟨_, rfl, ?_⟩ | refine And.intro ?_ ?_)) ⟨_, _, rfl, ⟨rfl, rfl⟩, _, _, rfl, ⟨_, rfl, by decide, rfl⟩, rfl⟩ fun e0 H0 hq => ?_
  obtain ⟨rfl, rfl⟩ := hq
  refine ⟨rfl, ?_⟩
  refine (take_h g (pn acc) s (te s q7) hv hs hte.2).holds.useN [] [] rfl (by (repeat' first | exact trivial | exact rfl | exact ⟨rfl, rfl⟩ | exact .inl rfl | refine ⟨_, rfl, rfl, rfl, ?_⟩ | refine ⟨_, _, rfl, ?_, ?_⟩ | refine ⟨_, rfl, ?_⟩ | refine And.intro ?_ ?_)) (by (repeat' first | exact trivial | exact rfl | exact ⟨rfl, rfl⟩ | exact .inl rfl | refine ⟨_, rfl, rfl, rfl, ?_⟩ | refine ⟨_, _, rfl, ?_, ?_⟩ | refine ⟨_, rfl, ?_⟩ | refine And.intro ?_ ?_)) fun e0 H0 hq => ?_
  rcases hn8 : numP s (te s q7) with p | ⟨v, q9⟩
  · rw [hn8] at hq
    obtain ⟨rfl, rfl⟩ := hq
    have g6 : rowsP s F F [] q6 = .inl p := i3.is fun f => by rw [rowsP, if_neg h2c, hrow, hn8]; rfl
    rw [g6] at hR
    refine ⟨rfl, ?_⟩
    exact ⟨[], [], [], placeX p, ⟨2, []⟩, rfl, ⟨_, rfl, _, _, rfl, rfl, rfl⟩, trivial, by rw [show nodeRd s F q0 = .inl p from hR]; exact ⟨rfl, rfl⟩⟩
  have hq9 := num_lt hte.2 hn8
  rw [hn8] at hq hrow
  obtain ⟨rfl, rfl⟩ := hq
  have hrow : rowRd s F q7 = (numsP s F [v] q9).then fun l q => (mustP s kClose q).then fun _ q => .inr (l, q) := hrow
  refine ⟨rfl, ?_⟩
  refine ⟨List Int × Nat, fun x => [(0, .ptr 0 0 0), (2, .ptr 2 0 0), (3, .sl 4 1 0 x.1.length)], fun x => ⟨5, [(4, iO x.1), (3, rO rs), (2, ndqO c ps rs.length), (1, nsO acc), (0, nrO g (pn acc) (nx s x.2) s (tok s x.2))]⟩,
    fun x => q9 ≤ x.2 ∧ x.2 ≤ s.length ∧ x.1.length ≤ x.2 ∧ LInv false q9 (numsP s F [v] q9) (fun f => numsP s f x.1 x.2) s.length x.2 false, fun x => s.length - x.2, ?_, ?_⟩
  · exact ⟨([v], q9), ⟨Nat.le_refl _, hq9.2, by show 1 ≤ q9; omega, LInv.init (go := fun f => numsP s f [v] q9) (F := F) (n := s.length) (by omega)⟩, ent_of [] [(4, 5)] [] rfl (by (repeat' first | exact trivial | exact rfl | exact ⟨rfl, rfl⟩ | exact .inl rfl | refine ⟨_, rfl, rfl, rfl, ?_⟩ | refine ⟨_, _, rfl, ?_, ?_⟩ | refine ⟨_, rfl, ?_⟩ | refine And.intro ?_ ?_)) ⟨⟨_, rfl, rfl, rfl, rfl⟩, ⟨_, rfl, rfl, rfl, rfl⟩, ⟨_, rfl, rfl, rfl, _, rfl, by (repeat' first | exact trivial | exact rfl | exact ⟨rfl, rfl⟩ | exact .inl rfl | refine ⟨_, rfl, rfl, rfl, ?_⟩ | refine ⟨_, _, rfl, ?_, ?_⟩ | refine ⟨_, rfl, ?_⟩ | refine And.intro ?_ ?_)⟩, ⟨_, rfl, rfl, rfl, rfl⟩, ⟨_, rfl, rfl, rfl, _, rfl, by (repeat' first | exact trivial | exact rfl | exact ⟨rfl, rfl⟩ | exact .inl rfl | refine ⟨_, rfl, rfl, rfl, ?_⟩ | refine ⟨_, _, rfl, ?_, ?_⟩ | refine ⟨_, rfl, ?_⟩ | refine And.intro ?_ ?_)⟩, trivial⟩ rfl⟩
  rintro ⟨row, q10⟩ ⟨l0, l1, l2, l3⟩
  simp only [] at l0 l1 l2 l3
  (first | refine brLt (fun h4 => ?_) (fun h4 => ?_) | refine brLe (fun h4 => ?_) (fun h4 => ?_) | refine brEq (fun h4 => ?_) (fun h4 => ?_))
  rotate_left
  · have h4 : ¬ tok s q10 = kClose := h4
    refine (take_h g (pn acc) s q10 hv hs l1).holds.useN [] [] rfl (by (repeat' first | exact trivial | exact rfl | exact ⟨rfl, rfl⟩ | exact .inl rfl | refine ⟨_, rfl, rfl, rfl, ?_⟩ | refine ⟨_, _, rfl, ?_, ?_⟩ | refine ⟨_, rfl, ?_⟩ | refine And.intro ?_ ?_)) (by (repeat' first | exact trivial | exact rfl | exact ⟨rfl, rfl⟩ | exact .inl rfl | refine ⟨_, rfl, rfl, rfl, ?_⟩ | refine ⟨_, _, rfl, ?_, ?_⟩ | refine ⟨_, rfl, ?_⟩ | refine And.intro ?_ ?_)) fun e0 H0 hq => ?_
    rcases hn10 : numP s q10 with p | ⟨n, q11⟩
    · rw [hn10] at hq
      obtain ⟨rfl, rfl⟩ := hq
      have g4 : numsP s F [v] q9 = .inl p := l3.is fun f => by rw [numsP, if_neg h4, hn10]; rfl
      rw [g4] at hrow
      have g6 : rowsP s F F [] q6 = .inl p := i3.is fun f => by rw [rowsP, if_neg h2c, hrow]; rfl
      rw [g6] at hR
      refine ⟨rfl, ?_⟩
      exact ⟨[], [], [], placeX p, ⟨2, []⟩, rfl, ⟨_, rfl, _, _, rfl, rfl, rfl⟩, trivial, by rw [show nodeRd s F q0 = .inl p from hR]; exact ⟨rfl, rfl⟩⟩
    have hq11 := num_lt l1 hn10
    rw [hn10] at hq
    obtain ⟨rfl, rfl⟩ := hq
    refine ⟨rfl, ?_⟩
    refine ⟨by show 0 + 1 ≤ 1; omega, [i64 n], rfl, ?_⟩
    refine ⟨by show 0 + row.length ≤ (row.map i64).length; simp, row.map i64, takeAll (by simp), by show (row.length + 1) * 8 ≤ 140737488355328; omega, (row ++ [n]).map i64, by simp, ?_⟩
    exact ⟨(row ++ [n], q11), ⟨by simp only []; omega, hq11.2, by simp only [snoc_len]; omega, l3.nxt (fun f => by rw [numsP, if_neg h4, hn10]; rfl) hq11.1 hq11.2⟩, ent_of [] [(4, 6)] [] rfl ⟨⟨rfl, rfl⟩, ⟨rfl, rfl⟩, congrArg (fun m => AV.sl 6 1 0 m) (snoc_len row n).symm, trivial⟩ ⟨⟨_, rfl, rfl, rfl, rfl⟩, ⟨_, rfl, rfl, rfl, rfl⟩, ⟨_, rfl, rfl, rfl, _, rfl, by (repeat' first | exact trivial | exact rfl | exact ⟨rfl, rfl⟩ | exact .inl rfl | refine ⟨_, rfl, rfl, rfl, ?_⟩ | refine ⟨_, _, rfl, ?_, ?_⟩ | refine ⟨_, rfl, ?_⟩ | refine And.intro ?_ ?_)⟩, ⟨_, rfl, rfl, rfl, rfl⟩, ⟨_, rfl, rfl, rfl, _, rfl, by (repeat' first | exact trivial | exact rfl | exact ⟨rfl, rfl⟩ | exact .inl rfl | refine ⟨_, rfl, rfl, rfl, ?_⟩ | refine ⟨_, _, rfl, ?_, ?_⟩ | refine ⟨_, rfl, ?_⟩ | refine And.intro ?_ ?_)⟩, trivial⟩ rfl, by show s.length - q11 < s.length - q10; omega⟩
  have h4 : tok s q10 = kClose := h4
  have g4 : numsP s F [v] q9 = .inr (row, nx s q10) := l3.is fun f => by rw [numsP, if_pos h4]
  have hte2 := te_le l1
  have hnx2 := nx_le l1
  rw [g4] at hrow
  have hrow : rowRd s F q7 = (mustP s kClose (nx s q10)).then fun _ q => .inr (row, q) := hrow
  rw [must_nx, mustP, if_pos h4] at hrow
  have hrow : rowRd s F q7 = .inr (row, te s q10) := hrow
  have hE2 := expect_h g (pn acc) s q10 [kClose] hv hs l1 (by simp)
  rw [expectP, mustP, if_pos h4] at hE2
  refine hE2.holds.useN [5] [] rfl (by (repeat' first | exact trivial | exact rfl | exact ⟨rfl, rfl⟩ | exact .inl rfl | refine ⟨_, rfl, rfl, rfl, ?_⟩ | refine ⟨_, _, rfl, ?_, ?_⟩ | refine ⟨_, rfl, ?_⟩ | refine And.intro ?_ ?_)) ⟨_, _, rfl, ⟨rfl, rfl⟩, _, _, rfl, ⟨_, rfl, by decide, rfl⟩, rfl⟩ fun e0 H0 hq => ?_
  obtain ⟨rfl, rfl⟩ := hq
  refine ⟨rfl, ?_⟩
  refine .inl ⟨[4], [ints row], rfl, ⟨_, _, rfl, ⟨row.map i64, rfl, by show 0 + row.length ≤ (row.map i64).length; simp, takeAll (by simp)⟩, rfl⟩, ?_⟩
  refine ⟨by show 0 + rs.length ≤ (rs.map ints).length; simp, rs.map ints, takeAll (by simp), by show (rs.length + 1) * 24 ≤ 140737488355328; omega, (rs ++ [row]).map ints, by simp, ?_⟩
  exact ⟨(rs ++ [row], te s q10), ⟨hte2.2, by simp only [snoc_len]; omega, i3.nxt (fun f => by rw [rowsP, if_neg h2c, hrow]; rfl) (by omega) hte2.2⟩, ent_of [] [(3, 7)] [] rfl (by (repeat' first | exact trivial | exact rfl | exact ⟨rfl, rfl⟩ | exact .inl rfl | refine ⟨_, rfl, rfl, rfl, ?_⟩ | refine ⟨_, _, rfl, ?_, ?_⟩ | refine ⟨_, rfl, ?_⟩ | refine And.intro ?_ ?_)) ⟨⟨_, rfl, rfl, rfl, rfl⟩, ⟨_, rfl, rfl, rfl, _, rfl, _, _, rfl, rfl, _, _, rfl, rfl, _, _, rfl, congrArg (fun m => AV.sl 7 1 0 m) (snoc_len rs row).symm, rfl⟩, ⟨_, rfl, rfl, rfl, rfl⟩, ⟨_, rfl, rfl, rfl, _, rfl, by (repeat' first | exact trivial | exact rfl | exact ⟨rfl, rfl⟩ | exact .inl rfl | refine ⟨_, rfl, rfl, rfl, ?_⟩ | refine ⟨_, _, rfl, ?_, ?_⟩ | refine ⟨_, rfl, ?_⟩ | refine And.intro ?_ ?_)⟩, trivial⟩ rfl, by show s.length - te s q10 < s.length - q7; omega⟩
end Go.Proofs.YtphmmoloegjocaaGreatDoor

/- The program's nested reader: read. -/
namespace Go.Proofs.YtphmmoloegjocaaGreatDoor
open Go Y
set_option maxRecDepth 100000
set_option maxHeartbeats 40000000

def netQ (s : List UInt8) (r : Rd Nt) (e : AE) (H' : Hp) : Prop := match r with
  | .inl p => e = placeX p ∧ H' = ⟨1, []⟩
  | .inr (n, _) => ∃ p t, e = .returned und ∧ H' = ⟨2, [(1, nsO n.nodes), (0, nrO n.grain (.sl 1 3 0 n.nodes.length) p s t)]⟩
theorem then_inr {α β : Type} {r : Rd α} {k : α → Nat → Rd β} {y : β × Nat} (h : r.then k = .inr y) : ∃ a p, r = .inr (a, p) ∧ k a p = .inr y := by
  rcases r with e | ⟨a, p⟩
  · cases h
  · exact ⟨a, p, rfl, h⟩
theorem must_le {s w : List UInt8} {q : Nat} {u : Unit} {q' : Nat} (hq : q ≤ s.length) (h : mustP s w q = .inr (u, q')) : q ≤ q' ∧ q' ≤ s.length := by
  rw [mustP] at h
  have h1 := nx_le hq
  have h2 := te_le hq
  split at h
  · cases h; omega
  · cases h
theorem nums_le {s : List UInt8} : ∀ {f : Nat} {acc l : List Int} {q q' : Nat}, q ≤ s.length → numsP s f acc q = .inr (l, q') → q ≤ q' ∧ q' ≤ s.length
  | 0, _, _, _, _, _, h => by cases h
  | f + 1, acc, l, q, q', hq, h => by
    rw [numsP] at h
    split at h
    · cases h; exact nx_le hq
    · obtain ⟨n, p, h1, h2⟩ := then_inr h
      have := num_lt hq h1
      have := nums_le this.2 h2
      omega
theorem row_le {s : List UInt8} {F : Nat} {l : List Int} {q q' : Nat} (hq : q ≤ s.length) (h : rowRd s F q = .inr (l, q')) : q ≤ q' ∧ q' ≤ s.length := by
  rw [rowRd] at h
  obtain ⟨_, p1, h1, h⟩ := then_inr h
  have a1 := must_le hq h1
  obtain ⟨_, p2, h2, h⟩ := then_inr h
  have a2 := num_lt a1.2 h2
  obtain ⟨_, p3, h3, h⟩ := then_inr h
  have a3 := nums_le a2.2 h3
  obtain ⟨_, p4, h4, h⟩ := then_inr h
  have a4 := must_le a3.2 h4
  cases h
  omega
theorem rows_le {s : List UInt8} {F : Nat} : ∀ {f : Nat} {acc l : List (List Int)} {q q' : Nat}, q ≤ s.length → rowsP s F f acc q = .inr (l, q') → q ≤ q' ∧ q' ≤ s.length
  | 0, _, _, _, _, _, h => by cases h
  | f + 1, acc, l, q, q', hq, h => by
    rw [rowsP] at h
    split at h
    · cases h; exact nx_le hq
    · obtain ⟨n, p, h1, h2⟩ := then_inr h
      have := row_le hq h1
      have := rows_le this.2 h2
      omega
theorem node_lt {s : List UInt8} {F q : Nat} {x : Nd} {q' : Nat} (hq : q ≤ s.length) (_hF : s.length < F) (h : nodeRd s F q = .inr (x, q')) : q < q' ∧ q' ≤ s.length := by
  rw [nodeRd] at h
  obtain ⟨_, p1, h1, h⟩ := then_inr h
  have a1 := must_le hq h1
  obtain ⟨_, p2, h2, h⟩ := then_inr h
  have a2 := must_le a1.2 h2
  obtain ⟨_, p3, h3, h⟩ := then_inr h
  have a3 := num_lt a2.2 h3
  obtain ⟨_, p4, h4, h⟩ := then_inr h
  rw [lstP] at h4
  obtain ⟨_, p5, h5, h4⟩ := then_inr h4
  have a5 := must_le a3.2 h5
  obtain ⟨_, p6, h6, h4⟩ := then_inr h4
  have a6 := nums_le a5.2 h6
  obtain ⟨_, p7, h7, h4⟩ := then_inr h4
  have a7 := must_le a6.2 h7
  cases h4
  obtain ⟨_, p8, h8, h⟩ := then_inr h
  have a8 := rows_le a7.2 h8
  obtain ⟨_, p9, h9, h⟩ := then_inr h
  have a9 := must_le a8.2 h9
  cases h
  omega
theorem read_p (s : List UInt8) (F : Nat) (hF : s.length < F) (hs : s.length ≤ 100000) : HoldsG cx 146 [.ptr 0 0 0, .p (.str s)] ⟨1, [(0, nrO 0 (.p .nils) 0 [] [])]⟩ (netQ s (netP s F)) := by
  refine holdsN_of_vc Tryz.func146 rfl rfl rfl ?_
  have hv : Self 2 (.p .nils) := self_nil 2
  refine (next_h 0 (.p .nils) 0 s [] 0 hv rfl hs (by omega)).useE [] [(1, 0)] rfl (by (repeat' first | exact trivial | exact rfl | exact ⟨rfl, rfl⟩ | exact .inl rfl | refine ⟨_, rfl, rfl, rfl, ?_⟩ | refine ⟨_, _, rfl, ?_, ?_⟩ | refine ⟨_, rfl, ?_⟩ | refine And.intro ?_ ?_)) (by (repeat' first | exact trivial | exact rfl | exact ⟨rfl, rfl⟩ | exact .inl rfl | refine ⟨_, rfl, rfl, rfl, ?_⟩ | refine ⟨_, _, rfl, ?_, ?_⟩ | refine ⟨_, rfl, ?_⟩ | refine And.intro ?_ ?_)) ?_
  have hR : netP s F = (expectP s [kOpen, kNet] 0).then fun _ q => (numP s q).then fun g q => (nodesP s F F [] q).then fun l q => (mustP s kClose q).then fun _ q => if tok s q = [] then .inr (⟨g, l⟩, q) else .inl (nx s q) := by rw [exp2]; rfl
  refine (expect_h 0 (.p .nils) s 0 [kOpen, kNet] hv hs (by omega) (by simp)).holds.useN [1] [(1, 0)] rfl (by (repeat' first | exact trivial | exact rfl | exact ⟨rfl, rfl⟩ | exact .inl rfl | refine ⟨_, rfl, rfl, rfl, ?_⟩ | refine ⟨_, _, rfl, ?_, ?_⟩ | refine ⟨_, rfl, ?_⟩ | refine And.intro ?_ ?_)) ⟨_, _, rfl, ⟨rfl, rfl⟩, _, _, rfl, ⟨_, rfl, by decide, rfl⟩, rfl⟩ fun e0 H0 hq => ?_
  rcases hr : expectP s [kOpen, kNet] 0 with p | ⟨⟨⟩, q1⟩
  · rw [hr] at hq hR
    obtain ⟨rfl, rfl⟩ := hq
    refine ⟨rfl, ?_⟩
    exact ⟨[], [], [], placeX p, ⟨1, []⟩, rfl, ⟨_, rfl, _, _, rfl, rfl, rfl⟩, trivial, by rw [show netP s F = .inl p from hR]; exact ⟨rfl, rfl⟩⟩
  have hq1 := expect_le (by omega) hr
  rw [hr] at hq hR
  obtain ⟨rfl, rfl⟩ := hq
  refine ⟨rfl, ?_⟩
  have hR : netP s F = (numP s q1).then fun g q => (nodesP s F F [] q).then fun l q => (mustP s kClose q).then fun _ q => if tok s q = [] then .inr (⟨g, l⟩, q) else .inl (nx s q) := hR
  refine (take_h 0 (.p .nils) s q1 hv hs hq1.2).holds.useN [] [(1, 0)] rfl (by (repeat' first | exact trivial | exact rfl | exact ⟨rfl, rfl⟩ | exact .inl rfl | refine ⟨_, rfl, rfl, rfl, ?_⟩ | refine ⟨_, _, rfl, ?_, ?_⟩ | refine ⟨_, rfl, ?_⟩ | refine And.intro ?_ ?_)) (by (repeat' first | exact trivial | exact rfl | exact ⟨rfl, rfl⟩ | exact .inl rfl | refine ⟨_, rfl, rfl, rfl, ?_⟩ | refine ⟨_, _, rfl, ?_, ?_⟩ | refine ⟨_, rfl, ?_⟩ | refine And.intro ?_ ?_)) fun e0 H0 hq => ?_
  rcases hn : numP s q1 with p | ⟨g, q2⟩
  · rw [hn] at hq hR
    obtain ⟨rfl, rfl⟩ := hq
    refine ⟨rfl, ?_⟩
    exact ⟨[], [], [], placeX p, ⟨1, []⟩, rfl, ⟨_, rfl, _, _, rfl, rfl, rfl⟩, trivial, by rw [show netP s F = .inl p from hR]; exact ⟨rfl, rfl⟩⟩
  have hq2 := num_lt hq1.2 hn
  rw [hn] at hq hR
  obtain ⟨rfl, rfl⟩ := hq
  refine ⟨rfl, ?_⟩
  have hR : netP s F = (nodesP s F F [] q2).then fun l q => (mustP s kClose q).then fun _ q => if tok s q = [] then .inr (⟨g, l⟩, q) else .inl (nx s q) := hR
  refine ⟨List Nd × Nat, fun _ => [(0, .ptr 0 0 0)], fun x => ⟨2, [(1, nsO x.1), (0, nrO g (pn x.1) (nx s x.2) s (tok s x.2))]⟩,
    fun x => x.2 ≤ s.length ∧ x.1.length ≤ x.2 ∧ LInv false q2 (nodesP s F F [] q2) (fun f => nodesP s F f x.1 x.2) s.length x.2 false, fun x => s.length - x.2, ?_, ?_⟩
  · exact ⟨([], q2), ⟨hq2.2, by simp, LInv.init (go := fun f => nodesP s F f [] q2) (F := F) (n := s.length) (by omega)⟩, ent_of [] [] [(1, 3)] rfl (by (repeat' first | exact trivial | exact rfl | exact ⟨rfl, rfl⟩ | exact .inl rfl | refine ⟨_, rfl, rfl, rfl, ?_⟩ | refine ⟨_, _, rfl, ?_, ?_⟩ | refine ⟨_, rfl, ?_⟩ | refine And.intro ?_ ?_)) ⟨⟨rfl, rfl⟩, ⟨_, rfl, rfl, rfl, _, rfl, _, _, rfl, rfl, _, _, rfl, ⟨rfl, rfl, rfl, rfl⟩, _, _, rfl, rfl, _, _, rfl, rfl, _, _, rfl, rfl, rfl⟩, trivial⟩ rfl⟩
  rintro ⟨l, q⟩ ⟨g1, g2, g3⟩
  simp only [] at g1 g2 g3
  have hv' : Self 2 (pn l) := self_sl (by omega)
  (first | refine brLt (fun h1 => ?_) (fun h1 => ?_) | refine brLe (fun h1 => ?_) (fun h1 => ?_) | refine brEq (fun h1 => ?_) (fun h1 => ?_))
  · have h1 : tok s q = kOpen := h1
    have h1c : ¬ tok s q = kClose := by rw [h1]; decide
    refine (node_p g s F q l hF hs g1 (by omega)).holds.mono fun e H' hq => ?_
    rcases hx : nodeRd s F q with p | ⟨x, q'⟩
    · rw [hx] at hq
      obtain ⟨rfl, rfl⟩ := hq
      have g4 : nodesP s F F [] q2 = .inl p := g3.is fun f => by rw [nodesP, if_neg h1c, hx]; rfl
      rw [g4] at hR
      exact ⟨[], [], [], placeX p, ⟨1, []⟩, rfl, ⟨_, rfl, _, _, rfl, rfl, rfl⟩, trivial, by rw [show netP s F = .inl p from hR]; exact ⟨rfl, rfl⟩⟩
    have hx' := node_lt g1 hF hx
    rw [hx] at hq
    obtain ⟨rfl, rfl⟩ := hq
    exact ⟨(l ++ [x], q'), ⟨hx'.2, by simp only [snoc_len]; omega, g3.nxt (fun f => by rw [nodesP, if_neg h1c, hx]; rfl) hx'.1 hx'.2⟩, ent_of [] [(1, 2)] [] rfl (by (repeat' first | exact trivial | exact rfl | exact ⟨rfl, rfl⟩ | exact .inl rfl | refine ⟨_, rfl, rfl, rfl, ?_⟩ | refine ⟨_, _, rfl, ?_, ?_⟩ | refine ⟨_, rfl, ?_⟩ | refine And.intro ?_ ?_)) ⟨⟨_, rfl, rfl, rfl, rfl⟩, ⟨_, rfl, rfl, rfl, _, rfl, _, _, rfl, rfl, _, _, rfl, congrArg (fun m => AV.sl 2 3 0 m) (snoc_len l x).symm, _, _, rfl, rfl, _, _, rfl, rfl, _, _, rfl, rfl, rfl⟩, trivial⟩ rfl, by show s.length - q' < s.length - q; omega⟩
  have h1 : ¬ tok s q = kOpen := h1
  have hE := expect_h g (pn l) s q [kClose] hv' hs g1 (by simp)
  rw [expectP, mustP] at hE
  by_cases h3 : tok s q = kClose
  · have g6 : nodesP s F F [] q2 = .inr (l, nx s q) := g3.is fun f => by rw [nodesP, if_pos h3]
    rw [g6] at hR
    have hR : netP s F = (mustP s kClose (nx s q)).then fun _ q => if tok s q = [] then .inr (⟨g, l⟩, q) else .inl (nx s q) := hR
    rw [must_nx, mustP, if_pos h3] at hR
    have hR : netP s F = if tok s (te s q) = [] then .inr (⟨g, l⟩, te s q) else .inl (nx s (te s q)) := hR
    rw [if_pos h3] at hE
    refine hE.holds.useN [2] [] rfl (by (repeat' first | exact trivial | exact rfl | exact ⟨rfl, rfl⟩ | exact .inl rfl | refine ⟨_, rfl, rfl, rfl, ?_⟩ | refine ⟨_, _, rfl, ?_, ?_⟩ | refine ⟨_, rfl, ?_⟩ | refine And.intro ?_ ?_)) ⟨_, _, rfl, ⟨rfl, rfl⟩, _, _, rfl, ⟨_, rfl, by decide, rfl⟩, rfl⟩ fun e0 H0 hq => ?_
    obtain ⟨rfl, rfl⟩ := hq
    refine ⟨rfl, ?_⟩
    (first | refine brLt (fun h4 => ?_) (fun h4 => ?_) | refine brLe (fun h4 => ?_) (fun h4 => ?_) | refine brEq (fun h4 => ?_) (fun h4 => ?_))
    · have h4 : tok s (te s q) = [] := h4
      rw [if_pos h4] at hR
      exact ⟨[], [], [], .returned und, ⟨2, [(1, nsO l), (0, nrO g (pn l) (nx s (te s q)) s (tok s (te s q)))]⟩, rfl, by (repeat' first | exact trivial | exact rfl | exact ⟨rfl, rfl⟩ | exact .inl rfl | refine ⟨_, rfl, rfl, rfl, ?_⟩ | refine ⟨_, _, rfl, ?_, ?_⟩ | refine ⟨_, rfl, ?_⟩ | refine And.intro ?_ ?_), ⟨⟨_, rfl, rfl, rfl, rfl⟩, ⟨_, rfl, rfl, rfl, _, rfl, by (repeat' first | exact trivial | exact rfl | exact ⟨rfl, rfl⟩ | exact .inl rfl | refine ⟨_, rfl, rfl, rfl, ?_⟩ | refine ⟨_, _, rfl, ?_, ?_⟩ | refine ⟨_, rfl, ?_⟩ | refine And.intro ?_ ?_)⟩, trivial⟩, by rw [hR]; exact ⟨_, _, rfl, rfl⟩⟩
    · have h4 : ¬ tok s (te s q) = [] := h4
      rw [if_neg h4] at hR
      refine (fail_h TNs g (pn l) (nx s (te s q)) [.str s, .str (tok s (te s q))]).holds.useN [] [] rfl (by (repeat' first | exact trivial | exact rfl | exact ⟨rfl, rfl⟩ | exact .inl rfl | refine ⟨_, rfl, rfl, rfl, ?_⟩ | refine ⟨_, _, rfl, ?_, ?_⟩ | refine ⟨_, rfl, ?_⟩ | refine And.intro ?_ ?_)) (by (repeat' first | exact trivial | exact rfl | exact ⟨rfl, rfl⟩ | exact .inl rfl | refine ⟨_, rfl, rfl, rfl, ?_⟩ | refine ⟨_, _, rfl, ?_, ?_⟩ | refine ⟨_, rfl, ?_⟩ | refine And.intro ?_ ?_)) fun e0 H0 hq => ?_
      obtain ⟨rfl, rfl⟩ := hq
      refine ⟨rfl, ?_⟩
      exact ⟨[], [], [], placeX (nx s (te s q)), ⟨1, []⟩, rfl, ⟨_, rfl, _, _, rfl, rfl, rfl⟩, trivial, by rw [show netP s F = .inl (nx s (te s q)) from hR]; exact ⟨rfl, rfl⟩⟩
  · have g6 : nodesP s F F [] q2 = .inl (nx s q) := g3.is fun f => by rw [nodesP, if_neg h3, nodeRd, mustP, if_neg h1]; rfl
    rw [g6] at hR
    rw [if_neg h3] at hE
    refine hE.holds.useN [2] [] rfl (by (repeat' first | exact trivial | exact rfl | exact ⟨rfl, rfl⟩ | exact .inl rfl | refine ⟨_, rfl, rfl, rfl, ?_⟩ | refine ⟨_, _, rfl, ?_, ?_⟩ | refine ⟨_, rfl, ?_⟩ | refine And.intro ?_ ?_)) ⟨_, _, rfl, ⟨rfl, rfl⟩, _, _, rfl, ⟨_, rfl, by decide, rfl⟩, rfl⟩ fun e0 H0 hq => ?_
    obtain ⟨rfl, rfl⟩ := hq
    refine ⟨rfl, ?_⟩
    exact ⟨[], [], [], placeX (nx s q), ⟨1, []⟩, rfl, ⟨_, rfl, _, _, rfl, rfl, rfl⟩, trivial, by rw [show netP s F = .inl (nx s q) from hR]; exact ⟨rfl, rfl⟩⟩
end Go.Proofs.YtphmmoloegjocaaGreatDoor

/- The program's ReadNested. -/
namespace Go.Proofs.YtphmmoloegjocaaGreatDoor
open Go Y
set_option maxRecDepth 100000
set_option maxHeartbeats 40000000

theorem result_h (T : TypeId) (g : Int) (m : Nat) (p : Nat) (rest : List PV) : HoldsG cx 147 [.ptr 0 0 0] (cmH T g (.sl 1 3 0 m) p rest) fun e H' => e = .returned (.agg [.p (i64 g), .sl 1 3 0 m]) ∧ H' = cmH T g (.sl 1 3 0 m) p rest := by
  refine holdsN_of_vc Tryz.func147 rfl rfl rfl ?_
  exact ⟨[], [], [], .returned (.agg [.p (i64 g), .sl 1 3 0 m]), cmH T g (.sl 1 3 0 m) p rest, rfl, ⟨_, rfl, _, rfl, _, _, rfl, rfl, _, _, rfl, rfl, rfl⟩, ⟨⟨_, rfl, rfl, rfl, _, rfl, _, _, rfl, rfl, _, _, rfl, rfl, _, _, rfl, rfl, seeL_p rest⟩, trivial⟩, rfl, rfl⟩
def erO (n : Int) : AObj := ⟨34, false, .bx [.p (i64 n)]⟩
def plO (n : Int) : AObj := ⟨3, false, .bx [.p (i64 n)]⟩
abbrev TPn : TypeId := 98
theorem nums_ok {s : List UInt8} : ∀ {f : Nat} {acc l : List Int} {q q' : Nat}, q ≤ s.length → acc.length ≤ q → numsP s f acc q = .inr (l, q') → l.length ≤ q'
  | 0, _, _, _, _, _, _, h => by cases h
  | f + 1, acc, l, q, q', hq, ha, h => by
    rw [numsP] at h
    split at h
    · cases h; have := nx_le hq; omega
    · obtain ⟨n, p, h1, h2⟩ := then_inr h
      have := num_lt hq h1
      exact nums_ok this.2 (by rw [snoc_len]; omega) h2
theorem rowRd_ok {s : List UInt8} {F : Nat} {l : List Int} {q q' : Nat} (hq : q ≤ s.length) (h : rowRd s F q = .inr (l, q')) : q < q' ∧ q' ≤ s.length ∧ l.length ≤ s.length := by
  rw [rowRd] at h
  obtain ⟨_, p1, h1, h⟩ := then_inr h
  have a1 := must_le hq h1
  obtain ⟨v, p2, h2, h⟩ := then_inr h
  have a2 := num_lt a1.2 h2
  obtain ⟨_, p3, h3, h⟩ := then_inr h
  have a3 := nums_le a2.2 h3
  have b3 := nums_ok a2.2 (by show 1 ≤ p2; omega) h3
  obtain ⟨_, p4, h4, h⟩ := then_inr h
  have a4 := must_le a3.2 h4
  cases h
  omega
theorem rows_ok {s : List UInt8} {F : Nat} : ∀ {f : Nat} {acc l : List (List Int)} {q q' : Nat}, q ≤ s.length → acc.length ≤ q → (∀ r ∈ acc, r.length ≤ s.length) → rowsP s F f acc q = .inr (l, q') → l.length ≤ q' ∧ ∀ r ∈ l, r.length ≤ s.length
  | 0, _, _, _, _, _, _, _, h => by cases h
  | f + 1, acc, l, q, q', hq, ha, hr, h => by
    rw [rowsP] at h
    split at h
    · cases h; have := nx_le hq; exact ⟨by omega, hr⟩
    · obtain ⟨n, p, h1, h2⟩ := then_inr h
      have := rowRd_ok hq h1
      refine rows_ok this.2.1 (by rw [snoc_len]; omega) (fun r hm => ?_) h2
      rcases List.mem_append.1 hm with hm | hm
      · exact hr r hm
      · simp only [List.mem_singleton] at hm; subst hm; exact this.2.2
theorem node_ok {s : List UInt8} {F q : Nat} {x : Nd} {q' : Nat} (hq : q ≤ s.length) (h : nodeRd s F q = .inr (x, q')) : OkX x s.length := by
  rw [nodeRd] at h
  obtain ⟨_, p1, h1, h⟩ := then_inr h
  have a1 := must_le hq h1
  obtain ⟨_, p2, h2, h⟩ := then_inr h
  have a2 := must_le a1.2 h2
  obtain ⟨_, p3, h3, h⟩ := then_inr h
  have a3 := num_lt a2.2 h3
  obtain ⟨ps, p4, h4, h⟩ := then_inr h
  rw [lstP] at h4
  obtain ⟨_, p5, h5, h4⟩ := then_inr h4
  have a5 := must_le a3.2 h5
  obtain ⟨_, p6, h6, h4⟩ := then_inr h4
  have a6 := nums_le a5.2 h6
  have b6 := nums_ok a5.2 (Nat.zero_le _) h6
  obtain ⟨_, p7, h7, h4⟩ := then_inr h4
  have a7 := must_le a6.2 h7
  cases h4
  obtain ⟨rs, p8, h8, h⟩ := then_inr h
  have a8 := rows_le a7.2 h8
  have b8 := rows_ok a7.2 (Nat.zero_le _) (by simp) h8
  obtain ⟨_, p9, h9, h⟩ := then_inr h
  cases h
  exact ⟨by show ps.length ≤ _; omega, by show rs.length ≤ _; omega, b8.2⟩
theorem nodes_ok {s : List UInt8} {F : Nat} (hF : s.length < F) : ∀ {f : Nat} {acc l : List Nd} {q q' : Nat}, q ≤ s.length → acc.length ≤ q → (∀ x ∈ acc, OkX x s.length) → nodesP s F f acc q = .inr (l, q') → (l.length ≤ q' ∧ q' ≤ s.length) ∧ ∀ x ∈ l, OkX x s.length
  | 0, _, _, _, _, _, _, _, h => by cases h
  | f + 1, acc, l, q, q', hq, ha, hr, h => by
    rw [nodesP] at h
    split at h
    · cases h; have := nx_le hq; exact ⟨by omega, hr⟩
    · obtain ⟨n, p, h1, h2⟩ := then_inr h
      have := node_lt hq hF h1
      have hk := node_ok hq h1
      refine nodes_ok hF this.2 (by rw [snoc_len]; omega) (fun r hm => ?_) h2
      rcases List.mem_append.1 hm with hm | hm
      · exact hr r hm
      · simp only [List.mem_singleton] at hm; subst hm; exact hk
theorem read_big {s : List UInt8} {F : Nat} {n : Nt} {q : Nat} (hs : s.length ≤ 50000) (hF : s.length < F) (h : netP s F = .inr (n, q)) : BigN n := by
  rw [netP] at h
  obtain ⟨_, p1, h1, h⟩ := then_inr h
  have a1 := must_le (Nat.zero_le _) h1
  obtain ⟨_, p2, h2, h⟩ := then_inr h
  have a2 := must_le a1.2 h2
  obtain ⟨g, p3, h3, h⟩ := then_inr h
  have a3 := num_lt a2.2 h3
  obtain ⟨l, p4, h4, h⟩ := then_inr h
  have a4 := nodes_ok hF a3.2 (Nat.zero_le _) (by simp) h4
  obtain ⟨_, p5, h5, h⟩ := then_inr h
  split at h
  · cases h
    exact big_of (n := s.length) (by omega) (by omega) a4.2
  · cases h
theorem read_n (s : List UInt8) (hs : s.length ≤ 50000) : HoldsG cx 55 [.iface TPn (.ptr 0 0 0), .p (.str s)] ⟨1, [(0, nrO 0 (.p .nils) 0 [] [])]⟩ fun e H' => e = .returned (.tup ((readNV s).map .p)) ∧ H' = ⟨1, []⟩ := by
  refine holdsN_of_vc Tryz.func55 rfl rfl rfl ?_
  (first | refine brLt (fun h0 => ?_) (fun h0 => ?_) | refine brLe (fun h0 => ?_) (fun h0 => ?_) | refine brEq (fun h0 => ?_) (fun h0 => ?_))
  · have h0 : (40000 : Int) < (s.length : Nat) := h0
    have e : readNV s = [znV, i64 0, i64 3] := by rw [readNV, if_pos (by omega)]
    exact ⟨[], [], [], .returned (.tup ([znV, i64 0, i64 3].map .p)), ⟨1, []⟩, rfl, ⟨_, rfl, _, rfl, _, _, rfl, rfl, _, _, rfl, rfl, _, _, rfl, rfl, rfl⟩, trivial, by rw [e], rfl⟩
  have h0 : ¬ (40000 : Int) < (s.length : Nat) := h0
  obtain ⟨F, hF⟩ : ∃ F, F = s.length + 1 := ⟨_, rfl⟩
  have hV : readNV s = match netP s F with
      | .inl e => [znV, i64 (e : Nat), i64 5]
      | .inr (n, _) => if validP n then [n.pv, i64 0, i64 0] else [znV, i64 0, i64 50] := by
    subst hF; rw [readNV]; exact if_neg (by omega)
  refine ⟨146, none, .ptr 0 0 0, by kernel_rfl, rfl, ?_⟩
  refine (read_p s F (by omega) (by omega)).holds.useN [] [] rfl (by (repeat' first | exact trivial | exact rfl | exact ⟨rfl, rfl⟩ | exact .inl rfl | refine ⟨_, rfl, rfl, rfl, ?_⟩ | refine ⟨_, _, rfl, ?_, ?_⟩ | refine ⟨_, rfl, ?_⟩ | refine And.intro ?_ ?_)) (by (repeat' first | exact trivial | exact rfl | exact ⟨rfl, rfl⟩ | exact .inl rfl | refine ⟨_, rfl, rfl, rfl, ?_⟩ | refine ⟨_, _, rfl, ?_, ?_⟩ | refine ⟨_, rfl, ?_⟩ | refine And.intro ?_ ?_)) fun e0 H0 hq => ?_
  rcases hr : netP s F with p | ⟨n, q⟩
  · rw [hr] at hq hV
    obtain ⟨rfl, rfl⟩ := hq
    refine ⟨rfl, ?_⟩
    refine holdsD_rec Tryz.func81 rfl rfl rfl ?_
    refine ⟨[], [], [], .returned und, ⟨4, [(3, erO 5), (2, plO p), (1, znO)]⟩, rfl, by (repeat' first | exact trivial | exact rfl | exact ⟨rfl, rfl⟩ | exact .inl rfl | refine ⟨_, rfl, rfl, rfl, ?_⟩ | refine ⟨_, _, rfl, ?_, ?_⟩ | refine ⟨_, rfl, ?_⟩ | refine And.intro ?_ ?_), by (repeat' first | exact trivial | exact rfl | exact ⟨rfl, rfl⟩ | exact .inl rfl | refine ⟨_, rfl, rfl, rfl, ?_⟩ | refine ⟨_, _, rfl, ?_, ?_⟩ | refine ⟨_, rfl, ?_⟩ | refine And.intro ?_ ?_), ?_⟩
    exact ⟨[], [], [], .returned (.tup ([znV, i64 (p : Nat), i64 5].map .p)), ⟨1, []⟩, rfl, ⟨_, rfl, _, rfl, _, _, rfl, rfl, _, _, rfl, rfl, _, _, rfl, rfl, rfl⟩, trivial, by rw [hV], rfl⟩
  rw [hr] at hq hV
  obtain ⟨p, t, rfl, rfl⟩ := hq
  refine ⟨rfl, ?_⟩
  refine ⟨147, some 0, .ptr 0 0 0, by kernel_rfl, rfl, ?_⟩
  refine (result_h TNs n.grain n.nodes.length p [.str s, .str t]).useE [] [(1, 4)] rfl (by (repeat' first | exact trivial | exact rfl | exact ⟨rfl, rfl⟩ | exact .inl rfl | refine ⟨_, rfl, rfl, rfl, ?_⟩ | refine ⟨_, _, rfl, ?_, ?_⟩ | refine ⟨_, rfl, ?_⟩ | refine And.intro ?_ ?_)) (by (repeat' first | exact trivial | exact rfl | exact ⟨rfl, rfl⟩ | exact .inl rfl | refine ⟨_, rfl, rfl, rfl, ?_⟩ | refine ⟨_, _, rfl, ?_, ?_⟩ | refine ⟨_, rfl, ?_⟩ | refine And.intro ?_ ?_)) ?_
  have hC := check_c n (read_big hs (by omega) hr)
  by_cases hv : validP n
  · rw [checkN, if_pos hv] at hC
    have hV : readNV s = [n.pv, i64 0, i64 0] := by rw [hV]; exact if_pos hv
    refine hC.uses [4] rfl ⟨_, _, rfl, ⟨_, rfl, _, _, rfl, rfl, _, _, rfl, ⟨_, rfl, by show 0 + n.nodes.length ≤ (n.nodes.map Nd.cells).length; simp, takeAll (by simp)⟩, rfl⟩, rfl⟩ ?_
    (first | refine brLt (fun h1 => ?_) (fun h1 => ?_) | refine brLe (fun h1 => ?_) (fun h1 => ?_) | refine brEq (fun h1 => ?_) (fun h1 => ?_))
    rotate_left
    · have h1 : ¬ (0 : Int) = 0 := h1
      exact absurd rfl h1
    refine holdsD_rec Tryz.func81 rfl rfl rfl ?_
    refine ⟨[], [], [], .returned und, ⟨5, [(4, { nsO n.nodes with fr := true }), (3, erO 0), (2, plO 0), (1, nbS 4 n.grain n.nodes.length)]⟩, rfl, by (repeat' first | exact trivial | exact rfl | exact ⟨rfl, rfl⟩ | exact .inl rfl | refine ⟨_, rfl, rfl, rfl, ?_⟩ | refine ⟨_, _, rfl, ?_, ?_⟩ | refine ⟨_, rfl, ?_⟩ | refine And.intro ?_ ?_), by (repeat' first | exact trivial | exact rfl | exact ⟨rfl, rfl⟩ | exact .inl rfl | refine ⟨_, rfl, rfl, rfl, ?_⟩ | refine ⟨_, _, rfl, ?_, ?_⟩ | refine ⟨_, rfl, ?_⟩ | refine And.intro ?_ ?_), ?_⟩
    exact ⟨[], [], [], .returned (.tup ([n.pv, i64 0, i64 0].map .p)), ⟨1, []⟩, rfl, ⟨_, rfl, _, rfl, _, _, rfl, ⟨_, rfl, _, _, rfl, rfl, _, _, rfl, ⟨_, rfl, by show 0 + n.nodes.length ≤ (n.nodes.map Nd.cells).length; simp, takeAll (by simp)⟩, rfl⟩, _, _, rfl, rfl, _, _, rfl, rfl, rfl⟩, trivial, by rw [hV], rfl⟩
  · rw [checkN, if_neg hv] at hC
    have hV : readNV s = [znV, i64 0, i64 50] := by rw [hV]; exact if_neg hv
    refine hC.uses [4] rfl ⟨_, _, rfl, ⟨_, rfl, _, _, rfl, rfl, _, _, rfl, ⟨_, rfl, by show 0 + n.nodes.length ≤ (n.nodes.map Nd.cells).length; simp, takeAll (by simp)⟩, rfl⟩, rfl⟩ ?_
    (first | refine brLt (fun h1 => ?_) (fun h1 => ?_) | refine brLe (fun h1 => ?_) (fun h1 => ?_) | refine brEq (fun h1 => ?_) (fun h1 => ?_))
    · have h1 : (50 : Int) = 0 := h1
      exact absurd h1 (by decide)
    refine holdsD_rec Tryz.func81 rfl rfl rfl ?_
    refine ⟨[], [], [], .returned und, ⟨5, [(3, erO 50), (2, plO 0), (1, znO)]⟩, rfl, by (repeat' first | exact trivial | exact rfl | exact ⟨rfl, rfl⟩ | exact .inl rfl | refine ⟨_, rfl, rfl, rfl, ?_⟩ | refine ⟨_, _, rfl, ?_, ?_⟩ | refine ⟨_, rfl, ?_⟩ | refine And.intro ?_ ?_), by (repeat' first | exact trivial | exact rfl | exact ⟨rfl, rfl⟩ | exact .inl rfl | refine ⟨_, rfl, rfl, rfl, ?_⟩ | refine ⟨_, _, rfl, ?_, ?_⟩ | refine ⟨_, rfl, ?_⟩ | refine And.intro ?_ ?_), ?_⟩
    exact ⟨[], [], [], .returned (.tup ([znV, i64 0, i64 50].map .p)), ⟨1, []⟩, rfl, ⟨_, rfl, _, rfl, _, _, rfl, rfl, _, _, rfl, rfl, _, _, rfl, rfl, rfl⟩, trivial, by rw [hV], rfl⟩
theorem readNested_p (s : List UInt8) (hs : s.length ≤ 50000) : Pure cx 21 [.str s] (· = .ret (readNV s)) := by
  refine pure_of_vc Tryz.func21 rfl rfl rfl ?_
  have hN := read_n s hs
  rw [readN_res] at hN
  rw [readN_res]
  rcases hr : readNR s with ⟨p, e⟩ | n
  · rw [hr] at hN
    refine hN.useE [] [(0, 1)] rfl (by (repeat' first | exact trivial | exact rfl | exact ⟨rfl, rfl⟩ | exact .inl rfl | refine ⟨_, rfl, rfl, rfl, ?_⟩ | refine ⟨_, _, rfl, ?_, ?_⟩ | refine ⟨_, rfl, ?_⟩ | refine And.intro ?_ ?_)) (by (repeat' first | exact trivial | exact rfl | exact ⟨rfl, rfl⟩ | exact .inl rfl | refine ⟨_, rfl, rfl, rfl, ?_⟩ | refine ⟨_, _, rfl, ?_, ?_⟩ | refine ⟨_, rfl, ?_⟩ | refine And.intro ?_ ?_)) ?_
    exact end3 znV (i64 (p : Nat)) (i64 e) rfl rfl rfl rfl rfl
  · rw [hr] at hN
    refine hN.useE [] [(0, 1)] rfl (by (repeat' first | exact trivial | exact rfl | exact ⟨rfl, rfl⟩ | exact .inl rfl | refine ⟨_, rfl, rfl, rfl, ?_⟩ | refine ⟨_, _, rfl, ?_, ?_⟩ | refine ⟨_, rfl, ?_⟩ | refine And.intro ?_ ?_)) (by (repeat' first | exact trivial | exact rfl | exact ⟨rfl, rfl⟩ | exact .inl rfl | refine ⟨_, rfl, rfl, rfl, ?_⟩ | refine ⟨_, _, rfl, ?_, ?_⟩ | refine ⟨_, rfl, ?_⟩ | refine And.intro ?_ ?_)) ?_
    exact end3 n.pv (i64 0) (i64 0) rfl rfl rfl rfl rfl
end Go.Proofs.YtphmmoloegjocaaGreatDoor

/- The program's line reader: numbers. -/
namespace Go.Proofs.YtphmmoloegjocaaGreatDoor
open Go Y
set_option maxRecDepth 100000
set_option maxHeartbeats 40000000

abbrev TLn : TypeId := 119
abbrev lrH (g : Int) (m p : Nat) : Hp := cmH TLn g (.sl 1 3 0 m) p []
def numsQ (g : Int) (m p : Nat) (ws : List (List UInt8)) (e : AE) (H' : Hp) : Prop :=
  if allB ws = true then e = .returned (.p (ints (ws.map valN))) ∧ H' = lrH g m p else e = placeX p ∧ H' = ⟨2, []⟩
theorem numbers_p (g : Int) (m p : Nat) (ws : List (List UInt8)) (hl : ws.length ≤ 100000) (hw : ∀ w ∈ ws, w.length ≤ 100000) : HoldsG cx 160 [.ptr 0 0 0, .p (strs ws)] (lrH g m p) (numsQ g m p ws) := by
  refine holdsN_of_vc Tryz.func160 rfl rfl rfl ?_
  refine ⟨by show (0 : Int) ≤ 0 ∧ (0 : Int) ≤ ((ws.map PV.str).length : Nat) ∧ (((ws.map PV.str).length : Nat) : Int) * 8 ≤ 281474976710656 ∧ (((ws.map PV.str).length : Nat) : Int) ≤ 281474976710656; rw [List.length_map]; omega, ?_⟩
  refine ⟨Nat, fun k => [(0, .ptr 0 0 0), (5, .sl 2 1 0 ((ws.take k).map valN).length), (11, .p (strs ws)), (12, .p (i64 ws.length)), (13, .p (i64 k))], fun k => ⟨3, [(2, iO ((ws.take k).map valN)), (0, cmO TLn g (.sl 1 3 0 m) p [])]⟩, fun k => k ≤ ws.length ∧ ∀ w ∈ ws.take k, numB w = true, fun k => ws.length - k, ?_, ?_⟩
  · exact ⟨0, ⟨by omega, by simp⟩, ent_of [] [] [] rfl ⟨⟨rfl, rfl⟩, rfl, rfl, congrArg (fun n : Nat => i64 n) (List.length_map ..).symm, rfl, trivial⟩ ⟨⟨_, rfl, rfl, rfl, rfl⟩, ⟨_, rfl, rfl, rfl, _, rfl, by (repeat' first | exact trivial | exact rfl | exact ⟨rfl, rfl⟩ | exact .inl rfl | refine ⟨_, rfl, rfl, rfl, ?_⟩ | refine ⟨_, _, rfl, ?_, ?_⟩ | refine ⟨_, rfl, ?_⟩ | refine And.intro ?_ ?_)⟩, trivial⟩ rfl⟩
  rintro k ⟨k1, k2⟩
  have hkm : ((ws.take k).map valN).length ≤ ws.length := by rw [List.length_map, List.length_take]; omega
  (first | refine brLt (fun h1 => ?_) (fun h1 => ?_) | refine brLe (fun h1 => ?_) (fun h1 => ?_) | refine brEq (fun h1 => ?_) (fun h1 => ?_))
  · have h1 : (k : Int) < (ws.length : Nat) := h1
    have hk : k < ws.length := by omega
    obtain ⟨w, hw'⟩ : ∃ w, w = ws.getD k [] := ⟨_, rfl⟩
    have hwl := hw _ (getD_memL [] hk)
    rw [← hw'] at hwl
    refine ⟨_, ⟨by omega, .str w, by rw [hw']; exact tcell hk, rfl⟩, ?_⟩
    refine (num_h' TLn g (.sl 1 3 0 m) p [] (self_sl (by omega)) w hwl).holds.useN [] [] rfl (by (repeat' first | exact trivial | exact rfl | exact ⟨rfl, rfl⟩ | exact .inl rfl | refine ⟨_, rfl, rfl, rfl, ?_⟩ | refine ⟨_, _, rfl, ?_, ?_⟩ | refine ⟨_, rfl, ?_⟩ | refine And.intro ?_ ?_)) (by (repeat' first | exact trivial | exact rfl | exact ⟨rfl, rfl⟩ | exact .inl rfl | refine ⟨_, rfl, rfl, rfl, ?_⟩ | refine ⟨_, _, rfl, ?_, ?_⟩ | refine ⟨_, rfl, ?_⟩ | refine And.intro ?_ ?_)) fun e0 H0 hq => ?_
    obtain ⟨rfl, hq⟩ := hq
    by_cases hn : numB w = true
    · rw [if_pos hn] at hq
      subst hq
      have e : (ws.take (k + 1)).map valN = (ws.take k).map valN ++ [valN w] := by rw [take_succ_getD [] hk, ← hw', List.map_append]; rfl
      refine ⟨rfl, ?_⟩
      refine ⟨by show 0 + 1 ≤ 1; omega, [i64 (valN w)], rfl, ?_⟩
      refine ⟨by show 0 + ((ws.take k).map valN).length ≤ (((ws.take k).map valN).map i64).length; simp, ((ws.take k).map valN).map i64, takeAll (by simp), by show (((ws.take k).map valN).length + 1) * 8 ≤ 140737488355328; omega, ((ws.take k).map valN ++ [valN w]).map i64, by simp, ?_⟩
      refine ⟨_, wrap_i64 (by omega) (by omega), ?_⟩
      refine ⟨k + 1, ⟨by omega, mem_take [] hk k2 (by rw [← hw']; exact hn)⟩, ent_of [] [(2, 4)] [] rfl ⟨⟨rfl, rfl⟩, ?_, rfl, rfl, rfl, trivial⟩ ⟨⟨_, rfl, rfl, rfl, by show ((ws.take k).map valN ++ [valN w]).map i64 = ((ws.take (k + 1)).map valN).map i64; rw [e]⟩, ⟨_, rfl, rfl, rfl, _, rfl, by (repeat' first | exact trivial | exact rfl | exact ⟨rfl, rfl⟩ | exact .inl rfl | refine ⟨_, rfl, rfl, rfl, ?_⟩ | refine ⟨_, _, rfl, ?_, ?_⟩ | refine ⟨_, rfl, ?_⟩ | refine And.intro ?_ ?_)⟩, trivial⟩ rfl, by show ws.length - (k + 1) < ws.length - k; omega⟩
      exact congrArg (fun m => AV.sl 4 1 0 m) (by rw [e, snoc_len])
    · rw [if_neg hn] at hq
      subst hq
      refine ⟨rfl, ?_⟩
      have ha : ¬ allB ws = true := fun h => by
        have := List.all_eq_true.1 h _ (getD_memL [] hk)
        rw [← hw'] at this
        exact hn this
      exact ⟨[], [], [], placeX p, ⟨2, []⟩, rfl, ⟨_, rfl, _, _, rfl, rfl, rfl⟩, trivial, by rw [numsQ, if_neg ha]; exact ⟨rfl, rfl⟩⟩
  · have h1 : ¬ (k : Int) < (ws.length : Nat) := h1
    have hlk : ws.take k = ws := take_all (by omega)
    rw [hlk] at k2
    have ha : allB ws = true := List.all_eq_true.2 k2
    refine ⟨[2], [], [], .returned (.p (ints (ws.map valN))), lrH g m p, rfl, ⟨_, rfl, ⟨_, rfl, ?_, ?_⟩⟩, ⟨⟨_, rfl, rfl, rfl, _, rfl, by (repeat' first | exact trivial | exact rfl | exact ⟨rfl, rfl⟩ | exact .inl rfl | refine ⟨_, rfl, rfl, rfl, ?_⟩ | refine ⟨_, _, rfl, ?_, ?_⟩ | refine ⟨_, rfl, ?_⟩ | refine And.intro ?_ ?_)⟩, trivial⟩, by rw [numsQ, if_pos ha]; exact ⟨rfl, rfl⟩⟩
    · show 0 + ((ws.take k).map valN).length ≤ (((ws.take k).map valN).map i64).length
      simp
    · rw [hlk]; exact takeAll (by simp)
end Go.Proofs.YtphmmoloegjocaaGreatDoor

/- The program's line reader: node. -/
namespace Go.Proofs.YtphmmoloegjocaaGreatDoor
open Go Y
set_option maxRecDepth 100000
set_option maxHeartbeats 40000000

/-- A region's orders, each shown to its end. -/
theorem vdraw_alt {C : Cx} {rd : Bool} {n0 N : Nat} {all : List Oper} {σ : Sg} {ds : List AD} {H : Hp} {K : Sg → List AD → Hp → Prop} {X : List AP → Sg → List AD → Hp → Prop}
    (h : (C.P.follows .mixedOrders && slotsOK N all (masks all []) && otOK all (masks all []) (altOT C.P (masks all []) all all.length [] []) [] [] []) = true)
    (hv : vD C rd all σ K X (altOT C.P (masks all []) all all.length [] []) [] ds H) :
    ∃ ot, (C.P.follows .mixedOrders && slotsOK N all (masks all []) && otOK all (masks all []) ot [] [] []) = true ∧
    ((vD C rd all σ K X ot [] ds H) ∨
     ∃ (α : Type) (sl : α → List (Nat × AV)) (hp : α → Hp) (pr : α → Prop),
      vD C rd all σ (fun σ' ds' H' => ∃ x, pr x ∧ Ent C n0 N σ' ds' H' (sets (fun _ => .junk) (sl x)) ds (hp x)) X ot [] ds H ∧
      ∀ x, pr x → K (sets (fun _ => .junk) (sl x)) ds (hp x)) := ⟨_, h, .inl hv⟩
abbrev Ns.heapL (n : Ns) (p s r : Nat) : Hp := ⟨r + 1, [(r, rO (lastR n.last)), (s, mO (n.rows r)), (0, cmO TLn n.g (.sl s 3 0 n.len) p [])]⟩
/-- What the words behind the word node make of a network. -/
def nodeLn (n : Ns) (w : List (List UInt8)) : Option Ns :=
  if w.length = 0 ∨ w.length = 2 ∨ (2 < w.length ∧ ¬ w.getD 1 [] = kFrom) then none
  else if numB (w.getD 0 []) = true then
    if 2 < w.length then
      if allB (w.drop 2) = true then some ⟨n.g, n.init ++ n.last.toList, some ⟨valN (w.getD 0 []), (w.drop 2).map valN, []⟩⟩ else none
    else some ⟨n.g, n.init ++ n.last.toList, some ⟨valN (w.getD 0 []), [], []⟩⟩
  else none
def lnQ (p : Nat) (r : Option Ns) (e : AE) (H' : Hp) : Prop := match r with
  | none => e = placeX p ∧ H' = ⟨3, []⟩
  | some n => e = .returned und ∧ H' = n.heapL p 3 4
def nd0O (c : Int) : AObj := ⟨TNode, false, .bx [.p (i64 c), .p .nils, .p .nils]⟩
theorem node_l (n : Ns) (p : Nat) (w : List (List UInt8)) (hn : n.len ≤ 100000) (hl : w.length ≤ 100000) (hw : ∀ v ∈ w, v.length ≤ 100000) :
    HoldsG cx 158 [.ptr 0 0 0, .p (strs w)] (n.heapL p 1 2) (lnQ p (nodeLn n w)) := by
  refine holdsN_of_vc Tryz.func158 rfl rfl rfl ?_
  have hrows := rows_len' n 2
  have hlen : ∀ x, Ns.len ⟨n.g, n.init ++ n.last.toList, some x⟩ = n.len + 1 := fun x => by
    obtain ⟨g, i, l⟩ := n
    cases l <;> simp [Ns.len]
  (first | refine brLt (fun h1 => ?_) (fun h1 => ?_) | refine brLe (fun h1 => ?_) (fun h1 => ?_) | refine brEq (fun h1 => ?_) (fun h1 => ?_))
  · have h1 : ((w.map PV.str).length : Int) = 0 := h1
    rw [List.length_map] at h1
    refine (fail_h TLn n.g (.sl 1 3 0 n.len) p []).holds.useN [] [] rfl (by (repeat' first | exact trivial | exact rfl | exact ⟨rfl, rfl⟩ | exact .inl rfl | refine ⟨_, rfl, rfl, rfl, ?_⟩ | refine ⟨_, _, rfl, ?_, ?_⟩ | refine ⟨_, rfl, ?_⟩ | refine And.intro ?_ ?_)) (by (repeat' first | exact trivial | exact rfl | exact ⟨rfl, rfl⟩ | exact .inl rfl | refine ⟨_, rfl, rfl, rfl, ?_⟩ | refine ⟨_, _, rfl, ?_, ?_⟩ | refine ⟨_, rfl, ?_⟩ | refine And.intro ?_ ?_)) fun e0 H0 hq => ?_
    obtain ⟨rfl, rfl⟩ := hq
    refine ⟨rfl, ?_⟩
    exact ⟨[], [], [], placeX p, ⟨3, []⟩, rfl, ⟨_, rfl, _, _, rfl, rfl, rfl⟩, trivial, by rw [show nodeLn n w = none from (by rw [nodeLn, if_pos (.inl (by omega))])]; exact ⟨rfl, rfl⟩⟩
  have h1 : ¬ ((w.map PV.str).length : Int) = 0 := h1
  rw [List.length_map] at h1
  (first | refine brLt (fun h2 => ?_) (fun h2 => ?_) | refine brLe (fun h2 => ?_) (fun h2 => ?_) | refine brEq (fun h2 => ?_) (fun h2 => ?_))
  · have h2 : ((w.map PV.str).length : Int) = 2 := h2
    rw [List.length_map] at h2
    refine (fail_h TLn n.g (.sl 1 3 0 n.len) p []).holds.useN [] [] rfl (by (repeat' first | exact trivial | exact rfl | exact ⟨rfl, rfl⟩ | exact .inl rfl | refine ⟨_, rfl, rfl, rfl, ?_⟩ | refine ⟨_, _, rfl, ?_, ?_⟩ | refine ⟨_, rfl, ?_⟩ | refine And.intro ?_ ?_)) (by (repeat' first | exact trivial | exact rfl | exact ⟨rfl, rfl⟩ | exact .inl rfl | refine ⟨_, rfl, rfl, rfl, ?_⟩ | refine ⟨_, _, rfl, ?_, ?_⟩ | refine ⟨_, rfl, ?_⟩ | refine And.intro ?_ ?_)) fun e0 H0 hq => ?_
    obtain ⟨rfl, rfl⟩ := hq
    refine ⟨rfl, ?_⟩
    exact ⟨[], [], [], placeX p, ⟨3, []⟩, rfl, ⟨_, rfl, _, _, rfl, rfl, rfl⟩, trivial, by rw [show nodeLn n w = none from (by rw [nodeLn, if_pos (.inr (.inl (by omega)))])]; exact ⟨rfl, rfl⟩⟩
  have h2 : ¬ ((w.map PV.str).length : Int) = 2 := h2
  rw [List.length_map] at h2
  have hw0 := hw _ (getD_memL [] (show 0 < w.length by omega))
  have hN := num_h' TLn n.g (.sl 1 3 0 n.len) p [] (self_sl (by omega)) (w.getD 0 []) hw0
  (first | refine brLt (fun h3 => ?_) (fun h3 => ?_) | refine brLe (fun h3 => ?_) (fun h3 => ?_) | refine brEq (fun h3 => ?_) (fun h3 => ?_))
  · have h3 : (2 : Int) < ((w.map PV.str).length : Nat) := h3
    rw [List.length_map] at h3
    refine ⟨_, ⟨by omega, .str (w.getD 1 []), tcell (by omega), rfl⟩, ?_⟩
    (first | refine brLt (fun h4 => ?_) (fun h4 => ?_) | refine brLe (fun h4 => ?_) (fun h4 => ?_) | refine brEq (fun h4 => ?_) (fun h4 => ?_))
    rotate_left
    · have h4 : ¬ w.getD 1 [] = kFrom := h4
      refine (fail_h TLn n.g (.sl 1 3 0 n.len) p []).holds.useN [] [] rfl (by (repeat' first | exact trivial | exact rfl | exact ⟨rfl, rfl⟩ | exact .inl rfl | refine ⟨_, rfl, rfl, rfl, ?_⟩ | refine ⟨_, _, rfl, ?_, ?_⟩ | refine ⟨_, rfl, ?_⟩ | refine And.intro ?_ ?_)) (by (repeat' first | exact trivial | exact rfl | exact ⟨rfl, rfl⟩ | exact .inl rfl | refine ⟨_, rfl, rfl, rfl, ?_⟩ | refine ⟨_, _, rfl, ?_, ?_⟩ | refine ⟨_, rfl, ?_⟩ | refine And.intro ?_ ?_)) fun e0 H0 hq => ?_
      obtain ⟨rfl, rfl⟩ := hq
      refine ⟨rfl, ?_⟩
      exact ⟨[], [], [], placeX p, ⟨3, []⟩, rfl, ⟨_, rfl, _, _, rfl, rfl, rfl⟩, trivial, by rw [show nodeLn n w = none from (by rw [nodeLn, if_pos (.inr (.inr ⟨by omega, h4⟩))])]; exact ⟨rfl, rfl⟩⟩
    have h4 : w.getD 1 [] = kFrom := h4
    have hc : ¬ (w.length = 0 ∨ w.length = 2 ∨ (2 < w.length ∧ ¬ w.getD 1 [] = kFrom)) := by
      rintro (h | h | ⟨_, h⟩)
      · omega
      · omega
      · exact h h4
    by_cases hb : numB (w.getD 0 []) = true
    · refine VDraw.altTo [(0, .ptr 0 0 0), (1, .p (strs w)), (4, .ptr 3 0 0)] ⟨4, [(3, nd0O (valN (w.getD 0 []))), (2, rO (lastR n.last)), (1, mO (n.rows 2)), (0, cmO TLn n.g (.sl 1 3 0 n.len) p [])]⟩ rfl ?_ ?_
      · refine ⟨_, ⟨by omega, .str (w.getD 0 []), tcell (by omega), rfl⟩, ?_⟩
        refine And.intro ?_ ?_
        · refine hN.holds.useN [] [] rfl (by (repeat' first | exact trivial | exact rfl | exact ⟨rfl, rfl⟩ | exact .inl rfl | refine ⟨_, rfl, rfl, rfl, ?_⟩ | refine ⟨_, _, rfl, ?_, ?_⟩ | refine ⟨_, rfl, ?_⟩ | refine And.intro ?_ ?_)) (by (repeat' first | exact trivial | exact rfl | exact ⟨rfl, rfl⟩ | exact .inl rfl | refine ⟨_, rfl, rfl, rfl, ?_⟩ | refine ⟨_, _, rfl, ?_, ?_⟩ | refine ⟨_, rfl, ?_⟩ | refine And.intro ?_ ?_)) fun e0 H0 hq => ?_
          obtain ⟨rfl, hq⟩ := hq
          rw [if_pos hb] at hq
          subst hq
          refine ⟨rfl, ?_⟩
          refine ⟨by (repeat' first | exact trivial | exact rfl | exact ⟨rfl, rfl⟩ | exact .inl rfl | refine ⟨_, rfl, rfl, rfl, ?_⟩ | refine ⟨_, _, rfl, ?_, ?_⟩ | refine ⟨_, rfl, ?_⟩ | refine And.intro ?_ ?_), ?_⟩
          exact ent_of [] [] [] rfl (by (repeat' first | exact trivial | exact rfl | exact ⟨rfl, rfl⟩ | exact .inl rfl | refine ⟨_, rfl, rfl, rfl, ?_⟩ | refine ⟨_, _, rfl, ?_, ?_⟩ | refine ⟨_, rfl, ?_⟩ | refine And.intro ?_ ?_)) ⟨⟨_, rfl, rfl, rfl, _, rfl, by (repeat' first | exact trivial | exact rfl | exact ⟨rfl, rfl⟩ | exact .inl rfl | refine ⟨_, rfl, rfl, rfl, ?_⟩ | refine ⟨_, _, rfl, ?_, ?_⟩ | refine ⟨_, rfl, ?_⟩ | refine And.intro ?_ ?_)⟩, ⟨_, rfl, rfl, rfl, rfl⟩, ⟨_, rfl, rfl, rfl, _, rfl, seeLL_self n 2 2 rfl⟩, ⟨_, rfl, rfl, rfl, _, rfl, by (repeat' first | exact trivial | exact rfl | exact ⟨rfl, rfl⟩ | exact .inl rfl | refine ⟨_, rfl, rfl, rfl, ?_⟩ | refine ⟨_, _, rfl, ?_, ?_⟩ | refine ⟨_, rfl, ?_⟩ | refine And.intro ?_ ?_)⟩, trivial⟩ rfl
        · refine ⟨by (repeat' first | exact trivial | exact rfl | exact ⟨rfl, rfl⟩ | exact .inl rfl | refine ⟨_, rfl, rfl, rfl, ?_⟩ | refine ⟨_, _, rfl, ?_, ?_⟩ | refine ⟨_, rfl, ?_⟩ | refine And.intro ?_ ?_), ?_⟩
          refine hN.holds.useN [] [] rfl (by (repeat' first | exact trivial | exact rfl | exact ⟨rfl, rfl⟩ | exact .inl rfl | refine ⟨_, rfl, rfl, rfl, ?_⟩ | refine ⟨_, _, rfl, ?_, ?_⟩ | refine ⟨_, rfl, ?_⟩ | refine And.intro ?_ ?_)) (by (repeat' first | exact trivial | exact rfl | exact ⟨rfl, rfl⟩ | exact .inl rfl | refine ⟨_, rfl, rfl, rfl, ?_⟩ | refine ⟨_, _, rfl, ?_, ?_⟩ | refine ⟨_, rfl, ?_⟩ | refine And.intro ?_ ?_)) fun e0 H0 hq => ?_
          obtain ⟨rfl, hq⟩ := hq
          rw [if_pos hb] at hq
          subst hq
          refine ⟨rfl, ?_⟩
          exact ent_of [] [] [] rfl (by (repeat' first | exact trivial | exact rfl | exact ⟨rfl, rfl⟩ | exact .inl rfl | refine ⟨_, rfl, rfl, rfl, ?_⟩ | refine ⟨_, _, rfl, ?_, ?_⟩ | refine ⟨_, rfl, ?_⟩ | refine And.intro ?_ ?_)) ⟨⟨_, rfl, rfl, rfl, _, rfl, by (repeat' first | exact trivial | exact rfl | exact ⟨rfl, rfl⟩ | exact .inl rfl | refine ⟨_, rfl, rfl, rfl, ?_⟩ | refine ⟨_, _, rfl, ?_, ?_⟩ | refine ⟨_, rfl, ?_⟩ | refine And.intro ?_ ?_)⟩, ⟨_, rfl, rfl, rfl, rfl⟩, ⟨_, rfl, rfl, rfl, _, rfl, seeLL_self n 2 2 rfl⟩, ⟨_, rfl, rfl, rfl, _, rfl, by (repeat' first | exact trivial | exact rfl | exact ⟨rfl, rfl⟩ | exact .inl rfl | refine ⟨_, rfl, rfl, rfl, ?_⟩ | refine ⟨_, _, rfl, ?_, ?_⟩ | refine ⟨_, rfl, ?_⟩ | refine And.intro ?_ ?_)⟩, trivial⟩ rfl
      (first | refine brLt (fun h5 => ?_) (fun h5 => ?_) | refine brLe (fun h5 => ?_) (fun h5 => ?_) | refine brEq (fun h5 => ?_) (fun h5 => ?_))
      rotate_left
      · have h5 : ¬ (2 : Int) < ((w.map PV.str).length : Nat) := h5
        rw [List.length_map] at h5
        omega
      refine ⟨by show (0 : Int) ≤ 2 ∧ (2 : Int) ≤ ((w.map PV.str).length : Nat); rw [List.length_map]; omega, ?_⟩
      have hA := numbers_p n.g n.len p (w.drop 2) (by rw [List.length_drop]; omega) (fun v hv => hw v (List.mem_of_mem_drop hv))
      refine hA.holds.useN [] [] rfl (by (repeat' first | exact trivial | exact rfl | exact ⟨rfl, rfl⟩ | exact .inl rfl | refine ⟨_, rfl, rfl, rfl, ?_⟩ | refine ⟨_, _, rfl, ?_, ?_⟩ | refine ⟨_, rfl, ?_⟩ | refine And.intro ?_ ?_)) ⟨_, _, rfl, ⟨rfl, rfl⟩, _, _, rfl, (by show PV.lst ((w.drop 2).map PV.str) = PV.lst ((w.map PV.str).drop 2); rw [List.map_drop]), rfl⟩ fun e0 H0 hq => ?_
      rw [numsQ] at hq
      by_cases ha : allB (w.drop 2) = true
      · rw [if_pos ha] at hq
        obtain ⟨rfl, rfl⟩ := hq
        refine ⟨rfl, ?_⟩
        have hS : nodeLn n w = some ⟨n.g, n.init ++ n.last.toList, some ⟨valN (w.getD 0 []), (w.drop 2).map valN, []⟩⟩ := by rw [nodeLn, if_neg hc, if_pos hb, if_pos (by omega), if_pos ha]
        have hlen := hlen ⟨valN (w.getD 0 []), (w.drop 2).map valN, []⟩
        refine VDraw.seq rfl ?_
        refine ⟨by (repeat' first | exact trivial | exact rfl | exact ⟨rfl, rfl⟩ | exact .inl rfl | refine ⟨_, rfl, rfl, rfl, ?_⟩ | refine ⟨_, _, rfl, ?_, ?_⟩ | refine ⟨_, rfl, ?_⟩ | refine And.intro ?_ ?_), ?_⟩
        refine ⟨by show 0 + 1 ≤ 1; omega, [[i64 (valN (w.getD 0 [])), (ints ((w.drop 2).map valN)), .nils]], rfl, ?_⟩
        refine ⟨by show 0 + n.len ≤ (n.rows 2).length; omega, n.rows 2, takeAll hrows, by show (n.len + 1) * 56 ≤ 140737488355328; omega, n.rows 2 ++ mapsP [[i64 (valN (w.getD 0 [])), (ints ((w.drop 2).map valN)), .nils]], rfl, ?_⟩
        refine ⟨[2], [(3, 5)], [(4, 1)], .returned und, Ns.heapL ⟨n.g, n.init ++ n.last.toList, some ⟨(valN (w.getD 0 [])), ((w.drop 2).map valN), []⟩⟩ p 3 4, rfl, by (repeat' first | exact trivial | exact rfl | exact ⟨rfl, rfl⟩ | exact .inl rfl | refine ⟨_, rfl, rfl, rfl, ?_⟩ | refine ⟨_, _, rfl, ?_, ?_⟩ | refine ⟨_, rfl, ?_⟩ | refine And.intro ?_ ?_), ⟨⟨rfl, rfl, rfl⟩, ⟨_, rfl, rfl, rfl, _, rfl, ?_⟩, ⟨_, rfl, rfl, rfl, _, rfl, ⟨_, _, rfl, rfl, _, _, rfl, ?_, _, _, rfl, rfl, rfl⟩⟩, trivial⟩, ?_⟩
        · refine seeLL_app (rows_freeze n 2 rfl) ⟨_, _, rfl, ⟨_, _, rfl, rfl, _, _, rfl, rfl, _, _, rfl, ⟨rfl, rfl, rfl, rfl⟩, rfl⟩, rfl⟩
        · refine congrArg (fun m => AV.sl 5 3 0 m) ?_
          exact hlen.symm
        · rw [show nodeLn n w = some ⟨n.g, n.init ++ n.last.toList, some ⟨(valN (w.getD 0 [])), ((w.drop 2).map valN), []⟩⟩ from hS]
          exact ⟨rfl, rfl⟩
      · rw [if_neg ha] at hq
        obtain ⟨rfl, rfl⟩ := hq
        refine ⟨rfl, ?_⟩
        exact ⟨[], [], [], placeX p, ⟨3, []⟩, rfl, ⟨_, rfl, _, _, rfl, rfl, rfl⟩, trivial, by rw [show nodeLn n w = none from (by rw [nodeLn, if_neg hc, if_pos hb, if_pos (by omega), if_neg ha])]; exact ⟨rfl, rfl⟩⟩
    · refine vdraw_alt rfl ?_
      · refine ⟨_, ⟨by omega, .str (w.getD 0 []), tcell (by omega), rfl⟩, ?_⟩
        refine And.intro ?_ ?_
        · refine hN.holds.useN [] [] rfl (by (repeat' first | exact trivial | exact rfl | exact ⟨rfl, rfl⟩ | exact .inl rfl | refine ⟨_, rfl, rfl, rfl, ?_⟩ | refine ⟨_, _, rfl, ?_, ?_⟩ | refine ⟨_, rfl, ?_⟩ | refine And.intro ?_ ?_)) (by (repeat' first | exact trivial | exact rfl | exact ⟨rfl, rfl⟩ | exact .inl rfl | refine ⟨_, rfl, rfl, rfl, ?_⟩ | refine ⟨_, _, rfl, ?_, ?_⟩ | refine ⟨_, rfl, ?_⟩ | refine And.intro ?_ ?_)) fun e0 H0 hq => ?_
          obtain ⟨rfl, hq⟩ := hq
          rw [if_neg hb] at hq
          subst hq
          refine ⟨rfl, ?_⟩
          exact ⟨[], [], [], placeX p, ⟨3, []⟩, rfl, ⟨_, rfl, _, _, rfl, rfl, rfl⟩, trivial, by rw [show nodeLn n w = none from (by rw [nodeLn, if_neg hc, if_neg hb])]; exact ⟨rfl, rfl⟩⟩
        · refine ⟨by (repeat' first | exact trivial | exact rfl | exact ⟨rfl, rfl⟩ | exact .inl rfl | refine ⟨_, rfl, rfl, rfl, ?_⟩ | refine ⟨_, _, rfl, ?_, ?_⟩ | refine ⟨_, rfl, ?_⟩ | refine And.intro ?_ ?_), ?_⟩
          refine hN.holds.useN [] [] rfl (by (repeat' first | exact trivial | exact rfl | exact ⟨rfl, rfl⟩ | exact .inl rfl | refine ⟨_, rfl, rfl, rfl, ?_⟩ | refine ⟨_, _, rfl, ?_, ?_⟩ | refine ⟨_, rfl, ?_⟩ | refine And.intro ?_ ?_)) (by (repeat' first | exact trivial | exact rfl | exact ⟨rfl, rfl⟩ | exact .inl rfl | refine ⟨_, rfl, rfl, rfl, ?_⟩ | refine ⟨_, _, rfl, ?_, ?_⟩ | refine ⟨_, rfl, ?_⟩ | refine And.intro ?_ ?_)) fun e0 H0 hq => ?_
          obtain ⟨rfl, hq⟩ := hq
          rw [if_neg hb] at hq
          subst hq
          refine ⟨rfl, ?_⟩
          exact ⟨[], [], [], placeX p, ⟨3, []⟩, rfl, ⟨_, rfl, _, _, rfl, rfl, rfl⟩, trivial, by rw [show nodeLn n w = none from (by rw [nodeLn, if_neg hc, if_neg hb])]; exact ⟨rfl, rfl⟩⟩
  have h3 : ¬ (2 : Int) < ((w.map PV.str).length : Nat) := h3
  rw [List.length_map] at h3
  have hc : ¬ (w.length = 0 ∨ w.length = 2 ∨ (2 < w.length ∧ ¬ w.getD 1 [] = kFrom)) := by
    rintro (h | h | ⟨h, _⟩) <;> omega
  by_cases hb : numB (w.getD 0 []) = true
  · refine VDraw.altTo [(0, .ptr 0 0 0), (1, .p (strs w)), (4, .ptr 3 0 0)] ⟨4, [(3, nd0O (valN (w.getD 0 []))), (2, rO (lastR n.last)), (1, mO (n.rows 2)), (0, cmO TLn n.g (.sl 1 3 0 n.len) p [])]⟩ rfl ?_ ?_
    · refine ⟨_, ⟨by omega, .str (w.getD 0 []), tcell (by omega), rfl⟩, ?_⟩
      refine And.intro ?_ ?_
      · refine hN.holds.useN [] [] rfl (by (repeat' first | exact trivial | exact rfl | exact ⟨rfl, rfl⟩ | exact .inl rfl | refine ⟨_, rfl, rfl, rfl, ?_⟩ | refine ⟨_, _, rfl, ?_, ?_⟩ | refine ⟨_, rfl, ?_⟩ | refine And.intro ?_ ?_)) (by (repeat' first | exact trivial | exact rfl | exact ⟨rfl, rfl⟩ | exact .inl rfl | refine ⟨_, rfl, rfl, rfl, ?_⟩ | refine ⟨_, _, rfl, ?_, ?_⟩ | refine ⟨_, rfl, ?_⟩ | refine And.intro ?_ ?_)) fun e0 H0 hq => ?_
        obtain ⟨rfl, hq⟩ := hq
        rw [if_pos hb] at hq
        subst hq
        refine ⟨rfl, ?_⟩
        refine ⟨by (repeat' first | exact trivial | exact rfl | exact ⟨rfl, rfl⟩ | exact .inl rfl | refine ⟨_, rfl, rfl, rfl, ?_⟩ | refine ⟨_, _, rfl, ?_, ?_⟩ | refine ⟨_, rfl, ?_⟩ | refine And.intro ?_ ?_), ?_⟩
        exact ent_of [] [] [] rfl (by (repeat' first | exact trivial | exact rfl | exact ⟨rfl, rfl⟩ | exact .inl rfl | refine ⟨_, rfl, rfl, rfl, ?_⟩ | refine ⟨_, _, rfl, ?_, ?_⟩ | refine ⟨_, rfl, ?_⟩ | refine And.intro ?_ ?_)) ⟨⟨_, rfl, rfl, rfl, _, rfl, by (repeat' first | exact trivial | exact rfl | exact ⟨rfl, rfl⟩ | exact .inl rfl | refine ⟨_, rfl, rfl, rfl, ?_⟩ | refine ⟨_, _, rfl, ?_, ?_⟩ | refine ⟨_, rfl, ?_⟩ | refine And.intro ?_ ?_)⟩, ⟨_, rfl, rfl, rfl, rfl⟩, ⟨_, rfl, rfl, rfl, _, rfl, seeLL_self n 2 2 rfl⟩, ⟨_, rfl, rfl, rfl, _, rfl, by (repeat' first | exact trivial | exact rfl | exact ⟨rfl, rfl⟩ | exact .inl rfl | refine ⟨_, rfl, rfl, rfl, ?_⟩ | refine ⟨_, _, rfl, ?_, ?_⟩ | refine ⟨_, rfl, ?_⟩ | refine And.intro ?_ ?_)⟩, trivial⟩ rfl
      · refine ⟨by (repeat' first | exact trivial | exact rfl | exact ⟨rfl, rfl⟩ | exact .inl rfl | refine ⟨_, rfl, rfl, rfl, ?_⟩ | refine ⟨_, _, rfl, ?_, ?_⟩ | refine ⟨_, rfl, ?_⟩ | refine And.intro ?_ ?_), ?_⟩
        refine hN.holds.useN [] [] rfl (by (repeat' first | exact trivial | exact rfl | exact ⟨rfl, rfl⟩ | exact .inl rfl | refine ⟨_, rfl, rfl, rfl, ?_⟩ | refine ⟨_, _, rfl, ?_, ?_⟩ | refine ⟨_, rfl, ?_⟩ | refine And.intro ?_ ?_)) (by (repeat' first | exact trivial | exact rfl | exact ⟨rfl, rfl⟩ | exact .inl rfl | refine ⟨_, rfl, rfl, rfl, ?_⟩ | refine ⟨_, _, rfl, ?_, ?_⟩ | refine ⟨_, rfl, ?_⟩ | refine And.intro ?_ ?_)) fun e0 H0 hq => ?_
        obtain ⟨rfl, hq⟩ := hq
        rw [if_pos hb] at hq
        subst hq
        refine ⟨rfl, ?_⟩
        exact ent_of [] [] [] rfl (by (repeat' first | exact trivial | exact rfl | exact ⟨rfl, rfl⟩ | exact .inl rfl | refine ⟨_, rfl, rfl, rfl, ?_⟩ | refine ⟨_, _, rfl, ?_, ?_⟩ | refine ⟨_, rfl, ?_⟩ | refine And.intro ?_ ?_)) ⟨⟨_, rfl, rfl, rfl, _, rfl, by (repeat' first | exact trivial | exact rfl | exact ⟨rfl, rfl⟩ | exact .inl rfl | refine ⟨_, rfl, rfl, rfl, ?_⟩ | refine ⟨_, _, rfl, ?_, ?_⟩ | refine ⟨_, rfl, ?_⟩ | refine And.intro ?_ ?_)⟩, ⟨_, rfl, rfl, rfl, rfl⟩, ⟨_, rfl, rfl, rfl, _, rfl, seeLL_self n 2 2 rfl⟩, ⟨_, rfl, rfl, rfl, _, rfl, by (repeat' first | exact trivial | exact rfl | exact ⟨rfl, rfl⟩ | exact .inl rfl | refine ⟨_, rfl, rfl, rfl, ?_⟩ | refine ⟨_, _, rfl, ?_, ?_⟩ | refine ⟨_, rfl, ?_⟩ | refine And.intro ?_ ?_)⟩, trivial⟩ rfl
    (first | refine brLt (fun h5 => ?_) (fun h5 => ?_) | refine brLe (fun h5 => ?_) (fun h5 => ?_) | refine brEq (fun h5 => ?_) (fun h5 => ?_))
    · have h5 : (2 : Int) < ((w.map PV.str).length : Nat) := h5
      rw [List.length_map] at h5
      omega
    have hS : nodeLn n w = some ⟨n.g, n.init ++ n.last.toList, some ⟨valN (w.getD 0 []), [], []⟩⟩ := by rw [nodeLn, if_neg hc, if_pos hb, if_neg (by omega)]
    have hlen := hlen ⟨valN (w.getD 0 []), [], []⟩
    refine VDraw.seq rfl ?_
    refine ⟨by (repeat' first | exact trivial | exact rfl | exact ⟨rfl, rfl⟩ | exact .inl rfl | refine ⟨_, rfl, rfl, rfl, ?_⟩ | refine ⟨_, _, rfl, ?_, ?_⟩ | refine ⟨_, rfl, ?_⟩ | refine And.intro ?_ ?_), ?_⟩
    refine ⟨by show 0 + 1 ≤ 1; omega, [[i64 (valN (w.getD 0 [])), .nils, .nils]], rfl, ?_⟩
    refine ⟨by show 0 + n.len ≤ (n.rows 2).length; omega, n.rows 2, takeAll hrows, by show (n.len + 1) * 56 ≤ 140737488355328; omega, n.rows 2 ++ mapsP [[i64 (valN (w.getD 0 [])), .nils, .nils]], rfl, ?_⟩
    refine ⟨[2], [(3, 5)], [(4, 1)], .returned und, Ns.heapL ⟨n.g, n.init ++ n.last.toList, some ⟨(valN (w.getD 0 [])), [], []⟩⟩ p 3 4, rfl, by (repeat' first | exact trivial | exact rfl | exact ⟨rfl, rfl⟩ | exact .inl rfl | refine ⟨_, rfl, rfl, rfl, ?_⟩ | refine ⟨_, _, rfl, ?_, ?_⟩ | refine ⟨_, rfl, ?_⟩ | refine And.intro ?_ ?_), ⟨⟨rfl, rfl, rfl⟩, ⟨_, rfl, rfl, rfl, _, rfl, ?_⟩, ⟨_, rfl, rfl, rfl, _, rfl, ⟨_, _, rfl, rfl, _, _, rfl, ?_, _, _, rfl, rfl, rfl⟩⟩, trivial⟩, ?_⟩
    · refine seeLL_app (rows_freeze n 2 rfl) ⟨_, _, rfl, ⟨_, _, rfl, rfl, _, _, rfl, (.inr (.inl rfl)), _, _, rfl, ⟨rfl, rfl, rfl, rfl⟩, rfl⟩, rfl⟩
    · refine congrArg (fun m => AV.sl 5 3 0 m) ?_
      exact hlen.symm
    · rw [show nodeLn n w = some ⟨n.g, n.init ++ n.last.toList, some ⟨(valN (w.getD 0 [])), [], []⟩⟩ from hS]
      exact ⟨rfl, rfl⟩
  · refine vdraw_alt rfl ?_
    · refine ⟨_, ⟨by omega, .str (w.getD 0 []), tcell (by omega), rfl⟩, ?_⟩
      refine And.intro ?_ ?_
      · refine hN.holds.useN [] [] rfl (by (repeat' first | exact trivial | exact rfl | exact ⟨rfl, rfl⟩ | exact .inl rfl | refine ⟨_, rfl, rfl, rfl, ?_⟩ | refine ⟨_, _, rfl, ?_, ?_⟩ | refine ⟨_, rfl, ?_⟩ | refine And.intro ?_ ?_)) (by (repeat' first | exact trivial | exact rfl | exact ⟨rfl, rfl⟩ | exact .inl rfl | refine ⟨_, rfl, rfl, rfl, ?_⟩ | refine ⟨_, _, rfl, ?_, ?_⟩ | refine ⟨_, rfl, ?_⟩ | refine And.intro ?_ ?_)) fun e0 H0 hq => ?_
        obtain ⟨rfl, hq⟩ := hq
        rw [if_neg hb] at hq
        subst hq
        refine ⟨rfl, ?_⟩
        exact ⟨[], [], [], placeX p, ⟨3, []⟩, rfl, ⟨_, rfl, _, _, rfl, rfl, rfl⟩, trivial, by rw [show nodeLn n w = none from (by rw [nodeLn, if_neg hc, if_neg hb])]; exact ⟨rfl, rfl⟩⟩
      · refine ⟨by (repeat' first | exact trivial | exact rfl | exact ⟨rfl, rfl⟩ | exact .inl rfl | refine ⟨_, rfl, rfl, rfl, ?_⟩ | refine ⟨_, _, rfl, ?_, ?_⟩ | refine ⟨_, rfl, ?_⟩ | refine And.intro ?_ ?_), ?_⟩
        refine hN.holds.useN [] [] rfl (by (repeat' first | exact trivial | exact rfl | exact ⟨rfl, rfl⟩ | exact .inl rfl | refine ⟨_, rfl, rfl, rfl, ?_⟩ | refine ⟨_, _, rfl, ?_, ?_⟩ | refine ⟨_, rfl, ?_⟩ | refine And.intro ?_ ?_)) (by (repeat' first | exact trivial | exact rfl | exact ⟨rfl, rfl⟩ | exact .inl rfl | refine ⟨_, rfl, rfl, rfl, ?_⟩ | refine ⟨_, _, rfl, ?_, ?_⟩ | refine ⟨_, rfl, ?_⟩ | refine And.intro ?_ ?_)) fun e0 H0 hq => ?_
        obtain ⟨rfl, hq⟩ := hq
        rw [if_neg hb] at hq
        subst hq
        refine ⟨rfl, ?_⟩
        exact ⟨[], [], [], placeX p, ⟨3, []⟩, rfl, ⟨_, rfl, _, _, rfl, rfl, rfl⟩, trivial, by rw [show nodeLn n w = none from (by rw [nodeLn, if_neg hc, if_neg hb])]; exact ⟨rfl, rfl⟩⟩
end Go.Proofs.YtphmmoloegjocaaGreatDoor

/- The program's line reader: last; the plain step. -/
namespace Go.Proofs.YtphmmoloegjocaaGreatDoor
open Go Y
set_option maxRecDepth 100000
set_option maxHeartbeats 40000000

theorem step_node (n : Ns) (w : List (List UInt8)) : nodeLn n w = stepN false n (kNode :: w) := by
  rw [nodeLn, stepN, if_neg (by decide : ¬ (false = true))]
  rw [if_pos (show (kNode :: w).getD 0 [] = kNode from rfl)]
  have e1 : (kNode :: w).getD 1 [] = w.getD 0 [] := rfl
  have e2 : (kNode :: w).getD 2 [] = w.getD 1 [] := rfl
  have e3 : (kNode :: w).drop 3 = w.drop 2 := rfl
  have e4 : (kNode :: w).length = w.length + 1 := rfl
  rw [e1, e2, e3, e4]
  by_cases hb : numB (w.getD 0 []) = true
  · by_cases h0 : w.length = 0
    · rw [if_pos (.inl h0), if_neg (by omega)]
    · rw [if_pos (show 2 ≤ w.length + 1 ∧ numB (w.getD 0 []) = true from ⟨by omega, hb⟩)]
      by_cases h1 : w.length = 1
      · rw [if_neg (by omega), if_pos hb, if_neg (by omega), if_pos (by omega)]
      · rw [if_neg (show ¬ w.length + 1 = 2 by omega)]
        by_cases h2 : w.length = 2
        · rw [if_pos (.inr (.inl h2)), if_neg (by omega)]
        · by_cases h3 : w.getD 1 [] = kFrom
          · rw [if_neg (by rintro (h | h | ⟨_, h⟩); exact h0 h; exact h2 h; exact h h3), if_pos hb, if_pos (by omega)]
            by_cases ha : allB (w.drop 2) = true
            · rw [if_pos ha, if_pos ⟨ha, by omega, h3⟩]
            · rw [if_neg ha, if_neg (fun h => ha h.1)]
          · rw [if_pos (.inr (.inr ⟨by omega, h3⟩)), if_neg (fun h => h3 h.2.2)]
  · rw [if_neg (show ¬ (2 ≤ w.length + 1 ∧ numB (w.getD 0 []) = true) from fun h => hb h.2)]
    split <;> rfl

theorem last_l (n : Ns) (p : Nat) (h0 : 0 < n.len) (hn : n.len ≤ 100000) : HoldsG cx 159 [.ptr 0 0 0] (n.heapL p 1 2) fun e H' => e = .returned (.ptr 1 (n.len - 1) 0) ∧ H' = n.heapL p 1 2 := by
  refine holdsN_of_vc Tryz.func159 rfl rfl rfl ?_
  refine VDraw.seq rfl ?_
  refine ⟨((n.len - 1 : Nat) : Int), by show _ = IntKind.i64.wrap (((n.len : Nat) : Int) - 1); rw [show ((n.len : Nat) : Int) - 1 = ((n.len - 1 : Nat) : Int) by omega]; exact wrap_i64 (by omega) (by omega), ?_⟩
  refine ⟨by show (0 : Int) ≤ ((n.len - 1 : Nat) : Int) ∧ ((n.len - 1 : Nat) : Int) < (n.len : Nat); omega, ?_⟩
  refine ⟨[], [], [], .returned (.ptr 1 (n.len - 1) 0), n.heapL p 1 2, rfl, ⟨_, rfl, ?_⟩, ⟨⟨_, rfl, rfl, rfl, rfl⟩, ⟨_, rfl, rfl, rfl, _, rfl, seeLL_self n 2 2 rfl⟩, ⟨_, rfl, rfl, rfl, _, rfl, by (repeat' first | exact trivial | exact rfl | exact ⟨rfl, rfl⟩ | exact .inl rfl | refine ⟨_, rfl, rfl, rfl, ?_⟩ | refine ⟨_, _, rfl, ?_, ?_⟩ | refine ⟨_, rfl, ?_⟩ | refine And.intro ?_ ?_)⟩, trivial⟩, rfl, rfl⟩
  refine ⟨rfl, ?_⟩
  show AV.ptr 1 (0 + ((n.len - 1 : Nat) : Int).toNat) 0 = AV.ptr 1 (n.len - 1) 0
  rw [Nat.zero_add, Int.toNat_natCast]
end Go.Proofs.YtphmmoloegjocaaGreatDoor

/- The program's lines: strings.Cut. -/
namespace Go.Proofs.YtphmmoloegjocaaGreatDoor
open Go Y
set_option maxRecDepth 100000
set_option maxHeartbeats 4000000

/-! ### Cut -/
def cutV (c : UInt8) (s : List UInt8) : List PV := if c ∈ s then [.str (s.take (ahead c s)), .str (s.drop (ahead c s + 1)), .bool true] else [.str s, .str [], .bool false]
theorem end3' {Q : PEnd → Prop} {H' : Hp} (a b c : PV) (hm : marksOK H'.l (fsOf H'.l) = true) (hq : Q (.ret [a, b, c])) : EndP Q (.returned (.tup [.p a, .p b, .p c])) H' :=
  ⟨.ret [a, b, c], ⟨hm, _, rfl, _, _, rfl, res_p _ a, _, _, rfl, res_p _ b, _, _, rfl, res_p _ c, rfl⟩, hq⟩
theorem cutI_c (s : List UInt8) (c : UInt8) (hs : s.length ≤ 1000000) : Pure cx 163 [.str s, .str [c]] (· = .ret (cutV c s)) := by
  refine pure_of_vc Tryz.func163 rfl rfl rfl ?_
  have hI := index1_c s c
  by_cases hc : c ∈ s
  · rw [index_ahead.1 hc] at hI
    have ha := (ahead_split hc).2.2
    refine hI.eq rfl ?_
    (first | refine brLt (fun h1 => ?_) (fun h1 => ?_) | refine brLe (fun h1 => ?_) (fun h1 => ?_) | refine brEq (fun h1 => ?_) (fun h1 => ?_))
    · refine VDraw.seq rfl ?_
      refine ⟨by show (0 : Int) ≤ (ahead c s : Nat) ∧ ((ahead c s : Nat) : Int) ≤ (s.length : Nat); omega, ?_⟩
      refine ⟨((ahead c s + 1 : Nat) : Int), by rw [Int.natCast_add]; exact wrap_i64 (by omega) (by omega), ?_⟩
      refine ⟨by show (0 : Int) ≤ (ahead c s + 1 : Nat) ∧ ((ahead c s + 1 : Nat) : Int) ≤ (s.length : Nat); omega, ?_⟩
      exact end3' _ _ _ rfl (by rw [cutV, if_pos hc]; rfl)
    · omega
  · rw [index_ahead.2 hc] at hI
    refine hI.eq rfl ?_
    (first | refine brLt (fun h1 => ?_) (fun h1 => ?_) | refine brLe (fun h1 => ?_) (fun h1 => ?_) | refine brEq (fun h1 => ?_) (fun h1 => ?_))
    · omega
    · exact end3' _ _ _ rfl (by rw [cutV, if_neg hc])
theorem cut_c (s : List UInt8) (c : UInt8) (hs : s.length ≤ 1000000) : Pure cx 162 [.str s, .str [c]] (· = .ret (cutV c s)) := by
  refine pure_of_vc Tryz.func162 rfl rfl rfl ?_
  have hI := cutI_c s c hs
  by_cases hc : c ∈ s
  · rw [cutV, if_pos hc] at hI ⊢
    exact hI.eq rfl (end3' _ _ _ rfl rfl)
  · rw [cutV, if_neg hc] at hI ⊢
    exact hI.eq rfl (end3' _ _ _ rfl rfl)

theorem lines_in : ∀ {s : List UInt8} (w : List UInt8), 10 ∈ s → linesA w s = (w ++ s.take (ahead 10 s)) :: linesA [] (s.drop (ahead 10 s + 1))
  | [], _, h => by simp at h
  | b :: r, w, h => by
    rw [linesA]
    by_cases hb : b = 10
    · rw [if_pos hb, ahead, if_pos hb]; simp
    · have hr : 10 ∈ r := by
        rcases List.mem_cons.1 h with h | h
        · exact absurd h.symm hb
        · exact h
      rw [if_neg hb, lines_in (w ++ [b]) hr, ahead, if_neg hb]
      simp
theorem lines_not : ∀ {s : List UInt8} (w : List UInt8), 10 ∉ s → linesA w s = if w ++ s = [] then [] else [w ++ s]
  | [], w, _ => by rw [linesA, List.append_nil]
  | b :: r, w, h => by
    simp only [List.mem_cons, not_or] at h
    rw [linesA, if_neg (fun e => h.1 e.symm), lines_not (w ++ [b]) h.2]
    simp
end Go.Proofs.YtphmmoloegjocaaGreatDoor

/- Plain: the fields at octet 32 are the words. -/
namespace Go.Proofs.YtphmmoloegjocaaGreatDoor
open Go Y
set_option maxRecDepth 100000
set_option maxHeartbeats 4000000

def is32 (r : Nat) : Bool := r == 32
theorem dec_yes (n b1 b2 b3 : Nat) : Lib.decodeN n 32 b1 b2 b3 = (32, 1) := by
  unfold Lib.decodeN
  rw [if_pos (by decide)]
theorem dec_not {n b0 b1 b2 b3 : Nat} (h : b0 ≠ 32) : (Lib.decodeN n b0 b1 b2 b3).1 ≠ 32 ∧ (1 < (Lib.decodeN n b0 b1 b2 b3).2 → b1 ≠ 32) ∧ (2 < (Lib.decodeN n b0 b1 b2 b3).2 → b2 ≠ 32) ∧ (3 < (Lib.decodeN n b0 b1 b2 b3).2 → b3 ≠ 32) ∧ (Lib.decodeN n b0 b1 b2 b3).2 ≤ 4 := by
  unfold Lib.decodeN
  repeat' split
  all_goals (simp only; omega)
theorem words_over : ∀ (p r w : List UInt8), (∀ b ∈ p, b ≠ 32) → wordsA w (p ++ r) = wordsA (w ++ p) r
  | [], r, w, _ => by rw [List.nil_append, List.append_nil]
  | b :: p, r, w, h => by
    rw [List.cons_append, wordsA, if_neg (h b (by simp)), words_over p r _ (fun c hc => h c (by simp [hc]))]
    simp
theorem at_drop {l : List UInt8} {p k : Nat} {b : UInt8} (h : b ∈ (l.drop p).take k) : ∃ j, j < k ∧ p + j < l.length ∧ b = l.getD (p + j) 0 := by
  obtain ⟨j, hj, rfl⟩ := List.getElem_of_mem h
  rw [List.length_take, List.length_drop] at hj
  refine ⟨j, by omega, by omega, ?_⟩
  rw [List.getElem_take, List.getElem_drop, List.getD_eq_getElem?_getD, List.getElem?_eq_getElem (by omega)]; rfl
theorem toNat_ne {b : UInt8} (h : b.toNat ≠ 32) : b ≠ 32 := fun e => h (by rw [e]; rfl)
theorem spans_words (s : ByteArray) : ∀ (f pos : Nat) (st : Option Nat) (acc : List (Nat × Nat)), s.size ≤ pos + f → pos ≤ s.size → (∀ a, st = some a → a < pos) →
    acc.map (fun p => Lib.pieceU s.data.toList p.1 p.2) ++ wordsA (Lib.openPiece s.data.toList st pos) (s.data.toList.drop pos) = (Lib.closeSpans s (Lib.spansFromP is32 s f pos st acc)).map (fun p => Lib.pieceU s.data.toList p.1 p.2)
  | 0, pos, st, acc, h, hp, hst => by
    obtain rfl : pos = s.size := by omega
    have hd : s.data.toList.drop s.size = [] := List.drop_eq_nil_of_le (by rw [← Lib.size_eq]; exact Nat.le_refl _)
    rw [hd, wordsA]
    cases st with
    | none => simp [Lib.spansFromP, Lib.closeSpans, Lib.openPiece]
    | some a =>
      have := Lib.pieceU_ne s.data.toList a s.size (hst a rfl) (by rw [← Lib.size_eq]; exact Nat.le_refl _)
      simp [Lib.spansFromP, Lib.closeSpans, Lib.openPiece, this]
  | f + 1, pos, st, acc, h, hp, hst => by
    by_cases hlt : pos < s.size
    · have hl : pos < s.data.toList.length := by rw [← Lib.size_eq]; exact hlt
      have hw := Lib.width_pos s pos
      have hwn : pos + (Utf8.decode s pos).2 ≤ s.size := by
        have := Lib.decodeN_le_n' (s.size - pos) (s.get! pos).toNat (s.get! (pos + 1)).toNat (s.get! (pos + 2)).toNat (s.get! (pos + 3)).toNat (by omega)
        rw [← Lib.decode_at] at this
        omega
      have hD := Lib.decode_N s pos
      by_cases hb : (s.data.toList.getD pos 0).toNat = 32
      · rw [hb, dec_yes] at hD
        have e1 : (Utf8.decode s pos).1 = 32 := by rw [hD]
        have e2 : (Utf8.decode s pos).2 = 1 := by rw [hD]
        have hb' : s.data.toList.getD pos 0 = 32 := UInt8.toNat_inj.1 hb
        rw [drop_cons 0 hl, hb', wordsA, if_pos rfl]
        simp only [Lib.spansFromP, if_pos hlt, e1, e2, is32]
        cases st with
        | none =>
          have ih := spans_words s f (pos + 1) none acc (by omega) (by omega) (fun a h => by cases h)
          simpa [Lib.openPiece] using ih
        | some a =>
          have hpn := Lib.pieceU_ne s.data.toList a pos (hst a rfl) (by omega)
          have ih := spans_words s f (pos + 1) none (acc ++ [(a, pos)]) (by omega) (by omega) (fun a h => by cases h)
          simpa [Lib.openPiece, hpn] using ih
      · have hn := dec_not (n := s.data.toList.length - pos) (b1 := (s.data.toList.getD (pos + 1) 0).toNat) (b2 := (s.data.toList.getD (pos + 2) 0).toNat) (b3 := (s.data.toList.getD (pos + 3) 0).toNat) hb
        rw [← hD] at hn
        obtain ⟨n1, n2, n3, n4, n5⟩ := hn
        obtain ⟨R, hR⟩ : ∃ R, (Utf8.decode s pos).1 = R := ⟨_, rfl⟩
        obtain ⟨W, hW⟩ : ∃ W, (Utf8.decode s pos).2 = W := ⟨_, rfl⟩
        rw [hW] at n2 n3 n4 n5 hw hwn
        rw [hR] at n1
        have hsp : is32 R = false := by rw [is32]; simpa using n1
        have hov : s.data.toList.drop pos = (s.data.toList.drop pos).take W ++ s.data.toList.drop (pos + W) := by rw [← List.drop_drop, List.take_append_drop]
        have hne : ∀ b ∈ (s.data.toList.drop pos).take W, b ≠ 32 := by
          intro b hm
          obtain ⟨j, hj, _, rfl⟩ := at_drop hm
          have : j = 0 ∨ j = 1 ∨ j = 2 ∨ j = 3 := by omega
          rcases this with rfl | rfl | rfl | rfl
          · exact toNat_ne hb
          · exact toNat_ne (n2 hj)
          · exact toNat_ne (n3 hj)
          · exact toNat_ne (n4 hj)
        rw [hov, words_over _ _ _ hne]
        simp only [Lib.spansFromP, if_pos hlt, hR, hW, hsp, Bool.false_eq_true, if_false]
        cases st with
        | none =>
          have ih := spans_words s f (pos + W) (some pos) acc (by omega) hwn (fun a h => by cases h; omega)
          have e : ([] : List UInt8) ++ (s.data.toList.drop pos).take W = Lib.pieceU s.data.toList pos (pos + W) := by
            unfold Lib.pieceU
            rw [List.nil_append, Nat.add_sub_cancel_left]
          simp only [Lib.openPiece] at ih ⊢
          rw [e]
          exact ih
        | some a =>
          have ih := spans_words s f (pos + W) (some a) acc (by omega) hwn (fun b h => by cases h; have := hst a rfl; omega)
          simp only [Lib.openPiece] at ih ⊢
          rw [Lib.pieceU_grow _ _ _ _ (Nat.le_of_lt (hst a rfl))]
          exact ih
    · obtain rfl : pos = s.size := by omega
      have hd : s.data.toList.drop s.size = [] := List.drop_eq_nil_of_le (by rw [← Lib.size_eq]; exact Nat.le_refl _)
      rw [hd, wordsA, Lib.spansFromP_end is32 s _ _ _ _ hlt]
      cases st with
      | none => simp [Lib.closeSpans, Lib.openPiece]
      | some a =>
        have := Lib.pieceU_ne s.data.toList a s.size (hst a rfl) (by rw [← Lib.size_eq]; exact Nat.le_refl _)
        simp [Lib.closeSpans, Lib.openPiece, this]
theorem fields_words (s : List UInt8) : Lib.goFieldsP is32 ⟨⟨s⟩⟩ = (wordsN s).map fun w => (⟨⟨w⟩⟩ : ByteArray) := by
  have h := spans_words ⟨⟨s⟩⟩ (ByteArray.size ⟨⟨s⟩⟩) 0 none [] (by omega) (Nat.zero_le _) (fun a h => by cases h)
  simp only [List.map_nil, List.nil_append, Lib.openPiece, List.drop_zero] at h
  unfold Lib.goFieldsP Lib.spansOfP wordsN
  rw [h, List.map_map]
  apply List.map_congr_left
  rintro ⟨a, b⟩ _
  show ByteArray.extract _ _ _ = _
  rw [← Lib.mk_data (ByteArray.extract _ _ _)]
  simp [Lib.pieceU]
end Go.Proofs.YtphmmoloegjocaaGreatDoor

/- Contracts of the kit's shelf, laid at this program by the kit's lay-shelf.mjs and lay-plain.mjs. -/
namespace Go.Proofs
open Go.Shelf
def Tryz.lays161_ren : Go.Shelf.Ren := ⟨fun | 161 => 69 | 231 => 91 | 227 => 92 | 233 => 93 | 235 => 94 | 228 => 108 | 197 => 83 | 151 => 109 | 260 => 102 | 152 => 121 | 137 => 127 | 119 => 128 | 224 => 113 | 225 => 112 | 217 => 111 | 266 => 123 | n => n, fun | 9 => 9 | 4 => 4 | 3 => 3 | 5 => 5 | 117 => 148 | 116 => 147 | 0 => 0 | 124 => 151 | 105 => 135 | 21 => 21 | 119 => 170 | 46 => 68 | 139 => 173 | 138 => 172 | n => n, fun | 3 => 1 | 4 => 2 | n => n⟩
theorem Tryz.lays161 : Go.Proofs.Lays.n161 Tryz.prog Tryz.lays161_ren := {
  mixed := by kernel_rfl
  f119 := Tryz.func128.trans (congrArg some (by kernel_rfl))
  f137 := Tryz.func127.trans (congrArg some (by kernel_rfl))
  f151 := Tryz.func109.trans (congrArg some (by kernel_rfl))
  f152 := Tryz.func121.trans (congrArg some (by kernel_rfl))
  f161 := Tryz.func69.trans (congrArg some (by kernel_rfl))
  f197 := Tryz.func83.trans (congrArg some (by kernel_rfl))
  f217 := Tryz.func111.trans (congrArg some (by kernel_rfl))
  f224 := Tryz.func113.trans (congrArg some (by kernel_rfl))
  f225 := Tryz.func112.trans (congrArg some (by kernel_rfl))
  f227 := Tryz.func92.trans (congrArg some (by kernel_rfl))
  f228 := Tryz.func108.trans (congrArg some (by kernel_rfl))
  f231 := Tryz.func91.trans (congrArg some (by kernel_rfl))
  f233 := Tryz.func93.trans (congrArg some (by kernel_rfl))
  f235 := Tryz.func94.trans (congrArg some (by kernel_rfl))
  f260 := Tryz.func102.trans (congrArg some (by kernel_rfl))
  f266 := Tryz.func123.trans (congrArg some (by kernel_rfl))
  t0 := Tryz.underlying0
  a0 := Tryz.isAgg0
  z0 := Tryz.sizeOf0
  v0 := Tryz.zeroValue0
  t3 := Tryz.underlying3
  a3 := Tryz.isAgg3
  z3 := Tryz.sizeOf3
  v3 := Tryz.zeroValue3
  t4 := Tryz.underlying4
  a4 := Tryz.isAgg4
  z4 := Tryz.sizeOf4
  v4 := Tryz.zeroValue4
  t5 := Tryz.underlying5
  a5 := Tryz.isAgg5
  z5 := Tryz.sizeOf5
  v5 := Tryz.zeroValue5
  t9 := Tryz.underlying9
  a9 := Tryz.isAgg9
  z9 := Tryz.sizeOf9
  v9 := Tryz.zeroValue9
  t21 := Tryz.underlying21
  a21 := Tryz.isAgg21
  z21 := Tryz.sizeOf21
  v21 := Tryz.zeroValue21
  t46 := Tryz.underlying68
  a46 := Tryz.isAgg68
  z46 := Tryz.sizeOf68
  v46 := Tryz.zeroValue68
  t105 := Tryz.underlying135
  a105 := Tryz.isAgg135
  z105 := Tryz.sizeOf135
  v105 := Tryz.zeroValue135
  t116 := Tryz.underlying147
  a116 := Tryz.isAgg147
  z116 := Tryz.sizeOf147
  t117 := Tryz.underlying148
  a117 := Tryz.isAgg148
  z117 := Tryz.sizeOf148
  v117 := Tryz.zeroValue148
  t119 := Tryz.underlying170
  a119 := Tryz.isAgg170
  z119 := Tryz.sizeOf170
  t124 := Tryz.underlying151
  a124 := Tryz.isAgg151
  z124 := Tryz.sizeOf151
  v124 := Tryz.zeroValue151
  t138 := Tryz.underlying172
  a138 := Tryz.isAgg172
  z138 := Tryz.sizeOf172
  v138 := Tryz.zeroValue172
  t139 := Tryz.underlying173
  a139 := Tryz.isAgg173
  z139 := Tryz.sizeOf173
  v139 := Tryz.zeroValue173
  g3 := by kernel_rfl
  g4 := by kernel_rfl }
def Tryz.lays99_ren : Go.Shelf.Ren := ⟨fun | 99 => 68 | 206 => 90 | n => n, fun | 9 => 9 | 4 => 4 | 3 => 3 | n => n, fun | n => n⟩
theorem Tryz.lays99 : Go.Proofs.Lays.n99 Tryz.prog Tryz.lays99_ren := {
  mixed := by kernel_rfl
  f99 := Tryz.func68.trans (congrArg some (by kernel_rfl))
  f206 := Tryz.func90.trans (congrArg some (by kernel_rfl))
  t3 := Tryz.underlying3
  a3 := Tryz.isAgg3
  z3 := Tryz.sizeOf3
  v3 := Tryz.zeroValue3
  t4 := Tryz.underlying4
  a4 := Tryz.isAgg4
  z4 := Tryz.sizeOf4
  v4 := Tryz.zeroValue4
  t9 := Tryz.underlying9
  a9 := Tryz.isAgg9
  z9 := Tryz.sizeOf9
  v9 := Tryz.zeroValue9 }
open Go.RowKit Go.Lib in
theorem Tryz.strings_HasPrefix (s p : ByteArray) (w : World) :
    Calls Tryz.prog 68 #[.string s, .string p] w fun e w' => e = .returned (.bool (Lib.hasPrefix s.data.toList p.data.toList)) ∧ w' = w := Any.strings_HasPrefix Tryz.lays99 s p w
def Tryz.lays229_ren : Go.Shelf.Ren := ⟨fun | 229 => 156 | n => n, fun | 9 => 9 | 40 => 185 | 31 => 48 | 152 => 213 | 3 => 3 | 0 => 0 | 4 => 4 | 21 => 21 | 154 => 215 | n => n, fun | n => n⟩
theorem Tryz.lays229 : Go.Proofs.Lays.n229 Tryz.prog Tryz.lays229_ren := {
  mixed := by kernel_rfl
  f229 := Tryz.func156.trans (congrArg some (by kernel_rfl))
  t0 := Tryz.underlying0
  a0 := Tryz.isAgg0
  z0 := Tryz.sizeOf0
  v0 := Tryz.zeroValue0
  t3 := Tryz.underlying3
  a3 := Tryz.isAgg3
  z3 := Tryz.sizeOf3
  v3 := Tryz.zeroValue3
  t4 := Tryz.underlying4
  a4 := Tryz.isAgg4
  z4 := Tryz.sizeOf4
  v4 := Tryz.zeroValue4
  t9 := Tryz.underlying9
  a9 := Tryz.isAgg9
  z9 := Tryz.sizeOf9
  v9 := Tryz.zeroValue9
  t21 := Tryz.underlying21
  a21 := Tryz.isAgg21
  z21 := Tryz.sizeOf21
  v21 := Tryz.zeroValue21
  t31 := Tryz.underlying48
  a31 := Tryz.isAgg48
  z31 := Tryz.sizeOf48
  v31 := Tryz.zeroValue48
  t40 := Tryz.underlying185
  a40 := Tryz.isAgg185
  z40 := Tryz.sizeOf185
  v40 := Tryz.zeroValue185
  t152 := Tryz.underlying213
  a152 := Tryz.isAgg213
  z152 := Tryz.sizeOf213
  v152 := Tryz.zeroValue213
  t154 := Tryz.underlying215
  a154 := Tryz.isAgg215
  z154 := Tryz.sizeOf215
  v154 := Tryz.zeroValue215 }
open Go.RowKit Go.Lib in
theorem Tryz.strings_FieldsFunc_grows (g : Nat) (lb : Array Value) (eg : ∀ args w, (callFunc g args).run Tryz.prog w = .ok (.enter g args) w) (p : Nat → Bool) (s : ByteArray) (w : World) (hs : s.size ≤ 4294967296) (hp : PredGrows Tryz.prog g lb p w) :
    Calls Tryz.prog 156 #[.string s, .func (.func g) #[] lb] w fun e w' => ∃ A, e = .returned (.slice (some ⟨A, 0, none⟩) (Lib.goFieldsP p s).length (Lib.goFieldsP p s).length) ∧ w.heap.size ≤ A ∧
      w'.ownsRow w.heap.size 9 1 (.slice (some ⟨A, 0, none⟩) (Lib.goFieldsP p s).length (Lib.goFieldsP p s).length) (Lib.goFieldsP p s).length ((Lib.goFieldsP p s).map Value.string) ∧ Below w.heap.size w w' := Any.strings_FieldsFunc_grows Tryz.lays229 g lb eg p s w hs hp (by kernel_rfl) (by kernel_rfl)
end Go.Proofs

/- Contracts of the kit's shelf as contracts on data: strings.FieldsFunc, HasPrefix, TrimLeft. -/
namespace Go.Proofs.YtphmmoloegjocaaGreatDoor
open Go Y RowKit
set_option maxRecDepth 100000
set_option maxHeartbeats 4000000

theorem later_below {Γ : Gm} {w w' : World} (hR : R cx Γ ⟨0, []⟩ w) (hb : Below w.heap.size w w') : Later cx 0 Γ ⟨0, []⟩ w Γ ⟨0, []⟩ w' := by
  have hfz : ∀ b arr, Γ.fz b = some arr → ∃ t z, w'.heap[b]? = some (.cells ⟨arr⟩ t z) := by
    intro b arr h
    obtain ⟨t, z, e⟩ := hR.fzok b arr h
    have hlt : b < w.heap.size := by
      rcases Nat.lt_or_ge b w.heap.size with h1 | h1
      · exact h1
      · rw [Array.getElem?_eq_none h1] at e; cases e
    exact ⟨t, z, by rw [hb.block b hlt]; exact e⟩
  refine ⟨⟨hR.glob, hR.fresh, hfz, fun n o hn => by simp [lget] at hn, fun n o q hn => by simp [lget] at hn, fun n o m p q q' hn => by simp [lget] at hn⟩, Ext.refl _ _, Nat.le_refl _, ⟨hb.os, hb.tape, hb.output, hb.size, fun k hk _ => hb.block k hk, fun k hk => .inr hk, Fzn.le_refl _, fun k a h => .inl h⟩⟩

/-- A contract that leaves what lay there. -/
theorem pure_below {g : FuncId} {fn : Func} {c : Code} {args : List PV} {x : PV} (hf : cx.P.funcs[g]? = some fn) (hname : (fn.name == "runtime.NumGoroutine") = false) (hbd : fn.body = some c) (hx : Res [] 5 (.p x) x)
    (h : ∀ (Γ : Gm) (w : World) (args' : List Value), R cx Γ ⟨0, []⟩ w → VRL Γ (args.map .p) args' → ∃ v', VP Γ.fz x v' ∧ Calls cx.P g ⟨args'⟩ w fun e w' => e = .returned v' ∧ Below w.heap.size w w') : Pure cx g args (· = .ret [x]) := by
  intro Γ w args' hR hA
  obtain ⟨v', h1, h2⟩ := h Γ w args' hR hA
  refine .inl ⟨run_enter hf hname hbd _ _, h2.mono fun e w' ⟨he, hw⟩ => ?_⟩
  subst he
  exact ⟨.returned (.p x), ⟨0, []⟩, Γ, ⟨.ret [x], ⟨rfl, _, rfl, hx⟩, rfl⟩, ⟨v', rfl, h1⟩, later_below hR hw⟩

/-- The other way: a contract on data without memory, as the shelf asks it of a function value. -/
theorem below_of_holds {g : FuncId} {args : List AV} {x : PV} (h : HoldsG cx g args ⟨0, []⟩ fun e H' => e = .returned (.p x) ∧ H' = ⟨0, []⟩) {w : World} {args' : List Value} {v' : Value} (hA : ∀ Γ, VRL Γ args args') (hv : ∀ v Γ, VR Γ (.p x) v → v = v') :
    Calls cx.P g ⟨args'⟩ w fun e w' => e = .returned v' ∧ Below w.heap.size w w' := by
  have hR : R cx ⟨fun _ => none, fun _ => none⟩ ⟨0, []⟩ w := ⟨fun g cs h => by simp [cx, gget] at h, fun _ _ => rfl, fun b arr h => by simp at h, fun n o hn => by simp [lget] at hn, fun n o q hn => by simp [lget] at hn, fun n o m p q q' hn => by simp [lget] at hn⟩
  refine (h _ w args' hR (hA _)).2.mono fun e w' hq => ?_
  obtain ⟨e0, H', Γ', ⟨rfl, rfl⟩, hE, hL⟩ := hq
  obtain ⟨v, rfl, hv'⟩ := hE
  have hT := hL.2.2.2
  exact ⟨by rw [hv _ _ hv'], hT.os, hT.tape, hT.output, hT.size, fun k hk => hT.kept k hk (fun ho => own_nil ho)⟩

theorem space_h (n : Int) : HoldsG cx 157 [.p (.int .i32 n)] ⟨0, []⟩ fun e H' => e = .returned (.p (.bool (decide (n = 32)))) ∧ H' = ⟨0, []⟩ := by
  refine holds_of_vc Tryz.func157 rfl rfl rfl ?_
  (first | refine brLt (fun h => ?_) (fun h => ?_) | refine brLe (fun h => ?_) (fun h => ?_) | refine brEq (fun h => ?_) (fun h => ?_))
  · have h : n = 32 := h
    exact ⟨by rw [decide_eq_true h]; rfl, rfl⟩
  · have h : ¬ n = 32 := h
    exact ⟨by rw [decide_eq_false h]; rfl, rfl⟩
theorem space_pays (w : World) : PredGrows cx.P 157 #[] is32 w := fun W x _ _ => by
  refine below_of_holds (x := .bool (decide ((x : Int) = 32))) (space_h x) (fun Γ => ?_) (fun v Γ hv => ?_)
  · simp only [VRL, VR, VP]
    exact ⟨_, _, rfl, rfl, rfl⟩
  · simp only [VR, VP] at hv
    rw [hv, is32]
    congr 1
    by_cases hx : x = 32
    · subst hx; rfl
    · rw [decide_eq_false (by omega)]
      simpa using hx

/-- A new block that nobody writes. -/
def Fzn.with (f : Fzn) (g : Nat) (arr : List Value) : Fzn := fun k => match Nat.beq k g with
  | true => some arr
  | false => f k
theorem later_fresh {Γ : Gm} {w w' : World} (hR : R cx Γ ⟨0, []⟩ w) (hb : Below w.heap.size w w') {g : Nat} {arr : List Value} {t : TypeId} {z : Nat × Nat} (hg : w.heap.size ≤ g) (he : w'.heap[g]? = some (.cells ⟨arr⟩ t z)) :
    Later cx 0 Γ ⟨0, []⟩ w ⟨Γ.nm, Fzn.with Γ.fz g arr⟩ ⟨0, []⟩ w' := by
  obtain ⟨hR1, _, _, hT⟩ := later_below hR hb
  have hnew : ∀ k a, Fzn.with Γ.fz g arr k = some a → (k = g ∧ a = arr) ∨ Γ.fz k = some a := fun k a h => by
    by_cases e : k = g
    · subst e
      simp only [Fzn.with, beq_refl', Option.some.injEq] at h
      exact .inl ⟨rfl, h.symm⟩
    · simp only [Fzn.with, beq_ne e] at h
      exact .inr h
  have hle : Γ.fz.le (Fzn.with Γ.fz g arr) := fun k a h => by
    have e : k ≠ g := fun e => by
      subst e
      obtain ⟨t, z, e⟩ := hR.fzok k a h
      have := (Array.getElem?_eq_some_iff.1 e).1
      omega
    simp only [Fzn.with, beq_ne e]
    exact h
  refine ⟨⟨fun g cs h => by simp [cx, gget] at h, hR1.fresh, fun b a h => ?_, fun n o hn => by simp [lget] at hn, fun n o q hn => by simp [lget] at hn, fun n o m p q q' hn => by simp [lget] at hn⟩, fun _ _ => rfl, Nat.le_refl _, ⟨hT.os, hT.tape, hT.output, hT.size, hT.kept, fun k hk => .inr (by obtain ⟨n, o, q, h, _⟩ := hk; simp [lget] at h), hle, fun k a h => ?_⟩⟩
  · rcases hnew b a h with ⟨rfl, rfl⟩ | h
    · exact ⟨t, z, he⟩
    · exact hR1.fzok b a h
  · rcases hnew k a h with ⟨rfl, rfl⟩ | h
    · exact .inr (.inl hg)
    · exact .inl h
/-- A contract whose result is a new row of data that refer to nothing. -/
theorem pure_row {g : FuncId} {fn : Func} {c : Code} {args : List PV} {ys : List PV} (hf : cx.P.funcs[g]? = some fn) (hname : (fn.name == "runtime.NumGoroutine") = false) (hbd : fn.body = some c)
    (h : ∀ (Γ : Gm) (w : World) (args' : List Value), R cx Γ ⟨0, []⟩ w → VRL Γ (args.map .p) args' → ∃ us, (∀ fz, VPL fz ys us) ∧ (∀ u ∈ us, plainV u = true) ∧ Calls cx.P g ⟨args'⟩ w fun e w' => ∃ A t z, e = .returned (.slice (some ⟨A, 0, none⟩) ys.length ys.length) ∧ w.heap.size ≤ A ∧ w'.heap[A]? = some (.cells ⟨us⟩ t z) ∧ Below w.heap.size w w') :
    Pure cx g args (· = .ret [.lst ys]) := by
  intro Γ w args' hR hA
  obtain ⟨us, h1, h2, h3⟩ := h Γ w args' hR hA
  refine .inl ⟨run_enter hf hname hbd _ _, h3.mono fun e w' hq => ?_⟩
  obtain ⟨A, t, z, rfl, hA1, hA2, hb⟩ := hq
  refine ⟨.returned (.p (.lst ys)), ⟨0, []⟩, _, ⟨.ret [.lst ys], ⟨rfl, _, rfl, res_p _ _⟩, rfl⟩, ⟨_, rfl, ?_⟩, later_fresh hR hb hA1 hA2⟩
  simp only [VR, VP]
  exact .inr ⟨A, 0, ys.length, us, us, rfl, Nat.le_refl _, by simp [Fzn.with], h1 _, [], [], by simp, rfl, h2⟩
theorem vpl_strs (fz : Fzn) : ∀ l : List (List UInt8), VPL fz (l.map .str) (l.map fun x => Value.string ⟨⟨x⟩⟩)
  | [] => rfl
  | x :: l => by
    simp only [List.map_cons, VPL, VP]
    exact ⟨_, _, rfl, rfl, vpl_strs fz l⟩
theorem fields_c (s : List UInt8) (hs : s.length ≤ 1000000) : Pure cx 156 [.str s, .fn (.func 157) [] []] (· = .ret [strs (wordsN s)]) := by
  refine pure_row Tryz.func156 rfl rfl fun Γ w args' hR hA => ?_
  simp only [List.map, VRL, VR, VP] at hA
  obtain ⟨a, as', rfl, rfl, b, bs', rfl, ⟨_, f1, f2, rfl, h1, h2⟩, rfl⟩ := hA
  simp only [VPL] at h1 h2
  have e1 : f1 = #[] := by cases f1; simpa using h1
  have e2 : f2 = #[] := by cases f2; simpa using h2
  subst e1 e2
  refine ⟨(wordsN s).map fun x => Value.string ⟨⟨x⟩⟩, fun fz => vpl_strs fz _, fun u hu => ?_, ?_⟩
  · obtain ⟨x, _, rfl⟩ := List.mem_map.1 hu
    rfl
  have hC := Tryz.strings_FieldsFunc_grows 157 #[] (fun args w => run_enter Tryz.func157 rfl rfl args w) is32 ⟨⟨s⟩⟩ w (by show s.length ≤ _; omega) (space_pays w)
  rw [fields_words, List.length_map, List.map_map] at hC
  refine hC.mono fun e w' hq => ?_
  obtain ⟨A, rfl, hA1, ⟨hl, hrow⟩, hb⟩ := hq
  rcases hrow with ⟨h0, _⟩ | ⟨g, cap, cur, hv, hg1, hg2, hg3, hg4, hg5, hg6⟩
  · cases h0
  have hg7 : g = A ∧ cap = (wordsN s).length := by
    simp only [Value.slice.injEq, Option.some.injEq, Addr.mk.injEq, and_true, true_and] at hv
    exact ⟨hv.1.symm, hv.2.symm⟩
  obtain ⟨rfl, rfl⟩ := hg7
  have hcur : cur.toList = (wordsN s).map fun x => Value.string ⟨⟨x⟩⟩ := by
    rw [List.take_of_length_le (by rw [Array.length_toList, hg5]; omega)] at hg6
    exact hg6
  exact ⟨g, _, _, by rw [List.length_map], hA1, hg2.trans (congrArg (fun l => some (Obj.cells ⟨l⟩ _ _)) hcur), hb⟩
end Go.Proofs.YtphmmoloegjocaaGreatDoor
