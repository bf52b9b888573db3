/- Part 4 of the proof: Dp Dq Dr Ds Du Dv Ss Ga Gb Gc Gd Ge Gf Gg Gh Za Zb Dw Dx Dy Dz Fc Gi Gj Mz -/
import Derived.Shelf.Strings.Builder1
import Derived.Shelf.Strings.Builder2
import Derived.Shelf.Small.Bits
import Derived.Shelf.Small.Wraps
import Derived.Shelf.Strings.BuilderF
import Derived.Shelf.Strconv.Itoa0
import Derived.Shelf.LaysM
import Derived.Shelf.Strings.Search1
import Derived.Shelf.Strings.Search2
import Derived.Shelf.Strings.Search3
import Derived.Shelf.Strings.Cut
import Derived.Shelf.Strings.Count
import Derived.Shelf.Strings.Shaped
import Derived.Shelf.Strings.Prefix
import Derived.Shelf.Bits.Mul64
import Derived.Shelf.Strings.Repeat
import Derived.Shelf.Unicode.DecodeSlow
import Derived.Ground.Names2Prog
import Derived.Ground.SlgnProg
import Derived.Ground.SlsfProg
import Derived.Shelf.SlSortCmp.Insertion
import Derived.Shelf.SlSortCmp.SiftDown1
import Derived.Shelf.SlSortCmp.HeapSort1
import Derived.Shelf.SlSortCmp.Insertion1
import Derived.Shelf.SlSortCmp.Median1
import Derived.Shelf.SlSortCmp.Pivot1
import Derived.Shelf.SlSortCmp.ReverseRange1
import Derived.Shelf.SlSortCmp.PartialInsertion1
import Derived.Shelf.SlSortCmp.PartitionEqual1
import Derived.Shelf.SlSortCmp.Partition1
import Derived.Shelf.SlSortCmp.Pdq1
import Derived.Shelf.SlSortCmp.Whole1
import Derived.Shelf.SlSortCmp.NoneTotal
import Derived.Test.YtmdmjnfdemgpoaaDoorProg
import Derived.WalkKit
import Derived.Deep.LoopGhost
import Derived.Deep.Draws
import Derived.Lib.Walk
import Derived.ChangeArms
import Derived.OpenShut
import Derived.WideHanded
import Derived.ChangeSame
import Derived.ProofKit
import Derived.LaidMore
import Derived.LaidLaws
import Derived.Stop.Joined
import Derived.MakeChecks
import Derived.Test.YtmdmjnfdemgpoaaDoorRows
import Derived.Lay
import Derived.Test.YtmdmjnfdemgpoaaDoorQ3
/- Variables, clones, few; drafts without missing values. -/
namespace Go.Proofs.YtmdmjnfdemgpoaaDoor
open Go Y
set_option maxRecDepth 100000
set_option maxHeartbeats 4000000

theorem pure_args {g : FuncId} {a b : List PV} {Q : PEnd → Prop} (hab : ∀ (fz : Fzn) (l : List Value), VPL fz b l → VPL fz a l) (h : Pure cx g a Q) : Pure cx g b Q := by
  intro Γ w args' hR hA
  exact h Γ w args' hR (VRL_p.2 (hab _ _ (VRL_p.1 hA)))

/-! ### Sets -/
def bitN (set : UInt8) (v : Nat) : Bool := set.toNat / 2 ^ v % 2 == 1
def varsN (set : UInt8) : Nat → List Int
  | 0 => []
  | k + 1 => varsN set k ++ (if bitN set k then [(k : Int)] else [])
theorem vars_len (set : UInt8) : ∀ n, (varsN set n).length ≤ n
  | 0 => by simp [varsN]
  | k + 1 => by
    have := vars_len set k
    rw [varsN, List.length_append]
    split <;> simp <;> omega
theorem vars_mem {set : UInt8} : ∀ {n : Nat} {v : Int}, v ∈ varsN set n ↔ 0 ≤ v ∧ v < n ∧ bitN set v.toNat = true
  | 0, v => by simp only [varsN, List.not_mem_nil, false_iff]; omega
  | k + 1, v => by
    rw [varsN, List.mem_append, vars_mem (n := k)]
    split
    · rename_i h
      simp only [List.mem_singleton]
      constructor
      · rintro (⟨h1, h2, h3⟩ | rfl)
        · exact ⟨h1, by omega, h3⟩
        · exact ⟨by omega, by omega, by simpa using h⟩
      · rintro ⟨h1, h2, h3⟩
        rcases Int.lt_or_le v k with h4 | h4
        · exact .inl ⟨h1, h4, h3⟩
        · exact .inr (by omega)
    · rename_i h
      simp only [List.not_mem_nil, or_false]
      constructor
      · rintro ⟨h1, h2, h3⟩; exact ⟨h1, by omega, h3⟩
      · rintro ⟨h1, h2, h3⟩
        refine ⟨h1, ?_, h3⟩
        rcases Int.lt_or_le v k with h4 | h4
        · exact h4
        · exfalso
          have : v = k := by omega
          subst this
          exact h (by simpa using h3)
theorem list_snoc {n m : Nat} {l : List Int} (h : listP n l) (hnm : n < m) : listP m (l ++ [(n : Int)]) ∧ listP m l := by
  refine ⟨fun i hi => ?_, fun i hi => ⟨(h i hi).1, by have := (h i hi).2; omega⟩⟩
  rw [List.length_append, List.length_singleton] at hi
  have hp : prevN (l ++ [(n : Int)]) i = prevN l i := by
    unfold prevN
    split
    · rfl
    · rw [List.getD_eq_getElem?_getD, List.getElem?_append_left (by omega), List.getD_eq_getElem?_getD]
  rw [hp]
  rcases Nat.lt_or_ge i l.length with hl | hl
  · have e : (l ++ [(n : Int)]).getD i 0 = l.getD i 0 := by rw [List.getD_eq_getElem?_getD, List.getElem?_append_left hl, List.getD_eq_getElem?_getD]
    rw [e]
    have := h i hl
    omega
  · have : i = l.length := by omega
    subst this
    have e : (l ++ [(n : Int)]).getD l.length 0 = n := by rw [List.getD_eq_getElem?_getD, List.getElem?_append_right (Nat.le_refl _)]; simp
    rw [e]
    refine ⟨?_, by omega⟩
    unfold prevN
    split
    · omega
    · have := (h (l.length - 1) (by omega)).2; omega
theorem vars_list (set : UInt8) : ∀ n : Nat, listP n (varsN set n)
  | 0 => fun i hi => by simp [varsN] at hi
  | k + 1 => by
    rw [varsN]
    have := list_snoc (vars_list set k) (Nat.lt_succ_self k)
    split
    · exact this.1
    · rw [List.append_nil]; exact this.2

theorem and_one (n : Nat) (h : n < 256) : ((BitVec.ofInt 8 (n : Int) &&& BitVec.ofInt 8 1).toNat : Int) = ((n % 2 : Nat) : Int) := by
  have e1 : BitVec.ofInt 8 (n : Int) = BitVec.ofNat 8 n := rfl
  have e2 : BitVec.ofInt 8 1 = BitVec.ofNat 8 1 := rfl
  rw [e1, e2, BitVec.toNat_and, BitVec.toNat_ofNat, BitVec.toNat_ofNat, Nat.mod_eq_of_lt (show n < 2 ^ 8 by omega)]
  exact congrArg _ (Nat.and_one_is_mod n)

theorem vars_c (n : Nat) (set : UInt8) (hn : n ≤ 8) : Pure cx 13 [i64 n, u8 set] (· = .ret [ints (varsN set n)]) := by
  refine pure_of_vc Tryd.func13 rfl rfl rfl ?_
  refine ⟨Nat × List Int, fun x => [(0, .p (i64 n)), (1, .p (u8 set)), (5, .sl 0 1 0 x.2.length), (6, .p (i64 x.1))], fun x => ⟨1, [(0, iO x.2)]⟩, fun x => x.1 ≤ n ∧ x.2 = varsN set x.1, fun x => n - x.1, ?_, ?_⟩
  · exact ⟨(0, []), ⟨by simp, rfl⟩, ent_of [] [] [(0, 1)] rfl (by (repeat' first | exact trivial | exact rfl | exact ⟨rfl, rfl⟩ | exact .inl rfl | refine ⟨_, rfl, rfl, rfl, ?_⟩ | refine ⟨_, _, rfl, ?_, ?_⟩ | refine ⟨_, rfl, ?_⟩ | refine And.intro ?_ ?_)) (by (repeat' first | exact trivial | exact rfl | exact ⟨rfl, rfl⟩ | exact .inl rfl | refine ⟨_, rfl, rfl, rfl, ?_⟩ | refine ⟨_, _, rfl, ?_, ?_⟩ | refine ⟨_, rfl, ?_⟩ | refine And.intro ?_ ?_)) rfl⟩
  rintro ⟨k, l⟩ ⟨g, gl⟩
  simp only [] at g gl
  have hs := set.toNat_lt
  have hvl := vars_len set k
  rw [← gl] at hvl
  (first | refine brLt (fun h1 => ?_) (fun h1 => ?_) | refine brLe (fun h1 => ?_) (fun h1 => ?_) | refine brEq (fun h1 => ?_) (fun h1 => ?_))
  · have hk : k < n := by omega
    have e1 : ((set.toNat : Nat) : Int).fdiv (2 ^ (min (k : Int).toNat 8)) = ((set.toNat / 2 ^ k : Nat) : Int) := by
      rw [Int.toNat_natCast, Nat.min_eq_left (by omega), Int.fdiv_eq_ediv_of_nonneg _ (Int.pow_nonneg (by decide))]
      norm_cast
    have hd : set.toNat / 2 ^ k < 256 := Nat.lt_of_le_of_lt (Nat.div_le_self _ _) (by omega)
    have ev := varsN.eq_2 set k
    rw [← gl] at ev
    refine ⟨by omega, ?_⟩
    refine ⟨((set.toNat / 2 ^ k % 2 : Nat) : Int), ?_, ?_⟩
    · show _ = IntKind.u8.wrap ((BitVec.ofInt 8 (((set.toNat : Nat) : Int).fdiv (2 ^ (min (k : Int).toNat 8))) &&& BitVec.ofInt 8 1).toNat : Int)
      rw [e1, and_one _ hd]
      exact wrap8 (by omega) (by omega)
    (first | refine brLt (fun h2 => ?_) (fun h2 => ?_) | refine brLe (fun h2 => ?_) (fun h2 => ?_) | refine brEq (fun h2 => ?_) (fun h2 => ?_))
    · rw [if_pos (by rw [bitN, beq_iff_eq]; omega)] at ev
      refine ⟨by show 0 + 1 ≤ 1; omega, [i64 (k : Int)], rfl, ?_⟩
      refine ⟨by show 0 + l.length ≤ (l.map i64).length; simp, l.map i64, takeAll (by simp), by show (l.length + 1) * 8 ≤ 140737488355328; omega, (l ++ [(k : Int)]).map i64, by simp, ?_⟩
      refine ⟨_, wrap_i64 (by omega) (by omega), ?_⟩
      exact ⟨(k + 1, l ++ [(k : Int)]), ⟨by simp only []; omega, ev.symm⟩, ent_of [] [(0, 2)] [] rfl ⟨rfl, rfl, congrArg (fun n => AV.sl 2 1 0 n) (snoc_len l _).symm, rfl, trivial⟩ (by (repeat' first | exact trivial | exact rfl | exact ⟨rfl, rfl⟩ | exact .inl rfl | refine ⟨_, rfl, rfl, rfl, ?_⟩ | refine ⟨_, _, rfl, ?_, ?_⟩ | refine ⟨_, rfl, ?_⟩ | refine And.intro ?_ ?_)) rfl, by show n - (k + 1) < n - k; omega⟩
    · rw [if_neg (by rw [bitN, beq_iff_eq]; omega), List.append_nil] at ev
      refine ⟨_, wrap_i64 (by omega) (by omega), ?_⟩
      exact ⟨(k + 1, l), ⟨by simp only []; omega, ev.symm⟩, ent_of [] [] [] rfl (by (repeat' first | exact trivial | exact rfl | exact ⟨rfl, rfl⟩ | exact .inl rfl | refine ⟨_, rfl, rfl, rfl, ?_⟩ | refine ⟨_, _, rfl, ?_, ?_⟩ | refine ⟨_, rfl, ?_⟩ | refine And.intro ?_ ?_)) (by (repeat' first | exact trivial | exact rfl | exact ⟨rfl, rfl⟩ | exact .inl rfl | refine ⟨_, rfl, rfl, rfl, ?_⟩ | refine ⟨_, _, rfl, ?_, ?_⟩ | refine ⟨_, rfl, ?_⟩ | refine And.intro ?_ ?_)) rfl, by show n - (k + 1) < n - k; omega⟩
  · have hk : k = n := by omega
    subst hk
    rw [← gl]
    exact end1 (ints l) rfl ⟨_, rfl, by show 0 + l.length ≤ (l.map i64).length; simp, takeAll (by simp)⟩ rfl

theorem clone1_c (l : List Int) (hl : l.length ≤ 100000) : Pure cx 47 [ints l] (· = .ret [ints l]) := by
  refine pure_of_vc Tryd.func47 rfl rfl rfl ?_
  refine And.intro ?_ (fun h => ?_)
  · refine ⟨by show 0 + 0 ≤ 0; omega, [], rfl, by show (0 + (l.map i64).length) * 8 ≤ 140737488355328; rw [List.length_map]; omega, l.map i64, rfl, ?_⟩
    exact end1 (ints l) rfl ⟨_, rfl, by show 0 + (0 + (l.map i64).length) ≤ (l.map i64).length; omega, takeAll (by omega)⟩ rfl
  · have h : l.map i64 = [] := h
    rw [List.map_eq_nil_iff] at h
    subst h
    exact end1 (ints []) rfl (.inr (.inl rfl)) rfl

/-! ### Few -/
def fewN (d : Dt) : Dt := ⟨d.cards.take 7, (d.cases.take 42).map fun c => c.take 7⟩
def mO (cs : List Int) (acc : List (List Int)) (n : Nat) : AObj := ⟨TD, false, .bx [.p (ints cs), .sl n 1 0 acc.length]⟩

theorem few_c (d : Dt) (h1 : d.cards.length ≤ 9223372036854775807) (h2 : d.cases.length ≤ 9223372036854775807) (h3 : ∀ c ∈ d.cases, c.length ≤ 9223372036854775807) : Pure cx 18 [d.pv] (· = .ret [(fewN d).pv]) := by
  refine pure_of_vc Tryd.func18 rfl rfl rfl ?_
  obtain ⟨cs, xs⟩ := d
  simp only [] at h1 h2 h3
  have hmin : ∀ (α β : Type) (f : α → β) (l : List α) (n : Nat), sub (l.map f) none (some (if (n : Int) < ((l.map f).length : Nat) then (n : Int) else ((l.map f).length : Nat))) = (l.take n).map f := by
    intro α β f l n
    show (l.map f).take _ = _
    rw [List.map_take, List.length_map]
    split
    · rfl
    · rename_i h
      rw [List.take_of_length_le (by simp), List.take_of_length_le (by simp; omega)]
  have hm2 : ∀ (α β : Type) (f : α → β) (l : List α) (n : Nat), 0 ≤ (if (n : Int) < ((l.map f).length : Nat) then (n : Int) else ((l.map f).length : Nat)) ∧ (if (n : Int) < ((l.map f).length : Nat) then (n : Int) else ((l.map f).length : Nat)) ≤ ((l.map f).length : Nat) := by
    intro α β f l n
    split <;> omega
  refine ⟨hm2 _ _ i64 cs 7, ?_⟩
  refine (clone1_c (cs.take 7) (by rw [List.length_take]; omega)).eq (congrArg (fun l => [AV.p (.lst l)]) (hmin _ _ i64 cs 7)) ?_
  refine ⟨hm2 _ _ ints xs 42, ?_⟩
  refine ⟨Nat × List (List Int), fun x => [(2, .ptr 1 0 0), (3, .ptr 2 0 0), (21, .p (.lst ((xs.take 42).map ints))), (22, .p (i64 ((xs.take 42).map ints).length)), (23, .p (i64 x.1))], fun x => ⟨4, [(3, csO x.2), (2, mO (cs.take 7) x.2 3), (1, zeroO)]⟩,
    fun x => x.1 ≤ (xs.take 42).length ∧ x.2 = ((xs.take 42).take x.1).map fun c => c.take 7, fun x => (xs.take 42).length - x.1, ?_, ?_⟩
  · refine ⟨(0, []), ⟨by simp, by simp⟩, ent_of [] [] [(3, 1)] rfl ⟨⟨rfl, rfl⟩, ⟨rfl, rfl⟩, congrArg PV.lst (hmin _ _ ints xs 42).symm, ?_, rfl, trivial⟩ (by (repeat' first | exact trivial | exact rfl | exact ⟨rfl, rfl⟩ | exact .inl rfl | refine ⟨_, rfl, rfl, rfl, ?_⟩ | refine ⟨_, _, rfl, ?_, ?_⟩ | refine ⟨_, rfl, ?_⟩ | refine And.intro ?_ ?_)) rfl⟩
    exact congrArg (fun l : List PV => i64 (l.length : Nat)) (hmin _ _ ints xs 42).symm
  rintro ⟨k, acc⟩ ⟨g1, g2⟩
  simp only [] at g1 g2
  have hxl : (xs.take 42).length ≤ 42 := by rw [List.length_take]; omega
  obtain ⟨ys, hys⟩ : ∃ ys, ys = xs.take 42 := ⟨_, rfl⟩
  have hym : ∀ c ∈ ys, c.length ≤ 9223372036854775807 := fun c hc => h3 c (List.mem_of_mem_take (by rw [← hys]; exact hc))
  rw [← hys] at g1 g2 hxl
  have hal : acc.length ≤ 42 := by rw [g2, List.length_map, List.length_take]; omega
  (first | refine brLt (fun k1 => ?_) (fun k1 => ?_) | refine brLe (fun k1 => ?_) (fun k1 => ?_) | refine brEq (fun k1 => ?_) (fun k1 => ?_))
  · have k1 : (k : Int) < (((xs.take 42).map ints).length : Nat) := k1
    rw [← hys, List.length_map] at k1
    have hk : k < ys.length := by omega
    obtain ⟨c, hc⟩ : ∃ c, c = ys.getD k [] := ⟨_, rfl⟩
    refine ⟨_, ⟨by omega, ints c, by rw [← hys, hc]; exact ccell hk, rfl⟩, ?_⟩
    refine VDraw.seq rfl ?_
    refine ⟨hm2 _ _ i64 c 7, ?_⟩
    refine (clone1_c (c.take 7) (by rw [List.length_take]; omega)).eq (congrArg (fun l => [AV.p (.lst l)]) (hmin _ _ i64 c 7)) ?_
    refine ⟨by (repeat' first | exact trivial | exact rfl | exact ⟨rfl, rfl⟩ | exact .inl rfl | refine ⟨_, rfl, rfl, rfl, ?_⟩ | refine ⟨_, _, rfl, ?_, ?_⟩ | refine ⟨_, rfl, ?_⟩ | refine And.intro ?_ ?_), ?_⟩
    refine ⟨by (repeat' first | exact trivial | exact rfl | exact ⟨rfl, rfl⟩ | exact .inl rfl | refine ⟨_, rfl, rfl, rfl, ?_⟩ | refine ⟨_, _, rfl, ?_, ?_⟩ | refine ⟨_, rfl, ?_⟩ | refine And.intro ?_ ?_), ?_⟩
    refine ⟨by show 0 + 1 ≤ 1; omega, [ints (c.take 7)], rfl, ?_⟩
    refine ⟨by show 0 + acc.length ≤ (acc.map ints).length; simp, acc.map ints, takeAll (by simp), by show (acc.length + 1) * 24 ≤ 140737488355328; omega, (acc ++ [c.take 7]).map ints, by simp, ?_⟩
    refine ⟨_, wrap_i64 (by omega) (by omega), ?_⟩
    refine ⟨(k + 1, acc ++ [c.take 7]), ⟨by rw [← hys]; exact hk, by simp only []; rw [← hys, take_succ_getD [] hk, List.map_append, ← g2, ← hc]; rfl⟩, ent_of [] [(3, 5)] [] rfl (by (repeat' first | exact trivial | exact rfl | exact ⟨rfl, rfl⟩ | exact .inl rfl | refine ⟨_, rfl, rfl, rfl, ?_⟩ | refine ⟨_, _, rfl, ?_, ?_⟩ | refine ⟨_, rfl, ?_⟩ | refine And.intro ?_ ?_)) ⟨⟨_, rfl, rfl, rfl, rfl⟩, ⟨_, rfl, rfl, rfl, _, rfl, _, _, rfl, rfl, _, _, rfl, congrArg (fun n => AV.sl 5 1 0 n) (snoc_len acc _).symm, rfl⟩, ⟨_, rfl, rfl, rfl, _, rfl, by (repeat' first | exact trivial | exact rfl | exact ⟨rfl, rfl⟩ | exact .inl rfl | refine ⟨_, rfl, rfl, rfl, ?_⟩ | refine ⟨_, _, rfl, ?_, ?_⟩ | refine ⟨_, rfl, ?_⟩ | refine And.intro ?_ ?_)⟩, trivial⟩ rfl, by simp only []; rw [← hys]; omega⟩
  · have k1 : ¬ (k : Int) < (((xs.take 42).map ints).length : Nat) := k1
    rw [← hys, List.length_map] at k1
    rw [take_all (by omega)] at g2
    refine end1 (fewN ⟨cs, xs⟩).pv rfl ⟨_, rfl, _, _, rfl, rfl, _, _, rfl, ⟨_, rfl, by show 0 + acc.length ≤ (acc.map ints).length; simp, ?_⟩, rfl⟩ rfl
    rw [fewN]
    simp only []
    rw [← hys, ← g2]
    exact takeAll (by simp)
theorem few_sm (d : Dt) : Sm7 (fewN d) := by
  refine ⟨by simp only [fewN, List.length_take]; omega, by simp only [fewN, List.length_map, List.length_take]; omega, fun c hc => ?_⟩
  simp only [fewN, List.mem_map] at hc
  obtain ⟨x, _, rfl⟩ := hc
  rw [List.length_take]; omega

/-! ### Drafts without missing values -/
theorem whole_d (D : Df) (h5 : ∀ c ∈ D.cases, c.length = 5) : Pure cx 11 [D.pv] fun r => ∃ d, DrOK False d ∧ r = .ret [d.pv] := by
  refine pure_of_vc Tryd.func11 rfl rfl rfl ?_
  have h := data_c ⟨D.cards, D.cases, D.follow, []⟩ h5 (by simp)
  have h' : Pure cx 12 [.agg [.lst (u8s D.cards), .lsts 5 (D.cases.map u8s), u8 D.follow, .nils]] fun r => ∃ d, DrOK False d ∧ r = .ret [d.pv] := by
    refine pure_args (fun fz l hl => ?_) (h.mono fun r ⟨d, h1, h2⟩ => ⟨d, ⟨h1.right, fun _ => h1.whole (by simp)⟩, h2⟩)
    simp only [VPL, VP] at hl ⊢
    obtain ⟨u, us, rfl, ⟨cs, rfl, v1, w1, e1, k1, v2, w2, e2, k2, v3, w3, e3, k3, v4, w4, e4, rfl, k4⟩, rfl⟩ := hl
    exact ⟨_, _, rfl, ⟨cs, rfl, v1, w1, e1, k1, v2, w2, e2, k2, v3, w3, e3, k3, _, w4, e4, .inl ⟨rfl, none, 0, rfl⟩, k4⟩, rfl⟩
  refine h'.at fun r hr => ?_
  obtain ⟨d, h1, rfl⟩ := hr
  exact end1 d.pv rfl rfl ⟨d, h1, rfl⟩
end Go.Proofs.YtmdmjnfdemgpoaaDoor

/- Changed data. -/
namespace Go.Proofs.YtmdmjnfdemgpoaaDoor
open Go Y
set_option maxRecDepth 100000
set_option maxHeartbeats 4000000

structure Bn where
  what : UInt8
  spot : UInt8
  n : Int
abbrev Bn.cells (b : Bn) : List PV := [u8 b.what, u8 b.spot, i64 b.n]
abbrev Bn.pv (b : Bn) : PV := .agg b.cells
def bnO (b : Bn) : AObj := ⟨43, false, .bx (b.cells.map .p)⟩

def outB (n m : Nat) : AObj := ⟨TD, false, .bx [.sl 4 1 0 n, .sl 6 1 0 m]⟩
def bdL (b : Bn) (d : Dt) (n : Nat) (cs : List Int) (rows : List (List Int)) : List (Nat × AObj) := [(6, refsO 10 rows), (5, outB n rows.length), (4, iO cs), (2, zeroO), (1, dtO d), (0, bnO b)]
def bdE (b : Bn) (d : Dt) (v1 v2 : AV) (cs : List Int) (rows : List (List Int)) : List (Nat × AObj) := [(6, refsO 10 rows), (5, ⟨TD, false, .bx [v1, v2]⟩), (4, iO cs), (2, ⟨TD, false, .bx [v1, v2]⟩), (1, dtO d), (0, bnO b)]
def bdH (b : Bn) (d : Dt) (cs : List Int) (rows : List (List Int)) : Hp := ⟨100, bdL b d cs.length cs rows ++ rowsI 10 rows⟩

def bdX (b : Bn) (d : Dt) (n : Nat) (o4 o6 : AObj) (m : Nat) : List (Nat × AObj) := [(6, o6), (5, outB n m), (4, o4), (2, outB n m), (1, dtO d), (0, bnO b)]
def SmB (d : Dt) : Prop := d.cards.length ≤ 6 ∧ d.cases.length ≤ 41 ∧ ∀ c ∈ d.cases, c.length ≤ 6
theorem SmB.sm {d : Dt} (h : SmB d) : Sm7 d := ⟨by have := h.1; omega, by have := h.2.1; omega, fun c hc => by have := h.2.2 c hc; omega⟩

theorem refs_snoc' {rows : List (List Int)} {c : List Int} {n i : Nat} {x : Nat × Nat} (hx : (((rows ++ [c]).map fun r => r.map i64).map fun r => (0, r.length))[i]? = some x) :
    (refsL 10 ((rows.map fun r => r.map i64).map fun r => (0, r.length)) ++ [AV.sl n 1 0 c.length])[i]? = some (.sl (if i < rows.length then 10 + i else n) 1 x.1 x.2) := by
  rw [List.map_append, List.map_append, List.getElem?_append] at hx
  rw [List.getElem?_append, refs_len]
  simp only [List.length_map] at hx
  split
  · rename_i h
    rw [if_pos h] at hx
    rw [refsL_get, hx]
    rfl
  · rename_i h
    rw [if_neg h] at hx
    have h1 := (List.getElem?_eq_some_iff.1 hx).1
    simp at h1
    have : i - rows.length = 0 := by omega
    rw [this] at hx ⊢
    simp at hx
    subst hx
    rfl
theorem res_rows {L : List (Nat × AObj)} {rows : List (List Int)} (h : ∀ (i : Nat) (r : List PV), (rows.map fun r => r.map i64)[i]? = some r → lget L (10 + i) = some ⟨TN, true, .pu r⟩) :
    ResL (Res L 3) (refsL 10 ((rows.map fun r => r.map i64).map fun r => (0, r.length))) (rows.map ints) := by
  have := resL_refs (T := TN) (d := 2) (B := 10) (rows := rows.map fun r => r.map i64) (L := L) h
  have e : (rows.map fun r => r.map i64).map PV.lst = rows.map ints := by rw [List.map_map]; rfl
  rw [e] at this
  exact this

theorem res_cut {L : List (Nat × AObj)} {rows : List (List Int)} {j : Nat} {r : List Int} (hj : j < rows.length) (hr : r = rows.getD j []) (h1 : 1 ≤ r.length) (h : ∀ (i : Nat) (r : List PV), (rows.map fun r => r.map i64)[i]? = some r → lget L (10 + i) = some ⟨TN, true, .pu r⟩) :
    ResL (Res L 3) ((refsL 10 ((rows.map fun r => r.map i64).map fun r => (0, r.length))).set j (.sl (10 + j) 1 (0 + 1) (r.length - 1))) ((rows.set j (r.drop 1)).map ints) := by
  refine resL_of (by rw [List.length_set, refs_len, List.length_map, List.length_set]) fun i v x hv hx => ?_
  rw [List.map_set, List.getElem?_set] at hx
  rw [List.getElem?_set, refs_len] at hv
  simp only [List.length_map] at hx
  have hi : i < rows.length := by
    by_cases e : j = i
    · omega
    · rw [if_neg e] at hx
      have := (List.getElem?_eq_some_iff.1 hx).1
      simpa using this
  have hg : (rows.map fun r => r.map i64)[i]? = some ((rows.getD i []).map i64) := by
    rw [List.getElem?_map, List.getElem?_eq_getElem hi, List.getD_eq_getElem?_getD, List.getElem?_eq_getElem hi]; rfl
  have hL := h i _ hg
  by_cases e : j = i
  · subst e
    rw [if_pos rfl, if_pos hj] at hv hx
    injection hv with hv
    injection hx with hx
    subst hv
    subst hx
    rw [← hr] at hL
    simp only [Res]
    rw [hL]
    refine ⟨_, rfl, by rw [List.length_map]; omega, ?_⟩
    rw [List.map_drop, List.take_of_length_le (by rw [List.length_drop, List.length_map]; omega)]
  · rw [if_neg e] at hv hx
    rw [refs_get hi] at hv
    injection hv with hv
    subst hv
    rw [ccell hi] at hx
    injection hx with hx
    subst hx
    simp only [Res]
    rw [hL]
    exact ⟨_, rfl, by rw [List.length_map]; omega, by rw [List.drop_zero, List.take_of_length_le (by rw [List.length_map]; omega)]⟩
theorem row_add {rows : List (List Int)} {n : Nat} {i : Nat} {r : List PV} (h : ((rows ++ [List.replicate n (0 : Int)]).map fun r : List Int => r.map i64)[i]? = some r) : (i < rows.length ∧ (rows.map fun r => r.map i64)[i]? = some r) ∨ (i = rows.length ∧ r = List.replicate n (i64 0)) := by
  rcases row_snoc h with h | ⟨h, h'⟩
  · exact .inl h
  · exact .inr ⟨h, by rw [h', List.map_replicate]⟩

/-- The end. -/

theorem of_c (B : Bn) (d : Dt) (hd : rightP d) : Pure cx 17 [B.pv, d.pv] fun r => ∃ d', SmB d' ∧ r = .ret [d'.pv] := by
  refine pure_of_vc Tryd.func17 rfl rfl rfl ?_
  obtain ⟨cs, xs⟩ := d
  obtain ⟨⟨r1, r2, r3⟩, r4, r5, r6⟩ := hd
  simp only [] at r1 r2 r3 r4 r5 r6
  refine ⟨by show 0 + 0 ≤ 0; omega, [], rfl, by show (0 + (cs.map i64).length) * 8 ≤ 140737488355328; rw [List.length_map]; omega, cs.map i64, rfl, ?_⟩
  refine ⟨Nat × List (List Int), fun x => [(2, .ptr 0 0 0), (3, .ptr 1 0 0), (4, .ptr 2 0 0), (5, .ptr 5 0 0), (6, .p (i64 x.1))], fun x => bdH B ⟨cs, xs⟩ cs x.2, fun x => x.1 ≤ xs.length ∧ x.2 = xs.take x.1, fun x => xs.length - x.1, ?_, ?_⟩
  · exact ⟨(0, []), ⟨by simp, rfl⟩, ent_rows 10 [] [(6, 1)] (fun i => i) rfl (by simp) (fun i j h => by simp at h) (fun i h => by simp at h) (fun i r h => (no_rows i r h).elim) ⟨⟨rfl, rfl⟩, ⟨rfl, rfl⟩, ⟨rfl, rfl⟩, ⟨rfl, rfl⟩, rfl, trivial⟩ ⟨⟨rfl, rfl, rfl⟩, ⟨_, rfl, rfl, rfl, _, rfl, _, _, rfl, congrArg (fun n => AV.sl 4 1 0 n) (by rw [List.length_map, Nat.zero_add]), by (repeat' first | exact trivial | exact rfl | exact ⟨rfl, rfl⟩ | exact .inl rfl | refine ⟨_, rfl, rfl, rfl, ?_⟩ | refine ⟨_, _, rfl, ?_, ?_⟩ | refine ⟨_, rfl, ?_⟩ | refine And.intro ?_ ?_)⟩, ⟨_, rfl, rfl, rfl, rfl⟩, ⟨_, rfl, rfl, rfl, _, rfl, by (repeat' first | exact trivial | exact rfl | exact ⟨rfl, rfl⟩ | exact .inl rfl | refine ⟨_, rfl, rfl, rfl, ?_⟩ | refine ⟨_, _, rfl, ?_, ?_⟩ | refine ⟨_, rfl, ?_⟩ | refine And.intro ?_ ?_)⟩, ⟨_, rfl, rfl, rfl, _, rfl, by (repeat' first | exact trivial | exact rfl | exact ⟨rfl, rfl⟩ | exact .inl rfl | refine ⟨_, rfl, rfl, rfl, ?_⟩ | refine ⟨_, _, rfl, ?_, ?_⟩ | refine ⟨_, rfl, ?_⟩ | refine And.intro ?_ ?_)⟩, ⟨_, rfl, rfl, rfl, _, rfl, by (repeat' first | exact trivial | exact rfl | exact ⟨rfl, rfl⟩ | exact .inl rfl | refine ⟨_, rfl, rfl, rfl, ?_⟩ | refine ⟨_, _, rfl, ?_, ?_⟩ | refine ⟨_, rfl, ?_⟩ | refine And.intro ?_ ?_)⟩, trivial⟩ rfl⟩
  rintro ⟨k, rows⟩ ⟨g1, g2⟩
  simp only [] at g1 g2
  have hrl : rows.length = k := by rw [g2, List.length_take]; omega
  (first | refine brLt (fun h1 => ?_) (fun h1 => ?_) | refine brLe (fun h1 => ?_) (fun h1 => ?_) | refine brEq (fun h1 => ?_) (fun h1 => ?_))
  · have h1 : (k : Int) < ((xs.map ints).length : Nat) := h1
    rw [List.length_map] at h1
    have hk : k < xs.length := by omega
    obtain ⟨c, hc⟩ : ∃ c, c = xs.getD k [] := ⟨_, rfl⟩
    have hcm : c ∈ xs := by rw [hc]; exact getD_memL [] hk
    have hcl := (r5 c hcm).1
    refine VDraw.seq rfl ?_
    refine ⟨_, ⟨by omega, ints c, by rw [hc]; exact ccell hk, rfl⟩, ?_⟩
    refine ⟨by (repeat' first | exact trivial | exact rfl | exact ⟨rfl, rfl⟩ | exact .inl rfl | refine ⟨_, rfl, rfl, rfl, ?_⟩ | refine ⟨_, _, rfl, ?_, ?_⟩ | refine ⟨_, rfl, ?_⟩ | refine And.intro ?_ ?_), ?_⟩
    refine ⟨by show 0 + 0 ≤ 0; omega, [], rfl, by show (0 + (c.map i64).length) * 8 ≤ 140737488355328; rw [List.length_map]; omega, c.map i64, rfl, ?_⟩
    repeat refine ⟨by (repeat' first | exact trivial | exact rfl | exact ⟨rfl, rfl⟩ | exact .inl rfl | refine ⟨_, rfl, rfl, rfl, ?_⟩ | refine ⟨_, _, rfl, ?_, ?_⟩ | refine ⟨_, rfl, ?_⟩ | refine And.intro ?_ ?_), ?_⟩
    refine Or.inr ?_
    refine part1_mx (refs_len _ _) ?_
    refine ⟨by show (rows.length + 1) * 24 ≤ 140737488355328; omega, ?_⟩
    refine ⟨_, wrap_i64 (by omega) (by omega), ?_⟩
    refine ⟨(k + 1, rows ++ [c]), ⟨by simp only []; omega, by simp only []; rw [take_succ_getD [] hk, ← g2, ← hc]⟩, ent_rows 10 [(6, 103)] [] (fun i => if i < rows.length then 10 + i else 101) rfl (by rw [List.length_map, List.length_append]; simp only [List.length_singleton]; omega) (fun i j h1 h2 e => ?_) (fun i hi p hp _ => ?_) (fun i r hr => ?_) ⟨⟨rfl, rfl⟩, ⟨rfl, rfl⟩, ⟨rfl, rfl⟩, ⟨rfl, rfl⟩, rfl, trivial⟩ ⟨⟨_, rfl, rfl, rfl, _, rfl, seeL_refs rfl (by rw [List.length_map, List.length_map, List.length_append]; simp only [List.length_singleton]; omega) ?_ fun i x hx => ?_⟩, ⟨_, rfl, rfl, rfl, _, rfl, _, _, rfl, rfl, _, _, rfl, congrArg (fun n => AV.sl 103 1 0 n) (snoc_len rows c).symm, rfl⟩, ⟨_, rfl, rfl, rfl, rfl⟩, ⟨_, rfl, rfl, rfl, _, rfl, by (repeat' first | exact trivial | exact rfl | exact ⟨rfl, rfl⟩ | exact .inl rfl | refine ⟨_, rfl, rfl, rfl, ?_⟩ | refine ⟨_, _, rfl, ?_, ?_⟩ | refine ⟨_, rfl, ?_⟩ | refine And.intro ?_ ?_)⟩, ⟨_, rfl, rfl, rfl, _, rfl, by (repeat' first | exact trivial | exact rfl | exact ⟨rfl, rfl⟩ | exact .inl rfl | refine ⟨_, rfl, rfl, rfl, ?_⟩ | refine ⟨_, _, rfl, ?_, ?_⟩ | refine ⟨_, rfl, ?_⟩ | refine And.intro ?_ ?_)⟩, ⟨_, rfl, rfl, rfl, _, rfl, by (repeat' first | exact trivial | exact rfl | exact ⟨rfl, rfl⟩ | exact .inl rfl | refine ⟨_, rfl, rfl, rfl, ?_⟩ | refine ⟨_, _, rfl, ?_, ?_⟩ | refine ⟨_, rfl, ?_⟩ | refine And.intro ?_ ?_)⟩, trivial⟩ rfl, by simp only []; omega⟩
    · simp only [List.length_map, List.length_append, List.length_singleton] at h1 h2
      have e : (if i < rows.length then 10 + i else 101) = (if j < rows.length then 10 + j else 101) := e
      split at e <;> split at e <;> omega
    · simp only [List.length_map, List.length_append, List.length_singleton] at hi
      show Y.look _ p.1 ≠ if i < rows.length then 10 + i else 101
      split
      · exact names_off (a := 10) (b := 100) rfl (Nat.le_add_right 10 _) (by omega) p hp ‹_›
      · exact names_off (a := 101) (b := 102) rfl (by omega) (by omega) p hp ‹_›
    · show lget (lset ((103, _) :: ldel ((102, _) :: (101, iO c) :: ldel ((100, iO []) :: (bdL B ⟨cs, xs⟩ cs.length cs rows ++ rowsI 10 rows)) 100) 6) 5 _) (if i < rows.length then 10 + i else 101) = _
      rcases row_snoc hr with ⟨h, hr⟩ | ⟨h, rfl⟩
      · rw [if_pos h]
        rw [lget_lset_other (by omega), lget_cons_ne (by omega), lget_ldel_ne (by omega), lget_cons_ne (by omega), lget_cons_ne (by omega), lget_ldel_ne (by omega), lget_cons_ne (by omega)]
        exact lget_rows TN rfl hr
      · rw [if_neg (by omega)]
        rfl
    · rw [List.length_append, refs_len]; simp
    · have e : (c.map i64).length = c.length := List.length_map ..
      show (refsL 10 ((rows.map fun r => r.map i64).map fun r => (0, r.length)) ++ [AV.sl 101 1 0 (0 + (c.map i64).length)])[i]? = _
      rw [Nat.zero_add, e]
      exact refs_snoc' hx
  · have h1 : ¬ (k : Int) < ((xs.map ints).length : Nat) := h1
    rw [List.length_map] at h1
    rw [take_all (by omega)] at g2
    subst g2
    have hwl := B.what.toNat_lt
    have hsl := B.spot.toNat_lt
    have hsm : ∀ c ∈ rows, c.length ≤ 6 := fun c hc => by have := (r5 c hc).1; omega
    have hdef : SmB ⟨[], rows⟩ := ⟨by simp, by simp only []; omega, hsm⟩
    refine ⟨by decide, ?_⟩
    (first | refine brLt (fun a0 => ?_) (fun a0 => ?_) | refine brLe (fun a0 => ?_) (fun a0 => ?_) | refine brEq (fun a0 => ?_) (fun a0 => ?_))
    · have a0 : ((B.what.toNat % 6 : Nat) : Int) = 0 := a0
      obtain ⟨q, hqq⟩ : ∃ q, q = B.spot.toNat % cs.length := ⟨_, rfl⟩
      have hq : q < cs.length := by rw [hqq]; exact Nat.mod_lt _ (by omega)
      have eq : ((B.spot.toNat : Nat) : Int).tmod (cs.length : Nat) = (q : Nat) := by rw [hqq]; rfl
      refine VDraw.seq rfl ?_
      refine ⟨(B.spot.toNat : Int), wrap_i64 (by omega) (by omega), ?_⟩
      refine ⟨show (cs.length : Int) ≠ 0 by omega, ?_⟩
      refine ⟨by show (0 : Int) ≤ ((B.spot.toNat : Nat) : Int).tmod (cs.length : Nat) ∧ ((B.spot.toNat : Nat) : Int).tmod (cs.length : Nat) < (cs.length : Nat); rw [eq]; omega, ?_⟩
      refine ⟨by show 0 + (((B.spot.toNat : Nat) : Int).tmod (cs.length : Nat)).toNat < (cs.map i64).length; rw [eq, List.length_map]; omega, ?_⟩
      refine endR (Dt.mk (cs.set q B.n) rows).pv ?_ ⟨_, rfl, _, _, rfl, ⟨_, rfl, by show 0 + cs.length ≤ ((cs.map i64).set _ _).length; simp, ?_⟩, _, _, rfl, ⟨_, rows.map ints, getN_len (refs_len _ _), rfl, ?_⟩, rfl⟩ ⟨⟨cs.set q B.n, rows⟩, ⟨by simp only [List.length_set]; omega, by simp only []; omega, hsm⟩, rfl⟩
      · exact nodup_rows (T := TN) (B := 10) (lit := bdX B ⟨cs, rows⟩ cs.length ⟨TN, false, .pu ((cs.map i64).set (0 + (((B.spot.toNat : Nat) : Int).tmod (cs.length : Nat)).toNat) (i64 B.n))⟩ (refsO 10 rows) rows.length) (rows := rows.map fun r => r.map i64) 100 (by rw [List.length_map]; omega) rfl
      · show (cs.set q B.n).map i64 = (((cs.map i64).set (0 + (((B.spot.toNat : Nat) : Int).tmod (cs.length : Nat)).toNat) (i64 B.n)).drop 0).take cs.length
        rw [eq, Nat.zero_add, Int.toNat_natCast, List.map_set]
        exact takeAll (by simp)
      · exact res_rows (L := allFr (bdX B ⟨cs, rows⟩ cs.length ⟨TN, false, .pu ((cs.map i64).set (0 + (((B.spot.toNat : Nat) : Int).tmod (cs.length : Nat)).toNat) (i64 B.n))⟩ (refsO 10 rows) rows.length ++ rowsI 10 rows)) fun i r hr => lget_allFr_rows TN rfl hr
    · have a0 : ¬ ((B.what.toNat % 6 : Nat) : Int) = 0 := a0
      refine ⟨by decide, ?_⟩
      (first | refine brLt (fun a1 => ?_) (fun a1 => ?_) | refine brLe (fun a1 => ?_) (fun a1 => ?_) | refine brEq (fun a1 => ?_) (fun a1 => ?_))
      · have a1 : ((B.what.toNat % 6 : Nat) : Int) = 1 := a1
        (first | refine brLt (fun l1 => ?_) (fun l1 => ?_) | refine brLe (fun l1 => ?_) (fun l1 => ?_) | refine brEq (fun l1 => ?_) (fun l1 => ?_))
        · have l1 : (0 : Int) < (rows.length : Nat) := l1
          obtain ⟨j, hjj⟩ : ∃ j, j = B.spot.toNat / 4 % rows.length := ⟨_, rfl⟩
          have hj : j < rows.length := by rw [hjj]; exact Nat.mod_lt _ (by omega)
          have ej : ((B.spot.toNat / 4 : Nat) : Int).tmod (rows.length : Nat) = (j : Nat) := by rw [hjj]; rfl
          obtain ⟨r, hr⟩ : ∃ r, r = rows.getD j [] := ⟨_, rfl⟩
          have hrm : r ∈ rows := by rw [hr]; exact getD_memL [] hj
          have hrl := (r5 r hrm).1
          obtain ⟨q, hqq⟩ : ∃ q, q = B.spot.toNat % r.length := ⟨_, rfl⟩
          have hq : q < r.length := by rw [hqq]; exact Nat.mod_lt _ (by omega)
          have eq : ((B.spot.toNat : Nat) : Int).tmod (r.length : Nat) = (q : Nat) := by rw [hqq]; rfl
          have hrow : (rows.map fun r => r.map i64)[j]? = some (r.map i64) := by rw [List.getElem?_map, List.getElem?_eq_getElem hj, hr, List.getD_eq_getElem?_getD, List.getElem?_eq_getElem hj]; rfl
          refine VDraw.seq rfl ?_
          refine ⟨by decide, ((B.spot.toNat / 4 : Nat) : Int), wrap8 (by omega) (by omega), ?_⟩
          refine ⟨((B.spot.toNat / 4 : Nat) : Int), wrap_i64 (by omega) (by omega), ?_⟩
          refine ⟨show (rows.length : Int) ≠ 0 by omega, ?_⟩
          refine ⟨by show (0 : Int) ≤ ((B.spot.toNat / 4 : Nat) : Int).tmod (rows.length : Nat) ∧ ((B.spot.toNat / 4 : Nat) : Int).tmod (rows.length : Nat) < (rows.length : Nat); rw [ej]; omega, ?_⟩
          show (popLoad Tryd.prog TI (.ptr 6 (0 + (((B.spot.toNat / 4 : Nat) : Int).tmod (rows.length : Nat)).toNat) 0) (lget (bdH B ⟨cs, rows⟩ cs rows).l)).Then _
          refine then_mx (P := Tryd.prog) (t := TI) (o := refsO 10 rows) (x := .sl (10 + j) 1 0 r.length) rfl rfl rfl (by show (refsL 10 ((rows.map fun r => r.map i64).map fun r => (0, r.length)))[0 + (((B.spot.toNat / 4 : Nat) : Int).tmod (rows.length : Nat)).toNat]? = _; rw [ej, Nat.zero_add, Int.toNat_natCast, hr]; exact refs_get hj) ?_
          refine VDraw.seq rfl ?_
          refine ⟨(B.spot.toNat : Int), wrap_i64 (by omega) (by omega), ?_⟩
          refine ⟨show (r.length : Int) ≠ 0 by omega, ?_⟩
          refine ⟨by show (0 : Int) ≤ ((B.spot.toNat : Nat) : Int).tmod (r.length : Nat) ∧ ((B.spot.toNat : Nat) : Int).tmod (r.length : Nat) < (r.length : Nat); rw [eq]; omega, ?_⟩
          conv => whnf
          generalize hz : lget _ _ = z
          rw [show z = some (rowO TN (r.map i64)) from hz.symm.trans (lget_rows (lit := bdL B ⟨cs, rows⟩ cs.length cs rows) (B := 10) TN rfl hrow)]
          refine ⟨by show 0 + (((B.spot.toNat : Nat) : Int).tmod (r.length : Nat)).toNat < (r.map i64).length; rw [eq, List.length_map]; omega, ?_⟩
          generalize hL : lset _ _ _ = L
          have eL : L = bdL B ⟨cs, rows⟩ cs.length cs rows ++ rowsI 10 (rows.set j (r.set q B.n)) := by
            refine (hL.symm.trans (lset_rows (lit := bdL B ⟨cs, rows⟩ cs.length cs rows) (B := 10) TN (x := (r.map i64).set (0 + (((B.spot.toNat : Nat) : Int).tmod (r.length : Nat)).toNat) (i64 B.n)) rfl)).trans ?_
            rw [eq, Nat.zero_add, Int.toNat_natCast, rowsI, List.map_set, List.map_set]
          rw [eL]
          have hls := set_lens (r := r.set q B.n) hj (by rw [List.length_set, hr])
          refine endR (Dt.mk cs (rows.set j (r.set q B.n))).pv ?_ ⟨_, rfl, _, _, rfl, ⟨_, rfl, by show 0 + cs.length ≤ (cs.map i64).length; simp, takeAll (by simp)⟩, _, _, rfl, ⟨_, (rows.set j (r.set q B.n)).map ints, getN_len (refs_len _ _), rfl, ?_⟩, rfl⟩ ⟨⟨cs, rows.set j (r.set q B.n)⟩, ⟨by simp only []; omega, by simp only [List.length_set]; omega, fun c hc => ?_⟩, rfl⟩
          · exact nodup_rows (T := TN) (B := 10) (lit := bdX B ⟨cs, rows⟩ cs.length (iO cs) (refsO 10 rows) rows.length) (rows := (rows.set j (r.set q B.n)).map fun r => r.map i64) 100 (by rw [List.length_map, List.length_set]; omega) rfl
          · have := res_rows (rows := rows.set j (r.set q B.n)) (L := allFr (bdX B ⟨cs, rows⟩ cs.length (iO cs) (refsO 10 rows) rows.length ++ rowsI 10 (rows.set j (r.set q B.n)))) fun i r hr => lget_allFr_rows TN rfl hr
            rw [hls] at this
            exact this
          · rcases List.mem_or_eq_of_mem_set hc with hc | hc
            · exact hsm c hc
            · rw [hc, List.length_set]; exact hsm r hrm
        · refine ⟨by decide, ?_⟩
          refine And.intro (fun a2 => ?_) (fun _ => ?_)
          · have a2 : ((B.what.toNat % 6 : Nat) : Int) = 2 := a2
            omega
          refine ⟨by decide, ?_⟩
          refine And.intro (fun a2 => ?_) (fun _ => ?_)
          · have a2 : ((B.what.toNat % 6 : Nat) : Int) = 3 := a2
            omega
          refine ⟨by decide, ?_⟩
          refine And.intro (fun a2 => ?_) (fun _ => ?_)
          · have a2 : ((B.what.toNat % 6 : Nat) : Int) = 4 := a2
            omega
          refine endR (Dt.mk [] rows).pv ?_ ⟨_, rfl, _, _, rfl, .inr (.inl rfl), _, _, rfl, ⟨_, rows.map ints, getN_len (refs_len _ _), rfl, ?_⟩, rfl⟩ ⟨⟨[], rows⟩, hdef, rfl⟩
          · exact nodup_rows (T := TN) (B := 10) (lit := bdE B ⟨cs, rows⟩ (.p .nils) (.sl 6 1 0 rows.length) cs rows) (rows := rows.map fun r => r.map i64) 100 (by rw [List.length_map]; omega) rfl
          · exact res_rows (L := allFr (bdE B ⟨cs, rows⟩ (.p .nils) (.sl 6 1 0 rows.length) cs rows ++ rowsI 10 rows)) fun i r hr => lget_allFr_rows TN rfl hr
      · refine ⟨by decide, ?_⟩
        (first | refine brLt (fun a2 => ?_) (fun a2 => ?_) | refine brLe (fun a2 => ?_) (fun a2 => ?_) | refine brEq (fun a2 => ?_) (fun a2 => ?_))
        · have a2 : ((B.what.toNat % 6 : Nat) : Int) = 2 := a2
          (first | refine brLt (fun l2 => ?_) (fun l2 => ?_) | refine brLe (fun l2 => ?_) (fun l2 => ?_) | refine brEq (fun l2 => ?_) (fun l2 => ?_))
          · have l2 : (0 : Int) < (rows.length : Nat) := l2
            obtain ⟨j, hjj⟩ : ∃ j, j = B.spot.toNat % rows.length := ⟨_, rfl⟩
            have hj : j < rows.length := by rw [hjj]; exact Nat.mod_lt _ (by omega)
            have ej : ((B.spot.toNat : Nat) : Int).tmod (rows.length : Nat) = (j : Nat) := by rw [hjj]; rfl
            obtain ⟨r, hr⟩ : ∃ r, r = rows.getD j [] := ⟨_, rfl⟩
            have hrm : r ∈ rows := by rw [hr]; exact getD_memL [] hj
            have hrl := (r5 r hrm).1
            refine ⟨(B.spot.toNat : Int), wrap_i64 (by omega) (by omega), ?_⟩
            refine ⟨show (rows.length : Int) ≠ 0 by omega, ?_⟩
            refine VDraw.seq rfl ?_
            have hin : (0 : Int) ≤ ((B.spot.toNat : Nat) : Int).tmod (rows.length : Nat) ∧ ((B.spot.toNat : Nat) : Int).tmod (rows.length : Nat) < (rows.length : Nat) := by rw [ej]; omega
            refine ⟨hin, ?_⟩
            show (popLoad Tryd.prog TI (.ptr 6 (0 + (((B.spot.toNat : Nat) : Int).tmod (rows.length : Nat)).toNat) 0) (lget (bdH B ⟨cs, rows⟩ cs rows).l)).Then _
            refine then_mx (P := Tryd.prog) (t := TI) (o := refsO 10 rows) (x := .sl (10 + j) 1 0 r.length) rfl rfl rfl (by show (refsL 10 ((rows.map fun r => r.map i64).map fun r => (0, r.length)))[0 + (((B.spot.toNat : Nat) : Int).tmod (rows.length : Nat)).toNat]? = _; rw [ej, Nat.zero_add, Int.toNat_natCast, hr]; exact refs_get hj) ?_
            refine ⟨by show (0 : Int) ≤ 1 ∧ (1 : Int) ≤ (r.length : Nat); omega, ?_⟩
            refine ⟨hin, ?_⟩
            conv => whnf
            generalize hz : (_ && _) = z
            have hzt : z = true := by
              rw [← hz]
              show (true && Nat.blt (0 + (((B.spot.toNat : Nat) : Int).tmod (rows.length : Nat)).toNat) (refsL 10 ((rows.map fun r => r.map i64).map fun r => (0, r.length))).length && true) = true
              rw [ej, refs_len]
              simp [hj]
            rw [hzt]
            clear hz hzt
            refine endR (Dt.mk cs (rows.set j (r.drop 1))).pv ?_ ⟨_, rfl, _, _, rfl, ⟨_, rfl, by show 0 + cs.length ≤ (cs.map i64).length; simp, takeAll (by simp)⟩, _, _, rfl, ⟨(refsL 10 ((rows.map fun r => r.map i64).map fun r => (0, r.length))).set j (.sl (10 + j) 1 (0 + 1) (r.length - 1)), (rows.set j (r.drop 1)).map ints, ?_, rfl, ?_⟩, rfl⟩ ⟨⟨cs, rows.set j (r.drop 1)⟩, ⟨by simp only []; omega, by simp only [List.length_set]; omega, fun c hc => ?_⟩, rfl⟩
            · exact nodup_rows (T := TN) (B := 10) (lit := bdX B ⟨cs, rows⟩ cs.length (iO cs) ⟨TI, false, .mx (spl (refsL 10 ((rows.map fun r => r.map i64).map fun r => (0, r.length))) (0 + (((B.spot.toNat : Nat) : Int).tmod (rows.length : Nat)).toNat) [.sl (10 + j) 1 (0 + 1) (r.length - 1)])⟩ rows.length) (rows := rows.map fun r => r.map i64) 100 (by rw [List.length_map]; omega) rfl
            · show getN (spl (refsL 10 ((rows.map fun r => r.map i64).map fun r => (0, r.length))) (0 + (((B.spot.toNat : Nat) : Int).tmod (rows.length : Nat)).toNat) [.sl (10 + j) 1 (0 + 1) (r.length - 1)]) 0 rows.length = _
              rw [ej, Nat.zero_add, Int.toNat_natCast, spl_one]
              exact getN_len (by rw [List.length_set, refs_len])
            · exact res_cut (L := allFr (bdX B ⟨cs, rows⟩ cs.length (iO cs) ⟨TI, false, .mx (spl (refsL 10 ((rows.map fun r => r.map i64).map fun r => (0, r.length))) (0 + (((B.spot.toNat : Nat) : Int).tmod (rows.length : Nat)).toNat) [.sl (10 + j) 1 (0 + 1) (r.length - 1)])⟩ rows.length ++ rowsI 10 rows)) hj hr (by omega) fun i r hr => lget_allFr_rows TN rfl hr
            · rcases List.mem_or_eq_of_mem_set hc with hc | hc
              · exact hsm c hc
              · rw [hc, List.length_drop]; have := hsm r hrm; omega
          · refine ⟨by decide, ?_⟩
            refine And.intro (fun a2 => ?_) (fun _ => ?_)
            · have a2 : ((B.what.toNat % 6 : Nat) : Int) = 3 := a2
              omega
            refine ⟨by decide, ?_⟩
            refine And.intro (fun a2 => ?_) (fun _ => ?_)
            · have a2 : ((B.what.toNat % 6 : Nat) : Int) = 4 := a2
              omega
            refine endR (Dt.mk [] rows).pv ?_ ⟨_, rfl, _, _, rfl, .inr (.inl rfl), _, _, rfl, ⟨_, rows.map ints, getN_len (refs_len _ _), rfl, ?_⟩, rfl⟩ ⟨⟨[], rows⟩, hdef, rfl⟩
            · exact nodup_rows (T := TN) (B := 10) (lit := bdE B ⟨cs, rows⟩ (.p .nils) (.sl 6 1 0 rows.length) cs rows) (rows := rows.map fun r => r.map i64) 100 (by rw [List.length_map]; omega) rfl
            · exact res_rows (L := allFr (bdE B ⟨cs, rows⟩ (.p .nils) (.sl 6 1 0 rows.length) cs rows ++ rowsI 10 rows)) fun i r hr => lget_allFr_rows TN rfl hr
        · refine ⟨by decide, ?_⟩
          (first | refine brLt (fun a3 => ?_) (fun a3 => ?_) | refine brLe (fun a3 => ?_) (fun a3 => ?_) | refine brEq (fun a3 => ?_) (fun a3 => ?_))
          · refine ⟨List (List Int), fun _ => [(4, .ptr 2 0 0), (5, .ptr 5 0 0)], fun x => bdH B ⟨cs, rows⟩ cs x, fun x => x.length ≤ 41 ∧ ∀ c ∈ x, c.length ≤ 6, fun x => 41 - x.length, ?_, ?_⟩
            · exact ⟨rows, ⟨by omega, hsm⟩, ent_rows 10 [] [] (fun i => 10 + i) rfl (by rw [List.length_map]; omega) (fun i j h1 h2 e => by have e : 10 + i = 10 + j := e; omega) (fun i hi p hp _ => names_off (a := 10) (b := 100) rfl (Nat.le_add_right 10 _) (by have hi := hi; rw [List.length_map] at hi; show 10 + i < 100; omega) p hp ‹_›) (fun i r hr => lget_rows TN rfl hr) ⟨⟨rfl, rfl⟩, ⟨rfl, rfl⟩, trivial⟩ ⟨⟨_, rfl, rfl, rfl, _, rfl, seeL_refs rfl (by rw [List.length_map, List.length_map]; omega) (refsL_len _ _) fun i x hx => by rw [refsL_get, hx]; rfl⟩, ⟨_, rfl, rfl, rfl, _, rfl, by (repeat' first | exact trivial | exact rfl | exact ⟨rfl, rfl⟩ | exact .inl rfl | refine ⟨_, rfl, rfl, rfl, ?_⟩ | refine ⟨_, _, rfl, ?_, ?_⟩ | refine ⟨_, rfl, ?_⟩ | refine And.intro ?_ ?_)⟩, ⟨_, rfl, rfl, rfl, rfl⟩, ⟨_, rfl, rfl, rfl, _, rfl, by (repeat' first | exact trivial | exact rfl | exact ⟨rfl, rfl⟩ | exact .inl rfl | refine ⟨_, rfl, rfl, rfl, ?_⟩ | refine ⟨_, _, rfl, ?_, ?_⟩ | refine ⟨_, rfl, ?_⟩ | refine And.intro ?_ ?_)⟩, ⟨_, rfl, rfl, rfl, _, rfl, by (repeat' first | exact trivial | exact rfl | exact ⟨rfl, rfl⟩ | exact .inl rfl | refine ⟨_, rfl, rfl, rfl, ?_⟩ | refine ⟨_, _, rfl, ?_, ?_⟩ | refine ⟨_, rfl, ?_⟩ | refine And.intro ?_ ?_)⟩, ⟨_, rfl, rfl, rfl, _, rfl, by (repeat' first | exact trivial | exact rfl | exact ⟨rfl, rfl⟩ | exact .inl rfl | refine ⟨_, rfl, rfl, rfl, ?_⟩ | refine ⟨_, _, rfl, ?_, ?_⟩ | refine ⟨_, rfl, ?_⟩ | refine And.intro ?_ ?_)⟩, trivial⟩ rfl⟩
            rintro ys ⟨y1, y2⟩
            (first | refine brLt (fun b1 => ?_) (fun b1 => ?_) | refine brLe (fun b1 => ?_) (fun b1 => ?_) | refine brEq (fun b1 => ?_) (fun b1 => ?_))
            · have b1 : (ys.length : Int) < 41 := b1
              refine VDraw.seq rfl ?_
              refine ⟨by show (0 : Int) ≤ (cs.length : Nat) ∧ ((cs.length : Nat) : Int) ≤ (cs.length : Nat) ∧ ((cs.length : Nat) : Int) * 8 ≤ 281474976710656 ∧ ((cs.length : Nat) : Int) ≤ 281474976710656; omega, ?_⟩
              repeat refine ⟨by (repeat' first | exact trivial | exact rfl | exact ⟨rfl, rfl⟩ | exact .inl rfl | refine ⟨_, rfl, rfl, rfl, ?_⟩ | refine ⟨_, _, rfl, ?_, ?_⟩ | refine ⟨_, rfl, ?_⟩ | refine And.intro ?_ ?_), ?_⟩
              refine Or.inr ?_
              refine part1_mx (refs_len _ _) ?_
              refine ⟨by show (ys.length + 1) * 24 ≤ 140737488355328; omega, ?_⟩
              refine ⟨ys ++ [List.replicate cs.length 0], ⟨by simp only [List.length_append, List.length_singleton]; omega, fun c hc => ?_⟩, ent_rows 10 [(6, 102)] [] (fun i => if i < ys.length then 10 + i else 100) rfl (by rw [List.length_map, List.length_append]; simp only [List.length_singleton]; omega) (fun i j h1 h2 e => ?_) (fun i hi p hp _ => ?_) (fun i r hr => ?_) ⟨⟨rfl, rfl⟩, ⟨rfl, rfl⟩, trivial⟩ ⟨⟨_, rfl, rfl, rfl, _, rfl, seeL_refs rfl (by rw [List.length_map, List.length_map, List.length_append]; simp only [List.length_singleton]; omega) ?_ fun i x hx => ?_⟩, ⟨_, rfl, rfl, rfl, _, rfl, _, _, rfl, rfl, _, _, rfl, congrArg (fun n => AV.sl 102 1 0 n) (snoc_len ys _).symm, rfl⟩, ⟨_, rfl, rfl, rfl, rfl⟩, ⟨_, rfl, rfl, rfl, _, rfl, by (repeat' first | exact trivial | exact rfl | exact ⟨rfl, rfl⟩ | exact .inl rfl | refine ⟨_, rfl, rfl, rfl, ?_⟩ | refine ⟨_, _, rfl, ?_, ?_⟩ | refine ⟨_, rfl, ?_⟩ | refine And.intro ?_ ?_)⟩, ⟨_, rfl, rfl, rfl, _, rfl, by (repeat' first | exact trivial | exact rfl | exact ⟨rfl, rfl⟩ | exact .inl rfl | refine ⟨_, rfl, rfl, rfl, ?_⟩ | refine ⟨_, _, rfl, ?_, ?_⟩ | refine ⟨_, rfl, ?_⟩ | refine And.intro ?_ ?_)⟩, ⟨_, rfl, rfl, rfl, _, rfl, by (repeat' first | exact trivial | exact rfl | exact ⟨rfl, rfl⟩ | exact .inl rfl | refine ⟨_, rfl, rfl, rfl, ?_⟩ | refine ⟨_, _, rfl, ?_, ?_⟩ | refine ⟨_, rfl, ?_⟩ | refine And.intro ?_ ?_)⟩, trivial⟩ rfl, by simp only [List.length_append, List.length_singleton]; omega⟩
              · rcases List.mem_append.1 hc with hc | hc
                · exact y2 c hc
                · simp only [List.mem_singleton] at hc; rw [hc, List.length_replicate]; exact r2
              · simp only [List.length_map, List.length_append, List.length_singleton] at h1 h2
                have e : (if i < ys.length then 10 + i else 100) = (if j < ys.length then 10 + j else 100) := e
                split at e <;> split at e <;> omega
              · simp only [List.length_map, List.length_append, List.length_singleton] at hi
                show Y.look _ p.1 ≠ if i < ys.length then 10 + i else 100
                split
                · exact names_off (a := 10) (b := 100) rfl (Nat.le_add_right 10 _) (by omega) p hp ‹_›
                · exact names_off (a := 100) (b := 101) rfl (by omega) (by omega) p hp ‹_›
              · show lget (lset ((102, _) :: ldel ((101, _) :: (100, ⟨TN, false, .pu (List.replicate ((cs.length : Nat) : Int).toNat (i64 0))⟩) :: (bdL B ⟨cs, rows⟩ cs.length cs ys ++ rowsI 10 ys)) 6) 5 _) (if i < ys.length then 10 + i else 100) = _
                rcases row_add hr with ⟨h, hr⟩ | ⟨h, rfl⟩
                · rw [if_pos h]
                  rw [lget_lset_other (by omega), lget_cons_ne (by omega), lget_ldel_ne (by omega), lget_cons_ne (by omega), lget_cons_ne (by omega)]
                  exact lget_rows TN rfl hr
                · rw [if_neg (by omega)]
                  rfl
              · rw [List.length_append, refs_len]; simp
              · have := refs_snoc' (n := 100) hx
                rw [List.length_replicate] at this
                exact this
            · have b1 : ¬ (ys.length : Int) < 41 := b1
              have hB : SmB ⟨cs, ys⟩ := ⟨r2, y1, y2⟩
              refine endR (Dt.mk cs ys).pv ?_ ⟨_, rfl, _, _, rfl, ⟨_, rfl, by show 0 + cs.length ≤ (cs.map i64).length; simp, takeAll (by simp)⟩, _, _, rfl, ⟨_, ys.map ints, getN_len (refs_len _ _), rfl, ?_⟩, rfl⟩ ⟨⟨cs, ys⟩, hB, rfl⟩
              · exact nodup_rows (T := TN) (B := 10) (lit := bdX B ⟨cs, rows⟩ cs.length (iO cs) (refsO 10 ys) ys.length) (rows := ys.map fun r => r.map i64) 100 (by rw [List.length_map]; omega) rfl
              · exact res_rows (L := allFr (bdX B ⟨cs, rows⟩ cs.length (iO cs) (refsO 10 ys) ys.length ++ rowsI 10 ys)) fun i r hr => lget_allFr_rows TN rfl hr
          · refine ⟨by decide, ?_⟩
            (first | refine brLt (fun a4 => ?_) (fun a4 => ?_) | refine brLe (fun a4 => ?_) (fun a4 => ?_) | refine brEq (fun a4 => ?_) (fun a4 => ?_))
            · refine endR (Dt.mk [4, 4, 4, 4, 4, 4] []).pv ?_ ⟨_, rfl, _, _, rfl, ⟨_, rfl, by show 0 + 6 ≤ 6; omega, rfl⟩, _, _, rfl, .inr (.inl rfl), rfl⟩ ⟨⟨[4, 4, 4, 4, 4, 4], []⟩, ⟨by decide, by simp, by simp⟩, rfl⟩
              exact nodup_rows (T := TN) (B := 10) (lit := (100, iO [4, 4, 4, 4, 4, 4]) :: bdE B ⟨cs, rows⟩ (.sl 100 1 0 6) (.p .nils) cs rows) (rows := rows.map fun r => r.map i64) 100 (by rw [List.length_map]; omega) rfl
            · refine endR (Dt.mk [] rows).pv ?_ ⟨_, rfl, _, _, rfl, .inr (.inl rfl), _, _, rfl, ⟨_, rows.map ints, getN_len (refs_len _ _), rfl, ?_⟩, rfl⟩ ⟨⟨[], rows⟩, hdef, rfl⟩
              · exact nodup_rows (T := TN) (B := 10) (lit := bdE B ⟨cs, rows⟩ (.p .nils) (.sl 6 1 0 rows.length) cs rows) (rows := rows.map fun r => r.map i64) 100 (by rw [List.length_map]; omega) rfl
              · exact res_rows (L := allFr (bdE B ⟨cs, rows⟩ (.p .nils) (.sl 6 1 0 rows.length) cs rows ++ rowsI 10 rows)) fun i r hr => lget_allFr_rows TN rfl hr
end Go.Proofs.YtmdmjnfdemgpoaaDoor

/- Package data: Count. -/
namespace Go.Proofs.YtmdmjnfdemgpoaaDoor
open Go Y
set_option maxRecDepth 100000
set_option maxHeartbeats 4000000

def faZ : Fa := ⟨[], [], []⟩
def countP (d : Dt) (vars : List Int) : Fa × Int := if rightP d then (if listP d.cards.length vars then (countN d vars, 0) else (faZ, 2)) else (faZ, 250)
def countV (d : Dt) (vars : List Int) : List PV := [(countP d vars).1.pv, i64 (countP d vars).2]

theorem pre_ge {n : Int} {vars : List Int} {k : Nat} (h : ∀ i, i < k → prevN vars i < vars.getD i 0 ∧ vars.getD i 0 < n) : ∀ i, i < k → (i : Int) ≤ vars.getD i 0
  | 0, hi => by
    have h1 := (h 0 hi).1
    have h2 : prevN vars 0 = -1 := rfl
    rw [h2] at h1
    omega
  | i + 1, hi => by
    have h1 := pre_ge h i (by omega)
    have h2 := (h (i + 1) hi).1
    rw [prevN, if_neg (by omega), show i + 1 - 1 = i by omega] at h2
    omega
theorem pre_le {n k : Nat} {vars : List Int} (h : ∀ i, i < k → prevN vars i < vars.getD i 0 ∧ vars.getD i 0 < (n : Int)) : k ≤ n := by
  rcases Nat.eq_zero_or_pos k with h0 | h0
  · omega
  · have h1 := pre_ge h (k - 1) (by omega)
    have h2 := (h (k - 1) (by omega)).2
    omega

def vO (vars : List Int) : AObj := ⟨TI, false, .bx [.p (ints vars)]⟩
def fcO (a b : List Int) : AObj := ⟨TF, false, .bx [.sl 4 1 0 a.length, .sl 5 1 0 b.length, .p .nils]⟩
def fcW (a b w : List Int) : AObj := ⟨TF, false, .bx [.sl 4 1 0 a.length, .sl 5 1 0 b.length, .sl 6 1 0 w.length]⟩
/-- The heap of Count in its range. -/
def ckL (d : Dt) (vars a b : List Int) (st : LoopState) (N : Nat) (σ : Sg) (ps : List Tmp) (ac bd : Code) (w : List Int) : List (Nat × AObj) :=
  [(8, lpO st 7 N σ ps ac bd 7), (7, dfO), (6, iO w), (3, fcW a b w), (4, iO a), (5, iO b), (2, zeroF), (1, vO vars), (0, dtO d)]

theorem known_snoc {cs vars w : List Int} {n : Nat} {xs : List (List Int)} {k : Nat} (h : k < xs.length) (hw : w = tabN cs vars n (xs.take k)) : tabN cs vars n (xs.take (k + 1)) = bump w (idxN cs (xs.getD k []) vars 0) := by rw [tab_snoc h, hw]

theorem idx_miss {cs c : List Int} : ∀ {vars : List Int} {a : Int}, knownB vars c = false → idxN cs c vars a = -1
  | [], a, h => by simp [knownB] at h
  | v :: r, a, h => by
    rw [idxN]
    split
    · rfl
    · rename_i hv
      refine idx_miss ?_
      rw [knownB, List.all_cons, Bool.and_eq_false_iff] at h
      rcases h with h | h
      · simp only [decide_eq_false_iff_not] at h; omega
      · exact h
theorem idx_known {cs c : List Int} {v : Int} {r : List Int} {a : Int} (h : 0 ≤ c.getD v.toNat 0) : idxN cs c (v :: r) a = idxN cs c r (a * cs.getD v.toNat 0 + c.getD v.toNat 0) := by
  rw [idxN, if_neg (by omega)]

theorem iterK_c (d : Dt) (vars a b : List Int) (S : Nat) (hx : d.cases.length ≤ 1000) (hv : vars.length ≤ 1000) (hm : ∀ c ∈ d.cases, ∀ v ∈ vars, 0 ≤ v ∧ v < (c.length : Int)) (N : Nat) (σ σ1 : Sg) (ds : List AD) (ps : List Tmp) (ac bd : Code) (Q : KQ)
    (hok : Q .normal σ1 ds ⟨9, ckL d vars a b .exhausted N σ ps ac bd (tabN d.cards vars S d.cases)⟩)
    (hrd : ∀ (k : Nat) (w : List Int) (c : List Int) (K : AE → Hp → Prop), w.length = S → (∀ y ∈ w, 0 ≤ y ∧ y ≤ 1000) → c ∈ d.cases → knownB vars c = true → K (.returned (vB true)) ⟨9, ckL d vars a b .ready N σ ps ac bd (bump w (idxN d.cards c vars 0))⟩ → RoundH cx 8 [.p (i64 k), .p (ints c)] ⟨9, ckL d vars a b .ready N σ ps ac bd w⟩ K) :
    HoldsG cx 71 [.fn (.yield 8) [] [], .p (.fp d.cells), .p (.fp [ints vars])] ⟨9, [(8, lpO .ready 7 N σ ps ac bd 7), (7, dfO), (6, ⟨TN, false, .pu (List.replicate S (i64 0))⟩), (3, ⟨TF, false, .bx [.sl 4 1 0 a.length, .sl 5 1 0 b.length, .sl 6 1 0 S]⟩), (4, iO a), (5, iO b), (2, zeroF), (1, vO vars), (0, dtO d)]⟩ (RangeQ 8 σ1 ds Q) := by
  refine holdsN_of_vc Tryd.func71 rfl rfl rfl ?_
  obtain ⟨cs, xs⟩ := d
  simp only [] at hx hm hok hrd
  refine ⟨Nat × List Int, fun x => [(0, .fn (.yield 8) [] []), (1, .p (.fp (Dt.cells ⟨cs, xs⟩))), (2, .p (.fp [ints vars])), (9, .p (.lst (xs.map ints))), (10, .p (i64 xs.length)), (11, .p (i64 x.1))], fun x => ⟨9, ckL ⟨cs, xs⟩ vars a b .ready N σ ps ac bd x.2⟩,
    fun x => x.1 ≤ xs.length ∧ x.2 = tabN cs vars S (xs.take x.1) ∧ ∀ y ∈ x.2, 0 ≤ y ∧ y ≤ (x.1 : Int), fun x => xs.length - x.1, ?_, ?_⟩
  · refine ⟨(0, List.replicate S 0), ⟨by simp, by simp [tabN], fun y hy => by have := (List.mem_replicate.1 hy).2; simp only []; omega⟩, ent_of [] [] [] rfl ⟨⟨rfl, _, _, rfl, rfl, rfl⟩, rfl, rfl, rfl, lenC xs, rfl, trivial⟩ ?_ rfl⟩
    exact ⟨⟨_, rfl, rfl, rfl, rfl, rfl, rfl⟩, ⟨_, rfl, rfl, rfl, rfl⟩, ⟨_, rfl, rfl, rfl, (List.map_replicate).symm⟩, ⟨_, rfl, rfl, rfl, _, rfl, _, _, rfl, rfl, _, _, rfl, rfl, _, _, rfl, congrArg (fun n => AV.sl 6 1 0 n) (List.length_replicate).symm, rfl⟩, ⟨_, rfl, rfl, rfl, rfl⟩, ⟨_, rfl, rfl, rfl, rfl⟩, ⟨_, rfl, rfl, rfl, _, rfl, by (repeat' first | exact trivial | exact rfl | exact ⟨rfl, rfl⟩ | exact .inl rfl | refine ⟨_, rfl, rfl, rfl, ?_⟩ | refine ⟨_, _, rfl, ?_, ?_⟩ | refine ⟨_, rfl, ?_⟩ | refine And.intro ?_ ?_)⟩, ⟨_, rfl, rfl, rfl, _, rfl, by (repeat' first | exact trivial | exact rfl | exact ⟨rfl, rfl⟩ | exact .inl rfl | refine ⟨_, rfl, rfl, rfl, ?_⟩ | refine ⟨_, _, rfl, ?_, ?_⟩ | refine ⟨_, rfl, ?_⟩ | refine And.intro ?_ ?_)⟩, ⟨_, rfl, rfl, rfl, _, rfl, by (repeat' first | exact trivial | exact rfl | exact ⟨rfl, rfl⟩ | exact .inl rfl | refine ⟨_, rfl, rfl, rfl, ?_⟩ | refine ⟨_, _, rfl, ?_, ?_⟩ | refine ⟨_, rfl, ?_⟩ | refine And.intro ?_ ?_)⟩, trivial⟩
  rintro ⟨k, w⟩ ⟨g1, g2, g3⟩
  simp only [] at g1 g2 g3
  have hwl : w.length = S := by rw [g2, tab_len]
  refine And.intro (fun h1 => ?_) (fun h1 => ?_)
  · have h1 : (k : Int) < (xs.length : Nat) := h1
    have hk : k < xs.length := by omega
    have hsn := known_snoc hk g2
    obtain ⟨c, hc⟩ : ∃ c, c = xs.getD k [] := ⟨_, rfl⟩
    have hcm : c ∈ xs := by rw [hc]; exact getD_memL [] hk
    rw [← hc] at hsn
    have hbl := bump_le (i := idxN cs c vars 0) g3
    refine ⟨_, ⟨by omega, ints c, by rw [hc]; exact ccell hk, rfl⟩, ?_⟩
    refine ⟨Nat, fun j => [(0, .fn (.yield 8) [] []), (1, .p (.fp (Dt.cells ⟨cs, xs⟩))), (2, .p (.fp [ints vars])), (4, .p (i64 k)), (5, .p (ints c)), (9, .p (.lst (xs.map ints))), (10, .p (i64 xs.length)), (11, .p (i64 k)), (16, .p (ints vars)), (17, .p (i64 vars.length)), (18, .p (i64 j))], fun _ => ⟨9, ckL ⟨cs, xs⟩ vars a b .ready N σ ps ac bd w⟩,
      fun j => j ≤ vars.length ∧ ∀ v ∈ vars.take j, 0 ≤ c.getD v.toNat 0, fun j => vars.length - j, ?_, ?_⟩
    · refine ⟨0, ⟨by omega, by simp⟩, ent_of [] [] [] rfl ⟨⟨rfl, _, _, rfl, rfl, rfl⟩, rfl, rfl, rfl, rfl, rfl, rfl, rfl, rfl, lenI vars, rfl, trivial⟩ ?_ rfl⟩
      exact ⟨⟨_, rfl, rfl, rfl, rfl, rfl, rfl⟩, ⟨_, rfl, rfl, rfl, rfl⟩, ⟨_, rfl, rfl, rfl, rfl⟩, ⟨_, rfl, rfl, rfl, _, rfl, by (repeat' first | exact trivial | exact rfl | exact ⟨rfl, rfl⟩ | exact .inl rfl | refine ⟨_, rfl, rfl, rfl, ?_⟩ | refine ⟨_, _, rfl, ?_, ?_⟩ | refine ⟨_, rfl, ?_⟩ | refine And.intro ?_ ?_)⟩, ⟨_, rfl, rfl, rfl, rfl⟩, ⟨_, rfl, rfl, rfl, rfl⟩, ⟨_, rfl, rfl, rfl, _, rfl, by (repeat' first | exact trivial | exact rfl | exact ⟨rfl, rfl⟩ | exact .inl rfl | refine ⟨_, rfl, rfl, rfl, ?_⟩ | refine ⟨_, _, rfl, ?_, ?_⟩ | refine ⟨_, rfl, ?_⟩ | refine And.intro ?_ ?_)⟩, ⟨_, rfl, rfl, rfl, _, rfl, by (repeat' first | exact trivial | exact rfl | exact ⟨rfl, rfl⟩ | exact .inl rfl | refine ⟨_, rfl, rfl, rfl, ?_⟩ | refine ⟨_, _, rfl, ?_, ?_⟩ | refine ⟨_, rfl, ?_⟩ | refine And.intro ?_ ?_)⟩, ⟨_, rfl, rfl, rfl, _, rfl, by (repeat' first | exact trivial | exact rfl | exact ⟨rfl, rfl⟩ | exact .inl rfl | refine ⟨_, rfl, rfl, rfl, ?_⟩ | refine ⟨_, _, rfl, ?_, ?_⟩ | refine ⟨_, rfl, ?_⟩ | refine And.intro ?_ ?_)⟩, trivial⟩
    rintro j ⟨j1, j2⟩
    refine And.intro (fun h2 => ?_) (fun h2 => ?_)
    · have h2 : (j : Int) < (vars.length : Nat) := h2
      have hj : j < vars.length := by omega
      obtain ⟨v1, v2⟩ := hm c hcm _ (getD_memL 0 hj)
      obtain ⟨n, hn⟩ : ∃ n : Nat, vars.getD j 0 = n := ⟨(vars.getD j 0).toNat, by omega⟩
      have hnc : n < c.length := by omega
      refine ⟨_, ⟨by omega, i64 n, by rw [← hn]; exact icell hj, rfl⟩, ?_⟩
      refine ⟨_, ⟨by omega, i64 (c.getD n 0), icell hnc, rfl⟩, ?_⟩
      refine And.intro (fun h3 => ?_) (fun h3 => ?_)
      · have h3 : c.getD n 0 < 0 := h3
        have hkn : knownB vars c = false := by
          rw [Bool.eq_false_iff]
          intro h
          have := List.all_eq_true.1 h _ (getD_memL 0 hj)
          rw [hn] at this
          simp only [Int.toNat_natCast, decide_eq_true_eq] at this
          omega
        have hbe : bump w (idxN cs c vars 0) = w := by rw [idx_miss hkn, bump, if_neg (by decide)]
        rw [hbe] at hsn
        refine ⟨(k : Int) + 1, wrap_i64 (by omega) (by omega), ?_⟩
        refine ⟨(k + 1, w), ⟨by simp only []; omega, hsn.symm, fun y hy => by have := g3 y hy; simp only []; omega⟩, ent_of [] [] [] rfl ⟨⟨rfl, _, _, rfl, rfl, rfl⟩, rfl, rfl, rfl, rfl, rfl, trivial⟩ ?_ rfl, by simp only []; omega⟩
        exact ⟨⟨_, rfl, rfl, rfl, rfl, rfl, rfl⟩, ⟨_, rfl, rfl, rfl, rfl⟩, ⟨_, rfl, rfl, rfl, rfl⟩, ⟨_, rfl, rfl, rfl, _, rfl, by (repeat' first | exact trivial | exact rfl | exact ⟨rfl, rfl⟩ | exact .inl rfl | refine ⟨_, rfl, rfl, rfl, ?_⟩ | refine ⟨_, _, rfl, ?_, ?_⟩ | refine ⟨_, rfl, ?_⟩ | refine And.intro ?_ ?_)⟩, ⟨_, rfl, rfl, rfl, rfl⟩, ⟨_, rfl, rfl, rfl, rfl⟩, ⟨_, rfl, rfl, rfl, _, rfl, by (repeat' first | exact trivial | exact rfl | exact ⟨rfl, rfl⟩ | exact .inl rfl | refine ⟨_, rfl, rfl, rfl, ?_⟩ | refine ⟨_, _, rfl, ?_, ?_⟩ | refine ⟨_, rfl, ?_⟩ | refine And.intro ?_ ?_)⟩, ⟨_, rfl, rfl, rfl, _, rfl, by (repeat' first | exact trivial | exact rfl | exact ⟨rfl, rfl⟩ | exact .inl rfl | refine ⟨_, rfl, rfl, rfl, ?_⟩ | refine ⟨_, _, rfl, ?_, ?_⟩ | refine ⟨_, rfl, ?_⟩ | refine And.intro ?_ ?_)⟩, ⟨_, rfl, rfl, rfl, _, rfl, by (repeat' first | exact trivial | exact rfl | exact ⟨rfl, rfl⟩ | exact .inl rfl | refine ⟨_, rfl, rfl, rfl, ?_⟩ | refine ⟨_, _, rfl, ?_, ?_⟩ | refine ⟨_, rfl, ?_⟩ | refine And.intro ?_ ?_)⟩, trivial⟩
      · have h3 : ¬ c.getD n 0 < 0 := h3
        refine ⟨(j : Int) + 1, wrap_i64 (by omega) (by omega), ?_⟩
        refine ⟨j + 1, ⟨by omega, mem_take 0 hj j2 (by rw [hn]; simp only [Int.toNat_natCast]; omega)⟩, ent_of [] [] [] rfl ⟨⟨rfl, _, _, rfl, rfl, rfl⟩, rfl, rfl, rfl, rfl, rfl, rfl, rfl, rfl, rfl, rfl, trivial⟩ ?_ rfl, by show vars.length - (j + 1) < vars.length - j; omega⟩
        exact ⟨⟨_, rfl, rfl, rfl, rfl, rfl, rfl⟩, ⟨_, rfl, rfl, rfl, rfl⟩, ⟨_, rfl, rfl, rfl, rfl⟩, ⟨_, rfl, rfl, rfl, _, rfl, by (repeat' first | exact trivial | exact rfl | exact ⟨rfl, rfl⟩ | exact .inl rfl | refine ⟨_, rfl, rfl, rfl, ?_⟩ | refine ⟨_, _, rfl, ?_, ?_⟩ | refine ⟨_, rfl, ?_⟩ | refine And.intro ?_ ?_)⟩, ⟨_, rfl, rfl, rfl, rfl⟩, ⟨_, rfl, rfl, rfl, rfl⟩, ⟨_, rfl, rfl, rfl, _, rfl, by (repeat' first | exact trivial | exact rfl | exact ⟨rfl, rfl⟩ | exact .inl rfl | refine ⟨_, rfl, rfl, rfl, ?_⟩ | refine ⟨_, _, rfl, ?_, ?_⟩ | refine ⟨_, rfl, ?_⟩ | refine And.intro ?_ ?_)⟩, ⟨_, rfl, rfl, rfl, _, rfl, by (repeat' first | exact trivial | exact rfl | exact ⟨rfl, rfl⟩ | exact .inl rfl | refine ⟨_, rfl, rfl, rfl, ?_⟩ | refine ⟨_, _, rfl, ?_, ?_⟩ | refine ⟨_, rfl, ?_⟩ | refine And.intro ?_ ?_)⟩, ⟨_, rfl, rfl, rfl, _, rfl, by (repeat' first | exact trivial | exact rfl | exact ⟨rfl, rfl⟩ | exact .inl rfl | refine ⟨_, rfl, rfl, rfl, ?_⟩ | refine ⟨_, _, rfl, ?_, ?_⟩ | refine ⟨_, rfl, ?_⟩ | refine And.intro ?_ ?_)⟩, trivial⟩
    · have h2 : ¬ (j : Int) < (vars.length : Nat) := h2
      rw [take_all (by omega)] at j2
      have hkn : knownB vars c = true := List.all_eq_true.2 fun v hv => by simpa using j2 v hv
      refine hrd k w c _ hwl (fun y hy => by have := g3 y hy; omega) hcm hkn ?_
      refine ⟨(k : Int) + 1, wrap_i64 (by omega) (by omega), ?_⟩
      refine ⟨(k + 1, bump w (idxN cs c vars 0)), ⟨by simp only []; omega, hsn.symm, hbl⟩, ent_of [] [] [] rfl ⟨⟨rfl, _, _, rfl, rfl, rfl⟩, rfl, rfl, rfl, rfl, rfl, trivial⟩ ?_ rfl, by simp only []; omega⟩
      exact ⟨⟨_, rfl, rfl, rfl, rfl, rfl, rfl⟩, ⟨_, rfl, rfl, rfl, rfl⟩, ⟨_, rfl, rfl, rfl, rfl⟩, ⟨_, rfl, rfl, rfl, _, rfl, by (repeat' first | exact trivial | exact rfl | exact ⟨rfl, rfl⟩ | exact .inl rfl | refine ⟨_, rfl, rfl, rfl, ?_⟩ | refine ⟨_, _, rfl, ?_, ?_⟩ | refine ⟨_, rfl, ?_⟩ | refine And.intro ?_ ?_)⟩, ⟨_, rfl, rfl, rfl, rfl⟩, ⟨_, rfl, rfl, rfl, rfl⟩, ⟨_, rfl, rfl, rfl, _, rfl, by (repeat' first | exact trivial | exact rfl | exact ⟨rfl, rfl⟩ | exact .inl rfl | refine ⟨_, rfl, rfl, rfl, ?_⟩ | refine ⟨_, _, rfl, ?_, ?_⟩ | refine ⟨_, rfl, ?_⟩ | refine And.intro ?_ ?_)⟩, ⟨_, rfl, rfl, rfl, _, rfl, by (repeat' first | exact trivial | exact rfl | exact ⟨rfl, rfl⟩ | exact .inl rfl | refine ⟨_, rfl, rfl, rfl, ?_⟩ | refine ⟨_, _, rfl, ?_, ?_⟩ | refine ⟨_, rfl, ?_⟩ | refine And.intro ?_ ?_)⟩, ⟨_, rfl, rfl, rfl, _, rfl, by (repeat' first | exact trivial | exact rfl | exact ⟨rfl, rfl⟩ | exact .inl rfl | refine ⟨_, rfl, rfl, rfl, ?_⟩ | refine ⟨_, _, rfl, ?_, ?_⟩ | refine ⟨_, rfl, ?_⟩ | refine And.intro ?_ ?_)⟩, trivial⟩
  · have h1 : ¬ (k : Int) < (xs.length : Nat) := h1
    rw [take_all (by omega)] at g2
    subst g2
    exact ⟨[], [], [], .returned und, ⟨9, ckL ⟨cs, xs⟩ vars a b .ready N σ ps ac bd (tabN cs vars S xs)⟩, rfl, by (repeat' first | exact trivial | exact rfl | exact ⟨rfl, rfl⟩ | exact .inl rfl | refine ⟨_, rfl, rfl, rfl, ?_⟩ | refine ⟨_, _, rfl, ?_, ?_⟩ | refine ⟨_, rfl, ?_⟩ | refine And.intro ?_ ?_), ⟨⟨_, rfl, rfl, rfl, rfl, rfl, rfl⟩, ⟨_, rfl, rfl, rfl, rfl⟩, ⟨_, rfl, rfl, rfl, rfl⟩, ⟨_, rfl, rfl, rfl, _, rfl, by (repeat' first | exact trivial | exact rfl | exact ⟨rfl, rfl⟩ | exact .inl rfl | refine ⟨_, rfl, rfl, rfl, ?_⟩ | refine ⟨_, _, rfl, ?_, ?_⟩ | refine ⟨_, rfl, ?_⟩ | refine And.intro ?_ ?_)⟩, ⟨_, rfl, rfl, rfl, rfl⟩, ⟨_, rfl, rfl, rfl, rfl⟩, ⟨_, rfl, rfl, rfl, _, rfl, by (repeat' first | exact trivial | exact rfl | exact ⟨rfl, rfl⟩ | exact .inl rfl | refine ⟨_, rfl, rfl, rfl, ?_⟩ | refine ⟨_, _, rfl, ?_, ?_⟩ | refine ⟨_, rfl, ?_⟩ | refine And.intro ?_ ?_)⟩, ⟨_, rfl, rfl, rfl, _, rfl, by (repeat' first | exact trivial | exact rfl | exact ⟨rfl, rfl⟩ | exact .inl rfl | refine ⟨_, rfl, rfl, rfl, ?_⟩ | refine ⟨_, _, rfl, ?_, ?_⟩ | refine ⟨_, rfl, ?_⟩ | refine And.intro ?_ ?_)⟩, ⟨_, rfl, rfl, rfl, _, rfl, by (repeat' first | exact trivial | exact rfl | exact ⟨rfl, rfl⟩ | exact .inl rfl | refine ⟨_, rfl, rfl, rfl, ?_⟩ | refine ⟨_, _, rfl, ?_, ?_⟩ | refine ⟨_, rfl, ?_⟩ | refine And.intro ?_ ?_)⟩, trivial⟩, hok⟩
end Go.Proofs.YtmdmjnfdemgpoaaDoor

/- Package data: Count. -/
namespace Go.Proofs.YtmdmjnfdemgpoaaDoor
open Go Y
set_option maxRecDepth 100000
set_option maxHeartbeats 4000000


theorem idx_ge {cs c : List Int} : ∀ {vars : List Int} {a : Int}, knownB vars c = true → 0 ≤ a → IxOK cs c vars → 0 ≤ idxN cs c vars a
  | [], a, _, h, _ => h
  | v :: r, a, hk, h, hI => by
    rw [knownB, List.all_cons, Bool.and_eq_true] at hk
    have h1 : 0 ≤ c.getD v.toNat 0 := by simpa using hk.1
    rw [idx_known h1]
    obtain ⟨m1, m2⟩ := hI.mem v (by simp)
    have hc := hI.card _ (getD_memL 0 (show v.toNat < cs.length by omega))
    have hm := Int.mul_nonneg h (show 0 ≤ cs.getD v.toNat 0 by have := hc.1; omega)
    exact idx_ge hk.2 (by omega) ⟨by have := hI.len; simp at this; omega, hI.cl, hI.vl, fun u hu => hI.mem u (by simp [hu]), hI.card, hI.lt⟩
theorem count_c (d : Dt) (vars : List Int) (hd : Sm7 d) (hvl : vars.length ≤ 1000) : Pure cx 14 [d.pv, ints vars] (· = .ret (countV d vars)) := by
  refine pure_of_vc Tryd.func14 rfl rfl rfl ?_
  have hC := check_c d hd
  have zr : ∀ {L : List (Nat × AObj)}, Res L 5 (.p (.agg [.nils, .nils, .nils])) faZ.pv := ⟨_, rfl, _, _, rfl, .inr (.inl rfl), _, _, rfl, .inr (.inl rfl), _, _, rfl, .inr (.inl rfl), rfl⟩
  by_cases hr : rightP d
  rotate_left
  · rw [checkD, if_neg hr] at hC
    refine hC.eq rfl ?_
    refine And.intro (fun h => absurd (show (250 : Int) = 0 from h) (by decide)) (fun _ => ?_)
    exact end2 faZ.pv (i64 250) rfl zr rfl (by rw [countV, countP, if_neg hr])
  have fin1 : listP d.cards.length vars → PEnd.ret [(countN d vars).pv, i64 0] = .ret (countV d vars) := fun h => by rw [countV, countP, if_pos hr, if_pos h]
  have fin2 : ¬ listP d.cards.length vars → PEnd.ret [faZ.pv, i64 2] = .ret (countV d vars) := fun h => by rw [countV, countP, if_pos hr, if_neg h]
  rw [checkD, if_pos hr] at hC
  refine hC.eq rfl ?_
  refine And.intro (fun _ => ?_) (fun h => absurd rfl h)
  obtain ⟨cs, xs⟩ := d
  have hr' := hr
  obtain ⟨⟨r1, r2, r3⟩, r4, r5, r6⟩ := hr'
  simp only [] at r1 r2 r3 r4 r5 r6 fin1 fin2
  refine VDraw.altTo [(2, .ptr 0 0 0), (3, .ptr 1 0 0), (4, .ptr 2 0 0), (7, .ptr 3 0 0)] ⟨6, [(3, fcO [] []), (4, iO []), (5, iO []), (2, zeroF), (1, vO vars), (0, dtO ⟨cs, xs⟩)]⟩ rfl ?_ ?_
  · refine And.intro ?_ (And.intro ?_ ?_)
    · refine ⟨by show (0 : Int) ≤ 0 ∧ (0 : Int) ≤ ((cs.map i64).length : Nat) ∧ (((cs.map i64).length : Nat) : Int) * 8 ≤ 281474976710656 ∧ (((cs.map i64).length : Nat) : Int) ≤ 281474976710656; rw [List.length_map]; omega, ?_⟩
      refine ⟨by (repeat' first | exact trivial | exact rfl | exact ⟨rfl, rfl⟩ | exact .inl rfl | refine ⟨_, rfl, rfl, rfl, ?_⟩ | refine ⟨_, _, rfl, ?_, ?_⟩ | refine ⟨_, rfl, ?_⟩ | refine And.intro ?_ ?_), ?_⟩
      refine And.intro ?_ ?_
      · refine ⟨by show (0 : Int) ≤ 0 ∧ (0 : Int) ≤ ((cs.map i64).length : Nat) ∧ (((cs.map i64).length : Nat) : Int) * 8 ≤ 281474976710656 ∧ (((cs.map i64).length : Nat) : Int) ≤ 281474976710656; rw [List.length_map]; omega, ?_⟩
        refine ⟨by (repeat' first | exact trivial | exact rfl | exact ⟨rfl, rfl⟩ | exact .inl rfl | refine ⟨_, rfl, rfl, rfl, ?_⟩ | refine ⟨_, _, rfl, ?_, ?_⟩ | refine ⟨_, rfl, ?_⟩ | refine And.intro ?_ ?_), ?_⟩
        refine ⟨by (repeat' first | exact trivial | exact rfl | exact ⟨rfl, rfl⟩ | exact .inl rfl | refine ⟨_, rfl, rfl, rfl, ?_⟩ | refine ⟨_, _, rfl, ?_, ?_⟩ | refine ⟨_, rfl, ?_⟩ | refine And.intro ?_ ?_), ?_⟩
        exact ent_of [] [(3, 5), (4, 3), (5, 4)] [] rfl ⟨⟨rfl, rfl⟩, ⟨rfl, rfl⟩, ⟨rfl, rfl⟩, ⟨rfl, rfl⟩, trivial⟩ ⟨⟨_, rfl, rfl, rfl, _, rfl, by (repeat' first | exact trivial | exact rfl | exact ⟨rfl, rfl⟩ | exact .inl rfl | refine ⟨_, rfl, rfl, rfl, ?_⟩ | refine ⟨_, _, rfl, ?_, ?_⟩ | refine ⟨_, rfl, ?_⟩ | refine And.intro ?_ ?_)⟩, ⟨_, rfl, rfl, rfl, rfl⟩, ⟨_, rfl, rfl, rfl, rfl⟩, ⟨_, rfl, rfl, rfl, _, rfl, by (repeat' first | exact trivial | exact rfl | exact ⟨rfl, rfl⟩ | exact .inl rfl | refine ⟨_, rfl, rfl, rfl, ?_⟩ | refine ⟨_, _, rfl, ?_, ?_⟩ | refine ⟨_, rfl, ?_⟩ | refine And.intro ?_ ?_)⟩, ⟨_, rfl, rfl, rfl, _, rfl, by (repeat' first | exact trivial | exact rfl | exact ⟨rfl, rfl⟩ | exact .inl rfl | refine ⟨_, rfl, rfl, rfl, ?_⟩ | refine ⟨_, _, rfl, ?_, ?_⟩ | refine ⟨_, rfl, ?_⟩ | refine And.intro ?_ ?_)⟩, ⟨_, rfl, rfl, rfl, _, rfl, by (repeat' first | exact trivial | exact rfl | exact ⟨rfl, rfl⟩ | exact .inl rfl | refine ⟨_, rfl, rfl, rfl, ?_⟩ | refine ⟨_, _, rfl, ?_, ?_⟩ | refine ⟨_, rfl, ?_⟩ | refine And.intro ?_ ?_)⟩, trivial⟩ rfl
      · refine ⟨by (repeat' first | exact trivial | exact rfl | exact ⟨rfl, rfl⟩ | exact .inl rfl | refine ⟨_, rfl, rfl, rfl, ?_⟩ | refine ⟨_, _, rfl, ?_, ?_⟩ | refine ⟨_, rfl, ?_⟩ | refine And.intro ?_ ?_), ?_⟩
        refine ⟨by show (0 : Int) ≤ 0 ∧ (0 : Int) ≤ ((cs.map i64).length : Nat) ∧ (((cs.map i64).length : Nat) : Int) * 8 ≤ 281474976710656 ∧ (((cs.map i64).length : Nat) : Int) ≤ 281474976710656; rw [List.length_map]; omega, ?_⟩
        refine ⟨by (repeat' first | exact trivial | exact rfl | exact ⟨rfl, rfl⟩ | exact .inl rfl | refine ⟨_, rfl, rfl, rfl, ?_⟩ | refine ⟨_, _, rfl, ?_, ?_⟩ | refine ⟨_, rfl, ?_⟩ | refine And.intro ?_ ?_), ?_⟩
        exact ent_of [] [(3, 4), (4, 3), (5, 5)] [] rfl ⟨⟨rfl, rfl⟩, ⟨rfl, rfl⟩, ⟨rfl, rfl⟩, ⟨rfl, rfl⟩, trivial⟩ ⟨⟨_, rfl, rfl, rfl, _, rfl, by (repeat' first | exact trivial | exact rfl | exact ⟨rfl, rfl⟩ | exact .inl rfl | refine ⟨_, rfl, rfl, rfl, ?_⟩ | refine ⟨_, _, rfl, ?_, ?_⟩ | refine ⟨_, rfl, ?_⟩ | refine And.intro ?_ ?_)⟩, ⟨_, rfl, rfl, rfl, rfl⟩, ⟨_, rfl, rfl, rfl, rfl⟩, ⟨_, rfl, rfl, rfl, _, rfl, by (repeat' first | exact trivial | exact rfl | exact ⟨rfl, rfl⟩ | exact .inl rfl | refine ⟨_, rfl, rfl, rfl, ?_⟩ | refine ⟨_, _, rfl, ?_, ?_⟩ | refine ⟨_, rfl, ?_⟩ | refine And.intro ?_ ?_)⟩, ⟨_, rfl, rfl, rfl, _, rfl, by (repeat' first | exact trivial | exact rfl | exact ⟨rfl, rfl⟩ | exact .inl rfl | refine ⟨_, rfl, rfl, rfl, ?_⟩ | refine ⟨_, _, rfl, ?_, ?_⟩ | refine ⟨_, rfl, ?_⟩ | refine And.intro ?_ ?_)⟩, ⟨_, rfl, rfl, rfl, _, rfl, by (repeat' first | exact trivial | exact rfl | exact ⟨rfl, rfl⟩ | exact .inl rfl | refine ⟨_, rfl, rfl, rfl, ?_⟩ | refine ⟨_, _, rfl, ?_, ?_⟩ | refine ⟨_, rfl, ?_⟩ | refine And.intro ?_ ?_)⟩, trivial⟩ rfl
    · refine ⟨by show (0 : Int) ≤ 0 ∧ (0 : Int) ≤ ((cs.map i64).length : Nat) ∧ (((cs.map i64).length : Nat) : Int) * 8 ≤ 281474976710656 ∧ (((cs.map i64).length : Nat) : Int) ≤ 281474976710656; rw [List.length_map]; omega, ?_⟩
      refine ⟨by (repeat' first | exact trivial | exact rfl | exact ⟨rfl, rfl⟩ | exact .inl rfl | refine ⟨_, rfl, rfl, rfl, ?_⟩ | refine ⟨_, _, rfl, ?_, ?_⟩ | refine ⟨_, rfl, ?_⟩ | refine And.intro ?_ ?_), ?_⟩
      refine And.intro ?_ ?_
      · refine ⟨by show (0 : Int) ≤ 0 ∧ (0 : Int) ≤ ((cs.map i64).length : Nat) ∧ (((cs.map i64).length : Nat) : Int) * 8 ≤ 281474976710656 ∧ (((cs.map i64).length : Nat) : Int) ≤ 281474976710656; rw [List.length_map]; omega, ?_⟩
        refine ⟨by (repeat' first | exact trivial | exact rfl | exact ⟨rfl, rfl⟩ | exact .inl rfl | refine ⟨_, rfl, rfl, rfl, ?_⟩ | refine ⟨_, _, rfl, ?_, ?_⟩ | refine ⟨_, rfl, ?_⟩ | refine And.intro ?_ ?_), ?_⟩
        refine ⟨by (repeat' first | exact trivial | exact rfl | exact ⟨rfl, rfl⟩ | exact .inl rfl | refine ⟨_, rfl, rfl, rfl, ?_⟩ | refine ⟨_, _, rfl, ?_, ?_⟩ | refine ⟨_, rfl, ?_⟩ | refine And.intro ?_ ?_), ?_⟩
        exact ent_of [] [(3, 5), (4, 4), (5, 3)] [] rfl ⟨⟨rfl, rfl⟩, ⟨rfl, rfl⟩, ⟨rfl, rfl⟩, ⟨rfl, rfl⟩, trivial⟩ ⟨⟨_, rfl, rfl, rfl, _, rfl, by (repeat' first | exact trivial | exact rfl | exact ⟨rfl, rfl⟩ | exact .inl rfl | refine ⟨_, rfl, rfl, rfl, ?_⟩ | refine ⟨_, _, rfl, ?_, ?_⟩ | refine ⟨_, rfl, ?_⟩ | refine And.intro ?_ ?_)⟩, ⟨_, rfl, rfl, rfl, rfl⟩, ⟨_, rfl, rfl, rfl, rfl⟩, ⟨_, rfl, rfl, rfl, _, rfl, by (repeat' first | exact trivial | exact rfl | exact ⟨rfl, rfl⟩ | exact .inl rfl | refine ⟨_, rfl, rfl, rfl, ?_⟩ | refine ⟨_, _, rfl, ?_, ?_⟩ | refine ⟨_, rfl, ?_⟩ | refine And.intro ?_ ?_)⟩, ⟨_, rfl, rfl, rfl, _, rfl, by (repeat' first | exact trivial | exact rfl | exact ⟨rfl, rfl⟩ | exact .inl rfl | refine ⟨_, rfl, rfl, rfl, ?_⟩ | refine ⟨_, _, rfl, ?_, ?_⟩ | refine ⟨_, rfl, ?_⟩ | refine And.intro ?_ ?_)⟩, ⟨_, rfl, rfl, rfl, _, rfl, by (repeat' first | exact trivial | exact rfl | exact ⟨rfl, rfl⟩ | exact .inl rfl | refine ⟨_, rfl, rfl, rfl, ?_⟩ | refine ⟨_, _, rfl, ?_, ?_⟩ | refine ⟨_, rfl, ?_⟩ | refine And.intro ?_ ?_)⟩, trivial⟩ rfl
      · refine ⟨by (repeat' first | exact trivial | exact rfl | exact ⟨rfl, rfl⟩ | exact .inl rfl | refine ⟨_, rfl, rfl, rfl, ?_⟩ | refine ⟨_, _, rfl, ?_, ?_⟩ | refine ⟨_, rfl, ?_⟩ | refine And.intro ?_ ?_), ?_⟩
        refine ⟨by show (0 : Int) ≤ 0 ∧ (0 : Int) ≤ ((cs.map i64).length : Nat) ∧ (((cs.map i64).length : Nat) : Int) * 8 ≤ 281474976710656 ∧ (((cs.map i64).length : Nat) : Int) ≤ 281474976710656; rw [List.length_map]; omega, ?_⟩
        refine ⟨by (repeat' first | exact trivial | exact rfl | exact ⟨rfl, rfl⟩ | exact .inl rfl | refine ⟨_, rfl, rfl, rfl, ?_⟩ | refine ⟨_, _, rfl, ?_, ?_⟩ | refine ⟨_, rfl, ?_⟩ | refine And.intro ?_ ?_), ?_⟩
        exact ent_of [] [(3, 4), (4, 5), (5, 3)] [] rfl ⟨⟨rfl, rfl⟩, ⟨rfl, rfl⟩, ⟨rfl, rfl⟩, ⟨rfl, rfl⟩, trivial⟩ ⟨⟨_, rfl, rfl, rfl, _, rfl, by (repeat' first | exact trivial | exact rfl | exact ⟨rfl, rfl⟩ | exact .inl rfl | refine ⟨_, rfl, rfl, rfl, ?_⟩ | refine ⟨_, _, rfl, ?_, ?_⟩ | refine ⟨_, rfl, ?_⟩ | refine And.intro ?_ ?_)⟩, ⟨_, rfl, rfl, rfl, rfl⟩, ⟨_, rfl, rfl, rfl, rfl⟩, ⟨_, rfl, rfl, rfl, _, rfl, by (repeat' first | exact trivial | exact rfl | exact ⟨rfl, rfl⟩ | exact .inl rfl | refine ⟨_, rfl, rfl, rfl, ?_⟩ | refine ⟨_, _, rfl, ?_, ?_⟩ | refine ⟨_, rfl, ?_⟩ | refine And.intro ?_ ?_)⟩, ⟨_, rfl, rfl, rfl, _, rfl, by (repeat' first | exact trivial | exact rfl | exact ⟨rfl, rfl⟩ | exact .inl rfl | refine ⟨_, rfl, rfl, rfl, ?_⟩ | refine ⟨_, _, rfl, ?_, ?_⟩ | refine ⟨_, rfl, ?_⟩ | refine And.intro ?_ ?_)⟩, ⟨_, rfl, rfl, rfl, _, rfl, by (repeat' first | exact trivial | exact rfl | exact ⟨rfl, rfl⟩ | exact .inl rfl | refine ⟨_, rfl, rfl, rfl, ?_⟩ | refine ⟨_, _, rfl, ?_, ?_⟩ | refine ⟨_, rfl, ?_⟩ | refine And.intro ?_ ?_)⟩, trivial⟩ rfl
    · refine ⟨by (repeat' first | exact trivial | exact rfl | exact ⟨rfl, rfl⟩ | exact .inl rfl | refine ⟨_, rfl, rfl, rfl, ?_⟩ | refine ⟨_, _, rfl, ?_, ?_⟩ | refine ⟨_, rfl, ?_⟩ | refine And.intro ?_ ?_), ?_⟩
      refine And.intro ?_ ?_
      · refine ⟨by show (0 : Int) ≤ 0 ∧ (0 : Int) ≤ ((cs.map i64).length : Nat) ∧ (((cs.map i64).length : Nat) : Int) * 8 ≤ 281474976710656 ∧ (((cs.map i64).length : Nat) : Int) ≤ 281474976710656; rw [List.length_map]; omega, ?_⟩
        refine ⟨by (repeat' first | exact trivial | exact rfl | exact ⟨rfl, rfl⟩ | exact .inl rfl | refine ⟨_, rfl, rfl, rfl, ?_⟩ | refine ⟨_, _, rfl, ?_, ?_⟩ | refine ⟨_, rfl, ?_⟩ | refine And.intro ?_ ?_), ?_⟩
        refine ⟨by show (0 : Int) ≤ 0 ∧ (0 : Int) ≤ ((cs.map i64).length : Nat) ∧ (((cs.map i64).length : Nat) : Int) * 8 ≤ 281474976710656 ∧ (((cs.map i64).length : Nat) : Int) ≤ 281474976710656; rw [List.length_map]; omega, ?_⟩
        refine ⟨by (repeat' first | exact trivial | exact rfl | exact ⟨rfl, rfl⟩ | exact .inl rfl | refine ⟨_, rfl, rfl, rfl, ?_⟩ | refine ⟨_, _, rfl, ?_, ?_⟩ | refine ⟨_, rfl, ?_⟩ | refine And.intro ?_ ?_), ?_⟩
        exact ent_of [] [(4, 4), (5, 5)] [] rfl ⟨⟨rfl, rfl⟩, ⟨rfl, rfl⟩, ⟨rfl, rfl⟩, ⟨rfl, rfl⟩, trivial⟩ ⟨⟨_, rfl, rfl, rfl, _, rfl, by (repeat' first | exact trivial | exact rfl | exact ⟨rfl, rfl⟩ | exact .inl rfl | refine ⟨_, rfl, rfl, rfl, ?_⟩ | refine ⟨_, _, rfl, ?_, ?_⟩ | refine ⟨_, rfl, ?_⟩ | refine And.intro ?_ ?_)⟩, ⟨_, rfl, rfl, rfl, rfl⟩, ⟨_, rfl, rfl, rfl, rfl⟩, ⟨_, rfl, rfl, rfl, _, rfl, by (repeat' first | exact trivial | exact rfl | exact ⟨rfl, rfl⟩ | exact .inl rfl | refine ⟨_, rfl, rfl, rfl, ?_⟩ | refine ⟨_, _, rfl, ?_, ?_⟩ | refine ⟨_, rfl, ?_⟩ | refine And.intro ?_ ?_)⟩, ⟨_, rfl, rfl, rfl, _, rfl, by (repeat' first | exact trivial | exact rfl | exact ⟨rfl, rfl⟩ | exact .inl rfl | refine ⟨_, rfl, rfl, rfl, ?_⟩ | refine ⟨_, _, rfl, ?_, ?_⟩ | refine ⟨_, rfl, ?_⟩ | refine And.intro ?_ ?_)⟩, ⟨_, rfl, rfl, rfl, _, rfl, by (repeat' first | exact trivial | exact rfl | exact ⟨rfl, rfl⟩ | exact .inl rfl | refine ⟨_, rfl, rfl, rfl, ?_⟩ | refine ⟨_, _, rfl, ?_, ?_⟩ | refine ⟨_, rfl, ?_⟩ | refine And.intro ?_ ?_)⟩, trivial⟩ rfl
      · refine ⟨by show (0 : Int) ≤ 0 ∧ (0 : Int) ≤ ((cs.map i64).length : Nat) ∧ (((cs.map i64).length : Nat) : Int) * 8 ≤ 281474976710656 ∧ (((cs.map i64).length : Nat) : Int) ≤ 281474976710656; rw [List.length_map]; omega, ?_⟩
        refine ⟨by (repeat' first | exact trivial | exact rfl | exact ⟨rfl, rfl⟩ | exact .inl rfl | refine ⟨_, rfl, rfl, rfl, ?_⟩ | refine ⟨_, _, rfl, ?_, ?_⟩ | refine ⟨_, rfl, ?_⟩ | refine And.intro ?_ ?_), ?_⟩
        refine ⟨by show (0 : Int) ≤ 0 ∧ (0 : Int) ≤ ((cs.map i64).length : Nat) ∧ (((cs.map i64).length : Nat) : Int) * 8 ≤ 281474976710656 ∧ (((cs.map i64).length : Nat) : Int) ≤ 281474976710656; rw [List.length_map]; omega, ?_⟩
        refine ⟨by (repeat' first | exact trivial | exact rfl | exact ⟨rfl, rfl⟩ | exact .inl rfl | refine ⟨_, rfl, rfl, rfl, ?_⟩ | refine ⟨_, _, rfl, ?_, ?_⟩ | refine ⟨_, rfl, ?_⟩ | refine And.intro ?_ ?_), ?_⟩
        exact ent_of [] [(4, 5), (5, 4)] [] rfl ⟨⟨rfl, rfl⟩, ⟨rfl, rfl⟩, ⟨rfl, rfl⟩, ⟨rfl, rfl⟩, trivial⟩ ⟨⟨_, rfl, rfl, rfl, _, rfl, by (repeat' first | exact trivial | exact rfl | exact ⟨rfl, rfl⟩ | exact .inl rfl | refine ⟨_, rfl, rfl, rfl, ?_⟩ | refine ⟨_, _, rfl, ?_, ?_⟩ | refine ⟨_, rfl, ?_⟩ | refine And.intro ?_ ?_)⟩, ⟨_, rfl, rfl, rfl, rfl⟩, ⟨_, rfl, rfl, rfl, rfl⟩, ⟨_, rfl, rfl, rfl, _, rfl, by (repeat' first | exact trivial | exact rfl | exact ⟨rfl, rfl⟩ | exact .inl rfl | refine ⟨_, rfl, rfl, rfl, ?_⟩ | refine ⟨_, _, rfl, ?_, ?_⟩ | refine ⟨_, rfl, ?_⟩ | refine And.intro ?_ ?_)⟩, ⟨_, rfl, rfl, rfl, _, rfl, by (repeat' first | exact trivial | exact rfl | exact ⟨rfl, rfl⟩ | exact .inl rfl | refine ⟨_, rfl, rfl, rfl, ?_⟩ | refine ⟨_, _, rfl, ?_, ?_⟩ | refine ⟨_, rfl, ?_⟩ | refine And.intro ?_ ?_)⟩, ⟨_, rfl, rfl, rfl, _, rfl, by (repeat' first | exact trivial | exact rfl | exact ⟨rfl, rfl⟩ | exact .inl rfl | refine ⟨_, rfl, rfl, rfl, ?_⟩ | refine ⟨_, _, rfl, ?_, ?_⟩ | refine ⟨_, rfl, ?_⟩ | refine And.intro ?_ ?_)⟩, trivial⟩ rfl
  obtain ⟨vc, hvc⟩ : ∃ vc, vc = cardsOf cs vars := ⟨_, rfl⟩
  have hvcl : vc.length = vars.length := by rw [hvc, cardsOf, List.length_map]
  refine ⟨Nat × Int × List Int × List Int, fun x => [(2, .ptr 0 0 0), (3, .ptr 1 0 0), (4, .ptr 2 0 0), (7, .ptr 3 0 0), (8, .p (i64 x.2.1)), (31, .p (ints vars)), (32, .p (i64 vars.length)), (33, .p (i64 x.1))], fun x => ⟨6, [(3, fcO x.2.2.1 x.2.2.2), (4, iO x.2.2.1), (5, iO x.2.2.2), (2, zeroF), (1, vO vars), (0, dtO ⟨cs, xs⟩)]⟩,
    fun x => PrI vc x.1 x.2.1 ∧ x.2.2.1 = vars.take x.1 ∧ x.2.2.2 = vc.take x.1 ∧ ∀ i, i < x.1 → prevN vars i < vars.getD i 0 ∧ vars.getD i 0 < (cs.length : Int), fun x => vars.length - x.1, ?_, ?_⟩
  · exact ⟨(0, 1, [], []), ⟨PrI.zero _, by simp, by simp, fun i hi => by simp at hi⟩, ent_of [] [] [] rfl ⟨⟨rfl, rfl⟩, ⟨rfl, rfl⟩, ⟨rfl, rfl⟩, ⟨rfl, rfl⟩, rfl, rfl, lenI vars, rfl, trivial⟩ ⟨⟨_, rfl, rfl, rfl, _, rfl, by (repeat' first | exact trivial | exact rfl | exact ⟨rfl, rfl⟩ | exact .inl rfl | refine ⟨_, rfl, rfl, rfl, ?_⟩ | refine ⟨_, _, rfl, ?_, ?_⟩ | refine ⟨_, rfl, ?_⟩ | refine And.intro ?_ ?_)⟩, ⟨_, rfl, rfl, rfl, rfl⟩, ⟨_, rfl, rfl, rfl, rfl⟩, ⟨_, rfl, rfl, rfl, _, rfl, by (repeat' first | exact trivial | exact rfl | exact ⟨rfl, rfl⟩ | exact .inl rfl | refine ⟨_, rfl, rfl, rfl, ?_⟩ | refine ⟨_, _, rfl, ?_, ?_⟩ | refine ⟨_, rfl, ?_⟩ | refine And.intro ?_ ?_)⟩, ⟨_, rfl, rfl, rfl, _, rfl, by (repeat' first | exact trivial | exact rfl | exact ⟨rfl, rfl⟩ | exact .inl rfl | refine ⟨_, rfl, rfl, rfl, ?_⟩ | refine ⟨_, _, rfl, ?_, ?_⟩ | refine ⟨_, rfl, ?_⟩ | refine And.intro ?_ ?_)⟩, ⟨_, rfl, rfl, rfl, _, rfl, by (repeat' first | exact trivial | exact rfl | exact ⟨rfl, rfl⟩ | exact .inl rfl | refine ⟨_, rfl, rfl, rfl, ?_⟩ | refine ⟨_, _, rfl, ?_, ?_⟩ | refine ⟨_, rfl, ?_⟩ | refine And.intro ?_ ?_)⟩, trivial⟩ rfl⟩
  rintro ⟨k, p, a, b⟩ ⟨g, ga, gb, gv⟩
  simp only [] at g ga gb gv
  have hkn := pre_le gv
  have gk := g.kl
  have gle : p ≤ 4096 := Int.le_trans g.hi (pow4 k (by omega))
  have glo := g.lo
  have hal : a.length ≤ 6 := by rw [ga, List.length_take]; omega
  have hbl : b.length ≤ 6 := by rw [gb, List.length_take]; omega
  (first | refine brLt (fun h1 => ?_) (fun h1 => ?_) | refine brLe (fun h1 => ?_) (fun h1 => ?_) | refine brEq (fun h1 => ?_) (fun h1 => ?_))
  · have h1 : (k : Int) < (vars.length : Nat) := h1
    have hk : k < vars.length := by omega
    obtain ⟨v, hvv⟩ : ∃ v, v = vars.getD k 0 := ⟨_, rfl⟩
    have bad : ¬ (prevN vars k < v ∧ v < (cs.length : Int)) → ¬ listP cs.length vars := fun h hh => h (by rw [hvv]; exact hh k hk)
    have hcellv : (vars.map i64)[k]? = some (i64 v) := by rw [hvv]; exact icell hk
    refine ⟨_, ⟨by omega, i64 v, hcellv, rfl⟩, ?_⟩
    (first | refine brLt (fun h2 => ?_) (fun h2 => ?_) | refine brLe (fun h2 => ?_) (fun h2 => ?_) | refine brEq (fun h2 => ?_) (fun h2 => ?_))
    · exact end2 faZ.pv (i64 2) rfl zr rfl (fin2 (bad fun h => by
        have := h.1
        rw [prevN] at this
        split at this
        · omega
        · have := pre_ge gv (k - 1) (by omega)
          omega))
    (first | refine brLt (fun h3 => ?_) (fun h3 => ?_) | refine brLe (fun h3 => ?_) (fun h3 => ?_) | refine brEq (fun h3 => ?_) (fun h3 => ?_))
    · have h3 : (((cs.map i64).length : Nat) : Int) ≤ v := h3
      rw [List.length_map] at h3
      exact end2 faZ.pv (i64 2) rfl zr rfl (fin2 (bad fun h => by omega))
    have h3 : ¬ (((cs.map i64).length : Nat) : Int) ≤ v := h3
    rw [List.length_map] at h3
    obtain ⟨n, hn⟩ : ∃ n : Nat, v = n := ⟨v.toNat, by omega⟩
    have hnc : n < cs.length := by omega
    have hck : vc.getD k 0 = cs.getD n 0 := by rw [hvc]; exact cardsOf_get hk (by rw [← hvv, hn])
    have g' := g.next (by omega) (by rw [hck]; exact r4 _ (getD_memL 0 hnc))
    rw [hck] at g'
    have glo' := g'.lo
    (first | refine brLt (fun h4 => ?_) (fun h4 => ?_) | refine brLe (fun h4 => ?_) (fun h4 => ?_) | refine brEq (fun h4 => ?_) (fun h4 => ?_))
    · have h4 : (0 : Int) < k := h4
      refine ⟨(k : Int) - 1, wrap_i64 (by omega) (by omega), ?_⟩
      have hk1 : ((k : Int) - 1).toNat = k - 1 := by omega
      refine ⟨_, ⟨by omega, i64 (vars.getD (k - 1) 0), by show (vars.map i64)[((k : Int) - 1).toNat]? = _; rw [hk1]; exact icell (by omega), rfl⟩, ?_⟩
      (first | refine brLt (fun h5 => ?_) (fun h5 => ?_) | refine brLe (fun h5 => ?_) (fun h5 => ?_) | refine brEq (fun h5 => ?_) (fun h5 => ?_))
      · exact end2 faZ.pv (i64 2) rfl zr rfl (fin2 (bad fun h => by
          have := h.1
          rw [prevN, if_neg (by omega)] at this
          omega))
      · have hpv : prevN vars k < v := by rw [prevN, if_neg (by omega)]; omega
        have gv' : ∀ i, i < k + 1 → prevN vars i < vars.getD i 0 ∧ vars.getD i 0 < (cs.length : Int) := fun i hi => by
          rcases Nat.lt_or_ge i k with hh | hh
          · exact gv i hh
          · have : i = k := by omega
            subst this
            rw [← hvv]; exact ⟨hpv, by omega⟩
        have hk1n := pre_le gv'
        have gle' : p * cs.getD n 0 ≤ 4096 := Int.le_trans g'.hi (pow4 (k + 1) (by omega))
        refine ⟨by show 0 + 1 ≤ 1; omega, [i64 v], rfl, ?_⟩
        refine ⟨by show 0 + a.length ≤ (a.map i64).length; simp, a.map i64, takeAll (by simp), by show (a.length + 1) * 8 ≤ 140737488355328; omega, (a ++ [v]).map i64, by simp, ?_⟩
        refine VDraw.seq rfl ?_
        have hcn : (cs.map i64)[v.toNat]? = some (i64 (cs.getD n 0)) := by rw [hn]; exact icell hnc
        refine ⟨_, ⟨by omega, i64 (cs.getD n 0), hcn, rfl⟩, ?_⟩
        refine ⟨by (repeat' first | exact trivial | exact rfl | exact ⟨rfl, rfl⟩ | exact .inl rfl | refine ⟨_, rfl, rfl, rfl, ?_⟩ | refine ⟨_, _, rfl, ?_, ?_⟩ | refine ⟨_, rfl, ?_⟩ | refine And.intro ?_ ?_), ?_⟩
        refine ⟨by show 0 + 1 ≤ 1; omega, [i64 (cs.getD n 0)], rfl, ?_⟩
        refine ⟨by show 0 + b.length ≤ (b.map i64).length; simp, b.map i64, takeAll (by simp), by show (b.length + 1) * 8 ≤ 140737488355328; omega, (b ++ [cs.getD n 0]).map i64, by simp, ?_⟩
        refine ⟨_, ⟨by omega, i64 (cs.getD n 0), hcn, rfl⟩, ?_⟩
        refine ⟨p * cs.getD n 0, wrap_i64 (by omega) (by omega), ?_⟩
        refine ⟨_, wrap_i64 (by omega) (by omega), ?_⟩
        refine ⟨(k + 1, p * cs.getD n 0, a ++ [v], b ++ [cs.getD n 0]), ⟨g', ?_, ?_, fun i hi => ?_⟩, ent_of [] [(4, 7), (5, 9)] [] rfl ⟨⟨rfl, rfl⟩, ⟨rfl, rfl⟩, ⟨rfl, rfl⟩, ⟨rfl, rfl⟩, rfl, rfl, rfl, rfl, trivial⟩ ⟨⟨_, rfl, rfl, rfl, _, rfl, _, _, rfl, congrArg (fun n => AV.sl 7 1 0 n) (snoc_len a _).symm, _, _, rfl, congrArg (fun n => AV.sl 9 1 0 n) (snoc_len b _).symm, by (repeat' first | exact trivial | exact rfl | exact ⟨rfl, rfl⟩ | exact .inl rfl | refine ⟨_, rfl, rfl, rfl, ?_⟩ | refine ⟨_, _, rfl, ?_, ?_⟩ | refine ⟨_, rfl, ?_⟩ | refine And.intro ?_ ?_)⟩, ⟨_, rfl, rfl, rfl, rfl⟩, ⟨_, rfl, rfl, rfl, rfl⟩, ⟨_, rfl, rfl, rfl, _, rfl, by (repeat' first | exact trivial | exact rfl | exact ⟨rfl, rfl⟩ | exact .inl rfl | refine ⟨_, rfl, rfl, rfl, ?_⟩ | refine ⟨_, _, rfl, ?_, ?_⟩ | refine ⟨_, rfl, ?_⟩ | refine And.intro ?_ ?_)⟩, ⟨_, rfl, rfl, rfl, _, rfl, by (repeat' first | exact trivial | exact rfl | exact ⟨rfl, rfl⟩ | exact .inl rfl | refine ⟨_, rfl, rfl, rfl, ?_⟩ | refine ⟨_, _, rfl, ?_, ?_⟩ | refine ⟨_, rfl, ?_⟩ | refine And.intro ?_ ?_)⟩, ⟨_, rfl, rfl, rfl, _, rfl, by (repeat' first | exact trivial | exact rfl | exact ⟨rfl, rfl⟩ | exact .inl rfl | refine ⟨_, rfl, rfl, rfl, ?_⟩ | refine ⟨_, _, rfl, ?_, ?_⟩ | refine ⟨_, rfl, ?_⟩ | refine And.intro ?_ ?_)⟩, trivial⟩ rfl, by simp only []; omega⟩
        · simp only []
          rw [take_succ_getD 0 hk, ← hvv, ga]
        · simp only []
          rw [take_succ_getD 0 (by omega), hck, gb]
        · exact gv' i hi
    · have hpv : prevN vars k < v := by rw [prevN, if_pos (by omega)]; omega
      have gv' : ∀ i, i < k + 1 → prevN vars i < vars.getD i 0 ∧ vars.getD i 0 < (cs.length : Int) := fun i hi => by
        rcases Nat.lt_or_ge i k with hh | hh
        · exact gv i hh
        · have : i = k := by omega
          subst this
          rw [← hvv]; exact ⟨hpv, by omega⟩
      have hk1n := pre_le gv'
      have gle' : p * cs.getD n 0 ≤ 4096 := Int.le_trans g'.hi (pow4 (k + 1) (by omega))
      refine ⟨by show 0 + 1 ≤ 1; omega, [i64 v], rfl, ?_⟩
      refine ⟨by show 0 + a.length ≤ (a.map i64).length; simp, a.map i64, takeAll (by simp), by show (a.length + 1) * 8 ≤ 140737488355328; omega, (a ++ [v]).map i64, by simp, ?_⟩
      refine VDraw.seq rfl ?_
      have hcn : (cs.map i64)[v.toNat]? = some (i64 (cs.getD n 0)) := by rw [hn]; exact icell hnc
      refine ⟨_, ⟨by omega, i64 (cs.getD n 0), hcn, rfl⟩, ?_⟩
      refine ⟨by (repeat' first | exact trivial | exact rfl | exact ⟨rfl, rfl⟩ | exact .inl rfl | refine ⟨_, rfl, rfl, rfl, ?_⟩ | refine ⟨_, _, rfl, ?_, ?_⟩ | refine ⟨_, rfl, ?_⟩ | refine And.intro ?_ ?_), ?_⟩
      refine ⟨by show 0 + 1 ≤ 1; omega, [i64 (cs.getD n 0)], rfl, ?_⟩
      refine ⟨by show 0 + b.length ≤ (b.map i64).length; simp, b.map i64, takeAll (by simp), by show (b.length + 1) * 8 ≤ 140737488355328; omega, (b ++ [cs.getD n 0]).map i64, by simp, ?_⟩
      refine ⟨_, ⟨by omega, i64 (cs.getD n 0), hcn, rfl⟩, ?_⟩
      refine ⟨p * cs.getD n 0, wrap_i64 (by omega) (by omega), ?_⟩
      refine ⟨_, wrap_i64 (by omega) (by omega), ?_⟩
      refine ⟨(k + 1, p * cs.getD n 0, a ++ [v], b ++ [cs.getD n 0]), ⟨g', ?_, ?_, fun i hi => ?_⟩, ent_of [] [(4, 7), (5, 9)] [] rfl ⟨⟨rfl, rfl⟩, ⟨rfl, rfl⟩, ⟨rfl, rfl⟩, ⟨rfl, rfl⟩, rfl, rfl, rfl, rfl, trivial⟩ ⟨⟨_, rfl, rfl, rfl, _, rfl, _, _, rfl, congrArg (fun n => AV.sl 7 1 0 n) (snoc_len a _).symm, _, _, rfl, congrArg (fun n => AV.sl 9 1 0 n) (snoc_len b _).symm, by (repeat' first | exact trivial | exact rfl | exact ⟨rfl, rfl⟩ | exact .inl rfl | refine ⟨_, rfl, rfl, rfl, ?_⟩ | refine ⟨_, _, rfl, ?_, ?_⟩ | refine ⟨_, rfl, ?_⟩ | refine And.intro ?_ ?_)⟩, ⟨_, rfl, rfl, rfl, rfl⟩, ⟨_, rfl, rfl, rfl, rfl⟩, ⟨_, rfl, rfl, rfl, _, rfl, by (repeat' first | exact trivial | exact rfl | exact ⟨rfl, rfl⟩ | exact .inl rfl | refine ⟨_, rfl, rfl, rfl, ?_⟩ | refine ⟨_, _, rfl, ?_, ?_⟩ | refine ⟨_, rfl, ?_⟩ | refine And.intro ?_ ?_)⟩, ⟨_, rfl, rfl, rfl, _, rfl, by (repeat' first | exact trivial | exact rfl | exact ⟨rfl, rfl⟩ | exact .inl rfl | refine ⟨_, rfl, rfl, rfl, ?_⟩ | refine ⟨_, _, rfl, ?_, ?_⟩ | refine ⟨_, rfl, ?_⟩ | refine And.intro ?_ ?_)⟩, ⟨_, rfl, rfl, rfl, _, rfl, by (repeat' first | exact trivial | exact rfl | exact ⟨rfl, rfl⟩ | exact .inl rfl | refine ⟨_, rfl, rfl, rfl, ?_⟩ | refine ⟨_, _, rfl, ?_, ?_⟩ | refine ⟨_, rfl, ?_⟩ | refine And.intro ?_ ?_)⟩, trivial⟩ rfl, by simp only []; omega⟩
      · simp only []
        rw [take_succ_getD 0 hk, ← hvv, ga]
      · simp only []
        rw [take_succ_getD 0 (by omega), hck, gb]
      · exact gv' i hi
  · have h1 : ¬ (k : Int) < (vars.length : Nat) := h1
    have hk : k = vars.length := by omega
    subst hk
    have hlist : listP cs.length vars := gv
    have hp := g.pe
    rw [take_all (by omega)] at hp ga gb
    subst ga gb
    refine ⟨by show (0 : Int) ≤ p ∧ p ≤ p ∧ p * 8 ≤ 281474976710656 ∧ p ≤ 281474976710656; omega, ?_⟩
    obtain ⟨S, hS⟩ : ∃ S : Nat, p = S := ⟨p.toNat, by omega⟩
    subst hS
    refine (known_c ⟨cs, xs⟩ a).uses [] rfl ⟨_, _, rfl, rfl, _, _, rfl, rfl, rfl⟩ ?_
    refine range_of ?_
    intro σ' ps ac bd e1 e2 e3 e4
    refine iterK_c ⟨cs, xs⟩ a a b S (show xs.length ≤ 1000 by omega) hvl (fun c hc v hv => ?_) _ σ' _ _ ps ac bd _ ?_ ?_
    · have h1 := list_mem hlist v hv
      have h2 := (r5 c hc).1
      omega
    · refine end2 (countN ⟨cs, xs⟩ a).pv (i64 0) rfl ⟨_, rfl, _, _, rfl, ⟨_, rfl, by show 0 + a.length ≤ (a.map i64).length; simp, takeAll (show (a.map i64).length = a.length by simp)⟩, _, _, rfl, ⟨_, rfl, by show 0 + b.length ≤ (b.map i64).length; simp, ?_⟩, _, _, rfl, ⟨_, rfl, by show 0 + (tabN cs a S xs).length ≤ ((tabN cs a S xs).map i64).length; simp, ?_⟩, rfl⟩ rfl (fin1 hlist)
      · rw [show (countN ⟨cs, xs⟩ a).cards = b from hvc.symm]
        exact takeAll (by simp)
      · rw [show (countN ⟨cs, xs⟩ a).w = tabN cs a S xs by show tabN cs a (prodN (cardsOf cs a)).toNat xs = _; rw [← hvc, ← hp]; rfl]
        exact takeAll (by simp)
    · intro k w c K hw hwb hcm hkn hK
      have hI := right_ix (d := ⟨cs, xs⟩) (vars := a) (c := c) hr hlist hcm
      have hlt := idx_lt a 0 1 hI.mem r4 hI.lt (by omega) (by omega)
      rw [← hvc, ← hp, Int.one_mul] at hlt
      have hge := idx_ge (cs := cs) (c := c) (vars := a) (a := 0) hkn (by omega) hI
      subst e1 e2 e3 e4
      refine round_of_vc rfl rfl rfl ?_
      apply loop_rec (C := cx) (α := Nat × Int) (fun x => [(2, .ptr 0 0 0), (7, .ptr 3 0 0), (12, .p (ints c)), (13, .p (i64 x.2)), (93, .p (ints a)), (94, .p (i64 a.length)), (95, .p (i64 x.1))]) (fun N σ ps ac bd _ => ⟨9, ckL ⟨cs, xs⟩ a a b .busy N σ ps ac bd w⟩) (fun x => x.1 ≤ a.length ∧ 0 ≤ x.2 ∧ x.2 < 4 ^ x.1 ∧ idxN cs c a 0 = idxN cs c (a.drop x.1) x.2) (fun x => a.length - x.1)
      · refine ⟨(0, 0), ⟨by simp, by simp, by simp, by simp⟩, ent_of [] [] [] rfl ⟨⟨rfl, rfl⟩, ⟨rfl, rfl⟩, rfl, rfl, rfl, lenI a, rfl, trivial⟩ ⟨⟨_, rfl, rfl, rfl, rfl, rfl, rfl⟩, ⟨_, rfl, rfl, rfl, rfl⟩, ⟨_, rfl, rfl, rfl, rfl⟩, ⟨_, rfl, rfl, rfl, _, rfl, by (repeat' first | exact trivial | exact rfl | exact ⟨rfl, rfl⟩ | exact .inl rfl | refine ⟨_, rfl, rfl, rfl, ?_⟩ | refine ⟨_, _, rfl, ?_, ?_⟩ | refine ⟨_, rfl, ?_⟩ | refine And.intro ?_ ?_)⟩, ⟨_, rfl, rfl, rfl, rfl⟩, ⟨_, rfl, rfl, rfl, rfl⟩, ⟨_, rfl, rfl, rfl, _, rfl, by (repeat' first | exact trivial | exact rfl | exact ⟨rfl, rfl⟩ | exact .inl rfl | refine ⟨_, rfl, rfl, rfl, ?_⟩ | refine ⟨_, _, rfl, ?_, ?_⟩ | refine ⟨_, rfl, ?_⟩ | refine And.intro ?_ ?_)⟩, ⟨_, rfl, rfl, rfl, _, rfl, by (repeat' first | exact trivial | exact rfl | exact ⟨rfl, rfl⟩ | exact .inl rfl | refine ⟨_, rfl, rfl, rfl, ?_⟩ | refine ⟨_, _, rfl, ?_, ?_⟩ | refine ⟨_, rfl, ?_⟩ | refine And.intro ?_ ?_)⟩, ⟨_, rfl, rfl, rfl, _, rfl, by (repeat' first | exact trivial | exact rfl | exact ⟨rfl, rfl⟩ | exact .inl rfl | refine ⟨_, rfl, rfl, rfl, ?_⟩ | refine ⟨_, _, rfl, ?_, ?_⟩ | refine ⟨_, rfl, ?_⟩ | refine And.intro ?_ ?_)⟩, trivial⟩ rfl⟩
      · rintro ⟨j, t⟩ ⟨q1, q2, q3, q4⟩
        simp only [] at q1 q2 q3 q4
        (first | refine brLt (fun k1 => ?_) (fun k1 => ?_) | refine brLe (fun k1 => ?_) (fun k1 => ?_) | refine brEq (fun k1 => ?_) (fun k1 => ?_))
        · have k1 : (j : Int) < (a.length : Nat) := k1
          have hj : j < a.length := by omega
          have hd : a.drop j = a.getD j 0 :: a.drop (j + 1) := by rw [List.drop_eq_getElem_cons hj, List.getD_eq_getElem?_getD, List.getElem?_eq_getElem hj]; rfl
          obtain ⟨m1, m2⟩ := hI.mem _ (getD_memL 0 hj)
          obtain ⟨n, hvk⟩ : ∃ n : Nat, a.getD j 0 = n := ⟨(a.getD j 0).toNat, by omega⟩
          have hkc : 0 ≤ c.getD n 0 := by
            have := List.all_eq_true.1 hkn _ (getD_memL 0 hj)
            rw [hvk] at this
            simpa using this
          rw [hvk] at hd m1 m2
          have m2 : (n : Int) < (cs.length : Nat) := m2
          have hn : n < cs.length := by omega
          have hltn := hI.lt n hn
          have hoc := r4 _ (getD_memL 0 hn)
          rw [hd, idx_known (by rw [Int.toNat_natCast]; exact hkc)] at q4
          simp only [Int.toNat_natCast] at q4
          have hst := ix_step q2 q3 hoc hkc hltn
          have hp4 := pow4 (j + 1) (by omega)
          have hac : 0 ≤ t * cs.getD n 0 := Int.mul_nonneg q2 (by have := hoc.1; omega)
          have hcl := hI.vl
          refine ⟨_, ⟨by omega, i64 n, by rw [← hvk]; exact icell hj, rfl⟩, ?_⟩
          refine VDraw.seq rfl ?_
          refine ⟨_, ⟨by omega, i64 (cs.getD n 0), icell hn, rfl⟩, ?_⟩
          refine ⟨t * cs.getD n 0, wrap_i64 (by omega) (by omega), ?_⟩
          refine ⟨_, ⟨by omega, i64 (c.getD n 0), icell (show n < c.length by omega), rfl⟩, ?_⟩
          refine ⟨t * cs.getD n 0 + c.getD n 0, wrap_i64 (by omega) (by omega), ?_⟩
          refine ⟨_, wrap_i64 (by omega) (by omega), ?_⟩
          exact ⟨(j + 1, t * cs.getD n 0 + c.getD n 0), ⟨by simp only []; omega, hst.1, hst.2, q4⟩, ent_of [] [] [] rfl ⟨⟨rfl, rfl⟩, ⟨rfl, rfl⟩, rfl, rfl, rfl, rfl, rfl, trivial⟩ ⟨⟨_, rfl, rfl, rfl, rfl, rfl, rfl⟩, ⟨_, rfl, rfl, rfl, rfl⟩, ⟨_, rfl, rfl, rfl, rfl⟩, ⟨_, rfl, rfl, rfl, _, rfl, by (repeat' first | exact trivial | exact rfl | exact ⟨rfl, rfl⟩ | exact .inl rfl | refine ⟨_, rfl, rfl, rfl, ?_⟩ | refine ⟨_, _, rfl, ?_, ?_⟩ | refine ⟨_, rfl, ?_⟩ | refine And.intro ?_ ?_)⟩, ⟨_, rfl, rfl, rfl, rfl⟩, ⟨_, rfl, rfl, rfl, rfl⟩, ⟨_, rfl, rfl, rfl, _, rfl, by (repeat' first | exact trivial | exact rfl | exact ⟨rfl, rfl⟩ | exact .inl rfl | refine ⟨_, rfl, rfl, rfl, ?_⟩ | refine ⟨_, _, rfl, ?_, ?_⟩ | refine ⟨_, rfl, ?_⟩ | refine And.intro ?_ ?_)⟩, ⟨_, rfl, rfl, rfl, _, rfl, by (repeat' first | exact trivial | exact rfl | exact ⟨rfl, rfl⟩ | exact .inl rfl | refine ⟨_, rfl, rfl, rfl, ?_⟩ | refine ⟨_, _, rfl, ?_, ?_⟩ | refine ⟨_, rfl, ?_⟩ | refine And.intro ?_ ?_)⟩, ⟨_, rfl, rfl, rfl, _, rfl, by (repeat' first | exact trivial | exact rfl | exact ⟨rfl, rfl⟩ | exact .inl rfl | refine ⟨_, rfl, rfl, rfl, ?_⟩ | refine ⟨_, _, rfl, ?_, ?_⟩ | refine ⟨_, rfl, ?_⟩ | refine And.intro ?_ ?_)⟩, trivial⟩ rfl, by simp only []; omega⟩
        · have k1 : ¬ (j : Int) < (a.length : Nat) := k1
          rw [List.drop_eq_nil_of_le (by omega), idxN] at q4
          rw [q4] at hlt hge
          have htl : t.toNat < w.length := by rw [hw]; omega
          have hw0 := hwb _ (getD_memL 0 htl)
          refine ⟨by show 0 ≤ t ∧ t < (w.length : Nat); omega, ?_⟩
          refine ⟨_, ⟨i64 (w.getD t.toNat 0), by show (w.map i64)[0 + t.toNat]? = _; rw [Nat.zero_add]; exact icell htl, rfl⟩, ?_⟩
          refine ⟨w.getD t.toNat 0 + 1, wrap_i64 (by omega) (by omega), ?_⟩
          refine ⟨by show 0 ≤ t ∧ t < (w.length : Nat); omega, ?_⟩
          refine ⟨by show 0 + t.toNat < (w.map i64).length; rw [List.length_map]; omega, ?_⟩
          have e1 : iO (bump w (idxN cs c a 0)) = ⟨TN, false, .pu ((w.map i64).set (0 + t.toNat) (i64 (w.getD t.toNat 0 + 1)))⟩ := by
            rw [q4, iO, bump, if_pos hge, List.map_set, Nat.zero_add]
          have e2 : fcW a b (bump w (idxN cs c a 0)) = fcW a b w := by rw [fcW, fcW, bump_len]
          simp only [ckL] at hK
          rw [e1, e2] at hK
          exact hK
end Go.Proofs.YtmdmjnfdemgpoaaDoor

/- The statements' own functions. -/
namespace Go.Proofs.YtmdmjnfdemgpoaaDoor
open Go Y
set_option maxRecDepth 100000
set_option maxHeartbeats 4000000

theorem equal_c (a b : List Int) (ha : a.length ≤ 100000) (hb : b.length ≤ 100000) : Pure cx 15 [ints a, ints b] (· = .ret [.bool (decide (a = b))]) := by
  refine pure_of_vc Tryd.func15 rfl rfl rfl ?_
  refine And.intro (fun h1 => ?_) (fun h1 => ?_)
  · have h1 : ((a.map i64).length : Int) = ((b.map i64).length : Nat) := h1
    rw [List.length_map, List.length_map] at h1
    have hl : a.length = b.length := by omega
    refine ⟨Nat, fun k => [(0, .p (ints a)), (1, .p (ints b)), (12, .p (i64 a.length)), (13, .p (i64 k))], fun _ => ⟨0, []⟩, fun k => k ≤ a.length ∧ a.take k = b.take k, fun k => a.length - k, ?_, ?_⟩
    · exact ⟨0, ⟨by omega, by simp⟩, ent0 rfl ⟨rfl, rfl, lenI a, rfl, trivial⟩ trivial rfl⟩
    · rintro k ⟨g1, g2⟩
      (first | refine brLt (fun h2 => ?_) (fun h2 => ?_) | refine brLe (fun h2 => ?_) (fun h2 => ?_) | refine brEq (fun h2 => ?_) (fun h2 => ?_))
      · refine VDraw.seq rfl ?_
        refine ⟨_, ⟨by omega, i64 (a.getD k 0), icell (by omega), rfl⟩, ?_⟩
        refine ⟨_, ⟨by omega, i64 (b.getD k 0), icell (by omega), rfl⟩, ?_⟩
        (first | refine brLt (fun h3 => ?_) (fun h3 => ?_) | refine brLe (fun h3 => ?_) (fun h3 => ?_) | refine brEq (fun h3 => ?_) (fun h3 => ?_))
        · have h3 : a.getD k 0 = b.getD k 0 := h3
          refine ⟨(k : Int) + 1, wrap_i64 (by omega) (by omega), k + 1, ⟨by omega, ?_⟩, ent0 rfl ⟨rfl, rfl, rfl, rfl, trivial⟩ trivial rfl, ?_⟩
          · rw [take_succ_getD 0 (by omega), take_succ_getD 0 (by omega), g2, h3]
          · show a.length - (k + 1) < a.length - k
            omega
        · have h3 : ¬ a.getD k 0 = b.getD k 0 := h3
          refine end1 _ rfl rfl (retB ?_)
          rw [eq_comm, decide_eq_false_iff_not]
          rintro rfl
          exact h3 rfl
      · refine end1 _ rfl rfl (retB ?_)
        rw [take_all (by omega), take_all (by omega)] at g2
        rw [eq_comm, decide_eq_true_iff]
        exact g2
  · have h1 : ¬ ((a.map i64).length : Int) = ((b.map i64).length : Nat) := h1
    rw [List.length_map, List.length_map] at h1
    refine end1 _ rfl rfl (retB ?_)
    rw [eq_comm, decide_eq_false_iff_not]
    rintro rfl
    exact h1 rfl

theorem countP_len {d : Dt} {vars : List Int} (_ : Sm7 d) (hv : vars.length ≤ 1000) : (countP d vars).1.vars.length ≤ 1000 ∧ (countP d vars).1.cards.length ≤ 1000 ∧ (countP d vars).1.w.length ≤ 4096 := by
  rw [countP]
  split
  · rename_i hr
    split
    · rename_i hl
      have h1 := list_len hl
      have h2 := hr.1.2.1
      simp only [countN]
      refine ⟨hv, by rw [cardsOf, List.length_map]; exact hv, ?_⟩
      rw [tab_len]
      have hc := cardsOf_ok hr.2.1 (list_mem hl)
      have : prodN (cardsOf d.cards vars) ≤ 4 ^ (cardsOf d.cards vars).length := by
        have key : ∀ l : List Int, (∀ x ∈ l, okCard x) → 0 ≤ prodN l ∧ prodN l ≤ 4 ^ l.length := by
          intro l
          induction l with
          | nil => intro _; decide
          | cons x l ih =>
            intro h
            obtain ⟨h1, h2⟩ := ih fun y hy => h y (by simp [hy])
            obtain ⟨h3, h4⟩ := h x (by simp)
            rw [prod_cons]
            refine ⟨Int.mul_nonneg (by omega) h1, ?_⟩
            rw [List.length_cons, Int.pow_succ, Int.mul_comm]
            exact Int.mul_le_mul h2 h4 (by omega) (by omega)
        exact (key _ hc).2
      have h3 := pow4 (cardsOf d.cards vars).length (by rw [cardsOf, List.length_map]; omega)
      omega
    · exact ⟨by decide, by decide, by decide⟩
  · exact ⟨by decide, by decide, by decide⟩

def countsN (d : Dt) (vars want : List Int) : Bool := decide ((countP d vars).2 = 0) && decide ((countP d vars).1.vars = vars) && decide ((countP d vars).1.w = want) && decide ((countP d vars).1.cards.length = vars.length)
theorem counts_c (d : Dt) (vars want : List Int) (hd : Sm7 d) (hv : vars.length ≤ 1000) (hw : want.length ≤ 10000) : Pure cx 37 [d.pv, ints vars, ints want] (· = .ret [.bool (countsN d vars want)]) := by
  refine pure_of_vc Tryd.func37 rfl rfl rfl ?_
  have hC := count_c d vars hd hv
  obtain ⟨l1, l2, l3⟩ := countP_len hd hv
  rw [countV] at hC
  unfold countsN
  generalize countP d vars = r at hC l1 l2 l3 ⊢
  obtain ⟨⟨fv, fc, fw⟩, e⟩ := r
  simp only [] at hC l1 l2 l3 ⊢
  refine hC.eq rfl ?_
  (first | refine brLt (fun h1 => ?_) (fun h1 => ?_) | refine brLe (fun h1 => ?_) (fun h1 => ?_) | refine brEq (fun h1 => ?_) (fun h1 => ?_))
  · have h1 : e = 0 := h1
    have hE := equal_c fv vars (by omega) (by omega)
    have hF := equal_c fw want (by omega) (by omega)
    by_cases h2 : fv = vars
    · rw [decide_eq_true h2] at hE
      refine hE.eq rfl ?_
      by_cases h3 : fw = want
      · rw [decide_eq_true h3] at hF
        refine hF.eq rfl ?_
        (first | refine brLt (fun h4 => ?_) (fun h4 => ?_) | refine brLe (fun h4 => ?_) (fun h4 => ?_) | refine brEq (fun h4 => ?_) (fun h4 => ?_))
        · have h4 : ((fc.map i64).length : Int) = ((vars.map i64).length : Nat) := h4
          rw [List.length_map, List.length_map] at h4
          exact end1 _ rfl rfl (retB (by simp [h1, h2, h3]; omega))
        · have h4 : ¬ ((fc.map i64).length : Int) = ((vars.map i64).length : Nat) := h4
          rw [List.length_map, List.length_map] at h4
          exact end1 _ rfl rfl (retB (by simp [h1, h2, h3]; omega))
      · rw [decide_eq_false h3] at hF
        refine hF.eq rfl ?_
        exact end1 _ rfl rfl (retB (by simp [h3]))
    · rw [decide_eq_false h2] at hE
      refine hE.eq rfl ?_
      exact end1 _ rfl rfl (retB (by simp [h2]))
  · have h1 : ¬ e = 0 := h1
    exact end1 _ rfl rfl (retB (by simp [h1]))

theorem parseN_sm (t : List UInt8) : Sm7 (parseN t).1 := by
  rw [parseN]
  split
  · exact ⟨by decide, by decide, by simp [dtZero]⟩
  · split
    · split
      · rename_i l ls _ h
        refine ⟨by have := h.1.2.1; simp only [] at this ⊢; omega, by have := h.1.2.2; simp only [] at this ⊢; omega, fun c hc => ?_⟩
        have h1 := (h.2.2.1 c hc).1
        have h2 := h.1.2.1
        simp only [] at h1 h2
        omega
      · exact ⟨by decide, by decide, by simp [dtZero]⟩
    · exact ⟨by decide, by decide, by simp [dtZero]⟩
def parsedN (t : List UInt8) (d : Dt) : Bool := decide ((parseN t).2 = 0) && decide ((parseN t).1 = d)
theorem parsed_c (t : List UInt8) (d : Dt) (hd : Sm7 d) : Pure cx 36 [.str t, d.pv] (· = .ret [.bool (parsedN t d)]) := by
  refine pure_of_vc Tryd.func36 rfl rfl rfl ?_
  have hC := parse_c t
  have hs := parseN_sm t
  rw [parseV] at hC
  unfold parsedN
  generalize parseN t = r at hC hs ⊢
  obtain ⟨z, e⟩ := r
  simp only [] at hC hs ⊢
  have hS := same_c z d hs hd
  refine hC.eq rfl ?_
  (first | refine brLt (fun h1 => ?_) (fun h1 => ?_) | refine brLe (fun h1 => ?_) (fun h1 => ?_) | refine brEq (fun h1 => ?_) (fun h1 => ?_))
  · have h1 : e = 0 := h1
    by_cases h2 : z = d
    · rw [decide_eq_true h2] at hS
      refine hS.eq rfl ?_
      exact end1 _ rfl rfl (retB (by simp [h1, h2]))
    · rw [decide_eq_false h2] at hS
      refine hS.eq rfl ?_
      exact end1 _ rfl rfl (retB (by simp [h2]))
  · have h1 : ¬ e = 0 := h1
    exact end1 _ rfl rfl (retB (by simp [h1]))

/-! ### The example -/
def exD : Dt := ⟨[2, 3], [[0, 2], [1, 0], [0, -1], [0, 2]]⟩
theorem example_h : HoldsG cx 39 [] ⟨0, []⟩ fun e H' => e = .returned (.agg [.sl 0 1 0 2, .sl 5 1 0 4]) ∧ H' = ⟨6, [(5, ⟨TI, false, .mx [.sl 1 1 0 2, .sl 2 1 0 2, .sl 3 1 0 2, .sl 4 1 0 2]⟩), (4, iO [0, 2]), (3, iO [0, -1]), (2, iO [1, 0]), (1, iO [0, 2]), (0, iO [2, 3])]⟩ := by
  refine holdsN_of_vc Tryd.func39 rfl rfl rfl ?_
  exact ⟨[], [(0, 1), (1, 2), (2, 3), (3, 4), (4, 5), (5, 6)], [], .returned (.agg [.sl 0 1 0 2, .sl 5 1 0 4]), ⟨6, [(5, ⟨TI, false, .mx [.sl 1 1 0 2, .sl 2 1 0 2, .sl 3 1 0 2, .sl 4 1 0 2]⟩), (4, iO [0, 2]), (3, iO [0, -1]), (2, iO [1, 0]), (1, iO [0, 2]), (0, iO [2, 3])]⟩, rfl, by (repeat' first | exact trivial | exact rfl | exact ⟨rfl, rfl⟩ | exact .inl rfl | refine ⟨_, rfl, rfl, rfl, ?_⟩ | refine ⟨_, _, rfl, ?_, ?_⟩ | refine ⟨_, rfl, ?_⟩ | refine And.intro ?_ ?_), by (repeat' first | exact trivial | exact rfl | exact ⟨rfl, rfl⟩ | exact .inl rfl | refine ⟨_, rfl, rfl, rfl, ?_⟩ | refine ⟨_, _, rfl, ?_, ?_⟩ | refine ⟨_, rfl, ?_⟩ | refine And.intro ?_ ?_), rfl, rfl⟩
theorem example_c : Pure cx 39 [] (· = .ret [exD.pv]) := by
  refine pure_of_vc Tryd.func39 rfl rfl rfl ?_
  refine end1 exD.pv rfl ?_ rfl
  exact ⟨_, rfl, _, _, rfl, ⟨_, rfl, by decide, rfl⟩, _, _, rfl, ⟨_, _, rfl, rfl, _, _, rfl, ⟨_, rfl, by decide, rfl⟩, _, _, rfl, ⟨_, rfl, by decide, rfl⟩, _, _, rfl, ⟨_, rfl, by decide, rfl⟩, _, _, rfl, ⟨_, rfl, by decide, rfl⟩, rfl⟩, rfl⟩
end Go.Proofs.YtmdmjnfdemgpoaaDoor

/- The chapter's examples. -/
namespace Go.Proofs.YtmdmjnfdemgpoaaDoor
open Go Y
set_option maxRecDepth 100000
set_option maxHeartbeats 4000000

def exBad : Dt := ⟨[2, 3], [[0, 3], [1, 0], [0, -1], [0, 2]]⟩
theorem sm_ex : Sm7 exD := ⟨by decide, by decide, by decide⟩
theorem works_c : Pure cx 10 [] (· = .ret [.bool true]) := by
  have hx := sm_ex
  have c1 : countP exD [1, 0] = (faZ, 2) := by decide
  have c2 : countsN exD [0] [3, 1] = true := by decide
  have c3 : countsN exD [0, 1] [0, 0, 2, 1, 0, 0] = true := by decide
  have c4 : countsN exD [] [4] = true := by decide
  have hr : rightP exD := by decide
  have s1 : okSplit 2 0 := by decide
  have s2 : ¬ okSplit 2 2 := by decide
  have p1 : printN exD = [50, 32, 51, 10, 48, 32, 50, 10, 49, 32, 48, 10, 48, 32, 63, 10, 48, 32, 50, 10] := by decide
  have q1 : parseN [50, 10, 50, 10] = (dtZero, 5) := by decide
  have q2 : parseN [48, 50, 10] = (dtZero, 5) := by decide
  have q3 : parsedN [50, 32, 50, 10] ⟨[2, 2], []⟩ = true := by decide
  have q4 : parsedN [50, 10, 49, 10] ⟨[2], [[1]]⟩ = true := by decide
  have w1 : completeN exD = ⟨[2, 3], [[0, 2], [1, 0], [0, 2]]⟩ := by decide
  have w2 : partN exD 2 0 = ⟨[2, 3], [[0, 2], [0, -1]]⟩ := by decide
  have w3 : restN exD 2 0 = ⟨[2, 3], [[1, 0], [0, 2]]⟩ := by decide
  have k1 : checkD ⟨[1], []⟩ = 250 := by decide
  have k2 : checkD ⟨[4, 4, 4, 4, 4, 4], []⟩ = 250 := by decide
  have k3 : checkD exBad = 250 := by decide
  have C1 := count_c exD [1, 0] hx (by decide)
  rw [countV, c1] at C1
  have M1 := complete_c exD hx
  rw [if_pos hr, w1, checkD, if_pos hr] at M1
  have S1 := split_c exD 2 0 hx
  rw [splitV, if_pos hr, if_pos s1, w2, w3] at S1
  have S2 := split_c exD 2 2 hx
  rw [splitV, if_pos hr, if_neg s2] at S2
  have P1 := print_c exD hx
  rw [printV, if_pos hr, p1] at P1
  have Q1 := parse_c [50, 10, 50, 10]
  rw [parseV, q1] at Q1
  have Q2 := parse_c [48, 50, 10]
  rw [parseV, q2] at Q2
  have N1 := counts_c exD [0] [3, 1] hx (by decide) (by decide)
  rw [c2] at N1
  have N2 := counts_c exD [0, 1] [0, 0, 2, 1, 0, 0] hx (by decide) (by decide)
  rw [c3] at N2
  have N3 := counts_c exD [] [4] hx (by decide) (by decide)
  rw [c4] at N3
  have E1 := same_c ⟨[2, 3], [[0, 2], [1, 0], [0, 2]]⟩ ⟨[2, 3], [[0, 2], [1, 0], [0, 2]]⟩ ⟨by decide, by decide, by decide⟩ ⟨by decide, by decide, by decide⟩
  rw [decide_eq_true rfl] at E1
  have E2 := same_c ⟨[2, 3], [[0, 2], [0, -1]]⟩ ⟨[2, 3], [[0, 2], [0, -1]]⟩ ⟨by decide, by decide, by decide⟩ ⟨by decide, by decide, by decide⟩
  rw [decide_eq_true rfl] at E2
  have E3 := same_c ⟨[2, 3], [[1, 0], [0, 2]]⟩ ⟨[2, 3], [[1, 0], [0, 2]]⟩ ⟨by decide, by decide, by decide⟩ ⟨by decide, by decide, by decide⟩
  rw [decide_eq_true rfl] at E3
  have R1 := parsed_c [50, 32, 50, 10] ⟨[2, 2], []⟩ ⟨by decide, by decide, by decide⟩
  rw [q3] at R1
  have R2 := parsed_c [50, 10, 49, 10] ⟨[2], [[1]]⟩ ⟨by decide, by decide, by decide⟩
  rw [q4] at R2
  have K1 := check_c ⟨[1], []⟩ ⟨by decide, by decide, by decide⟩
  rw [k1] at K1
  have K2 := check_c ⟨[4, 4, 4, 4, 4, 4], []⟩ ⟨by decide, by decide, by decide⟩
  rw [k2] at K2
  have K3 := check_c exBad ⟨by decide, by decide, by decide⟩
  rw [k3] at K3
  refine pure_of_vc Tryd.func10 rfl rfl rfl ?_
  refine example_c.eq rfl ?_
  refine C1.uses [1] rfl ⟨_, _, rfl, rfl, _, _, rfl, ⟨_, rfl, by decide, rfl⟩, rfl⟩ ?_
  refine M1.eq rfl ?_
  refine S1.eq rfl ?_
  refine S2.eq rfl ?_
  refine P1.eq rfl ?_
  refine Q1.eq rfl ?_
  refine Q2.eq rfl ?_
  refine example_h.useE [] [] rfl trivial rfl ?_
  refine ⟨by decide, ?_⟩
  refine ⟨by decide, ?_⟩
  refine ⟨by decide, ?_⟩
  refine N1.lends [17, 18] rfl ⟨_, _, rfl, rfl, _, _, rfl, ⟨_, rfl, by decide, rfl⟩, _, _, rfl, ⟨_, rfl, by decide, rfl⟩, rfl⟩ ?_
  refine N2.lends [19, 20] rfl ⟨_, _, rfl, rfl, _, _, rfl, ⟨_, rfl, by decide, rfl⟩, _, _, rfl, ⟨_, rfl, by decide, rfl⟩, rfl⟩ ?_
  refine N3.lends [21] rfl ⟨_, _, rfl, rfl, _, _, rfl, .inr (.inl rfl), _, _, rfl, ⟨_, rfl, by decide, rfl⟩, rfl⟩ ?_
  refine And.intro (fun _ => ?_) (fun h => absurd rfl h)
  refine And.intro (fun _ => ?_) (fun h => absurd rfl h)
  refine And.intro (fun _ => ?_) (fun h => absurd rfl h)
  refine And.intro (fun _ => ?_) (fun h => absurd rfl h)
  refine And.intro (fun _ => ?_) (fun h => absurd rfl h)
  refine And.intro (fun _ => ?_) (fun h => absurd rfl h)
  refine And.intro (fun _ => ?_) (fun h => absurd rfl h)
  refine And.intro (fun _ => ?_) (fun h => absurd rfl h)
  refine E1.lends [22, 23, 24, 25, 26] rfl ⟨_, _, rfl, rfl, _, _, rfl, ⟨_, rfl, _, _, rfl, ⟨_, rfl, by decide, rfl⟩, _, _, rfl, ⟨_, _, rfl, rfl, _, _, rfl, ⟨_, rfl, by decide, rfl⟩, _, _, rfl, ⟨_, rfl, by decide, rfl⟩, _, _, rfl, ⟨_, rfl, by decide, rfl⟩, rfl⟩, rfl⟩, rfl⟩ ?_
  refine E2.lends [27, 28, 29, 30] rfl ⟨_, _, rfl, rfl, _, _, rfl, ⟨_, rfl, _, _, rfl, ⟨_, rfl, by decide, rfl⟩, _, _, rfl, ⟨_, _, rfl, rfl, _, _, rfl, ⟨_, rfl, by decide, rfl⟩, _, _, rfl, ⟨_, rfl, by decide, rfl⟩, rfl⟩, rfl⟩, rfl⟩ ?_
  refine E3.lends [31, 32, 33, 34] rfl ⟨_, _, rfl, rfl, _, _, rfl, ⟨_, rfl, _, _, rfl, ⟨_, rfl, by decide, rfl⟩, _, _, rfl, ⟨_, _, rfl, rfl, _, _, rfl, ⟨_, rfl, by decide, rfl⟩, _, _, rfl, ⟨_, rfl, by decide, rfl⟩, rfl⟩, rfl⟩, rfl⟩ ?_
  refine R1.lends [35] rfl ⟨_, _, rfl, rfl, _, _, rfl, ⟨_, rfl, _, _, rfl, ⟨_, rfl, by decide, rfl⟩, _, _, rfl, .inr (.inl rfl), rfl⟩, rfl⟩ ?_
  refine R2.lends [36, 37, 38] rfl ⟨_, _, rfl, rfl, _, _, rfl, ⟨_, rfl, _, _, rfl, ⟨_, rfl, by decide, rfl⟩, _, _, rfl, ⟨_, _, rfl, rfl, _, _, rfl, ⟨_, rfl, by decide, rfl⟩, rfl⟩, rfl⟩, rfl⟩ ?_
  refine K1.lends [39] rfl ⟨_, _, rfl, ⟨_, rfl, _, _, rfl, ⟨_, rfl, by decide, rfl⟩, _, _, rfl, .inr (.inl rfl), rfl⟩, rfl⟩ ?_
  refine And.intro (fun _ => ?_) (fun h => absurd rfl h)
  refine K2.lends [40] rfl ⟨_, _, rfl, ⟨_, rfl, _, _, rfl, ⟨_, rfl, by decide, rfl⟩, _, _, rfl, .inr (.inl rfl), rfl⟩, rfl⟩ ?_
  refine And.intro (fun _ => ?_) (fun h => absurd rfl h)
  refine K3.lends [10, 11, 12, 13, 14, 15] rfl ⟨_, _, rfl, ⟨_, rfl, _, _, rfl, ⟨_, rfl, by decide, rfl⟩, _, _, rfl, ⟨_, _, rfl, rfl, _, _, rfl, ⟨_, rfl, by decide, rfl⟩, _, _, rfl, ⟨_, rfl, by decide, rfl⟩, _, _, rfl, ⟨_, rfl, by decide, rfl⟩, _, _, rfl, ⟨_, rfl, by decide, rfl⟩, rfl⟩, rfl⟩, rfl⟩ ?_
  refine And.intro (fun _ => ?_) (fun h => absurd rfl h)
  exact end1 _ rfl rfl rfl
end Go.Proofs.YtmdmjnfdemgpoaaDoor

/- Contracts of the kit's shelf, laid at this program by the kit's lay-shelf.mjs and lay-plain.mjs. -/
namespace Go.Proofs
open Go.Shelf
def Tryd.lays122_ren : Go.Shelf.Ren := ⟨fun | 122 => 68 | 215 => 82 | n => n, fun | 3 => 3 | 4 => 4 | n => n, fun | n => n⟩
theorem Tryd.lays122 : Go.Proofs.Lays.n122 Tryd.prog Tryd.lays122_ren := {
  mixed := by kernel_rfl
  f122 := Tryd.func68.trans (congrArg some (by kernel_rfl))
  f215 := Tryd.func82.trans (congrArg some (by kernel_rfl))
  t3 := Tryd.underlying3
  a3 := Tryd.isAgg3
  z3 := Tryd.sizeOf3
  v3 := Tryd.zeroValue3
  t4 := Tryd.underlying4
  a4 := Tryd.isAgg4
  z4 := Tryd.sizeOf4
  v4 := Tryd.zeroValue4 }
open Go.RowKit in
theorem Tryd.cmp_Compare_int (x y : Int) (w : World) :
    Calls Tryd.prog 68 #[.int .i64 x, .int .i64 y] w fun e w' => e = .returned (.int .i64 (Lib.compareInt x y)) ∧ w' = w := Any.cmp_Compare_int Tryd.lays122 x y w
def Tryd.laysSlF6_f43_ren : Go.Shelf.Ren := ⟨fun | 6 => 43 | 15 => 70 | 14 => 69 | 28 => 91 | 29 => 92 | 20 => 83 | 21 => 84 | 22 => 85 | 23 => 86 | 24 => 87 | 25 => 88 | 26 => 89 | 27 => 90 | 46 => 102 | 47 => 103 | 48 => 104 | 49 => 105 | 50 => 106 | 57 => 115 | n => n, fun | 22 => 28 | 24 => 27 | 25 => 79 | 3 => 3 | 39 => 106 | 0 => 0 | 53 => 122 | 55 => 125 | 4 => 4 | 46 => 131 | 45 => 130 | 50 => 135 | 5 => 5 | 9 => 9 | 66 => 145 | 70 => 149 | 76 => 159 | 77 => 160 | n => n, fun | n => n⟩
theorem Tryd.laysSlF6_f43 : Go.Proofs.SlLaysF.n6 Tryd.prog Tryd.laysSlF6_f43_ren := {
  mixed := by kernel_rfl
  f6 := ⟨Tryd.f43.name, by decide, Tryd.func43.trans (congrArg some (by kernel_rfl))⟩
  f14 := ⟨Tryd.f69.name, by decide, Tryd.func69.trans (congrArg some (by kernel_rfl))⟩
  f15 := Tryd.func70.trans (congrArg some (by kernel_rfl))
  f20 := ⟨Tryd.f83.name, by decide, Tryd.func83.trans (congrArg some (by kernel_rfl))⟩
  f21 := ⟨Tryd.f84.name, by decide, Tryd.func84.trans (congrArg some (by kernel_rfl))⟩
  f22 := ⟨Tryd.f85.name, by decide, Tryd.func85.trans (congrArg some (by kernel_rfl))⟩
  f23 := ⟨Tryd.f86.name, by decide, Tryd.func86.trans (congrArg some (by kernel_rfl))⟩
  f24 := ⟨Tryd.f87.name, by decide, Tryd.func87.trans (congrArg some (by kernel_rfl))⟩
  f25 := ⟨Tryd.f88.name, by decide, Tryd.func88.trans (congrArg some (by kernel_rfl))⟩
  f26 := ⟨Tryd.f89.name, by decide, Tryd.func89.trans (congrArg some (by kernel_rfl))⟩
  f27 := ⟨Tryd.f90.name, by decide, Tryd.func90.trans (congrArg some (by kernel_rfl))⟩
  f28 := Tryd.func91.trans (congrArg some (by kernel_rfl))
  f29 := Tryd.func92.trans (congrArg some (by kernel_rfl))
  f46 := ⟨Tryd.f102.name, by decide, Tryd.func102.trans (congrArg some (by kernel_rfl))⟩
  f47 := Tryd.func103.trans (congrArg some (by kernel_rfl))
  f48 := Tryd.func104.trans (congrArg some (by kernel_rfl))
  f49 := ⟨Tryd.f105.name, by decide, Tryd.func105.trans (congrArg some (by kernel_rfl))⟩
  f50 := ⟨Tryd.f106.name, by decide, Tryd.func106.trans (congrArg some (by kernel_rfl))⟩
  f57 := ⟨Tryd.f115.name, by decide, Tryd.func115.trans (congrArg some (by kernel_rfl))⟩
  t0 := Tryd.underlying0
  a0 := Tryd.isAgg0
  z0 := Tryd.sizeOf0
  v0 := Tryd.zeroValue0
  t3 := Tryd.underlying3
  a3 := Tryd.isAgg3
  z3 := Tryd.sizeOf3
  v3 := Tryd.zeroValue3
  t4 := Tryd.underlying4
  a4 := Tryd.isAgg4
  z4 := Tryd.sizeOf4
  v4 := Tryd.zeroValue4
  t5 := Tryd.underlying5
  a5 := Tryd.isAgg5
  z5 := Tryd.sizeOf5
  v5 := Tryd.zeroValue5
  t9 := Tryd.underlying9
  a9 := Tryd.isAgg9
  z9 := Tryd.sizeOf9
  v9 := Tryd.zeroValue9
  t22 := Tryd.underlying28
  a22 := Tryd.isAgg28
  z22 := Tryd.sizeOf28
  v22 := Tryd.zeroValue28
  a24 := Tryd.isAgg27
  z24 := Tryd.sizeOf27
  t25 := Tryd.underlying79
  a25 := Tryd.isAgg79
  z25 := Tryd.sizeOf79
  v25 := Tryd.zeroValue79
  t39 := Tryd.underlying106
  a39 := Tryd.isAgg106
  z39 := Tryd.sizeOf106
  v39 := Tryd.zeroValue106
  t45 := Tryd.underlying130
  a45 := Tryd.isAgg130
  z45 := Tryd.sizeOf130
  v45 := Tryd.zeroValue130
  t46 := Tryd.underlying131
  a46 := Tryd.isAgg131
  z46 := Tryd.sizeOf131
  v46 := Tryd.zeroValue131
  t50 := Tryd.underlying135
  a50 := Tryd.isAgg135
  z50 := Tryd.sizeOf135
  v50 := Tryd.zeroValue135
  t53 := Tryd.underlying122
  a53 := Tryd.isAgg122
  z53 := Tryd.sizeOf122
  v53 := Tryd.zeroValue122
  t55 := Tryd.underlying125
  a55 := Tryd.isAgg125
  z55 := Tryd.sizeOf125
  v55 := Tryd.zeroValue125
  t66 := Tryd.underlying145
  a66 := Tryd.isAgg145
  z66 := Tryd.sizeOf145
  v66 := Tryd.zeroValue145
  t70 := Tryd.underlying149
  a70 := Tryd.isAgg149
  z70 := Tryd.sizeOf149
  v70 := Tryd.zeroValue149
  t76 := Tryd.underlying159
  a76 := Tryd.isAgg159
  z76 := Tryd.sizeOf159
  v76 := Tryd.zeroValue159
  t77 := Tryd.underlying160
  a77 := Tryd.isAgg160
  z77 := Tryd.sizeOf160
  v77 := Tryd.zeroValue160 }
open Go.RowKit Go.Lib Go.Sort in
theorem Tryd.slices_SortFunc {α : Type} [Inhabited α] (enc : α → Value) (h1 : OneCell enc) (cf : α → α → Int) (hO : SWO (ltOf cf)) (g : Nat) (cb : Array Value) (blk off cap : Nat) (d : Array α) (w : World) (eg : ∀ args w, (callFunc g args).run Tryd.prog w = .ok (.enter g args) w) (hcmp : CmpLays1 Tryd.prog g cb enc cf blk off d.size w) (hH : Holds enc w blk off d) (hblk : blk < w.heap.size) (hsz : d.size < 4611686018427387904) :
    Calls Tryd.prog 43 #[.slice (some ⟨blk, off, none⟩) d.size cap, .func (.func g) #[] cb] w fun e w' =>
      e = .returned (.tuple #[]) ∧ ∃ d' n os, PermIn 0 d.size d d' ∧ SortedIn (ltOf cf) 0 d.size d' ∧ w' = sortWorld enc w blk off n d' os := Any.slices_SortFunc Tryd.laysSlF6_f43 enc h1 cf hO g cb blk off cap d w eg hcmp hH hblk hsz
def Tryd.laysSlF06_f43_ren : Go.Shelf.Ren := ⟨fun | 6 => 43 | 15 => 70 | 14 => 69 | 28 => 91 | 29 => 92 | 20 => 83 | 21 => 84 | 22 => 85 | 23 => 86 | 24 => 87 | 25 => 88 | 26 => 89 | 27 => 90 | 46 => 102 | 47 => 103 | 48 => 104 | 49 => 105 | 50 => 106 | 57 => 115 | n => n, fun | 22 => 28 | 24 => 27 | 25 => 79 | 3 => 3 | 39 => 106 | 0 => 0 | 53 => 122 | 55 => 125 | 4 => 4 | 46 => 131 | 45 => 130 | 50 => 135 | 5 => 5 | 9 => 9 | 66 => 145 | 70 => 149 | 76 => 159 | 77 => 160 | n => n, fun | n => n⟩
theorem Tryd.laysSlF06_f43 : Go.Proofs.SlLaysF0.n6 Tryd.prog Tryd.laysSlF06_f43_ren := {
  mixed := by kernel_rfl
  f6 := ⟨Tryd.f43.name, by decide, Tryd.func43.trans (congrArg some (by kernel_rfl))⟩
  f14 := ⟨Tryd.f69.name, by decide, Tryd.func69.trans (congrArg some (by kernel_rfl))⟩
  f15 := Tryd.func70.trans (congrArg some (by kernel_rfl))
  f20 := ⟨Tryd.f83.name, by decide, Tryd.func83.trans (congrArg some (by kernel_rfl))⟩
  f21 := ⟨Tryd.f84.name, by decide, Tryd.func84.trans (congrArg some (by kernel_rfl))⟩
  f22 := ⟨Tryd.f85.name, by decide, Tryd.func85.trans (congrArg some (by kernel_rfl))⟩
  f23 := ⟨Tryd.f86.name, by decide, Tryd.func86.trans (congrArg some (by kernel_rfl))⟩
  f24 := ⟨Tryd.f87.name, by decide, Tryd.func87.trans (congrArg some (by kernel_rfl))⟩
  f25 := ⟨Tryd.f88.name, by decide, Tryd.func88.trans (congrArg some (by kernel_rfl))⟩
  f26 := ⟨Tryd.f89.name, by decide, Tryd.func89.trans (congrArg some (by kernel_rfl))⟩
  f27 := ⟨Tryd.f90.name, by decide, Tryd.func90.trans (congrArg some (by kernel_rfl))⟩
  f28 := Tryd.func91.trans (congrArg some (by kernel_rfl))
  f29 := Tryd.func92.trans (congrArg some (by kernel_rfl))
  f46 := ⟨Tryd.f102.name, by decide, Tryd.func102.trans (congrArg some (by kernel_rfl))⟩
  f47 := Tryd.func103.trans (congrArg some (by kernel_rfl))
  f48 := Tryd.func104.trans (congrArg some (by kernel_rfl))
  f49 := ⟨Tryd.f105.name, by decide, Tryd.func105.trans (congrArg some (by kernel_rfl))⟩
  f50 := ⟨Tryd.f106.name, by decide, Tryd.func106.trans (congrArg some (by kernel_rfl))⟩
  f57 := ⟨Tryd.f115.name, by decide, Tryd.func115.trans (congrArg some (by kernel_rfl))⟩
  t0 := Tryd.underlying0
  a0 := Tryd.isAgg0
  z0 := Tryd.sizeOf0
  v0 := Tryd.zeroValue0
  t3 := Tryd.underlying3
  a3 := Tryd.isAgg3
  z3 := Tryd.sizeOf3
  v3 := Tryd.zeroValue3
  t4 := Tryd.underlying4
  a4 := Tryd.isAgg4
  z4 := Tryd.sizeOf4
  v4 := Tryd.zeroValue4
  t5 := Tryd.underlying5
  a5 := Tryd.isAgg5
  z5 := Tryd.sizeOf5
  v5 := Tryd.zeroValue5
  t9 := Tryd.underlying9
  a9 := Tryd.isAgg9
  z9 := Tryd.sizeOf9
  v9 := Tryd.zeroValue9
  t22 := Tryd.underlying28
  a22 := Tryd.isAgg28
  z22 := Tryd.sizeOf28
  v22 := Tryd.zeroValue28
  t25 := Tryd.underlying79
  a25 := Tryd.isAgg79
  z25 := Tryd.sizeOf79
  v25 := Tryd.zeroValue79
  t39 := Tryd.underlying106
  a39 := Tryd.isAgg106
  z39 := Tryd.sizeOf106
  v39 := Tryd.zeroValue106
  t45 := Tryd.underlying130
  a45 := Tryd.isAgg130
  z45 := Tryd.sizeOf130
  v45 := Tryd.zeroValue130
  t46 := Tryd.underlying131
  a46 := Tryd.isAgg131
  z46 := Tryd.sizeOf131
  v46 := Tryd.zeroValue131
  t50 := Tryd.underlying135
  a50 := Tryd.isAgg135
  z50 := Tryd.sizeOf135
  v50 := Tryd.zeroValue135
  t53 := Tryd.underlying122
  a53 := Tryd.isAgg122
  z53 := Tryd.sizeOf122
  v53 := Tryd.zeroValue122
  t55 := Tryd.underlying125
  a55 := Tryd.isAgg125
  z55 := Tryd.sizeOf125
  v55 := Tryd.zeroValue125
  t66 := Tryd.underlying145
  a66 := Tryd.isAgg145
  z66 := Tryd.sizeOf145
  v66 := Tryd.zeroValue145
  t70 := Tryd.underlying149
  a70 := Tryd.isAgg149
  z70 := Tryd.sizeOf149
  v70 := Tryd.zeroValue149
  t76 := Tryd.underlying159
  a76 := Tryd.isAgg159
  z76 := Tryd.sizeOf159
  v76 := Tryd.zeroValue159
  t77 := Tryd.underlying160
  a77 := Tryd.isAgg160
  z77 := Tryd.sizeOf160
  v77 := Tryd.zeroValue160 }
open Go.RowKit Go.Lib Go.Sort in
theorem Tryd.slices_SortFunc_none {α : Type} [Inhabited α] (p : Option Addr) (cap : Nat) (fv : Value) (w : World) :
    Calls Tryd.prog 43 #[.slice p 0 cap, fv] w fun e w' => e = .returned (.tuple #[]) ∧ w' = w := AnyF.slices_SortFunc_none Tryd.laysSlF06_f43 p cap fv w
end Go.Proofs

/- slices.Compare and DataWhole's comparison: the world is as it was. -/
namespace Go.Proofs.YtmdmjnfdemgpoaaDoor
open Go Go.Shelf Go.RowKit
set_option maxRecDepth 100000
set_option maxHeartbeats 4000000

def cmpL : List Int → List Int → Int
  | [], [] => 0
  | [], _ :: _ => -1
  | _ :: _, [] => 1
  | x :: a, y :: b => if Lib.compareInt x y = 0 then cmpL a b else Lib.compareInt x y

theorem cmpI_self (x : Int) : Lib.compareInt x x = 0 := by
  unfold Lib.compareInt
  rw [if_neg (by omega), if_neg (by omega)]
theorem cmp_end : ∀ {a b : List Int} {k : Nat} (_ : a.length ≤ k ∨ b.length ≤ k) (_ : ∀ j, j < k → a.getD j 0 = b.getD j 0) (_ : k ≤ a.length) (_ : k ≤ b.length), cmpL a b = if a.length < b.length then -1 else if b.length < a.length then 1 else 0
  | [], [], _, _, _, _, _ => by simp [cmpL]
  | [], _ :: _, _, _, _, _, _ => by simp [cmpL]
  | _ :: _, [], _, _, _, _, _ => by simp [cmpL]
  | x :: a, y :: b, 0, h, _, _, _ => by simp at h
  | x :: a, y :: b, k + 1, h, he, ha, hb => by
    have h0 : x = y := he 0 (by omega)
    subst h0
    simp only [List.length_cons] at h ha hb
    rw [cmpL, if_pos (cmpI_self x), cmp_end (k := k) (by omega) (fun j hj => he (j + 1) (by omega)) (by omega) (by omega)]
    simp only [List.length_cons, Nat.add_lt_add_iff_right]
theorem cmp_at : ∀ {a b : List Int} {k : Nat} (_ : k < a.length) (_ : k < b.length) (_ : ∀ j, j < k → a.getD j 0 = b.getD j 0) (_ : Lib.compareInt (a.getD k 0) (b.getD k 0) ≠ 0), cmpL a b = Lib.compareInt (a.getD k 0) (b.getD k 0)
  | [], _, _, h, _, _, _ => by simp at h
  | _ :: _, [], _, _, h, _, _ => by simp at h
  | x :: a, y :: b, 0, _, _, _, hn => by
    have hn : Lib.compareInt x y ≠ 0 := hn
    rw [cmpL, if_neg hn]; rfl
  | x :: a, y :: b, k + 1, h1, h2, he, hn => by
    have h0 : x = y := he 0 (by omega)
    subst h0
    simp only [List.length_cons] at h1 h2
    rw [cmpL, if_pos (cmpI_self x)]
    exact cmp_at (by omega) (by omega) (fun j hj => he (j + 1) (by omega)) hn

theorem cmpI_zero {x y : Int} (h : Lib.compareInt x y = 0) : x = y := by
  unfold Lib.compareInt at h
  split at h
  · cases h
  · split at h
    · cases h
    · omega

theorem compare_walk (p1 p2 : Option Addr) (b1 o1 c b2 o2 d : Nat) (xs ys : List Int) (w : World) (h1 : 0 < xs.length → p1 = some ⟨b1, o1, none⟩) (h2 : 0 < ys.length → p2 = some ⟨b2, o2, none⟩)
    (hbig : xs.length ≤ 1000) (hbig2 : ys.length ≤ 1000) (hc1 : ∀ j, j < xs.length → w.cell? ⟨b1, o1 + j, none⟩ = some (.int .i64 (xs.getD j 0))) (hc2 : ∀ j, j < ys.length → w.cell? ⟨b2, o2 + j, none⟩ = some (.int .i64 (ys.getD j 0))) :
    Calls Tryd.prog 42 #[.slice p1 xs.length c, .slice p2 ys.length d] w fun e w' => e = .returned (.int .i64 (cmpL xs ys)) ∧ w' = w := by
  generalize hn : xs.length = n at *
  generalize hm : ys.length = m at *
  go_enter Tryd.func42, Tryd.ntmps42
  go_wp2
  go_loopg [11] n (fun g s11 wr => ∃ k : Nat, (k ≤ n ∧ k ≤ m) ∧ n - k ≤ g ∧ s11 = .int .i64 k ∧ wr = w ∧ ∀ j, j < k → xs.getD j 0 = ys.getD j 0)
  case atStart => exact ⟨0, ⟨Nat.zero_le _, Nat.zero_le _⟩, by omega, rfl, rfl, fun j hj => absurd hj (Nat.not_lt_zero _)⟩
  case round =>
    obtain ⟨k, ⟨hk, hkm⟩, hg, rfl, rfl, heq⟩ := hrel
    by_cases hlt : k < n
    · obtain rfl := h1 (by omega)
      have g1 : wr.cell? ⟨b1, o1 + k, none⟩ = some (.int .i64 (xs.getD k 0)) := hc1 k hlt
      have A : Aside (∀ j, j < k → xs.getD j 0 = ys.getD j 0) := heq
      by_cases hlm : k < m
      · obtain rfl := h2 (by omega)
        have g2 : wr.cell? ⟨b2, o2 + k, none⟩ = some (.int .i64 (ys.getD k 0)) := hc2 k hlm
        clear heq hc1 hc2 h1 h2
        generalize hxk : xs.getD k 0 = x at g1
        generalize hyk : ys.getD k 0 = y at g2
        have B : Aside (xs.getD k 0 = x ∧ ys.getD k 0 = y) := ⟨hxk, hyk⟩
        clear hxk hyk
        by_cases hz : Lib.compareInt x y = 0
        · go_wp2_with fail
          refine (Tryd.cmp_Compare_int _ _ _).mono ?_
          rintro e w' ⟨rfl, rfl⟩
          rw [hz]
          go_wp2
          go_roundg (n - (k + 1))
          case measure => omega
          case rel =>
            refine ⟨k + 1, ⟨by omega, by omega⟩, by omega, by go_num, rfl, fun j hj => ?_⟩
            by_cases e : j = k
            · subst e
              rw [B.out.1, B.out.2]
              exact cmpI_zero hz
            · exact A.out j (by omega)
        · have hz' : ¬ (Lib.compareInt x y : Int) = 0 := hz
          have E : Aside (cmpL xs ys = Lib.compareInt x y) := by
            have := cmp_at (a := xs) (b := ys) (k := k) (by omega) (by omega) A.out (by rw [B.out.1, B.out.2]; exact hz)
            rw [B.out.1, B.out.2] at this
            exact this
          go_wp2_with fail
          refine (Tryd.cmp_Compare_int _ _ _).mono ?_
          rintro e w' ⟨rfl, rfl⟩
          generalize Lib.compareInt x y = r at *
          go_wp2
          go_ret
          refine ⟨?_, rfl⟩
          rw [E.out]
          rfl
      · clear hc1 hc2 heq h1 h2
        go_wp2
        go_ret
        refine ⟨?_, rfl⟩
        rw [cmp_end (k := k) (by omega) A.out (by omega) (by omega), if_neg (by omega), if_pos (by omega)]
        rfl
    · clear hc1 hc2 h1 h2
      have A : Aside (∀ j, j < k → xs.getD j 0 = ys.getD j 0) := heq
      clear heq
      by_cases hnm : n < m
      · go_wp2
        go_ret
        refine ⟨?_, rfl⟩
        rw [cmp_end (k := k) (by omega) A.out (by omega) (by omega), if_pos (by omega)]
        rfl
      · go_wp2
        go_ret
        refine ⟨?_, rfl⟩
        rw [cmp_end (k := k) (by omega) A.out (by omega) (by omega), if_neg (by omega), if_neg (by omega)]
        rfl
end Go.Proofs.YtmdmjnfdemgpoaaDoor

/- DataWhole's comparison, for the shelf's sort. -/
namespace Go.Proofs.YtmdmjnfdemgpoaaDoor
open Go Go.Shelf Go.RowKit
set_option maxRecDepth 100000
set_option maxHeartbeats 4000000

theorem closure_walk (p1 p2 : Option Addr) (b1 o1 c b2 o2 d : Nat) (xs ys : List Int) (w : World) (h1 : 0 < xs.length → p1 = some ⟨b1, o1, none⟩) (h2 : 0 < ys.length → p2 = some ⟨b2, o2, none⟩)
    (hbig : xs.length ≤ 1000) (hbig2 : ys.length ≤ 1000) (hc1 : ∀ j, j < xs.length → w.cell? ⟨b1, o1 + j, none⟩ = some (.int .i64 (xs.getD j 0))) (hc2 : ∀ j, j < ys.length → w.cell? ⟨b2, o2 + j, none⟩ = some (.int .i64 (ys.getD j 0))) :
    Calls Tryd.prog 41 #[.slice p1 xs.length c, .slice p2 ys.length d] w fun e w' => e = .returned (.int .i64 (cmpL xs ys)) ∧ w' = w := by
  have H := compare_walk p1 p2 b1 o1 c b2 o2 d xs ys w h1 h2 hbig hbig2 hc1 hc2
  clear h1 h2 hc1 hc2
  generalize xs.length = n at *
  generalize ys.length = m at *
  generalize cmpL xs ys = r at *
  go_enter Tryd.func41, Tryd.ntmps41
  go_wp2_with fail
  refine H.mono ?_
  rintro e w' ⟨rfl, rfl⟩
  clear H
  go_wp2
  go_ret
  exact ⟨rfl, rfl⟩

/-- Total order. -/
theorem cmpI_flip (x y : Int) : Lib.compareInt y x = - Lib.compareInt x y := by
  unfold Lib.compareInt
  split <;> split <;> (try split) <;> (try split) <;> omega
theorem cmp_flip : ∀ (a b : List Int), cmpL b a = - cmpL a b
  | [], [] => rfl
  | [], _ :: _ => rfl
  | _ :: _, [] => rfl
  | x :: a, y :: b => by
    rw [cmpL, cmpL, cmpI_flip x y]
    by_cases h : Lib.compareInt x y = 0
    · rw [if_pos (by omega), if_pos h]; exact cmp_flip a b
    · rw [if_neg (by omega), if_neg h]
theorem cmp_eq : ∀ {a b : List Int}, cmpL a b = 0 → a = b
  | [], [], _ => rfl
  | [], _ :: _, h => by simp [cmpL] at h
  | _ :: _, [], h => by simp [cmpL] at h
  | x :: a, y :: b, h => by
    rw [cmpL] at h
    split at h
    · rename_i e; rw [cmpI_zero e, cmp_eq h]
    · exact absurd h ‹_›
theorem cmpI_lt {x y : Int} : Lib.compareInt x y < 0 ↔ x < y := by
  unfold Lib.compareInt
  split
  · omega
  · split <;> omega
theorem cmp_trans : ∀ {a b c : List Int}, cmpL a b < 0 → cmpL b c < 0 → cmpL a c < 0
  | [], [], _, h, _ => by simp [cmpL] at h
  | [], _ :: _, [], _, k => by simp [cmpL] at k
  | [], _ :: _, _ :: _, _, _ => by simp [cmpL]
  | _ :: _, [], _, h, _ => by simp [cmpL] at h
  | _ :: _, _ :: _, [], _, k => by simp [cmpL] at k
  | x :: a, y :: b, z :: c, h, k => by
    rw [cmpL] at h k ⊢
    by_cases e1 : Lib.compareInt x y = 0
    · rw [if_pos e1] at h
      obtain rfl := cmpI_zero e1
      by_cases e2 : Lib.compareInt x z = 0
      · rw [if_pos e2] at k ⊢; exact cmp_trans h k
      · rw [if_neg e2] at k ⊢; exact k
    · rw [if_neg e1] at h
      by_cases e2 : Lib.compareInt y z = 0
      · obtain rfl := cmpI_zero e2
        rw [if_neg e1]; exact h
      · rw [if_neg e2] at k
        have h1 := cmpI_lt.1 h
        have k1 := cmpI_lt.1 k
        have := cmpI_lt.2 (show x < z by omega)
        rw [if_neg (by omega)]; exact this
end Go.Proofs.YtmdmjnfdemgpoaaDoor

/- DataWhole's comparison, as the shelf's sort asks for it. -/
namespace Go.Proofs.YtmdmjnfdemgpoaaDoor
open Go Go.Shelf Go.RowKit Go.Sort
set_option maxRecDepth 100000
set_option maxHeartbeats 4000000

/-- A list of numbers, as it lies in a world, elsewhere than in block blk. -/
structure El (w : World) (blk : Nat) where
  v : Value
  l : List Int
  ok : l.length ≤ 1000 ∧ ∃ p b o c, v = .slice p l.length c ∧ (0 < l.length → p = some ⟨b, o, none⟩ ∧ b < w.heap.size ∧ b ≠ blk) ∧ ∀ j, j < l.length → w.cell? ⟨b, o + j, none⟩ = some (.int .i64 (l.getD j 0))
instance (w : World) (blk : Nat) : Inhabited (El w blk) := ⟨⟨.slice none 0 0, [], by simp, none, 0, 0, 0, rfl, fun h => absurd h (by simp), fun j hj => absurd hj (by simp)⟩⟩

theorem sort_cell {w : World} {blk off m : Nat} {dk : Array (El w blk)} {os : Array Obj} {a : Addr} (h1 : a.block < w.heap.size) (h2 : a.block ≠ blk) : (sortWorld El.v w blk off m dk os).cell? a = w.cell? a := by
  unfold sortWorld
  rw [cell?_grow _ _ _ (by simpa [putRow, mapBlock, Sort.ahead] using h1), cell?_putRow_other _ _ _ _ _ _ (.inl h2)]
  rfl

def elCmp {w : World} {blk : Nat} (x y : El w blk) : Int := cmpL x.l y.l
theorem el_cmp (w : World) (blk off size : Nat) : CmpLays1 Tryd.prog 41 #[] (El.v (w := w) (blk := blk)) elCmp blk off size w := by
  intro m os dk hs x y
  obtain ⟨v1, l1, k1, p1, b1, o1, c1, rfl, g1, q1⟩ := x
  obtain ⟨v2, l2, k2, p2, b2, o2, c2, rfl, g2, q2⟩ := y
  refine (closure_walk p1 p2 b1 o1 c1 b2 o2 c2 l1 l2 _ (fun h => (g1 h).1) (fun h => (g2 h).1) k1 k2 (fun j hj => ?_) (fun j hj => ?_)).mono ?_
  · obtain ⟨_, h1, h2⟩ := g1 (by omega)
    rw [sort_cell h1 h2]; exact q1 j hj
  · obtain ⟨_, h1, h2⟩ := g2 (by omega)
    rw [sort_cell h1 h2]; exact q2 j hj
  · rintro e w' ⟨rfl, rfl⟩
    exact ⟨rfl, 0, #[], by rw [grow_empty]; rfl⟩
theorem el_lt {w : World} {blk : Nat} {x y : El w blk} : ltOf elCmp x y = true ↔ cmpL x.l y.l < 0 := by
  show decide (cmpL x.l y.l < 0) = true ↔ _
  exact decide_eq_true_iff
theorem el_nlt {w : World} {blk : Nat} {x y : El w blk} : ltOf elCmp x y = false ↔ ¬ cmpL x.l y.l < 0 := by
  show decide (cmpL x.l y.l < 0) = false ↔ _
  exact decide_eq_false_iff_not
theorem el_swo (w : World) (blk : Nat) : SWO (ltOf (elCmp (w := w) (blk := blk))) := by
  refine ⟨fun x => el_nlt.2 ?_, fun x y z h k => el_lt.2 (cmp_trans (el_lt.1 h) (el_lt.1 k)), fun x y z h k => el_nlt.2 fun hz => ?_⟩
  · have := cmp_flip x.l x.l
    omega
  · have h := el_nlt.1 h
    have k := el_nlt.1 k
    by_cases e1 : cmpL x.l y.l = 0
    · rw [cmp_eq e1] at hz; exact k hz
    · by_cases e2 : cmpL y.l z.l = 0
      · rw [← cmp_eq e2] at hz; exact h hz
      · have f1 := cmp_flip x.l y.l
        have f2 := cmp_flip y.l z.l
        have := cmp_trans (show cmpL z.l y.l < 0 by omega) (show cmpL y.l x.l < 0 by omega)
        have f3 := cmp_flip x.l z.l
        omega
theorem el_one (w : World) (blk : Nat) : OneCell (El.v (w := w) (blk := blk)) := by
  intro x
  obtain ⟨v, l, k, p, b, o, c, rfl, _, _⟩ := x
  rfl
end Go.Proofs.YtmdmjnfdemgpoaaDoor

/- The world behind the shelf's sort. -/
namespace Go.Proofs.YtmdmjnfdemgpoaaDoor
open Go Y
set_option maxRecDepth 100000
set_option maxHeartbeats 4000000

/-- A world that has grown, and drawn. -/
theorem later_grown {Γ : Gm} {H : Hp} {w w' : World} (h : R cx Γ H w) (e1 : w'.os = w.os) (e2 : w'.tape = w.tape) (e3 : w'.output = w.output) (e4 : w.heap.size ≤ w'.heap.size) (e5 : ∀ k, k < w.heap.size → w'.heap[k]? = w.heap[k]?) : Later cx H.next Γ H w Γ H w' := by
  have hlt : ∀ {b : Nat} {x : Obj}, w.heap[b]? = some x → b < w.heap.size := fun hx => (Array.getElem?_eq_some_iff.1 hx).1
  refine ⟨⟨h.glob, h.fresh, fun b arr hf => ?_, fun n o hn => ?_, h.own, h.apart⟩, Ext.refl _ _, Nat.le_refl _, ⟨e1, e2, e3, e4, fun k hk _ => e5 k hk, fun k hk => .inr hk, Fzn.le_refl _, fun k a hk => .inl hk⟩⟩
  · obtain ⟨t, z, e⟩ := h.fzok b arr hf
    exact ⟨t, z, by rw [e5 b (hlt e)]; exact e⟩
  · obtain ⟨q, h1, h2⟩ := h.objs n o hn
    exact ⟨q, h1, h2.ext (Gm.le_refl _) fun hl => e5 _ (h2.blk_lt hl)⟩
theorem vpl_ints {fz : Fzn} : ∀ {l : List Int} {us : List Value}, VPL fz (l.map i64) us → us = l.map fun x => .int .i64 x
  | [], us, h => by simpa [VPL] using h
  | x :: l, us, h => by
    simp only [List.map_cons, VPL] at h
    obtain ⟨u, us', rfl, h1, h2⟩ := h
    simp only [VP] at h1
    rw [h1, vpl_ints h2]; rfl
theorem el_of {Γ : Gm} {H : Hp} {w : World} (h : R cx Γ H w) {blk : Nat} (hb : Γ.fz blk = none) {l : List Int} {v : Value} (hl : l.length ≤ 1000) (hv : VP Γ.fz (ints l) v) : ∃ x : El w blk, x.v = v ∧ x.l = l := by
  simp only [VP] at hv
  rcases hv with ⟨h1, a, c, rfl⟩ | ⟨b, o, c, arr, us, rfl, _, h3, h4, pre, post, h5, h6, _⟩
  · rw [List.map_eq_nil_iff] at h1
    subst h1
    exact ⟨⟨_, [], by simp, a, 0, 0, c, rfl, fun h => absurd h (by simp), fun j hj => absurd hj (by simp)⟩, rfl, rfl⟩
  · obtain ⟨t, z, e⟩ := h.fzok b arr h3
    have hlt : b < w.heap.size := (Array.getElem?_eq_some_iff.1 e).1
    refine ⟨⟨_, l, hl, some ⟨b, o, none⟩, b, o, c, by rw [List.length_map], fun _ => ⟨rfl, hlt, fun e => by subst e; rw [hb] at h3; cases h3⟩, fun j hj => ?_⟩, rfl, rfl⟩
    have hu := vpl_ints h4
    show (match w.heap[b]? with | some (.cells c _ _) => (if (none : Option Nat).isSome then none else c[o + j]?) | _ => none) = _
    rw [e]
    show (List.toArray arr)[o + j]? = _
    rw [List.getElem?_toArray, h5, List.append_assoc, List.getElem?_append_right (by omega), h6, show o + j - o = j by omega, List.getElem?_append_left (by rw [hu]; simpa using hj), hu, List.getElem?_map, List.getD_eq_getElem?_getD, List.getElem?_eq_getElem hj]
    rfl
theorem els_of {Γ : Gm} {H : Hp} {w : World} (h : R cx Γ H w) {blk : Nat} (hb : Γ.fz blk = none) : ∀ {xs : List (List Int)} {us : List Value}, (∀ l ∈ xs, l.length ≤ 1000) → VPL Γ.fz (xs.map ints) us →
    ∃ d : List (El w blk), d.map El.v = us ∧ d.map El.l = xs ∧ ∀ x ∈ d, VP Γ.fz (ints x.l) x.v
  | [], us, _, hv => ⟨[], by simp only [List.map_nil, VPL] at hv; rw [hv]; rfl, rfl, by simp⟩
  | l :: xs, us, hl, hv => by
    simp only [List.map_cons, VPL] at hv
    obtain ⟨u, us', rfl, h1, h2⟩ := hv
    obtain ⟨x, rfl, rfl⟩ := el_of h hb (hl l (by simp)) h1
    obtain ⟨d, rfl, rfl, h3⟩ := els_of h hb (fun l hm => hl l (by simp [hm])) h2
    refine ⟨x :: d, rfl, rfl, fun y hy => ?_⟩
    rcases List.mem_cons.1 hy with rfl | hy
    · exact h1
    · exact h3 y hy
theorem vpl_els {fz : Fzn} {w : World} {blk : Nat} : ∀ {d : List (El w blk)}, (∀ x ∈ d, VP fz (ints x.l) x.v) → VPL fz ((d.map El.l).map ints) (d.map El.v)
  | [], _ => by simp [VPL]
  | x :: d, h => by
    simp only [List.map_cons, VPL]
    exact ⟨_, _, rfl, h x (by simp), vpl_els fun y hy => h y (by simp [hy])⟩
theorem put_els {w : World} {blk : Nat} {d : Array (El w blk)} {us rest : List Value} (h : us.length = d.size) : Sort.putCells El.v 0 d ⟨us ++ rest⟩ = ⟨d.toList.map El.v ++ rest⟩ := by
  apply Array.ext
  · simp [Sort.putCells, h]
  · intro i h1 h2
    have hi : i < (us ++ rest).length := by simpa [Sort.putCells] using h1
    simp only [Sort.putCells, Array.getElem_mapIdx, List.getElem_toArray]
    by_cases hk : i < d.size
    · rw [if_pos ⟨Nat.zero_le _, by omega⟩, List.getElem_append_left (by simpa using hk), List.getElem_map, Nat.sub_zero, getElem!_pos d i hk]
      rfl
    · rw [if_neg (by omega), List.getElem_append_right (show us.length ≤ i by omega), List.getElem_append_right (show (d.toList.map El.v).length ≤ i by simpa using hk)]
      congr 1
      simp [h]
end Go.Proofs.YtmdmjnfdemgpoaaDoor

/- slices.SortFunc as a contract. -/
namespace Go.Proofs.YtmdmjnfdemgpoaaDoor
open Go Y
set_option maxRecDepth 100000
set_option maxHeartbeats 4000000

def sortedL (ys : List (List Int)) : Prop := ∀ i j, i < j → j < ys.length → ¬ cmpL (ys.getD j []) (ys.getD i []) < 0
theorem sort_c (xs : List (List Int)) (hs : xs.length ≤ 1000) (hl : ∀ x ∈ xs, x.length ≤ 1000) :
    HoldsG cx 43 [.sl 0 1 0 xs.length, .p (.fn (.func 41) [] [])] ⟨1, [(0, csO xs)]⟩ fun e H' => ∃ ys : List (List Int), ys.Perm xs ∧ sortedL ys ∧ e = .returned (.tup []) ∧ H' = ⟨1, [(0, csO ys)]⟩ := by
  intro Γ w args' hR hA
  simp only [VRL, VR, VP, VPL] at hA
  obtain ⟨a, as', rfl, hq, b, bs', rfl, ⟨_, first, cap, rfl, h1, h2⟩, rfl⟩ := hA
  obtain ⟨q, hq1, hq2, hq3⟩ := hq
  have e1 : first = #[] := by apply Array.ext'; exact h1
  have e2 : cap = #[] := by apply Array.ext'; exact h2
  subst e1 e2
  refine ⟨rfl, ?_⟩
  by_cases h0 : xs.length = 0
  · have hx : xs = [] := List.length_eq_zero_iff.1 h0
    subst hx
    have ha : ∃ p c, a = .slice p 0 c := by
      rcases hq3 with ⟨_, _, _, rfl⟩ | ⟨_, _, o, rfl, _⟩
      · exact ⟨_, _, rfl⟩
      · exact ⟨_, _, rfl⟩
    obtain ⟨p, c, rfl⟩ := ha
    refine (Tryd.slices_SortFunc_none (α := Nat) p c _ w).mono ?_
    rintro e w' ⟨rfl, rfl⟩
    exact ⟨.returned (.tup []), _, Γ, ⟨[], .refl _, fun i j _ h => absurd h (by simp), rfl, rfl⟩, ⟨_, rfl, by simp [VR, VRL]⟩, Later.refl hR _ (Nat.le_refl _)⟩
  rcases hq3 with ⟨_, _, h, _⟩ | ⟨hnl, htc, o, rfl, ho⟩
  · exact absurd h h0
  have ho : o = 0 := by rcases ho with h | h <;> omega
  subst ho
  have hfz := hR.own 0 (csO xs) q rfl rfl hq1 hnl
  obtain ⟨q', hq', hob⟩ := hR.objs 0 (csO xs) rfl
  rw [hq1] at hq'
  injection hq' with hq'
  subst hq'
  rcases (ObjR_cells rfl).1 hob with ⟨h, _⟩ | ⟨_, us, rest, z, g1, g2, g3, g4, g5, g6, g7, g8, g9⟩
  · rw [hnl] at h; cases h
  have g6' : VPL Γ.fz (xs.map ints) us := VRL_p.1 g6
  obtain ⟨d, rfl, rfl, hd⟩ := els_of hR hfz hl g6'
  have hlt := hob.blk_lt hnl
  have hH : Sort.Holds El.v w q.blk 0 d.toArray := by
    intro j hj
    have hj : j < d.length := by simpa using hj
    have hx : (d.map El.v ++ rest)[0 + j]? = some (El.v d.toArray[j]!) := by
      rw [Nat.zero_add, List.getElem?_append_left (by simpa using hj), List.getElem?_map, List.getElem?_eq_getElem hj, getElem!_pos d.toArray j (by simpa using hj)]; rfl
    refine ⟨?_, ?_⟩
    · show (match w.heap[q.blk]? with | some (.cells c _ _) => (if (none : Option Nat).isSome then none else c[0 + j]?) | _ => none) = _
      rw [g1]
      show (List.toArray (d.map El.v ++ rest))[0 + j]? = _
      rw [List.getElem?_toArray]; exact hx
    · show (match w.heap[q.blk]? with | some (.cells _ _ (lo, hi)) => decide (lo ≤ 0 + j) && decide (0 + j < hi) | _ => false) = false
      rw [g1]
      show (decide (z.1 ≤ 0 + j) && decide (0 + j < z.2)) = false
      have hlen : j < (d.map El.v ++ rest).length := by rw [List.length_append, List.length_map]; omega
      rw [Bool.and_eq_false_iff, decide_eq_false_iff_not, decide_eq_false_iff_not]
      rcases g2 with g2 | g2 <;> omega
  have key := Tryd.slices_SortFunc El.v (el_one w q.blk) elCmp (el_swo w q.blk) 41 #[] q.blk 0 (q.tc - 0) d.toArray w (fun args w => rfl) (el_cmp w q.blk 0 _) hH hlt (by simp at hs ⊢; omega)
  rw [List.length_map]
  refine key.mono ?_
  rintro e w' ⟨rfl, d', n, os, ⟨p1, p2, p3⟩, p4, rfl⟩
  have hperm : d'.toList.Perm d := by
    have hz : d.toArray.size = d'.size := p1.symm
    have hz2 : d.length = d'.size := by simpa using hz
    rw [hz] at p3
    simp only [Array.extract_size, List.extract_toArray, List.extract_eq_take_drop, List.drop_zero, Nat.sub_zero] at p3
    rw [List.take_of_length_le (by omega)] at p3
    exact p3
  have hd' : ∀ x ∈ d'.toList, VP Γ.fz (ints x.l) x.v := fun x hx => hd x (hperm.mem_iff.1 hx)
  have hsz : (d.map El.v).length = d'.size := by rw [List.length_map, p1]; simp
  have hput := put_els (rest := rest) (d := d') hsz
  have hob' : ObjR cx.P Γ (putBlk w q.blk (.cells ⟨d'.toList.map El.v ++ rest⟩ TI z)) q (csO (d'.toList.map El.l)) := by
    have hlen : (d'.toList.map El.v ++ rest).length = (d.map El.v ++ rest).length := by rw [List.length_append, List.length_append, hsz, List.length_map]; simp
    exact (ObjR_cells rfl).2 (.inr ⟨hnl, _, rest, z, putBlk_same g1, by rw [hlen]; exact g2, g3, g4, by rw [hlen]; exact g5, VRL_p.2 (vpl_els hd'), fun u hu => g7 u ((hperm.map _).mem_iff.1 hu), g8, fun h => nomatch h⟩)
  have L1 := hR.repl (n := 0) (o := csO (d.map El.l)) (o' := csO (d'.toList.map El.l)) rfl rfl hq1 hnl rfl hob'
  have L2 : Later cx 1 Γ ⟨1, [(0, csO (d'.toList.map El.l))]⟩ (putBlk w q.blk (.cells ⟨d'.toList.map El.v ++ rest⟩ TI z)) Γ ⟨1, [(0, csO (d'.toList.map El.l))]⟩ (sortWorld El.v w q.blk 0 n d' os) := by
    refine later_grown L1.1 rfl rfl rfl ?_ fun k hk => ?_
    · show (putBlk w q.blk _).heap.size ≤ _
      simp [putBlk, sortWorld, Sort.grow, Sort.putRow, Sort.mapBlock, Sort.ahead]
    · have hk : k < w.heap.size := by simpa [putBlk] using hk
      show ((w.heap.modify q.blk (Sort.onCells (Sort.putCells El.v 0 d'))) ++ os)[k]? = (w.heap.setIfInBounds q.blk _)[k]?
      rw [Array.getElem?_append_left (by simpa using hk), Array.getElem?_modify, Array.getElem?_setIfInBounds]
      by_cases e : q.blk = k
      · subst e
        rw [if_pos rfl, if_pos rfl, if_pos hlt, g1]
        show some (Obj.cells (Sort.putCells El.v 0 d' ⟨d.map El.v ++ rest⟩) TI z) = _
        rw [hput]
      · rw [if_neg e, if_neg e]
  refine ⟨.returned (.tup []), _, Γ, ⟨d'.toList.map El.l, hperm.map _, ?_, rfl, rfl⟩, ⟨_, rfl, by simp [VR, VRL]⟩, L1.trans L2⟩
  intro i j hij hj
  have hj : j < d'.size := by simpa using hj
  have hg : ∀ k, k < d'.size → (d'.toList.map El.l).getD k [] = d'[k]!.l := fun k hk => by
    rw [List.getD_eq_getElem?_getD, List.getElem?_map, List.getElem?_eq_getElem (by simpa using hk), getElem!_pos d' k hk]; rfl
  rw [hg j hj, hg i (by omega)]
  exact el_nlt.1 (p4 i j (Nat.zero_le _) hij (by rw [← p1]; exact hj))
end Go.Proofs.YtmdmjnfdemgpoaaDoor

/- EqualFunc with slices.Equal; Clone of a slice of slices. -/
namespace Go.Proofs.YtmdmjnfdemgpoaaDoor
open Go Y
set_option maxRecDepth 100000
set_option maxHeartbeats 4000000

theorem eq2_c (a b : List Int) (ha : a.length ≤ 100000) (hb : b.length ≤ 100000) : Pure cx 45 [ints a, ints b] (· = .ret [.bool (decide (a = b))]) := by
  refine pure_of_vc Tryd.func45 rfl rfl rfl ?_
  refine (equal_c a b ha hb).eq rfl ?_
  exact end1 _ rfl rfl rfl
theorem equalFunc_c (a b : List (List Int)) (hb : b.length ≤ 1000) (ha : a.length ≤ 1000) (ha1 : ∀ c ∈ a, c.length ≤ 1000) (he : a = b) : Pure cx 44 [.lst (a.map ints), .lst (b.map ints), .fn (.func 45) [] []] (· = .ret [.bool true]) := by
  subst he
  refine pure_of_vc Tryd.func44 rfl rfl rfl ?_
  refine And.intro (fun _ => ?_) (fun h => absurd rfl h)
  refine ⟨Nat, fun k => [(1, .p (.lst (a.map ints))), (2, .p (.fn (.func 45) [] [])), (15, .p (.lst (a.map ints))), (16, .p (i64 (a.map ints).length)), (17, .p (i64 k))], fun _ => ⟨0, []⟩, fun k => k ≤ a.length, fun k => a.length - k, ?_, ?_⟩
  · exact ⟨0, by omega, ent_of [] [] [] rfl (by (repeat' first | exact trivial | exact rfl | exact ⟨rfl, rfl⟩ | exact .inl rfl | refine ⟨_, rfl, rfl, rfl, ?_⟩ | refine ⟨_, _, rfl, ?_, ?_⟩ | refine ⟨_, rfl, ?_⟩ | refine And.intro ?_ ?_)) (by (repeat' first | exact trivial | exact rfl | exact ⟨rfl, rfl⟩ | exact .inl rfl | refine ⟨_, rfl, rfl, rfl, ?_⟩ | refine ⟨_, _, rfl, ?_, ?_⟩ | refine ⟨_, rfl, ?_⟩ | refine And.intro ?_ ?_)) rfl⟩
  intro k hk
  (first | refine brLt (fun h1 => ?_) (fun h1 => ?_) | refine brLe (fun h1 => ?_) (fun h1 => ?_) | refine brEq (fun h1 => ?_) (fun h1 => ?_))
  · have h1 : (k : Int) < ((a.map ints).length : Nat) := h1
    rw [List.length_map] at h1
    have hk' : k < a.length := by omega
    obtain ⟨c, hc⟩ : ∃ c, c = a.getD k [] := ⟨_, rfl⟩
    have hcl := ha1 _ (getD_memL [] hk')
    rw [← hc] at hcl
    have hE := eq2_c c c (by omega) (by omega)
    rw [decide_eq_true rfl] at hE
    refine ⟨_, ⟨by omega, ints c, by rw [hc]; exact ccell hk', rfl⟩, ?_⟩
    refine ⟨_, ⟨by omega, ints c, by rw [hc]; exact ccell hk', rfl⟩, ?_⟩
    refine hE.eq rfl ?_
    refine ⟨_, wrap_i64 (by omega) (by omega), ?_⟩
    exact ⟨k + 1, by omega, ent_of [] [] [] rfl (by (repeat' first | exact trivial | exact rfl | exact ⟨rfl, rfl⟩ | exact .inl rfl | refine ⟨_, rfl, rfl, rfl, ?_⟩ | refine ⟨_, _, rfl, ?_, ?_⟩ | refine ⟨_, rfl, ?_⟩ | refine And.intro ?_ ?_)) (by (repeat' first | exact trivial | exact rfl | exact ⟨rfl, rfl⟩ | exact .inl rfl | refine ⟨_, rfl, rfl, rfl, ?_⟩ | refine ⟨_, _, rfl, ?_, ?_⟩ | refine ⟨_, rfl, ?_⟩ | refine And.intro ?_ ?_)) rfl, by show a.length - (k + 1) < a.length - k; omega⟩
  · exact end1 _ rfl rfl rfl
end Go.Proofs.YtmdmjnfdemgpoaaDoor

/- Clone of a slice of slices; sorting nothing. -/
namespace Go.Proofs.YtmdmjnfdemgpoaaDoor
open Go Y
set_option maxRecDepth 100000
set_option maxHeartbeats 4000000

theorem sort_nil : HoldsG cx 43 [.p .nils, .p (.fn (.func 41) [] [])] ⟨0, []⟩ fun e H' => e = .returned (.tup []) ∧ H' = ⟨0, []⟩ := by
  intro Γ w args' hR hA
  simp only [VRL, VR, VP, VPL] at hA
  obtain ⟨a, as', rfl, rfl, b, bs', rfl, _, rfl⟩ := hA
  refine ⟨rfl, ?_⟩
  refine (Tryd.slices_SortFunc_none (α := Nat) none 0 b w).mono ?_
  rintro e w' ⟨rfl, rfl⟩
  exact ⟨.returned (.tup []), _, Γ, ⟨rfl, rfl⟩, ⟨_, rfl, by simp [VR, VRL]⟩, Later.refl hR _ (Nat.le_refl _)⟩
end Go.Proofs.YtmdmjnfdemgpoaaDoor

/- Clone of a slice of slices. -/
namespace Go.Proofs.YtmdmjnfdemgpoaaDoor
open Go Y
set_option maxRecDepth 100000
set_option maxHeartbeats 4000000

theorem clone2_c (xs : List (List Int)) (h : xs.length ≤ 1000) : HoldsG cx 40 [.p (.lst (xs.map ints))] ⟨0, []⟩ fun e H' => (e = .returned (.sl 0 1 0 xs.length) ∧ H' = ⟨1, [(0, csO xs)]⟩) ∨ (xs = [] ∧ e = .returned (.p .nils) ∧ H' = ⟨0, []⟩) := by
  refine holdsN_of_vc Tryd.func40 rfl rfl rfl ?_
  refine And.intro ?_ (fun h => ?_)
  · refine ⟨by show 0 + 0 ≤ 0; omega, [], rfl, by show (0 + (xs.map ints).length) * 24 ≤ 140737488355328; rw [List.length_map]; omega, xs.map ints, rfl, ?_⟩
    exact ⟨[], [(0, 1)], [], .returned (.sl 0 1 0 xs.length), ⟨1, [(0, csO xs)]⟩, rfl, ⟨_, rfl, congrArg (fun n => AV.sl 1 1 0 n) (show 0 + (xs.map ints).length = xs.length by simp)⟩, by (repeat' first | exact trivial | exact rfl | exact ⟨rfl, rfl⟩ | exact .inl rfl | refine ⟨_, rfl, rfl, rfl, ?_⟩ | refine ⟨_, _, rfl, ?_, ?_⟩ | refine ⟨_, rfl, ?_⟩ | refine And.intro ?_ ?_), .inl ⟨rfl, rfl⟩⟩
  · have h : xs.map ints = [] := h
    rw [List.map_eq_nil_iff] at h
    exact ⟨[], [], [], .returned (.p .nils), ⟨0, []⟩, rfl, by (repeat' first | exact trivial | exact rfl | exact ⟨rfl, rfl⟩ | exact .inl rfl | refine ⟨_, rfl, rfl, rfl, ?_⟩ | refine ⟨_, _, rfl, ?_, ?_⟩ | refine ⟨_, rfl, ?_⟩ | refine And.intro ?_ ?_), by (repeat' first | exact trivial | exact rfl | exact ⟨rfl, rfl⟩ | exact .inl rfl | refine ⟨_, rfl, rfl, rfl, ?_⟩ | refine ⟨_, _, rfl, ?_, ?_⟩ | refine ⟨_, rfl, ?_⟩ | refine And.intro ?_ ?_), .inr ⟨h, rfl, rfl⟩⟩
end Go.Proofs.YtmdmjnfdemgpoaaDoor

/- Arguments and listed variables, read as data. -/
namespace Go.Proofs.YtmdmjnfdemgpoaaDoor.Y
open Go

/-- The parts of a struct or an array, with their offsets. -/
def partsOf (P : Program) (t : TypeId) : Option (List (TypeId × Nat)) :=
  match P.underlying t with
  | some (.struct fs) => some (fs.toList.map fun f => (f.type, f.offset))
  | some (.array k e) => some ((List.range k).map fun i => (e, i * P.cellsOf e))
  | _ => none
def tiles (P : Program) : List (TypeId × Nat) → Nat → Option Nat
  | [], o => some o
  | f :: r, o => if f.2 = o then tiles P r (o + P.cellsOf f.1) else none
theorem tiles_le {P : Program} : ∀ {l : List (TypeId × Nat)} {o n : Nat}, tiles P l o = some n → o ≤ n
  | [], o, n, h => by simp only [tiles, Option.some.injEq] at h; omega
  | f :: r, o, n, h => by
    simp only [tiles] at h
    split at h
    · have := tiles_le h; omega
    · cases h

def basic : TypeDesc → Bool
  | .bool => true
  | .int _ => true
  | .string => true
  | _ => false

/-- Types of plain data: what the readings below cover. -/
def supp (P : Program) : Nat → TypeId → Bool
  | 0, _ => false
  | n + 1, t => match partsOf P t with
    | some l => decide (tiles P l 0 = some (P.cellsOf t)) && l.all fun f => supp P n f.1
    | none => match P.underlying t with
      | some (.slice e) => decide (0 < P.cellsOf e) && supp P n e
      | some d => basic d
      | none => false

def Flds (P : Program) (p : TypeId → List PV → Prop) : List (TypeId × Nat) → List PV → Prop
  | [], xs => xs = []
  | f :: r, xs => ∃ ys zs, xs = ys ++ zs ∧ ys.length = P.cellsOf f.1 ∧ p f.1 ys ∧ Flds P p r zs

/-- The cells of a value of a type. -/
def TyT (P : Program) : Nat → TypeId → List PV → Prop
  | 0, _, _ => False
  | m + 1, t, xs => match partsOf P t with
    | some l => Flds P (TyT P m) l xs
    | none => match P.underlying t with
      | some .bool => ∃ b, xs = [.bool b]
      | some (.int k) => ∃ n, xs = [.int k n] ∧ (Lit.int k n).wf = true
      | some .string => ∃ s, xs = [.str s] ∧ s.length ≤ maxLen
      | some (.slice e) => match Nat.beq (P.cellsOf e) 1 with
        | true => ∃ ys, xs = [.lst ys] ∧ ys.length ≤ maxLen ∧ ∀ y ∈ ys, TyT P m e [y]
        | false => ∃ yss, xs = [.lsts (P.cellsOf e) yss] ∧ yss.length ≤ maxLen ∧ ∀ ys ∈ yss, TyT P m e ys
      | _ => False

section
variable {H : Type} {enc : TypeId × Value → H} {P : Program} {W : World} {sp : Nat → Bool} {held : Bool}

/-- Cells of a block, one after the other. -/
theorem cells_take {a : Addr} {n : Nat} {cs : List Value} (hn : 0 < n) (h : W.cells? 0 a n = some cs) :
    ∃ c t z, W.heap[a.block]? = some (.cells c t z) ∧ a.spot = none ∧ cs.length = n ∧ a.off + n ≤ c.toList.length ∧ cs = (c.toList.drop a.off).take n := by
  unfold World.cells? at h
  rw [if_pos (Nat.zero_le _)] at h
  have hl := mapM_some_length h
  rw [List.length_range] at hl
  have hg : ∀ i, i < n → W.cell? (a.add i) = cs[i]? := fun i hi => mapM_some_get h i i (by simp [hi])
  have h0 := hg 0 hn
  have ha : a.add 0 = a := by simp [Addr.add]
  rw [ha, List.getElem?_eq_getElem (by omega)] at h0
  unfold World.cell? at h0
  split at h0
  · rename_i c t z hb
    have hs : a.spot = none := by
      cases hs : a.spot with
      | none => rfl
      | some _ => simp [hs] at h0
    have hcell : ∀ i, i < n → c[a.off + i]? = cs[i]? := by
      intro i hi
      have := hg i hi
      unfold World.cell? at this
      have hblk : (a.add i).block = a.block := by unfold Addr.add; split <;> rfl
      have hsp : (a.add i).spot = none := by unfold Addr.add; split <;> first | exact hs | rfl
      have hoff : (a.add i).off = a.off + i := by unfold Addr.add; split <;> simp_all
      rw [hblk, hb] at this
      simp only [hsp, hoff] at this
      simpa using this
    have hlen : a.off + n ≤ c.toList.length := by
      have := hcell (n - 1) (by omega)
      rw [List.getElem?_eq_getElem (by omega)] at this
      have := (Array.getElem?_eq_some_iff.1 this).1
      simp
      omega
    refine ⟨c, t, z, hb, hs, hl, hlen, ?_⟩
    refine List.ext_getElem? fun i => ?_
    by_cases hi : i < n
    · rw [← hcell i hi, List.getElem?_take_of_lt hi, List.getElem?_drop]
      simp
    · rw [List.getElem?_eq_none (by omega), List.getElem?_eq_none (by simp; omega)]
  · cases h0

def AllCells (fz : Fzn) (W : World) : Prop := ∀ b c t z, W.heap[b]? = some (.cells c t z) → fz b = some c.toList

/-- What a reading says of the cells. -/
def Rd (P : Program) (fz : Fzn) (m : Nat) (t : TypeId) (cs : List Value) : Prop := ∃ xs, VPL fz xs cs ∧ (∀ u ∈ cs, plainV u = true) ∧ TyT P m t xs

theorem flds_of {fz : Fzn} {m : Nat} {cs : List Value} : ∀ (l : List (TypeId × Nat)) (o : Nat), tiles P l o = some cs.length → (∀ f ∈ l, Rd P fz m f.1 ((cs.drop f.2).take (P.cellsOf f.1))) →
    ∃ xs, VPL fz xs (cs.drop o) ∧ (∀ u ∈ cs.drop o, plainV u = true) ∧ Flds P (TyT P m) l xs
  | [], o, ht, _ => by
    simp only [tiles, Option.some.injEq] at ht
    subst ht
    exact ⟨[], by simp [VPL], by simp, rfl⟩
  | f :: r, o, ht, hr => by
    simp only [tiles] at ht
    split at ht
    · rename_i ho
      have hle := tiles_le ht
      obtain ⟨ys, h1, h2, h3⟩ := hr f (by simp)
      obtain ⟨zs, k1, k2, k3⟩ := flds_of r (o + P.cellsOf f.1) ht fun g hg => hr g (by simp [hg])
      rw [ho] at h1 h2
      have e : cs.drop o = (cs.drop o).take (P.cellsOf f.1) ++ cs.drop (o + P.cellsOf f.1) := by
        rw [← List.drop_drop, List.take_append_drop]
      refine ⟨ys ++ zs, ?_, ?_, ys, zs, rfl, ?_, h3, k3⟩
      · rw [e]; exact VPL_append h1 k1
      · rw [e]; intro u hu; rcases List.mem_append.1 hu with hu | hu
        · exact h2 u hu
        · exact k2 u hu
      · rw [← VPL_length h1, List.length_take, List.length_drop]; omega
    · cases ht

theorem parts_trod {t : TypeId} {l : List (TypeId × Nat)} (hp : partsOf P t = some l) {n : Nat} {cs : List Value} {x : DataW H × List MemPlace} (h : DataW.trod enc P W 0 sp held n t cs = some x) :
    ∃ (xs : List (DataW H × List MemPlace)) (k : Nat), n = k + 1 ∧ x = (.agg (xs.map (·.1)), xs.flatMap (·.2)) ∧ cs.length = P.cellsOf t ∧ xs.length = l.length ∧
      ∀ (i : Nat) (f : TypeId × Nat), l[i]? = some f → DataW.trod enc P W 0 sp held k f.1 ((cs.drop f.2).take (P.cellsOf f.1)) = xs[i]? := by
  unfold partsOf at hp
  split at hp
  · rename_i fs hu
    injection hp with hp
    subst hp
    obtain ⟨xs, k, h1, h2, h3, h4, h5⟩ := DataW.trod_struct hu h
    refine ⟨xs, k, h1, h2, h3, by simpa using h4, fun i f hf => ?_⟩
    rw [List.getElem?_map, Option.map_eq_some_iff] at hf
    obtain ⟨g, hg, rfl⟩ := hf
    exact h5 i g (by simpa using hg)
  · rename_i k' e hu
    injection hp with hp
    subst hp
    obtain ⟨xs, k, h1, h2, h3, h4, h5⟩ := DataW.trod_array hu h
    refine ⟨xs, k, h1, h2, h3, by simpa using h4, fun i f hf => ?_⟩
    rw [List.getElem?_map, Option.map_eq_some_iff] at hf
    obtain ⟨j, hj, rfl⟩ := hf
    have hi := (List.getElem?_eq_some_iff.1 hj)
    obtain ⟨hi, hj⟩ := hi
    simp at hi hj
    subst hj
    exact h5 i hi
  · cases hp

theorem flat_singles {l : List (List PV)} (h : ∀ cs ∈ l, cs.length = 1) : l.flatten.length = l.length ∧ ∀ y ∈ l.flatten, [y] ∈ l := by
  induction l with
  | nil => simp
  | cons x r ih =>
    have hx := h x (by simp)
    obtain ⟨y, rfl⟩ : ∃ y, x = [y] := by
      match x, hx with
      | [y], _ => exact ⟨y, rfl⟩
    obtain ⟨h1, h2⟩ := ih fun c hc => h c (by simp [hc])
    refine ⟨by simp [h1], fun z hz => ?_⟩
    simp at hz
    rcases hz with rfl | hz
    · simp
    · have := h2 z (by simpa using hz)
      simp [this]

/-- A READING OF PLAIN DATA is a value of its type. -/
theorem typed_of_trod {fz : Fzn} (hfz : AllCells fz W) : ∀ (m : Nat) (t : TypeId) (n : Nat) (cs : List Value) (x : DataW H × List MemPlace), supp P m t = true → DataW.trod enc P W 0 sp held n t cs = some x → Rd P fz m t cs
  | 0, _, _, _, _, hs, _ => by simp [supp] at hs
  | m + 1, t, n, cs, x, hs, h => by
    have ih := typed_of_trod hfz m
    simp only [supp] at hs
    cases hp : partsOf P t with
    | some l =>
      simp only [hp, Bool.and_eq_true, decide_eq_true_eq, List.all_eq_true] at hs
      obtain ⟨xs, k, h1, h2, h3, h4, h5⟩ := parts_trod hp h
      obtain ⟨ys, g1, g2, g3⟩ := flds_of (fz := fz) (m := m) (cs := cs) l 0 (by rw [h3]; exact hs.1) fun f hf => by
        obtain ⟨i, hi, rfl⟩ := List.getElem_of_mem hf
        have := h5 i _ (List.getElem?_eq_getElem hi)
        rw [List.getElem?_eq_getElem (by omega)] at this
        exact ih _ _ _ _ (hs.2 _ hf) this
      exact ⟨ys, by simpa using g1, by simpa using g2, by simp only [TyT, hp]; exact g3⟩
    | none =>
      simp only [hp] at hs
      cases hu : P.underlying t with
      | none => simp [hu] at hs
      | some d =>
        simp only [hu] at hs
        cases d with
        | bool =>
          obtain ⟨b, rfl, _⟩ := DataW.trod_bool hu h
          exact ⟨[.bool b], by simp [VPL, VP], by simp [plainV], by simp [TyT, hp, hu]⟩
        | int k =>
          obtain ⟨b, rfl, _, hw⟩ := DataW.trod_int hu h
          exact ⟨[.int k b], by simp [VPL, VP], by simp [plainV], by simp [TyT, hp, hu, hw]⟩
        | string =>
          obtain ⟨⟨⟨s⟩⟩, rfl, _, hw⟩ := DataW.trod_string hu h
          exact ⟨[.str s], by simp [VPL, VP], by simp [plainV], by simp only [TyT, hp, hu]; exact ⟨s, rfl, hw⟩⟩
        | slice e =>
          simp only [Bool.and_eq_true, decide_eq_true_eq] at hs
          obtain ⟨hs0, hse⟩ := hs
          have fin : ∀ (v : Value) (len : Nat) (yss : List (List PV)), len ≤ maxLen → yss.length = len → (∀ ys ∈ yss, ys.length = P.cellsOf e ∧ TyT P m e ys) → plainV v = true →
              (yss = [] → ∃ a c, v = .slice a 0 c) → (yss ≠ [] → ∃ b o c arr us, v = .slice (some ⟨b, o, none⟩) len c ∧ len ≤ c ∧ fz b = some arr ∧ VPLL fz (P.cellsOf e) yss us ∧ Seg arr o us) → Rd P fz (m + 1) t [v] := by
            intro v len yss hml hlen hty hpl hnil hcons
            by_cases h1 : P.cellsOf e = 1
            · have hfl := flat_singles (l := yss) fun c hc => by rw [(hty c hc).1, h1]
              refine ⟨[.lst yss.flatten], ?_, by simpa using hpl, ?_⟩
              · simp only [VPL]
                refine ⟨v, [], rfl, ?_, rfl⟩
                simp only [VP]
                by_cases hy : yss = []
                · exact .inl ⟨by simp [hy], hnil hy⟩
                · obtain ⟨b, o, c, arr, us, k1, k2, k3, k4, k5⟩ := hcons hy
                  exact .inr ⟨b, o, c, arr, us, by rw [hfl.1, hlen]; exact k1, by rw [hfl.1, hlen]; exact k2, k3, (VPLL_flat.1 k4).1, k5⟩
              · simp only [TyT, hp, hu, h1]
                exact ⟨_, rfl, by rw [hfl.1, hlen]; exact hml, fun y hy => (hty _ (hfl.2 y hy)).2⟩
            · refine ⟨[.lsts (P.cellsOf e) yss], ?_, by simpa using hpl, ?_⟩
              · simp only [VPL]
                refine ⟨v, [], rfl, ?_, rfl⟩
                simp only [VP]
                by_cases hy : yss = []
                · exact .inl ⟨hy, hnil hy⟩
                · obtain ⟨b, o, c, arr, us, k1, k2, k3, k4, k5⟩ := hcons hy
                  exact .inr ⟨b, o, c, arr, us, by rw [hlen]; exact k1, by rw [hlen]; exact k2, k3, k4, k5⟩
              · have hb : Nat.beq (P.cellsOf e) 1 = false := beq_ne h1
                simp only [TyT, hp, hu, hb]
                exact ⟨_, rfl, by rw [hlen]; exact hml, fun y hy => (hty _ hy).2⟩
          rcases DataW.trod_slice hu h with ⟨rfl, _⟩ | ⟨a, len, cap, elems, rest, n', rfl, rfl, _, _, hlc, hcm, hel, hE, _, _⟩
          · exact fin _ 0 [] (by simp [maxLen]) rfl (by simp) rfl (fun _ => ⟨none, 0, rfl⟩) (by simp)
          · have hcs : ∀ i, i < len → ∃ cs', W.cells? 0 (a.add (i * P.cellsOf e)) (P.cellsOf e) = some cs' ∧ Rd P fz m e cs' := by
              intro i hi
              have := hE i hi
              rw [List.getElem?_eq_getElem (by omega), Option.bind_eq_some_iff] at this
              obtain ⟨cs', h1, h2⟩ := this
              exact ⟨cs', h1, ih _ _ _ _ hse h2⟩
            by_cases hl0 : len = 0
            · subst hl0
              exact fin _ 0 [] (by simp [maxLen]) rfl (by simp) rfl (fun _ => ⟨_, _, rfl⟩) (by simp)
            · obtain ⟨cs0, c1, _⟩ := hcs 0 (by omega)
              have ha : a.add (0 * P.cellsOf e) = a := by simp [Addr.add]
              rw [ha] at c1
              obtain ⟨c, tt, z, hb, hsp, _, _, _⟩ := cells_take hs0 c1
              have key : ∀ k, k ≤ len → ∃ yss us, yss.length = k ∧ VPLL fz (P.cellsOf e) yss us ∧ (∀ u ∈ us, plainV u = true) ∧ (∀ ys ∈ yss, ys.length = P.cellsOf e ∧ TyT P m e ys) ∧ (k ≠ 0 → a.off + k * P.cellsOf e ≤ c.toList.length) ∧ us = (c.toList.drop a.off).take (k * P.cellsOf e) := by
                intro k
                induction k with
                | zero => intro _; exact ⟨[], [], rfl, by simp [VPLL], by simp, by simp, by simp, by simp⟩
                | succ k ihk =>
                  intro hk
                  obtain ⟨yss, us, k1, k2, k3, k4, k5, k6⟩ := ihk (by omega)
                  obtain ⟨cs', d1, ys, d2, d3, d4⟩ := hcs k (by omega)
                  obtain ⟨c', tt', z', e1, e2, e3, e4, e5⟩ := cells_take hs0 d1
                  have hblk : (a.add (k * P.cellsOf e)).block = a.block := by unfold Addr.add; split <;> rfl
                  have hoff : (a.add (k * P.cellsOf e)).off = a.off + k * P.cellsOf e := by unfold Addr.add; split <;> simp_all
                  rw [hblk, hb] at e1
                  simp only [Option.some.injEq, Obj.cells.injEq] at e1
                  obtain ⟨rfl, _, _⟩ := e1
                  rw [hoff] at e4 e5
                  have hys : ys.length = P.cellsOf e := by rw [← VPL_length d2, e3]
                  have hf := VPLL_flat.1 k2
                  refine ⟨yss ++ [ys], us ++ cs', by simp [k1], VPLL_flat.2 ⟨?_, ?_⟩, ?_, ?_, fun _ => by rw [Nat.succ_mul]; omega, ?_⟩
                  · simpa using VPL_append hf.1 d2
                  · intro q hq; rcases List.mem_append.1 hq with hq | hq
                    · exact hf.2 q hq
                    · simp at hq; subst hq; exact hys
                  · intro u hu; rcases List.mem_append.1 hu with hu | hu
                    · exact k3 u hu
                    · exact d3 u hu
                  · intro q hq; rcases List.mem_append.1 hq with hq | hq
                    · exact k4 q hq
                    · simp at hq; subst hq; exact ⟨hys, d4⟩
                  · rw [k6, e5, Nat.succ_mul, List.take_add, List.drop_drop]
              obtain ⟨yss, us, k1, k2, k3, k4, k5, k6⟩ := key len (Nat.le_refl _)
              have k5 := k5 hl0
              have hne : yss ≠ [] := by intro e; subst e; simp at k1; omega
              refine fin _ len yss (by omega) k1 k4 rfl (fun e => absurd e hne) fun _ => ⟨a.block, a.off, cap, c.toList, us, ?_, hlc, hfz _ _ _ _ hb, k2, ?_⟩
              · obtain ⟨ab, ao, asp⟩ := a; simp only [] at hsp; subst hsp; rfl
              · refine ⟨c.toList.take a.off, c.toList.drop (a.off + len * P.cellsOf e), ?_, ?_, k3⟩
                · rw [k6, List.append_assoc, ← List.drop_drop, List.take_append_drop, List.take_append_drop]
                · rw [List.length_take]; omega
        | _ => simp [basic] at hs

/-! ### Listed variables -/
mutual
def flatD : DataW H → Option (List PV)
  | .lit (.bool b) => some [.bool b]
  | .lit (.int k n) => some [.int k n]
  | .lit (.string s) => some [.str s]
  | .agg ps => flatDL ps
  | _ => none
def flatDL : List (DataW H) → Option (List PV)
  | [] => some []
  | d :: r => match flatD d, flatDL r with
    | some xs, some ys => some (xs ++ ys)
    | _, _ => none
end

theorem fldsD_of {fz : Fzn} {cs : List Value} {Q : DataW H → List Value → Prop} (hQ : ∀ d us xs, Q d us → flatD d = some xs → VPL fz xs us ∧ ∀ u ∈ us, plainV u = true) : ∀ (l : List (TypeId × Nat)) (ds : List (DataW H)) (o : Nat) (xs : List PV), tiles P l o = some cs.length → ds.length = l.length →
    (∀ (i : Nat) f d, l[i]? = some f → ds[i]? = some d → Q d ((cs.drop f.2).take (P.cellsOf f.1))) → flatDL ds = some xs → VPL fz xs (cs.drop o) ∧ ∀ u ∈ cs.drop o, plainV u = true
  | [], ds, o, xs, ht, hl, _, hd => by
    simp only [tiles, Option.some.injEq] at ht
    subst ht
    obtain rfl := List.eq_nil_of_length_eq_zero hl
    simp only [flatDL, Option.some.injEq] at hd
    subst hd
    simp [VPL]
  | f :: r, [], o, xs, ht, hl, _, hd => by simp at hl
  | f :: r, d :: ds, o, xs, ht, hl, hr, hd => by
    simp only [tiles] at ht
    split at ht
    · rename_i ho
      simp only [flatDL] at hd
      split at hd
      · rename_i ys zs e1 e2
        injection hd with hd
        subst hd
        have h1 := hQ d _ ys (hr 0 f d rfl rfl) e1
        have h2 := fldsD_of hQ r ds (o + P.cellsOf f.1) zs ht (by simpa using hl) (fun i g e hg he => hr (i + 1) g e hg he) e2
        rw [ho] at h1
        have e : cs.drop o = (cs.drop o).take (P.cellsOf f.1) ++ cs.drop (o + P.cellsOf f.1) := by
          rw [← List.drop_drop, List.take_append_drop]
        rw [e]
        refine ⟨VPL_append h1.1 h2.1, fun u hu => ?_⟩
        rcases List.mem_append.1 hu with hu | hu
        · exact h1.2 u hu
        · exact h2.2 u hu
      · cases hd
    · cases ht

theorem laid_of_trod {fz : Fzn} : ∀ (m : Nat) (t : TypeId) (n : Nat) (cs : List Value) (x : DataW H × List MemPlace) (xs : List PV), supp P m t = true → DataW.trod enc P W 0 sp held n t cs = some x → flatD x.1 = some xs → VPL fz xs cs ∧ ∀ u ∈ cs, plainV u = true
  | 0, _, _, _, _, _, hs, _, _ => by simp [supp] at hs
  | m + 1, t, n, cs, x, xs, hs, h, hd => by
    have ih := laid_of_trod (fz := fz) m
    simp only [supp] at hs
    cases hp : partsOf P t with
    | some l =>
      simp only [hp, Bool.and_eq_true, decide_eq_true_eq, List.all_eq_true] at hs
      obtain ⟨ys, k, h1, h2, h3, h4, h5⟩ := parts_trod hp h
      rw [h2] at hd
      simp only [flatD] at hd
      have := fldsD_of (fz := fz) (P := P) (cs := cs) (Q := fun d us => ∀ xs, flatD d = some xs → VPL fz xs us ∧ ∀ u ∈ us, plainV u = true) (fun d us xs hq hx => hq xs hx) l (ys.map (·.1)) 0 xs (by rw [h3]; exact hs.1) (by simpa using h4) (fun i f d hf hd' => by
        rw [List.getElem?_map, Option.map_eq_some_iff] at hd'
        obtain ⟨y, hy, rfl⟩ := hd'
        have e := h5 i f hf
        rw [hy] at e
        intro xs hx
        exact ih _ _ _ _ xs (hs.2 _ (List.mem_of_getElem? hf)) e hx) hd
      simpa using this
    | none =>
      simp only [hp] at hs
      cases hu : P.underlying t with
      | none => simp [hu] at hs
      | some d =>
        simp only [hu] at hs
        cases d with
        | bool =>
          obtain ⟨b, rfl, rfl⟩ := DataW.trod_bool hu h
          simp only [flatD, Option.some.injEq] at hd
          subst hd
          exact ⟨by simp [VPL, VP], by simp [plainV]⟩
        | int k =>
          obtain ⟨b, rfl, rfl, hw⟩ := DataW.trod_int hu h
          simp only [flatD, Option.some.injEq] at hd
          subst hd
          exact ⟨by simp [VPL, VP], by simp [plainV]⟩
        | string =>
          obtain ⟨⟨⟨s⟩⟩, rfl, rfl, hw⟩ := DataW.trod_string hu h
          simp only [flatD, Option.some.injEq] at hd
          subst hd
          exact ⟨by simp [VPL, VP], by simp [plainV]⟩
        | slice e =>
          rcases DataW.trod_slice hu h with ⟨rfl, rfl⟩ | ⟨a, len, cap, elems, rest, n', rfl, rfl, rfl, _⟩
          · simp [flatD] at hd
          · simp [flatD] at hd
        | _ => simp [basic] at hs
end
end Go.Proofs.YtmdmjnfdemgpoaaDoor.Y

/- From contracts on data to the statements of rows. -/
namespace Go.Proofs.YtmdmjnfdemgpoaaDoor.Y
open Go

theorem mapM_mono {α β : Type} {f g : α → Option β} : ∀ {l : List α} {r : List β}, (∀ x ∈ l, ∀ y, f x = some y → g x = some y) → l.mapM f = some r → l.mapM g = some r
  | [], r, _, h => by simpa using h
  | x :: l, r, hfg, h => by
    simp only [List.mapM_cons, Option.bind_eq_bind, Option.bind_eq_some_iff, Option.pure_def, Option.some.injEq] at h ⊢
    obtain ⟨y, h1, ys, h2, h3⟩ := h
    exact ⟨y, hfg x (by simp) y h1, ys, mapM_mono (fun z hz => hfg z (by simp [hz])) h2, h3⟩

/-- All that was there is there as it was. -/
def Kept (W W' : World) : Prop := ∀ (b : Nat) (o : Obj), W.heap[b]? = some o → W'.heap[b]? = some o

section
variable {H : Type} {enc : TypeId × Value → H} {P : Program} {W W' : World} {sp' : Nat → Bool} {held : Bool}

theorem Kept.cell (hk : Kept W W') {a : Addr} {v : Value} (h : W.cell? a = some v) : W'.cell? a = some v := by
  unfold World.cell? at h ⊢
  split at h
  · rename_i c t z hb
    rw [hk _ _ hb]
    exact h
  · cases h
theorem Kept.cells (hk : Kept W W') {a : Addr} {n : Nat} {cs : List Value} (h : W.cells? 0 a n = some cs) : W'.cells? 0 a n = some cs := by
  unfold World.cells? at h ⊢
  rw [if_pos (Nat.zero_le _)] at h ⊢
  exact mapM_mono (fun _ _ _ hx => hk.cell hx) h

theorem trod_kept (hk : Kept W W') (hsp : ∀ b, b < W.heap.size → sp' b = true) : ∀ (m : Nat) (t : TypeId) (n : Nat) (cs : List Value) (x : DataW H × List MemPlace), supp P m t = true → DataW.trod enc P W 0 (fun _ => true) held n t cs = some x → DataW.trod enc P W' 0 sp' held n t cs = some x
  | 0, _, _, _, _, hs, _ => by simp [supp] at hs
  | m + 1, t, 0, cs, x, hs, h => by simp [DataW.trod] at h
  | m + 1, t, n + 1, cs, x, hs, h => by
    have ih := trod_kept hk hsp m
    simp only [supp] at hs
    cases hu : P.underlying t with
    | none =>
      have hp : partsOf P t = none := by simp [partsOf, hu]
      simp [hp, hu] at hs
    | some d =>
      cases d with
      | struct fs =>
        have hp : partsOf P t = some (fs.toList.map fun f => (f.type, f.offset)) := by simp [partsOf, hu]
        simp only [hp, Bool.and_eq_true, List.all_eq_true] at hs
        unfold DataW.trod at h ⊢
        rw [hu] at h ⊢
        simp only [] at h ⊢
        split at h
        · rename_i hl
          rw [if_pos hl]
          rw [Option.map_eq_some_iff] at h ⊢
          obtain ⟨xs, h1, h2⟩ := h
          exact ⟨xs, mapM_mono (fun f hf y hy => ih _ _ _ _ (hs.2 (f.type, f.offset) (List.mem_map_of_mem hf)) hy) h1, h2⟩
        · cases h
      | array k e =>
        have hp : partsOf P t = some ((List.range k).map fun i => (e, i * P.cellsOf e)) := by simp [partsOf, hu]
        simp only [hp, Bool.and_eq_true, List.all_eq_true] at hs
        unfold DataW.trod at h ⊢
        rw [hu] at h ⊢
        simp only [] at h ⊢
        split at h
        · rename_i hl
          rw [if_pos hl]
          rw [Option.map_eq_some_iff] at h ⊢
          obtain ⟨xs, h1, h2⟩ := h
          exact ⟨xs, mapM_mono (fun i hi y hy => ih _ _ _ _ (hs.2 (e, i * P.cellsOf e) (List.mem_map_of_mem hi)) hy) h1, h2⟩
        · cases h
      | bool =>
        obtain ⟨b, rfl, rfl⟩ := DataW.trod_bool hu h
        unfold DataW.trod; rw [hu]
      | int k =>
        obtain ⟨b, rfl, rfl, hw⟩ := DataW.trod_int hu h
        unfold DataW.trod; rw [hu]; simp [hw]
      | string =>
        obtain ⟨s, rfl, rfl, hw⟩ := DataW.trod_string hu h
        unfold DataW.trod; rw [hu]; simp [hw]
      | slice e =>
        have hp : partsOf P t = none := by simp [partsOf, hu]
        simp only [hp, hu, Bool.and_eq_true, decide_eq_true_eq] at hs
        rcases DataW.trod_slice hu h with ⟨rfl, rfl⟩ | ⟨a, len, cap, _, _, _, _, rfl, _⟩
        · unfold DataW.trod; rw [hu]; rfl
        unfold DataW.trod at h ⊢
        rw [hu] at h ⊢
        simp only [if_true] at h ⊢
        split at h
        rotate_left
        · cases h
        rename_i hc
        rw [if_pos hc]
        rw [Option.bind_eq_some_iff] at h ⊢
        obtain ⟨elems, h1, h2⟩ := h
        rw [Option.map_eq_some_iff] at h2
        obtain ⟨rest, h2, h3⟩ := h2
        have el : ∀ i y, (W.cells? 0 (a.add (i * P.cellsOf e)) (P.cellsOf e)).bind (DataW.trod enc P W 0 (fun _ => true) held n e) = some y → (W'.cells? 0 (a.add (i * P.cellsOf e)) (P.cellsOf e)).bind (DataW.trod enc P W' 0 sp' held n e) = some y := by
          intro i y hy
          rw [Option.bind_eq_some_iff] at hy ⊢
          obtain ⟨cs', g1, g2⟩ := hy
          exact ⟨cs', hk.cells g1, ih _ _ _ _ hs.2 g2⟩
        refine ⟨elems, mapM_mono (fun i _ y hy => el i y hy) h1, ?_⟩
        rw [Option.map_eq_some_iff]
        refine ⟨rest, ?_, h3⟩
        by_cases hd : cap - len = 0
        · rw [hd] at h2 ⊢
          simp at h2
          subst h2
          cases sp' a.block <;> simp
        · have hb : a.block < W.heap.size := by
            have hl := mapM_some_length h2
            rw [List.length_range] at hl
            have := mapM_some_get h2 0 0 (by rw [List.getElem?_eq_getElem (by simp; omega)]; simp)
            rw [List.getElem?_eq_getElem (by omega), Option.bind_eq_some_iff] at this
            obtain ⟨cs', g1, _⟩ := this
            obtain ⟨c, t', z, g3, _⟩ := cells_take hs.1 g1
            have hblk : (a.add ((len + 0) * P.cellsOf e)).block = a.block := by unfold Addr.add; split <;> rfl
            rw [hblk] at g3
            exact (Array.getElem?_eq_some_iff.1 g3).1
          rw [if_pos (hsp _ hb)]
          exact mapM_mono (fun i _ y hy => el (len + i) y hy) h2
      | _ =>
        have hp : partsOf P t = none := by simp [partsOf, hu]
        simp [hp, hu, basic] at hs

theorem trodAll_kept (hk : Kept W W') (hsp : ∀ b, b < W.heap.size → sp' b = true) (m : Nat) : ∀ {ts : List TypeId} {vs : List Value} {ds : List (DataW H)} {ps : List MemPlace}, ts.all (supp P m) = true → DataW.TrodAll enc P W 0 (fun _ => true) held ts vs ds ps → DataW.TrodAll enc P W' 0 sp' held ts vs ds ps
  | [], [], [], ps, _, h => h
  | t :: ts, v :: vs, d :: ds, ps, hs, h => by
    simp only [List.all_cons, Bool.and_eq_true] at hs
    obtain ⟨p, q, ⟨fuel, h1⟩, h2, h3⟩ := h
    exact ⟨p, q, ⟨fuel, trod_kept hk hsp m _ _ _ _ hs.1 h1⟩, trodAll_kept hk hsp m hs.2 h2, h3⟩
  | [], [], _ :: _, ps, _, h => by simp [DataW.TrodAll] at h
  | [], _ :: _, _, ps, _, h => by simp [DataW.TrodAll] at h
  | _ :: _, [], _, ps, _, h => by simp [DataW.TrodAll] at h
  | _ :: _, _ :: _, [], ps, _, h => by simp [DataW.TrodAll] at h

/-- An argument of a type. -/
def ArgT (P : Program) (m : Nat) (t : TypeId) (x : PV) : Prop := match partsOf P t with
  | some _ => ∃ xs, x = .agg xs ∧ TyT P m t xs
  | none => TyT P m t [x]
def ArgsT (P : Program) (m : Nat) : List TypeId → List PV → Prop
  | [], xs => xs = []
  | t :: ts, xs => ∃ x r, xs = x :: r ∧ ArgT P m t x ∧ ArgsT P m ts r

def fzOf (W : World) : Fzn := fun b => match W.heap[b]? with
  | some (.cells c _ _) => some c.toList
  | _ => none
theorem fzOf_all (W : World) : AllCells (fzOf W) W := fun b c t z h => by simp [fzOf, h]
theorem fzOf_some {b : Nat} {arr : List Value} (h : fzOf W b = some arr) : ∃ c t z, W.heap[b]? = some (.cells c t z) ∧ arr = c.toList := by
  unfold fzOf at h
  split at h
  · rename_i c t z hb
    injection h with h
    exact ⟨c, t, z, hb, h.symm⟩
  · cases h

theorem arg_of {m : Nat} {base : Nat} {t : TypeId} {v : Value} {d : DataW H} {ps : List MemPlace} (hs : supp P m t = true) (hval : Value.okWide P W .any base t v) (h : DataW.Trod enc P W 0 (fun _ => true) true t v d ps) : ∃ x, VP (fzOf W) x v ∧ ArgT P m t x := by
  obtain ⟨fuel, h⟩ := h
  obtain ⟨xs, h1, h2, h3⟩ := typed_of_trod (fzOf_all W) m t fuel _ _ hs h
  unfold Value.okWide at hval
  cases hp : partsOf P t with
  | some l =>
    have : ∃ cs, v = .agg cs := by
      unfold partsOf at hp
      split at hp
      · rename_i fs hu; simp only [hu] at hval; obtain ⟨cs, h, _⟩ := hval; exact ⟨cs, h⟩
      · rename_i k e hu; simp only [hu] at hval; obtain ⟨cs, h, _⟩ := hval; exact ⟨cs, h⟩
      · cases hp
    obtain ⟨cs, rfl⟩ := this
    exact ⟨.agg xs, by simp only [VP]; exact ⟨cs, rfl, h1⟩, by simp only [ArgT, hp]; exact ⟨xs, rfl, h3⟩⟩
  | none =>
    have hv : v.cells = #[v] := by
      cases m with
      | zero => simp [supp] at hs
      | succ m =>
        simp only [supp, hp] at hs
        cases hu : P.underlying t with
        | none => simp [hu] at hs
        | some d =>
          simp only [hu] at hs hval
          cases d with
          | struct fs => simp [partsOf, hu] at hp
          | array k e => simp [partsOf, hu] at hp
          | bool => cases v <;> simp_all [Cell.okWide, Cell.ok, Value.cells]
          | int k => cases v <;> simp_all [Cell.okWide, Cell.ok, Value.cells]
          | string => cases v <;> simp_all [Cell.okWide, Cell.ok, Value.cells]
          | slice e => cases v <;> simp_all [Cell.okWide, Cell.ok, Value.cells]
          | _ => simp [basic] at hs
    rw [hv] at h1
    obtain ⟨x, rfl, h4⟩ : ∃ x, xs = [x] ∧ VP (fzOf W) x v := by
      match xs, h1 with
      | [], h1 => simp [VPL] at h1
      | x :: r, h1 =>
        simp only [VPL] at h1
        obtain ⟨u, us, e, g1, g2⟩ := h1
        simp only [List.cons.injEq] at e
        obtain ⟨rfl, rfl⟩ := e
        match r, g2 with
        | [], _ => exact ⟨x, rfl, g1⟩
        | y :: r, g2 => simp [VPL] at g2
    exact ⟨x, h4, by simp only [ArgT, hp]; exact h3⟩

theorem args_of {m base : Nat} : ∀ {ts : List TypeId} {vs : List Value} {ds : List (DataW H)} {ps : List MemPlace}, ts.all (supp P m) = true → (∀ (j : Nat) t v, ts[j]? = some t → vs[j]? = some v → Value.okWide P W .any base t v) → DataW.TrodAll enc P W 0 (fun _ => true) true ts vs ds ps →
    ∃ xs, VPL (fzOf W) xs vs ∧ ArgsT P m ts xs ∧ ds.length = ts.length
  | [], [], [], ps, _, _, _ => ⟨[], by simp [VPL], rfl, rfl⟩
  | t :: ts, v :: vs, d :: ds, ps, hs, hv, h => by
    simp only [List.all_cons, Bool.and_eq_true] at hs
    obtain ⟨p, q, h1, h2, h3⟩ := h
    obtain ⟨x, g1, g2⟩ := arg_of hs.1 (hv 0 t v rfl rfl) h1
    obtain ⟨xs, k1, k2, k3⟩ := args_of hs.2 (fun j t v ht hv' => hv (j + 1) t v ht hv') h2
    exact ⟨x :: xs, by simp only [VPL]; exact ⟨v, vs, rfl, g1, k1⟩, ⟨x, xs, rfl, g2, k2⟩, by simp [k3]⟩
  | [], [], _ :: _, ps, _, _, h => by simp [DataW.TrodAll] at h
  | [], _ :: _, _, ps, _, _, h => by simp [DataW.TrodAll] at h
  | _ :: _, [], _, ps, _, _, h => by simp [DataW.TrodAll] at h
  | _ :: _, _ :: _, [], ps, _, _, h => by simp [DataW.TrodAll] at h
end

/-- The tables of the context are those that the row lists. -/
def gtOK (P : Program) (m : Nat) : List (Nat × List PV) → List (String × DataW Unit) → Prop
  | [], _ => True
  | (g, cs) :: r, (n, d) :: r' => P.globalNamed n = some g ∧ (∃ t, (P.globals[g]?).map (·.type) = some t ∧ supp P m t = true) ∧ flatD d = some cs ∧ gtOK P m r r'
  | _ :: _, [] => False

theorem glob_of_laid {P : Program} {m : Nat} {W : World} : ∀ {gt : List (Nat × List PV)} {laid : List (String × DataW Unit)} {ps : List MemPlace}, gtOK P m gt laid → DataW.LaidVars P W laid ps → ∀ g cs, gget gt g = some cs → VP (fzOf W) (.fp cs) (.pointer (some ⟨g, 0, none⟩))
  | [], _, _, _, _, g, cs, h => by simp [gget] at h
  | (g', cs') :: r, [], _, hg, _, g, cs, h => by simp [gtOK] at hg
  | (g', cs') :: r, (n, d) :: r', ps, hg, hl, g, cs, h => by
    obtain ⟨h1, ⟨t, h2, h3⟩, h4, h5⟩ := hg
    obtain ⟨g0, t0, cs0, fuel, p, q, k1, k2, k3, k4, k5, k6⟩ := hl
    rw [h1] at k1
    injection k1 with k1
    subst k1
    rw [h2] at k2
    injection k2 with k2
    subst k2
    simp only [gget] at h
    split at h
    · rename_i he
      have he := Nat.eq_of_beq_eq_true he
      subst he
      injection h with h
      subst h
      obtain ⟨g1, g2⟩ := laid_of_trod (fz := fzOf W) m t fuel _ _ _ h3 k4 h4
      have hb : ∃ ty z, W.heap[g']? = some (.cells cs0 ty z) := by
        unfold World.var? at k3
        rw [h1] at k3
        simp only [Option.bind_some] at k3
        split at k3
        · rename_i c ty z hb
          injection k3 with k3
          subst k3
          exact ⟨ty, z, hb⟩
        · cases k3
      obtain ⟨ty, z, hb⟩ := hb
      simp only [VP]
      exact ⟨g', 0, cs0.toList, cs0.toList, rfl, fzOf_all W _ _ _ _ hb, g1, [], [], by simp, rfl, g2⟩
    · exact glob_of_laid h5 k5 g cs h

section
variable {cx : Cx}

/-- A law on data, called in a world. -/
theorem calls_of_pure {H : Type} {enc : TypeId × Value → H} {W : World} {f : FuncId} {fn : Func} {c : Code} {m base : Nat} {args : Array Value} {ds : List (DataW H)} {ps : List MemPlace}
    (hf : cx.P.funcs[f]? = some fn) (hname : (fn.name == "runtime.NumGoroutine") = false) (hb : fn.body = some c) (hs : fn.params.toList.all (supp cx.P m) = true)
    (hpure : ∀ xs, ArgsT cx.P m fn.params.toList xs → Pure cx f xs (· = .ret [.bool true]))
    (hval : ∀ (j : Nat) t v, fn.params[j]? = some t → args[j]? = some v → Value.okWide cx.P W .any base t v)
    (hA : DataW.TrodAll enc cx.P W 0 (fun _ => true) true fn.params.toList args.toList ds ps)
    (hglob : ∀ g cs, gget cx.gt g = some cs → VP (fzOf W) (.fp cs) (.pointer (some ⟨g, 0, none⟩))) :
    Calls cx.P f args W fun e W' => e = .returned (.bool true) ∧ W'.os = W.os ∧ W'.output = W.output ∧ ∀ k, k < W.heap.size → W'.heap[k]? = W.heap[k]? := by
  obtain ⟨xs, h1, h2, _⟩ := args_of hs (fun j t v ht hv => hval j t v (by simpa using ht) (by simpa using hv)) hA
  have hR : R cx ⟨fun _ => none, fzOf W⟩ ⟨0, []⟩ W := by
    refine ⟨hglob, fun _ _ => rfl, fun b arr hb => ?_, fun n o hn => by simp [lget] at hn, fun n o q hn => by simp [lget] at hn, fun n o m p q q' hn => by simp [lget] at hn⟩
    obtain ⟨c, t, z, g1, rfl⟩ := fzOf_some hb
    exact ⟨t, z, g1⟩
  have key : ∀ e w', Post cx ⟨fun _ => none, fzOf W⟩ ⟨0, []⟩ W (EndP (· = .ret [.bool true])) e w' → e = .returned (.bool true) ∧ w'.os = W.os ∧ w'.output = W.output ∧ ∀ k, k < W.heap.size → w'.heap[k]? = W.heap[k]? := by
    intro e w' hP
    obtain ⟨r, Γ', hq, _, hE, _, hT, _⟩ := pure_post hR hP
    subst hq
    obtain ⟨v', rfl, hv⟩ := hE
    simp only [VR, VP] at hv
    subst hv
    exact ⟨rfl, hT.os, hT.output, fun k hk => hT.kept k hk own_nil⟩
  have hrun := run_enter hf hname hb args W
  rcases hpure xs h2 ⟨fun _ => none, fzOf W⟩ W args.toList hR (VRL_p.2 h1) with ⟨_, h4⟩ | ⟨v', w', h4, _⟩
  · exact h4.mono key
  · rw [hrun] at h4
    injection h4 with h4
    cases h4

/-- What a law's row asks behind the call. -/
theorem post_of_kept {H : Type} {enc : TypeId × Value → H} {W W' : World} {fn : Func} {s : ChangeSpec} {m : Nat} {bt : TypeId} {apart fresh handsOn : Bool} {args : Array Value} {ds gs : List (DataW H)} {before : List MemPlace}
    (hs : fn.params.toList.all (supp cx.P m) = true) (hvars : s.vars = []) (hres : fn.resultTypes = #[bt]) (hbt : cx.P.underlying bt = some .bool)
    (hfn : ∀ ds : List (DataW H), ds.length = fn.params.toList.length → s.fn H ds = { results := [.lit (.bool true)], args := ds })
    (hW : DataW.Whole enc cx.P fn.params.toList s.vars apart W args.toList ds gs before) (hlen : ds.length = fn.params.toList.length)
    (hos : W'.os = W.os) (hout : W'.output = W.output) (hkept : ∀ k, k < W.heap.size → W'.heap[k]? = W.heap[k]?) :
    s.post enc cx.P fn apart fresh handsOn false W args (.bool true) W' := by
  have hk : Kept W W' := fun b o hb => by rw [hkept b (Array.getElem?_eq_some_iff.1 hb).1]; exact hb
  have hW' := hW
  obtain ⟨p, q, h1, h2, _, _, _⟩ := hW'
  rw [hvars] at h2
  obtain ⟨rfl, rfl⟩ := Go.ChangeShapes.trodVars_none h2
  have e : s.fn H (ds ++ []) = { results := [.lit (.bool true)], args := ds } := by rw [List.append_nil]; exact hfn ds hlen
  refine ⟨ds, [], before, [], p, [], hW, ?_, ?_, ?_, ?_, fun h => by cases h⟩
  · rw [e, hres]
    exact Go.ChangeShapes.trodAll_mk1 (Go.RowKit.shut_bool hbt true)
  · rw [e]
    exact trodAll_kept hk (fun b hb => by simpa using hb) m hs h1
  · rw [e, hvars]
    rfl
  · refine ⟨hos, hout, fun i hi => ?_⟩
    rw [hkept i hi]
    have := Array.getElem?_eq_getElem hi
    rw [this]
    cases W.heap[i] <;> simp
end
end Go.Proofs.YtmdmjnfdemgpoaaDoor.Y

/- Arguments of the statements. -/
namespace Go.Proofs.YtmdmjnfdemgpoaaDoor
open Go Y
set_option maxRecDepth 100000
set_option maxHeartbeats 4000000

theorem ty_u8 {m : Nat} {xs : List PV} (h : TyT Tryd.prog (m + 1) 5 xs) : ∃ b : UInt8, xs = [u8 b] := by
  have hp : partsOf Tryd.prog 5 = none := by simp [partsOf, Tryd.underlying5]
  simp only [TyT, hp, Tryd.underlying5] at h
  obtain ⟨n, rfl, hw⟩ := h
  have := bounds_u8 hw
  refine ⟨UInt8.ofNat n.toNat, ?_⟩
  have e : ((UInt8.ofNat n.toNat).toNat : Int) = n := by
    simp
    omega
  rw [u8, e]
theorem ty_u16 {m : Nat} {xs : List PV} (h : TyT Tryd.prog (m + 1) 61 xs) : ∃ b : UInt16, xs = [.int .u16 (b.toNat : Int)] := by
  have hp : partsOf Tryd.prog 61 = none := by simp [partsOf, Tryd.underlying61]
  simp only [TyT, hp, Tryd.underlying61] at h
  obtain ⟨n, rfl, hw⟩ := h
  have := bounds_u16 hw
  refine ⟨UInt16.ofNat n.toNat, ?_⟩
  have e : ((UInt16.ofNat n.toNat).toNat : Int) = n := by
    simp
    omega
  rw [e]
theorem ty_int {m : Nat} {xs : List PV} (h : TyT Tryd.prog (m + 1) 3 xs) : ∃ n, xs = [i64 n] ∧ -9223372036854775808 ≤ n ∧ n ≤ 9223372036854775807 := by
  have hp : partsOf Tryd.prog 3 = none := by simp [partsOf, Tryd.underlying3]
  simp only [TyT, hp, Tryd.underlying3] at h
  obtain ⟨n, rfl, hw⟩ := h
  exact ⟨n, rfl, bounds_i64 hw⟩
theorem ty_str {m : Nat} {xs : List PV} (h : TyT Tryd.prog (m + 1) 9 xs) : ∃ s, xs = [.str s] ∧ s.length ≤ 9223372036854775807 := by
  have hp : partsOf Tryd.prog 9 = none := by simp [partsOf, Tryd.underlying9]
  simp only [TyT, hp, Tryd.underlying9] at h
  obtain ⟨n, rfl, hl⟩ := h
  exact ⟨n, rfl, hl⟩
theorem lift_list {α : Type} {f : α → PV} {P : α → Prop} {ys : List PV} (h : ∀ y ∈ ys, ∃ a, y = f a ∧ P a) : ∃ zs : List α, ys = zs.map f ∧ ∀ z ∈ zs, P z := by
  induction ys with
  | nil => exact ⟨[], rfl, by simp⟩
  | cons y r ih =>
    obtain ⟨a, rfl, ha⟩ := h y (by simp)
    obtain ⟨zs, rfl, hz⟩ := ih fun z hz => h z (by simp [hz])
    exact ⟨a :: zs, rfl, fun z hm => by rcases List.mem_cons.1 hm with rfl | hm; exact ha; exact hz z hm⟩
theorem ty_bytes {m : Nat} {xs : List PV} (h : TyT Tryd.prog (m + 2) 22 xs) : ∃ bs : List UInt8, xs = [.lst (bs.map u8)] ∧ bs.length ≤ 9223372036854775807 := by
  have hp : partsOf Tryd.prog 22 = none := by simp [partsOf, Tryd.underlying22]
  have hc : Tryd.prog.cellsOf 5 = 1 := by kernel_rfl
  rw [TyT] at h
  simp only [hp, Tryd.underlying22, hc] at h
  obtain ⟨ys, rfl, hl, hy⟩ := h
  obtain ⟨bs, rfl, _⟩ := lift_list (f := u8) (P := fun _ => True) fun y hy' => by
    obtain ⟨b, hb⟩ := ty_u8 (hy y hy')
    simp at hb
    exact ⟨b, hb, trivial⟩
  exact ⟨bs, rfl, by rw [List.length_map] at hl; exact hl⟩
theorem ty_ints {m : Nat} {xs : List PV} (h : TyT Tryd.prog (m + 2) 27 xs) : ∃ l : List Int, xs = [ints l] ∧ l.length ≤ 9223372036854775807 := by
  have hp : partsOf Tryd.prog 27 = none := by simp [partsOf, Tryd.underlying27]
  have hc : Tryd.prog.cellsOf 3 = 1 := by kernel_rfl
  rw [TyT] at h
  simp only [hp, Tryd.underlying27, hc] at h
  obtain ⟨ys, rfl, hl, hy⟩ := h
  obtain ⟨l, rfl, _⟩ := lift_list (f := i64) (P := fun _ => True) fun y hy' => by
    obtain ⟨b, hb, _⟩ := ty_int (hy y hy')
    simp at hb
    exact ⟨b, hb, trivial⟩
  exact ⟨l, rfl, by rw [List.length_map] at hl; exact hl⟩
theorem ty_cases {m : Nat} {xs : List PV} (h : TyT Tryd.prog (m + 3) 28 xs) : ∃ l : List (List Int), xs = [.lst (l.map ints)] ∧ l.length ≤ 9223372036854775807 ∧ ∀ c ∈ l, c.length ≤ 9223372036854775807 := by
  have hp : partsOf Tryd.prog 28 = none := by simp [partsOf, Tryd.underlying28]
  have hc : Tryd.prog.cellsOf 27 = 1 := by kernel_rfl
  rw [TyT] at h
  simp only [hp, Tryd.underlying28, hc] at h
  obtain ⟨ys, rfl, hl, hy⟩ := h
  obtain ⟨l, rfl, hm⟩ := lift_list (f := ints) (P := fun c => c.length ≤ 9223372036854775807) fun y hy' => by
    obtain ⟨b, hb, hb'⟩ := ty_ints (hy y hy')
    simp at hb
    exact ⟨b, hb, hb'⟩
  exact ⟨l, rfl, by rw [List.length_map] at hl; exact hl, hm⟩
theorem ty_data {m : Nat} {xs : List PV} (h : TyT Tryd.prog (m + 4) 30 xs) : ∃ d : Dt, xs = d.cells ∧ d.cards.length ≤ 9223372036854775807 ∧ d.cases.length ≤ 9223372036854775807 ∧ ∀ c ∈ d.cases, c.length ≤ 9223372036854775807 := by
  have hp : partsOf Tryd.prog 30 = some [(27, 0), (28, 1)] := by kernel_rfl
  rw [TyT] at h
  simp only [hp] at h
  obtain ⟨x1, _, rfl, _, h1, x2, _, rfl, _, h2, rfl⟩ := h
  obtain ⟨a, rfl, ha⟩ := ty_ints h1
  obtain ⟨l, rfl, hl, hc⟩ := ty_cases h2
  exact ⟨⟨a, l⟩, rfl, ha, hl, hc⟩
theorem ty_five {m : Nat} {xs : List PV} (h : TyT Tryd.prog (m + 2) 82 xs) : ∃ l : List UInt8, xs = u8s l ∧ l.length = 5 := by
  have hp : partsOf Tryd.prog 82 = some [(5, 0), (5, 1), (5, 2), (5, 3), (5, 4)] := by kernel_rfl
  rw [TyT] at h
  simp only [hp] at h
  obtain ⟨x1, _, rfl, _, h1, x2, _, rfl, _, h2, x3, _, rfl, _, h3, x4, _, rfl, _, h4, x5, _, rfl, _, h5, rfl⟩ := h
  obtain ⟨a, rfl⟩ := ty_u8 h1
  obtain ⟨b, rfl⟩ := ty_u8 h2
  obtain ⟨c, rfl⟩ := ty_u8 h3
  obtain ⟨d, rfl⟩ := ty_u8 h4
  obtain ⟨e, rfl⟩ := ty_u8 h5
  exact ⟨[a, b, c, d, e], rfl, rfl⟩
theorem lift_lists {α : Type} {f : α → List PV} {P : α → Prop} {ys : List (List PV)} (h : ∀ y ∈ ys, ∃ a, y = f a ∧ P a) : ∃ zs : List α, ys = zs.map f ∧ ∀ z ∈ zs, P z := by
  induction ys with
  | nil => exact ⟨[], rfl, by simp⟩
  | cons y r ih =>
    obtain ⟨a, rfl, ha⟩ := h y (by simp)
    obtain ⟨zs, rfl, hz⟩ := ih fun z hz => h z (by simp [hz])
    exact ⟨a :: zs, rfl, fun z hm => by rcases List.mem_cons.1 hm with rfl | hm; exact ha; exact hz z hm⟩
theorem ty_fives {m : Nat} {xs : List PV} (h : TyT Tryd.prog (m + 3) 23 xs) : ∃ l : List (List UInt8), xs = [.lsts 5 (l.map u8s)] ∧ ∀ c ∈ l, c.length = 5 := by
  have hp : partsOf Tryd.prog 23 = none := by simp [partsOf, Tryd.underlying23]
  have hc : Tryd.prog.cellsOf 82 = 5 := by kernel_rfl
  rw [TyT] at h
  simp only [hp, Tryd.underlying23, hc] at h
  obtain ⟨ys, rfl, _, hy⟩ := h
  obtain ⟨l, rfl, hl⟩ := lift_lists (f := u8s) (P := fun c => c.length = 5) fun y hy' => ty_five (hy y hy')
  exact ⟨l, rfl, hl⟩
structure DfOK (D : Df) : Prop where
  five : ∀ c ∈ D.cases, c.length = 5
  miss : D.missing.length ≤ 9223372036854775807
theorem ty_draft {m : Nat} {xs : List PV} (h : TyT Tryd.prog (m + 4) 25 xs) : ∃ D : Df, xs = D.cells ∧ DfOK D := by
  have hp : partsOf Tryd.prog 25 = some [(22, 0), (23, 1), (5, 2), (22, 3)] := by kernel_rfl
  rw [TyT] at h
  simp only [hp] at h
  obtain ⟨x1, _, rfl, _, h1, x2, _, rfl, _, h2, x3, _, rfl, _, h3, x4, _, rfl, _, h4, rfl⟩ := h
  obtain ⟨a, rfl, _⟩ := ty_bytes h1
  obtain ⟨b, rfl, hb⟩ := ty_fives h2
  obtain ⟨c, rfl⟩ := ty_u8 h3
  obtain ⟨d, rfl, hd⟩ := ty_bytes h4
  exact ⟨⟨a, b, c, d⟩, rfl, ⟨hb, hd⟩⟩
theorem ty_bend {m : Nat} {xs : List PV} (h : TyT Tryd.prog (m + 2) 43 xs) : ∃ B : Bn, xs = B.cells := by
  have hp : partsOf Tryd.prog 43 = some [(5, 0), (5, 1), (3, 2)] := by kernel_rfl
  rw [TyT] at h
  simp only [hp] at h
  obtain ⟨x1, _, rfl, _, h1, x2, _, rfl, _, h2, x3, _, rfl, _, h3, rfl⟩ := h
  obtain ⟨a, rfl⟩ := ty_u8 h1
  obtain ⟨b, rfl⟩ := ty_u8 h2
  obtain ⟨c, rfl, _⟩ := ty_int h3
  exact ⟨⟨a, b, c⟩, rfl⟩
theorem arg_plain {t : TypeId} {m : Nat} {x : PV} (hp : partsOf Tryd.prog t = none) (h : ArgT Tryd.prog m t x) : TyT Tryd.prog m t [x] := by
  simpa only [ArgT, hp] using h
theorem arg_draft {m : Nat} {x : PV} (h : ArgT Tryd.prog (m + 4) 25 x) : ∃ D : Df, x = D.pv ∧ DfOK D := by
  have hp : partsOf Tryd.prog 25 = some [(22, 0), (23, 1), (5, 2), (22, 3)] := by kernel_rfl
  simp only [ArgT, hp] at h
  obtain ⟨xs, rfl, h⟩ := h
  obtain ⟨w, rfl, hw⟩ := ty_draft h
  exact ⟨w, rfl, hw⟩
theorem arg_bend {m : Nat} {x : PV} (h : ArgT Tryd.prog (m + 2) 43 x) : ∃ B : Bn, x = B.pv := by
  have hp : partsOf Tryd.prog 43 = some [(5, 0), (5, 1), (3, 2)] := by kernel_rfl
  simp only [ArgT, hp] at h
  obtain ⟨xs, rfl, h⟩ := h
  obtain ⟨w, rfl⟩ := ty_bend h
  exact ⟨w, rfl⟩
theorem arg_data {m : Nat} {x : PV} (h : ArgT Tryd.prog (m + 4) 30 x) : ∃ d : Dt, x = d.pv ∧ d.cards.length ≤ 9223372036854775807 ∧ d.cases.length ≤ 9223372036854775807 ∧ ∀ c ∈ d.cases, c.length ≤ 9223372036854775807 := by
  have hp : partsOf Tryd.prog 30 = some [(27, 0), (28, 1)] := by kernel_rfl
  simp only [ArgT, hp] at h
  obtain ⟨xs, rfl, h⟩ := h
  obtain ⟨w, rfl, hw⟩ := ty_data h
  exact ⟨w, rfl, hw⟩
end Go.Proofs.YtmdmjnfdemgpoaaDoor

/- The statement on counts. -/
namespace Go.Proofs.YtmdmjnfdemgpoaaDoor
open Go Y
set_option maxRecDepth 100000
set_option maxHeartbeats 4000000

theorem min_sub {α β : Type} (f : α → β) (l : List α) (n : Nat) : sub (l.map f) none (some (if (n : Int) < ((l.map f).length : Nat) then (n : Int) else ((l.map f).length : Nat))) = (l.take n).map f := by
  show (l.map f).take _ = _
  rw [List.map_take, List.length_map]
  split
  · rfl
  · rename_i h
    rw [List.take_of_length_le (by simp), List.take_of_length_le (by simp; omega)]
theorem min_ok {α β : Type} (f : α → β) (l : List α) (n : Nat) : 0 ≤ (if (n : Int) < ((l.map f).length : Nat) then (n : Int) else ((l.map f).length : Nat)) ∧ (if (n : Int) < ((l.map f).length : Nat) then (n : Int) else ((l.map f).length : Nat)) ≤ ((l.map f).length : Nat) := by
  split <;> omega
theorem flat_get : ∀ {L : List Dt} {j : Nat}, j < L.length → getN (L.flatMap Dt.cells) (j * 2) 2 = some (L.getD j ⟨[], []⟩).cells
  | [], j, h => by simp at h
  | d :: L, 0, _ => rfl
  | d :: L, j + 1, h => by
    rw [show (j + 1) * 2 = j * 2 + 2 by omega]
    exact flat_get (L := L) (j := j) (by simpa using h)
theorem ld_flat {t : TypeId} {L : List Dt} {j : Nat} (ht : aggSz Tryd.prog t = some (some 2)) (h : j < L.length) : ldInP Tryd.prog t (L.flatMap Dt.cells) (j * 2) = some (L.getD j ⟨[], []⟩).pv := by
  unfold ldInP
  rw [ht]
  simp only []
  rw [flat_get h]
theorem zrF {L : List (Nat × AObj)} : Res L 5 (.p (.agg [.nils, .nils, .nils])) faZ.pv := ⟨_, rfl, _, _, rfl, .inr (.inl rfl), _, _, rfl, .inr (.inl rfl), _, _, rfl, .inr (.inl rfl), rfl⟩
theorem zrD {L : List (Nat × AObj)} : Res L 5 (.p (.agg [.nils, .nils])) dtZero.pv := ⟨_, rfl, _, _, rfl, .inr (.inl rfl), _, _, rfl, .inr (.inl rfl), rfl⟩
theorem DrOK.sm {m : Prop} {d : Dt} (h : DrOK m d) : Sm7 d := by
  obtain ⟨r1, r2, r3⟩ := h.right.1
  refine ⟨by omega, by omega, fun c hc => ?_⟩
  have := (h.right.2.2.1 c hc).1
  omega
theorem getD3 {L : List Dt} {P : Dt → Prop} (h : ∀ d ∈ L, P d) {j : Nat} (hj : j < L.length) : P (L.getD j ⟨[], []⟩) := h _ (getD_memL _ hj)

theorem same_zero : Pure cx 23 [faZ.pv, faZ.pv] (· = .ret [.bool true]) := by
  have h := sameFactor_c faZ faZ (by decide) (by decide)
  rw [decide_eq_true rfl] at h
  exact h
theorem dataCounts_c (D : Df) (B : Bn) (set : UInt8) (vars : List Int) (raw : Dt) (hD : DfOK D) (hr1 : raw.cards.length ≤ 9223372036854775807) (hr2 : raw.cases.length ≤ 9223372036854775807) (hr3 : ∀ c ∈ raw.cases, c.length ≤ 9223372036854775807) :
    Pure cx 4 [D.pv, B.pv, u8 set, ints vars, raw.pv] (· = .ret [.bool true]) := by
  refine pure_of_vc Tryd.func4 rfl rfl rfl ?_
  refine (data_c D hD.five hD.miss).at fun r hr => ?_
  obtain ⟨x, hx, rfl⟩ := hr
  have hxs := hx.sm
  refine ⟨min_ok i64 vars 8, ?_⟩
  refine VDraw.seq rfl ?_
  refine (of_c B x hx.right).at fun r hr => ?_
  obtain ⟨y, hy, rfl⟩ := hr
  have hys := hy.sm
  refine ⟨by (repeat' first | exact trivial | exact rfl | exact ⟨rfl, rfl⟩ | exact .inl rfl | refine ⟨_, rfl, rfl, rfl, ?_⟩ | refine ⟨_, _, rfl, ?_, ?_⟩ | refine ⟨_, rfl, ?_⟩ | refine And.intro ?_ ?_), ?_⟩
  refine (few_c raw hr1 hr2 hr3).eq rfl ?_
  refine ⟨by (repeat' first | exact trivial | exact rfl | exact ⟨rfl, rfl⟩ | exact .inl rfl | refine ⟨_, rfl, rfl, rfl, ?_⟩ | refine ⟨_, _, rfl, ?_, ?_⟩ | refine ⟨_, rfl, ?_⟩ | refine And.intro ?_ ?_), ?_⟩
  obtain ⟨L, hL⟩ : ∃ L : List Dt, L = [x, y, fewN raw] := ⟨_, rfl⟩
  have hL3 : L.length = 3 := by rw [hL]; rfl
  have hLs : ∀ d ∈ L, Sm7 d := by
    rw [hL]
    intro d hd
    simp only [List.mem_cons, List.not_mem_nil, or_false] at hd
    rcases hd with rfl | rfl | rfl
    · exact hxs
    · exact hys
    · exact few_sm raw
  have eL : PV.agg (L.flatMap Dt.cells) = .agg [ints x.cards, .lst (x.cases.map ints), ints y.cards, .lst (y.cases.map ints), ints (fewN raw).cards, .lst ((fewN raw).cases.map ints)] := by rw [hL]; rfl
  have hv8 : (vars.take 8).length ≤ 8 := by rw [List.length_take]; omega
  obtain ⟨vs, hvs⟩ : ∃ vs, vs = vars.take 8 := ⟨_, rfl⟩
  rw [← hvs] at hv8
  refine ⟨Nat, fun j => [(2, .p (u8 set)), (3, .p (ints vs)), (11, .ptr 3 0 0), (35, .p (.agg (L.flatMap Dt.cells))), (36, .p (i64 j))], fun _ => ⟨4, [(3, dtO x)]⟩, fun j => j ≤ 3, fun j => 3 - j, ?_, ?_⟩
  · exact ⟨0, by omega, ent_of [] [] [] rfl ⟨rfl, (congrArg PV.lst ((min_sub i64 vars 8).trans (by rw [hvs]))).symm, ⟨rfl, rfl⟩, eL, rfl, trivial⟩ (by (repeat' first | exact trivial | exact rfl | exact ⟨rfl, rfl⟩ | exact .inl rfl | refine ⟨_, rfl, rfl, rfl, ?_⟩ | refine ⟨_, _, rfl, ?_, ?_⟩ | refine ⟨_, rfl, ?_⟩ | refine And.intro ?_ ?_)) rfl⟩
  intro j hj
  (first | refine brLt (fun h1 => ?_) (fun h1 => ?_) | refine brLe (fun h1 => ?_) (fun h1 => ?_) | refine brEq (fun h1 => ?_) (fun h1 => ?_))
  · have h1 : (j : Int) < 3 := h1
    have hj : j < L.length := by omega
    have hz := getD3 hLs hj
    obtain ⟨z, hzz⟩ : ∃ z, z = L.getD j ⟨[], []⟩ := ⟨_, rfl⟩
    rw [← hzz] at hz
    have hld : ldInP Tryd.prog TD (L.flatMap Dt.cells) ((j : Int).toNat * 2) = some z.pv := by rw [Int.toNat_natCast, hzz]; exact ld_flat (by kernel_rfl) hj
    have hR := right_c z hz
    have hC := check_c z hz
    obtain ⟨ws, hws⟩ : ∃ ws, ws = varsN set x.cards.length := ⟨_, rfl⟩
    have hxl : x.cards.length ≤ 6 := hx.right.1.2.1
    have hV := vars_c x.cards.length set (by omega)
    rw [← hws] at hV
    have hwl : ws.length ≤ 8 := by rw [hws]; have := vars_len set x.cards.length; omega
    obtain ⟨M, hM⟩ : ∃ M : List (List Int), M = [vs, ws] := ⟨_, rfl⟩
    have hM2 : M.length = 2 := by rw [hM]; rfl
    have hMl : ∀ l ∈ M, l.length ≤ 8 := by
      rw [hM]
      intro l hl
      simp only [List.mem_cons, List.not_mem_nil, or_false] at hl
      rcases hl with rfl | rfl
      · exact hv8
      · exact hwl
    have eM : PV.agg (M.map ints) = .agg [ints vs, ints ws] := by rw [hM]; rfl
    refine ⟨_, ⟨⟨by omega, by omega⟩, z.pv, hld, rfl⟩, ?_⟩
    by_cases hr : rightP z
    · rw [decide_eq_true hr] at hR
      rw [checkD, if_pos hr] at hC
      refine hR.eq rfl ?_
      refine hC.eq rfl ?_
      refine And.intro (fun _ => ?_) (fun h => absurd rfl h)
      refine And.intro (fun _ => ?_) (fun h => absurd rfl h)
      refine hV.eq (congrArg (fun n : Nat => [AV.p (i64 n), AV.p (u8 set)]) (show (x.cards.map i64).length = x.cards.length by simp)) ?_
      refine ⟨Nat, fun k => [(2, .p (u8 set)), (3, .p (ints vs)), (11, .ptr 3 0 0), (35, .p (.agg (L.flatMap Dt.cells))), (36, .p (i64 j)), (13, .ptr 4 0 0), (14, .p (.bool true)), (61, .p (.agg (M.map ints))), (62, .p (i64 k))], fun _ => ⟨5, [(4, dtO z), (3, dtO x)]⟩, fun k => k ≤ 2, fun k => 2 - k, ?_, ?_⟩
      · exact ⟨0, by omega, ent_of [] [] [] rfl ⟨rfl, rfl, ⟨rfl, rfl⟩, res_p _ _, rfl, ⟨rfl, rfl⟩, rfl, eM, rfl, trivial⟩ (by (repeat' first | exact trivial | exact rfl | exact ⟨rfl, rfl⟩ | exact .inl rfl | refine ⟨_, rfl, rfl, rfl, ?_⟩ | refine ⟨_, _, rfl, ?_, ?_⟩ | refine ⟨_, rfl, ?_⟩ | refine And.intro ?_ ?_)) rfl⟩
      intro k hk
      (first | refine brLt (fun h2 => ?_) (fun h2 => ?_) | refine brLe (fun h2 => ?_) (fun h2 => ?_) | refine brEq (fun h2 => ?_) (fun h2 => ?_))
      rotate_left
      · refine ⟨(j : Int) + 1, wrap_i64 (by omega) (by omega), ?_⟩
        exact ⟨j + 1, by omega, ent_of [] [] [] rfl ⟨rfl, rfl, ⟨rfl, rfl⟩, res_p _ _, rfl, trivial⟩ (by (repeat' first | exact trivial | exact rfl | exact ⟨rfl, rfl⟩ | exact .inl rfl | refine ⟨_, rfl, rfl, rfl, ?_⟩ | refine ⟨_, _, rfl, ?_, ?_⟩ | refine ⟨_, rfl, ?_⟩ | refine And.intro ?_ ?_)) rfl, by show 3 - (j + 1) < 3 - j; omega⟩
      have h2 : (k : Int) < 2 := h2
      have hk : k < M.length := by omega
      have hl8 := hMl _ (getD_memL [] hk)
      obtain ⟨l, hll⟩ : ∃ l, l = M.getD k [] := ⟨_, rfl⟩
      rw [← hll] at hl8
      have hcell : (M.map ints)[(k : Int).toNat * 1]? = some (ints l) := by rw [Int.toNat_natCast, Nat.mul_one, hll]; exact ccell hk
      have hK := count_c z l hz (by omega)
      have hZ := same_zero
      refine ⟨_, ⟨⟨by omega, by omega⟩, ints l, ldInP1 (by kernel_rfl) hcell, rfl⟩, ?_⟩
      · have hI := list_c z.cards.length l (by omega)
        by_cases hl : listP z.cards.length l
        · rw [decide_eq_true hl] at hI
          rw [countV, countP, if_pos hr, if_pos hl] at hK
          have hB := countP_len hz (show l.length ≤ 1000 by omega)
          rw [countP, if_pos hr, if_pos hl] at hB
          have hB' : (countN z l).vars.length ≤ 10000 ∧ (countN z l).cards.length ≤ 10000 ∧ (countN z l).w.length ≤ 10000 := ⟨Nat.le_trans hB.1 (by decide), Nat.le_trans hB.2.1 (by decide), Nat.le_trans hB.2.2 (by decide)⟩
          have hS := sameFactor_c (countN z l) (countN z l) hB' hB'
          rw [decide_eq_true rfl] at hS
          refine hK.eq rfl ?_
          refine hI.eq (congrArg (fun n : Nat => [AV.p (i64 n), AV.p (ints l)]) (show (z.cards.map i64).length = z.cards.length by simp)) ?_
          refine (rCount_c z l hr hl).eq rfl ?_
          refine And.intro (fun _ => ?_) (fun h => absurd rfl h)
          refine hS.eq rfl ?_
          refine ⟨(k : Int) + 1, wrap_i64 (by omega) (by omega), ?_⟩
          exact ⟨k + 1, by omega, ent_of [] [] [] rfl ⟨rfl, rfl, ⟨rfl, rfl⟩, res_p _ _, rfl, ⟨rfl, rfl⟩, rfl, res_p _ _, rfl, trivial⟩ (by (repeat' first | exact trivial | exact rfl | exact ⟨rfl, rfl⟩ | exact .inl rfl | refine ⟨_, rfl, rfl, rfl, ?_⟩ | refine ⟨_, _, rfl, ?_, ?_⟩ | refine ⟨_, rfl, ?_⟩ | refine And.intro ?_ ?_)) rfl, by show 2 - (k + 1) < 2 - k; omega⟩
        · rw [decide_eq_false hl] at hI
          rw [countV, countP, if_pos hr, if_neg hl] at hK
          refine hK.eq rfl ?_
          refine hI.eq (congrArg (fun n : Nat => [AV.p (i64 n), AV.p (ints l)]) (show (z.cards.map i64).length = z.cards.length by simp)) ?_
          refine And.intro (fun _ => ?_) (fun h => absurd rfl h)
          refine hZ.lends [] rfl ⟨_, _, rfl, rfl, _, _, rfl, zrF, rfl⟩ ?_
          refine ⟨(k : Int) + 1, wrap_i64 (by omega) (by omega), ?_⟩
          exact ⟨k + 1, by omega, ent_of [] [] [] rfl ⟨rfl, rfl, ⟨rfl, rfl⟩, res_p _ _, rfl, ⟨rfl, rfl⟩, rfl, res_p _ _, rfl, trivial⟩ (by (repeat' first | exact trivial | exact rfl | exact ⟨rfl, rfl⟩ | exact .inl rfl | refine ⟨_, rfl, rfl, rfl, ?_⟩ | refine ⟨_, _, rfl, ?_, ?_⟩ | refine ⟨_, rfl, ?_⟩ | refine And.intro ?_ ?_)) rfl, by show 2 - (k + 1) < 2 - k; omega⟩
    · rw [decide_eq_false hr] at hR
      rw [checkD, if_neg hr] at hC
      refine hR.eq rfl ?_
      refine hC.eq rfl ?_
      refine And.intro (fun h => absurd (show (250 : Int) = 0 from h) (by decide)) (fun _ => ?_)
      refine And.intro (fun _ => ?_) (fun h => absurd rfl h)
      refine And.intro (fun _ => ?_) (fun h => absurd rfl h)
      refine hV.eq (congrArg (fun n : Nat => [AV.p (i64 n), AV.p (u8 set)]) (show (x.cards.map i64).length = x.cards.length by simp)) ?_
      refine ⟨Nat, fun k => [(2, .p (u8 set)), (3, .p (ints vs)), (11, .ptr 3 0 0), (35, .p (.agg (L.flatMap Dt.cells))), (36, .p (i64 j)), (13, .ptr 4 0 0), (14, .p (.bool false)), (61, .p (.agg (M.map ints))), (62, .p (i64 k))], fun _ => ⟨5, [(4, dtO z), (3, dtO x)]⟩, fun k => k ≤ 2, fun k => 2 - k, ?_, ?_⟩
      · exact ⟨0, by omega, ent_of [] [] [] rfl ⟨rfl, rfl, ⟨rfl, rfl⟩, res_p _ _, rfl, ⟨rfl, rfl⟩, rfl, eM, rfl, trivial⟩ (by (repeat' first | exact trivial | exact rfl | exact ⟨rfl, rfl⟩ | exact .inl rfl | refine ⟨_, rfl, rfl, rfl, ?_⟩ | refine ⟨_, _, rfl, ?_, ?_⟩ | refine ⟨_, rfl, ?_⟩ | refine And.intro ?_ ?_)) rfl⟩
      intro k hk
      (first | refine brLt (fun h2 => ?_) (fun h2 => ?_) | refine brLe (fun h2 => ?_) (fun h2 => ?_) | refine brEq (fun h2 => ?_) (fun h2 => ?_))
      rotate_left
      · refine ⟨(j : Int) + 1, wrap_i64 (by omega) (by omega), ?_⟩
        exact ⟨j + 1, by omega, ent_of [] [] [] rfl ⟨rfl, rfl, ⟨rfl, rfl⟩, res_p _ _, rfl, trivial⟩ (by (repeat' first | exact trivial | exact rfl | exact ⟨rfl, rfl⟩ | exact .inl rfl | refine ⟨_, rfl, rfl, rfl, ?_⟩ | refine ⟨_, _, rfl, ?_, ?_⟩ | refine ⟨_, rfl, ?_⟩ | refine And.intro ?_ ?_)) rfl, by show 3 - (j + 1) < 3 - j; omega⟩
      have h2 : (k : Int) < 2 := h2
      have hk : k < M.length := by omega
      have hl8 := hMl _ (getD_memL [] hk)
      obtain ⟨l, hll⟩ : ∃ l, l = M.getD k [] := ⟨_, rfl⟩
      rw [← hll] at hl8
      have hcell : (M.map ints)[(k : Int).toNat * 1]? = some (ints l) := by rw [Int.toNat_natCast, Nat.mul_one, hll]; exact ccell hk
      have hK := count_c z l hz (by omega)
      have hZ := same_zero
      refine ⟨_, ⟨⟨by omega, by omega⟩, ints l, ldInP1 (by kernel_rfl) hcell, rfl⟩, ?_⟩
      · rw [countV, countP, if_neg hr] at hK
        refine hK.eq rfl ?_
        refine And.intro (fun _ => ?_) (fun h => absurd rfl h)
        refine hZ.lends [] rfl ⟨_, _, rfl, rfl, _, _, rfl, zrF, rfl⟩ ?_
        refine ⟨(k : Int) + 1, wrap_i64 (by omega) (by omega), ?_⟩
        exact ⟨k + 1, by omega, ent_of [] [] [] rfl ⟨rfl, rfl, ⟨rfl, rfl⟩, res_p _ _, rfl, ⟨rfl, rfl⟩, rfl, res_p _ _, rfl, trivial⟩ (by (repeat' first | exact trivial | exact rfl | exact ⟨rfl, rfl⟩ | exact .inl rfl | refine ⟨_, rfl, rfl, rfl, ?_⟩ | refine ⟨_, _, rfl, ?_, ?_⟩ | refine ⟨_, rfl, ?_⟩ | refine And.intro ?_ ?_)) rfl, by show 2 - (k + 1) < 2 - k; omega⟩
  · refine works_c.eq rfl ?_
    exact end1 _ rfl rfl rfl
end Go.Proofs.YtmdmjnfdemgpoaaDoor

/- The statement on parts. -/
namespace Go.Proofs.YtmdmjnfdemgpoaaDoor
open Go Y
set_option maxRecDepth 100000
set_option maxHeartbeats 4000000

theorem same_refl (d : Dt) (h : Sm7 d) : Pure cx 28 [d.pv, d.pv] (· = .ret [.bool true]) := by
  have h := same_c d d h h
  rw [decide_eq_true rfl] at h
  exact h
theorem zero_sm : Sm7 dtZero := ⟨by decide, by decide, by simp [dtZero]⟩
theorem complete_sm {d : Dt} (h : Sm7 d) : Sm7 (completeN d) := by
  refine ⟨h.1, Nat.le_trans (List.length_filter_le _ _) h.2.1, fun c hc => h.2.2 c (List.mem_filter.1 hc |>.1)⟩
theorem pick_mem {p : Nat → Bool} {c : List Int} : ∀ {l : List (List Int)} {k : Nat}, c ∈ pickN p k l → c ∈ l
  | [], k, h => by simp [pickN] at h
  | x :: l, k, h => by
    rw [pickN] at h
    split at h
    · rcases List.mem_cons.1 h with rfl | h
      · simp
      · exact List.mem_cons_of_mem _ (pick_mem h)
    · exact List.mem_cons_of_mem _ (pick_mem h)
theorem part_sm {d : Dt} {p i : Int} (h : Sm7 d) : Sm7 (partN d p i) ∧ Sm7 (restN d p i) :=
  ⟨⟨h.1, Nat.le_trans (pick_len _ _ _) h.2.1, fun c hc => h.2.2 c (pick_mem hc)⟩, ⟨h.1, Nat.le_trans (pick_len _ _ _) h.2.1, fun c hc => h.2.2 c (pick_mem hc)⟩⟩

theorem dataParts_c (D : Df) (B : Bn) (parts i : Int) (raw : Dt) (hD : DfOK D) (hr1 : raw.cards.length ≤ 9223372036854775807) (hr2 : raw.cases.length ≤ 9223372036854775807) (hr3 : ∀ c ∈ raw.cases, c.length ≤ 9223372036854775807) :
    Pure cx 5 [D.pv, B.pv, i64 parts, i64 i, raw.pv] (· = .ret [.bool true]) := by
  refine pure_of_vc Tryd.func5 rfl rfl rfl ?_
  refine (data_c D hD.five hD.miss).at fun r hr => ?_
  obtain ⟨x, hx, rfl⟩ := hr
  have hxs := hx.sm
  refine VDraw.seq rfl ?_
  refine (of_c B x hx.right).at fun r hr => ?_
  obtain ⟨y, hy, rfl⟩ := hr
  have hys := hy.sm
  refine ⟨by (repeat' first | exact trivial | exact rfl | exact ⟨rfl, rfl⟩ | exact .inl rfl | refine ⟨_, rfl, rfl, rfl, ?_⟩ | refine ⟨_, _, rfl, ?_, ?_⟩ | refine ⟨_, rfl, ?_⟩ | refine And.intro ?_ ?_), ?_⟩
  refine (few_c raw hr1 hr2 hr3).eq rfl ?_
  refine ⟨by (repeat' first | exact trivial | exact rfl | exact ⟨rfl, rfl⟩ | exact .inl rfl | refine ⟨_, rfl, rfl, rfl, ?_⟩ | refine ⟨_, _, rfl, ?_, ?_⟩ | refine ⟨_, rfl, ?_⟩ | refine And.intro ?_ ?_), ?_⟩
  obtain ⟨L, hL⟩ : ∃ L : List Dt, L = [x, y, fewN raw] := ⟨_, rfl⟩
  have hL3 : L.length = 3 := by rw [hL]; rfl
  have hLs : ∀ d ∈ L, Sm7 d := by
    rw [hL]
    intro d hd
    simp only [List.mem_cons, List.not_mem_nil, or_false] at hd
    rcases hd with rfl | rfl | rfl
    · exact hxs
    · exact hys
    · exact few_sm raw
  have eL : PV.agg (L.flatMap Dt.cells) = .agg [ints x.cards, .lst (x.cases.map ints), ints y.cards, .lst (y.cases.map ints), ints (fewN raw).cards, .lst ((fewN raw).cases.map ints)] := by rw [hL]; rfl
  refine ⟨Nat, fun j => [(2, .p (i64 parts)), (3, .p (i64 i)), (32, .p (.agg (L.flatMap Dt.cells))), (33, .p (i64 j))], fun _ => ⟨0, []⟩, fun j => j ≤ 3, fun j => 3 - j, ?_, ?_⟩
  · exact ⟨0, by omega, ent_of [] [] [] rfl ⟨rfl, rfl, eL, rfl, trivial⟩ (by (repeat' first | exact trivial | exact rfl | exact ⟨rfl, rfl⟩ | exact .inl rfl | refine ⟨_, rfl, rfl, rfl, ?_⟩ | refine ⟨_, _, rfl, ?_, ?_⟩ | refine ⟨_, rfl, ?_⟩ | refine And.intro ?_ ?_)) rfl⟩
  intro j hj
  (first | refine brLt (fun h1 => ?_) (fun h1 => ?_) | refine brLe (fun h1 => ?_) (fun h1 => ?_) | refine brEq (fun h1 => ?_) (fun h1 => ?_))
  · have h1 : (j : Int) < 3 := h1
    have hj : j < L.length := by omega
    have hz := getD3 hLs hj
    obtain ⟨z, hzz⟩ : ∃ z, z = L.getD j ⟨[], []⟩ := ⟨_, rfl⟩
    rw [← hzz] at hz
    have hld : ldInP Tryd.prog TD (L.flatMap Dt.cells) ((j : Int).toNat * 2) = some z.pv := by rw [Int.toNat_natCast, hzz]; exact ld_flat (by kernel_rfl) hj
    have hR := right_c z hz
    have hC := complete_c z hz
    have hP := split_c z parts i hz
    refine ⟨_, ⟨⟨by omega, by omega⟩, z.pv, hld, rfl⟩, ?_⟩
    by_cases hr : rightP z
    · rw [decide_eq_true hr] at hR
      rw [checkD, if_pos hr, if_pos hr] at hC
      have hcs := complete_sm hz
      refine hC.eq rfl ?_
      by_cases ho : okSplit parts i
      · rw [splitV, if_pos hr, if_pos ho] at hP
        have hps := part_sm (p := parts) (i := i) hz
        obtain ⟨o1, o2, o3, o4⟩ := ho
        refine hP.eq rfl ?_
        refine hR.eq rfl ?_
        refine (rComplete_c z hz).eq rfl ?_
        refine And.intro (fun _ => ?_) (fun h => absurd (show (1 : Int) ≤ parts from o1) h)
        refine And.intro (fun _ => ?_) (fun h => absurd (show parts ≤ (40 : Int) from o2) h)
        refine And.intro (fun _ => ?_) (fun h => absurd (show (0 : Int) ≤ i from o3) h)
        refine And.intro (fun _ => ?_) (fun h => absurd (show i < parts from o4) h)
        refine (rSplit_c z parts i hz (by omega)).eq rfl ?_
        refine And.intro (fun _ => ?_) (fun h => absurd rfl h)
        refine And.intro (fun _ => ?_) (fun h => absurd rfl h)
        refine (same_refl _ hcs).eq rfl ?_
        refine (same_refl _ hps.1).eq rfl ?_
        refine (same_refl _ hps.2).eq rfl ?_
        refine ⟨(j : Int) + 1, wrap_i64 (by omega) (by omega), ?_⟩
        exact ⟨j + 1, by omega, ent_of [] [] [] rfl ⟨rfl, rfl, res_p _ _, rfl, trivial⟩ (by (repeat' first | exact trivial | exact rfl | exact ⟨rfl, rfl⟩ | exact .inl rfl | refine ⟨_, rfl, rfl, rfl, ?_⟩ | refine ⟨_, _, rfl, ?_, ?_⟩ | refine ⟨_, rfl, ?_⟩ | refine And.intro ?_ ?_)) rfl, by show 3 - (j + 1) < 3 - j; omega⟩
      · rw [splitV, if_pos hr, if_neg ho] at hP
        refine hP.eq rfl ?_
        refine hR.eq rfl ?_
        refine (rComplete_c z hz).eq rfl ?_
        (first | refine brLt (fun k1 => ?_) (fun k1 => ?_) | refine brLe (fun k1 => ?_) (fun k1 => ?_) | refine brEq (fun k1 => ?_) (fun k1 => ?_))
        · (first | refine brLt (fun k2 => ?_) (fun k2 => ?_) | refine brLe (fun k2 => ?_) (fun k2 => ?_) | refine brEq (fun k2 => ?_) (fun k2 => ?_))
          · (first | refine brLt (fun k3 => ?_) (fun k3 => ?_) | refine brLe (fun k3 => ?_) (fun k3 => ?_) | refine brEq (fun k3 => ?_) (fun k3 => ?_))
            · (first | refine brLt (fun k4 => ?_) (fun k4 => ?_) | refine brLe (fun k4 => ?_) (fun k4 => ?_) | refine brEq (fun k4 => ?_) (fun k4 => ?_))
              · exact absurd ⟨k1, k2, k3, k4⟩ ho
              · refine And.intro (fun _ => ?_) (fun h => absurd rfl h)
                refine And.intro (fun _ => ?_) (fun h => absurd rfl h)
                refine (same_refl _ hcs).eq rfl ?_
                refine (same_refl _ zero_sm).lends [] rfl ⟨_, _, rfl, rfl, _, _, rfl, zrD, rfl⟩ ?_
                refine (same_refl _ zero_sm).lends [] rfl ⟨_, _, rfl, rfl, _, _, rfl, zrD, rfl⟩ ?_
                refine ⟨(j : Int) + 1, wrap_i64 (by omega) (by omega), ?_⟩
                exact ⟨j + 1, by omega, ent_of [] [] [] rfl ⟨rfl, rfl, res_p _ _, rfl, trivial⟩ (by (repeat' first | exact trivial | exact rfl | exact ⟨rfl, rfl⟩ | exact .inl rfl | refine ⟨_, rfl, rfl, rfl, ?_⟩ | refine ⟨_, _, rfl, ?_, ?_⟩ | refine ⟨_, rfl, ?_⟩ | refine And.intro ?_ ?_)) rfl, by show 3 - (j + 1) < 3 - j; omega⟩
            · refine And.intro (fun _ => ?_) (fun h => absurd rfl h)
              refine And.intro (fun _ => ?_) (fun h => absurd rfl h)
              refine (same_refl _ hcs).eq rfl ?_
              refine (same_refl _ zero_sm).lends [] rfl ⟨_, _, rfl, rfl, _, _, rfl, zrD, rfl⟩ ?_
              refine (same_refl _ zero_sm).lends [] rfl ⟨_, _, rfl, rfl, _, _, rfl, zrD, rfl⟩ ?_
              refine ⟨(j : Int) + 1, wrap_i64 (by omega) (by omega), ?_⟩
              exact ⟨j + 1, by omega, ent_of [] [] [] rfl ⟨rfl, rfl, res_p _ _, rfl, trivial⟩ (by (repeat' first | exact trivial | exact rfl | exact ⟨rfl, rfl⟩ | exact .inl rfl | refine ⟨_, rfl, rfl, rfl, ?_⟩ | refine ⟨_, _, rfl, ?_, ?_⟩ | refine ⟨_, rfl, ?_⟩ | refine And.intro ?_ ?_)) rfl, by show 3 - (j + 1) < 3 - j; omega⟩
          · refine And.intro (fun _ => ?_) (fun h => absurd rfl h)
            refine And.intro (fun _ => ?_) (fun h => absurd rfl h)
            refine (same_refl _ hcs).eq rfl ?_
            refine (same_refl _ zero_sm).lends [] rfl ⟨_, _, rfl, rfl, _, _, rfl, zrD, rfl⟩ ?_
            refine (same_refl _ zero_sm).lends [] rfl ⟨_, _, rfl, rfl, _, _, rfl, zrD, rfl⟩ ?_
            refine ⟨(j : Int) + 1, wrap_i64 (by omega) (by omega), ?_⟩
            exact ⟨j + 1, by omega, ent_of [] [] [] rfl ⟨rfl, rfl, res_p _ _, rfl, trivial⟩ (by (repeat' first | exact trivial | exact rfl | exact ⟨rfl, rfl⟩ | exact .inl rfl | refine ⟨_, rfl, rfl, rfl, ?_⟩ | refine ⟨_, _, rfl, ?_, ?_⟩ | refine ⟨_, rfl, ?_⟩ | refine And.intro ?_ ?_)) rfl, by show 3 - (j + 1) < 3 - j; omega⟩
        · refine And.intro (fun _ => ?_) (fun h => absurd rfl h)
          refine And.intro (fun _ => ?_) (fun h => absurd rfl h)
          refine (same_refl _ hcs).eq rfl ?_
          refine (same_refl _ zero_sm).lends [] rfl ⟨_, _, rfl, rfl, _, _, rfl, zrD, rfl⟩ ?_
          refine (same_refl _ zero_sm).lends [] rfl ⟨_, _, rfl, rfl, _, _, rfl, zrD, rfl⟩ ?_
          refine ⟨(j : Int) + 1, wrap_i64 (by omega) (by omega), ?_⟩
          exact ⟨j + 1, by omega, ent_of [] [] [] rfl ⟨rfl, rfl, res_p _ _, rfl, trivial⟩ (by (repeat' first | exact trivial | exact rfl | exact ⟨rfl, rfl⟩ | exact .inl rfl | refine ⟨_, rfl, rfl, rfl, ?_⟩ | refine ⟨_, _, rfl, ?_, ?_⟩ | refine ⟨_, rfl, ?_⟩ | refine And.intro ?_ ?_)) rfl, by show 3 - (j + 1) < 3 - j; omega⟩
    · rw [decide_eq_false hr] at hR
      rw [checkD, if_neg hr, if_neg hr] at hC
      rw [splitV, if_neg hr] at hP
      refine hC.eq rfl ?_
      refine hP.eq rfl ?_
      refine hR.eq rfl ?_
      refine And.intro (fun _ => ?_) (fun h => absurd rfl h)
      refine And.intro (fun _ => ?_) (fun h => absurd rfl h)
      refine (same_refl _ zero_sm).lends [] rfl ⟨_, _, rfl, rfl, _, _, rfl, zrD, rfl⟩ ?_
      refine (same_refl _ zero_sm).lends [] rfl ⟨_, _, rfl, rfl, _, _, rfl, zrD, rfl⟩ ?_
      refine (same_refl _ zero_sm).lends [] rfl ⟨_, _, rfl, rfl, _, _, rfl, zrD, rfl⟩ ?_
      refine ⟨(j : Int) + 1, wrap_i64 (by omega) (by omega), ?_⟩
      exact ⟨j + 1, by omega, ent_of [] [] [] rfl ⟨rfl, rfl, res_p _ _, rfl, trivial⟩ (by (repeat' first | exact trivial | exact rfl | exact ⟨rfl, rfl⟩ | exact .inl rfl | refine ⟨_, rfl, rfl, rfl, ?_⟩ | refine ⟨_, _, rfl, ?_, ?_⟩ | refine ⟨_, rfl, ?_⟩ | refine And.intro ?_ ?_)) rfl, by show 3 - (j + 1) < 3 - j; omega⟩
  · refine works_c.eq rfl ?_
    exact end1 _ rfl rfl rfl
end Go.Proofs.YtmdmjnfdemgpoaaDoor

/- The statement on texts. -/
namespace Go.Proofs.YtmdmjnfdemgpoaaDoor
open Go Y
set_option maxRecDepth 100000
set_option maxHeartbeats 4000000

structure Ed where
  spot : UInt16
  less : UInt8
  text : List UInt8
abbrev Ed.cells (x : Ed) : List PV := [.int .u16 (x.spot.toNat : Int), u8 x.less, .str x.text]
abbrev Ed.pv (x : Ed) : PV := .agg x.cells

theorem ty_edit {m : Nat} {xs : List PV} (h : TyT Tryd.prog (m + 2) 63 xs) : ∃ x : Ed, xs = x.cells ∧ x.text.length ≤ 9223372036854775807 := by
  have hp : partsOf Tryd.prog 63 = some [(61, 0), (5, 1), (9, 2)] := by kernel_rfl
  rw [TyT] at h
  simp only [hp] at h
  obtain ⟨x1, _, rfl, _, h1, x2, _, rfl, _, h2, x3, _, rfl, _, h3, rfl⟩ := h
  obtain ⟨a, rfl⟩ := ty_u16 h1
  obtain ⟨b, rfl⟩ := ty_u8 h2
  obtain ⟨c, rfl, hc⟩ := ty_str h3
  exact ⟨⟨a, b, c⟩, rfl, hc⟩
theorem arg_edit {m : Nat} {x : PV} (h : ArgT Tryd.prog (m + 2) 63 x) : ∃ e : Ed, x = e.pv ∧ e.text.length ≤ 9223372036854775807 := by
  have hp : partsOf Tryd.prog 63 = some [(61, 0), (5, 1), (9, 2)] := by kernel_rfl
  simp only [ArgT, hp] at h
  obtain ⟨xs, rfl, h⟩ := h
  obtain ⟨w, rfl, hw⟩ := ty_edit h
  exact ⟨w, rfl, hw⟩

def edO (x : Ed) : AObj := ⟨63, false, .bx (x.cells.map .p)⟩
theorem edit_c (x : Ed) (s : List UInt8) (hx : x.text.length ≤ 9223372036854775807) (hs : s.length ≤ 100000) : Pure cx 31 [x.pv, .str s] fun r => ∃ t : List UInt8, t.length ≤ s.length + 20 ∧ r = .ret [.str t] := by
  refine pure_of_vc Tryd.func31 rfl rfl rfl ?_
  have h1 := x.spot.toNat_lt
  have h2 := x.less.toNat_lt
  refine ⟨(x.spot.toNat : Int), wrap_i64 (by omega) (by omega), ?_⟩
  obtain ⟨a, ha⟩ : ∃ a, a = (if ((s.length : Nat) : Int) < (x.spot.toNat : Int) then ((s.length : Nat) : Int) else (x.spot.toNat : Int)) := ⟨_, rfl⟩
  have ha' : 0 ≤ a ∧ a ≤ (s.length : Nat) := by rw [ha]; split <;> omega
  obtain ⟨c, hc⟩ : ∃ c, c = (if (20 : Int) < (x.text.length : Nat) then (20 : Int) else ((x.text.length : Nat) : Int)) := ⟨_, rfl⟩
  have hc' : 0 ≤ c ∧ c ≤ (x.text.length : Nat) ∧ c ≤ 20 := by rw [hc]; split <;> omega
  obtain ⟨b, hb⟩ : ∃ b, b = (if ((s.length : Nat) : Int) < a + (x.less.toNat : Int) then ((s.length : Nat) : Int) else a + (x.less.toNat : Int)) := ⟨_, rfl⟩
  have hb' : 0 ≤ b ∧ b ≤ (s.length : Nat) := by rw [hb]; split <;> omega
  have hb2 : a ≤ b := by rw [hb]; split <;> omega
  have l1 : (s.take a.toNat).length ≤ a.toNat := by rw [List.length_take]; omega
  have l2 : (x.text.take c.toNat).length ≤ 20 := by rw [List.length_take]; omega
  have l3 : (s.drop b.toNat).length = s.length - b.toNat := List.length_drop ..
  refine VDraw.seq rfl ?_
  refine ⟨by show 0 ≤ (if ((s.length : Nat) : Int) < (x.spot.toNat : Int) then ((s.length : Nat) : Int) else (x.spot.toNat : Int)) ∧ (if ((s.length : Nat) : Int) < (x.spot.toNat : Int) then ((s.length : Nat) : Int) else (x.spot.toNat : Int)) ≤ (s.length : Nat); rw [← ha]; exact ha', ?_⟩
  refine ⟨by show 0 ≤ (if (20 : Int) < (x.text.length : Nat) then (20 : Int) else ((x.text.length : Nat) : Int)) ∧ (if (20 : Int) < (x.text.length : Nat) then (20 : Int) else ((x.text.length : Nat) : Int)) ≤ (x.text.length : Nat); rw [← hc]; omega, ?_⟩
  refine ⟨by show (s.take (if ((s.length : Nat) : Int) < (x.spot.toNat : Int) then ((s.length : Nat) : Int) else (x.spot.toNat : Int)).toNat).length + (x.text.take (if (20 : Int) < (x.text.length : Nat) then (20 : Int) else ((x.text.length : Nat) : Int)).toNat).length ≤ _; rw [← ha, ← hc]; omega, ?_⟩
  refine ⟨(x.less.toNat : Int), wrap_i64 (by omega) (by omega), ?_⟩
  refine ⟨a + (x.less.toNat : Int), by rw [ha]; exact wrap_i64 (by rw [← ha]; omega) (by rw [← ha]; omega), ?_⟩
  refine ⟨by show 0 ≤ (if ((s.length : Nat) : Int) < a + (x.less.toNat : Int) then ((s.length : Nat) : Int) else a + (x.less.toNat : Int)) ∧ (if ((s.length : Nat) : Int) < a + (x.less.toNat : Int) then ((s.length : Nat) : Int) else a + (x.less.toNat : Int)) ≤ (s.length : Nat); rw [← hb]; exact hb', ?_⟩
  refine ⟨by show ((s.take (if ((s.length : Nat) : Int) < (x.spot.toNat : Int) then ((s.length : Nat) : Int) else (x.spot.toNat : Int)).toNat) ++ (x.text.take (if (20 : Int) < (x.text.length : Nat) then (20 : Int) else ((x.text.length : Nat) : Int)).toNat)).length + (s.drop (if ((s.length : Nat) : Int) < a + (x.less.toNat : Int) then ((s.length : Nat) : Int) else a + (x.less.toNat : Int)).toNat).length ≤ _; rw [← ha, ← hc, ← hb, List.length_append]; omega, ?_⟩
  refine end1 _ rfl rfl ⟨_, ?_, rfl⟩
  show (((s.take (if ((s.length : Nat) : Int) < (x.spot.toNat : Int) then ((s.length : Nat) : Int) else (x.spot.toNat : Int)).toNat) ++ (x.text.take (if (20 : Int) < (x.text.length : Nat) then (20 : Int) else ((x.text.length : Nat) : Int)).toNat)) ++ (s.drop (if ((s.length : Nat) : Int) < a + (x.less.toNat : Int) then ((s.length : Nat) : Int) else a + (x.less.toNat : Int)).toNat)).length ≤ _
  rw [← ha, ← hc, ← hb, List.length_append, List.length_append]
  omega

theorem printR_len {d : Dt} (h : rightP d) : (printN d).length ≤ 1000 := by
  have h1 := line_len d.cards
  have h2 := flatP_len (xs := d.cases) fun c hc => by have := (h.2.2.1 c hc).1; have := h.1.2.1; omega
  have h3 := h.1.2.1
  have h4 := h.1.2.2
  rw [printN, List.length_append]
  omega
theorem str_get {L : List (List UInt8)} {k : Nat} (h : k < L.length) : (L.map PV.str)[k]? = some (.str (L.getD k [])) := by
  rw [List.getElem?_map, List.getD_eq_getElem?_getD, List.getElem?_eq_getElem h]; rfl

theorem dataTexts_c (D : Df) (B : Bn) (X Z : Ed) (s : List UInt8) (raw : Dt) (hD : DfOK D) (hX : X.text.length ≤ 9223372036854775807) (hZ : Z.text.length ≤ 9223372036854775807) (hr1 : raw.cards.length ≤ 9223372036854775807) (hr2 : raw.cases.length ≤ 9223372036854775807) (hr3 : ∀ c ∈ raw.cases, c.length ≤ 9223372036854775807) :
    Pure cx 6 [D.pv, B.pv, X.pv, Z.pv, .str s, raw.pv] (· = .ret [.bool true]) := by
  refine pure_of_vc Tryd.func6 rfl rfl rfl ?_
  refine (data_c D hD.five hD.miss).at fun r hr => ?_
  obtain ⟨x, hx, rfl⟩ := hr
  have hxs := hx.sm
  refine VDraw.seq rfl ?_
  refine (of_c B x hx.right).at fun r hr => ?_
  obtain ⟨y, hy, rfl⟩ := hr
  have hys := hy.sm
  refine ⟨by (repeat' first | exact trivial | exact rfl | exact ⟨rfl, rfl⟩ | exact .inl rfl | refine ⟨_, rfl, rfl, rfl, ?_⟩ | refine ⟨_, _, rfl, ?_, ?_⟩ | refine ⟨_, rfl, ?_⟩ | refine And.intro ?_ ?_), ?_⟩
  refine (few_c raw hr1 hr2 hr3).eq rfl ?_
  refine ⟨by (repeat' first | exact trivial | exact rfl | exact ⟨rfl, rfl⟩ | exact .inl rfl | refine ⟨_, rfl, rfl, rfl, ?_⟩ | refine ⟨_, _, rfl, ?_, ?_⟩ | refine ⟨_, rfl, ?_⟩ | refine And.intro ?_ ?_), ?_⟩
  obtain ⟨L, hL⟩ : ∃ L : List Dt, L = [x, y, fewN raw] := ⟨_, rfl⟩
  have hL3 : L.length = 3 := by rw [hL]; rfl
  have hLs : ∀ d ∈ L, Sm7 d := by
    rw [hL]
    intro d hd
    simp only [List.mem_cons, List.not_mem_nil, or_false] at hd
    rcases hd with rfl | rfl | rfl
    · exact hxs
    · exact hys
    · exact few_sm raw
  have eL : PV.agg (L.flatMap Dt.cells) = .agg [ints x.cards, .lst (x.cases.map ints), ints y.cards, .lst (y.cases.map ints), ints (fewN raw).cards, .lst ((fewN raw).cases.map ints)] := by rw [hL]; rfl
  refine ⟨Nat, fun j => [(4, vS s), (8, .ptr 0 0 0), (9, .ptr 1 0 0), (13, .ptr 2 0 0), (33, .p (.agg (L.flatMap Dt.cells))), (34, .p (i64 j))], fun _ => ⟨3, [(2, dtO x), (1, edO Z), (0, edO X)]⟩, fun j => j ≤ 3, fun j => 3 - j, ?_, ?_⟩
  · exact ⟨0, by omega, ent_of [] [(0, 2), (1, 3), (2, 5)] [] rfl ⟨rfl, ⟨rfl, rfl⟩, ⟨rfl, rfl⟩, ⟨rfl, rfl⟩, eL, rfl, trivial⟩ (by (repeat' first | exact trivial | exact rfl | exact ⟨rfl, rfl⟩ | exact .inl rfl | refine ⟨_, rfl, rfl, rfl, ?_⟩ | refine ⟨_, _, rfl, ?_, ?_⟩ | refine ⟨_, rfl, ?_⟩ | refine And.intro ?_ ?_)) rfl⟩
  intro j hj
  (first | refine brLt (fun h1 => ?_) (fun h1 => ?_) | refine brLe (fun h1 => ?_) (fun h1 => ?_) | refine brEq (fun h1 => ?_) (fun h1 => ?_))
  · have h1 : (j : Int) < 3 := h1
    have hj : j < L.length := by omega
    have hz := getD3 hLs hj
    obtain ⟨z, hzz⟩ : ∃ z, z = L.getD j ⟨[], []⟩ := ⟨_, rfl⟩
    rw [← hzz] at hz
    have hld : ldInP Tryd.prog TD (L.flatMap Dt.cells) ((j : Int).toNat * 2) = some z.pv := by rw [Int.toNat_natCast, hzz]; exact ld_flat (by kernel_rfl) hj
    have hR := right_c z hz
    have hP := print_c z hz
    refine ⟨_, ⟨⟨by omega, by omega⟩, z.pv, hld, rfl⟩, ?_⟩
    by_cases hr : rightP z
    · rw [decide_eq_true hr] at hR
      rw [printV, if_pos hr] at hP
      refine hP.eq rfl ?_
      refine hR.eq rfl ?_
      refine And.intro (fun _ => ?_) (fun h => absurd rfl h)
      refine (rPrint_c z hr).eq rfl ?_
      refine And.intro (fun _ => ?_) (fun h => absurd rfl h)
      refine ⟨(j : Int) + 1, wrap_i64 (by omega) (by omega), ?_⟩
      exact ⟨j + 1, by omega, ent_of [] [] [] rfl ⟨rfl, ⟨rfl, rfl⟩, ⟨rfl, rfl⟩, ⟨rfl, rfl⟩, res_p _ _, rfl, trivial⟩ (by (repeat' first | exact trivial | exact rfl | exact ⟨rfl, rfl⟩ | exact .inl rfl | refine ⟨_, rfl, rfl, rfl, ?_⟩ | refine ⟨_, _, rfl, ?_, ?_⟩ | refine ⟨_, rfl, ?_⟩ | refine And.intro ?_ ?_)) rfl, by show 3 - (j + 1) < 3 - j; omega⟩
    · rw [decide_eq_false hr] at hR
      rw [printV, if_neg hr] at hP
      refine hP.eq rfl ?_
      refine hR.eq rfl ?_
      refine And.intro (fun _ => ?_) (fun h => absurd rfl h)
      refine And.intro (fun _ => ?_) (fun h => absurd rfl h)
      refine ⟨(j : Int) + 1, wrap_i64 (by omega) (by omega), ?_⟩
      exact ⟨j + 1, by omega, ent_of [] [] [] rfl ⟨rfl, ⟨rfl, rfl⟩, ⟨rfl, rfl⟩, ⟨rfl, rfl⟩, res_p _ _, rfl, trivial⟩ (by (repeat' first | exact trivial | exact rfl | exact ⟨rfl, rfl⟩ | exact .inl rfl | refine ⟨_, rfl, rfl, rfl, ?_⟩ | refine ⟨_, _, rfl, ?_, ?_⟩ | refine ⟨_, rfl, ?_⟩ | refine And.intro ?_ ?_)) rfl, by show 3 - (j + 1) < 3 - j; omega⟩
  · have hpl := printR_len hx.right
    refine (rPrint_c x hx.right).eq rfl ?_
    refine VDraw.seq rfl ?_
    have hmin : 0 ≤ (if (700 : Int) < (s.length : Nat) then (700 : Int) else ((s.length : Nat) : Int)) ∧ (if (700 : Int) < (s.length : Nat) then (700 : Int) else ((s.length : Nat) : Int)) ≤ (s.length : Nat) := by split <;> omega
    refine ⟨hmin, ?_⟩
    refine (edit_c X (printN x) hX (by omega)).at fun r hr => ?_
    obtain ⟨t1, ht1, rfl⟩ := hr
    refine ⟨by (repeat' first | exact trivial | exact rfl | exact ⟨rfl, rfl⟩ | exact .inl rfl | refine ⟨_, rfl, rfl, rfl, ?_⟩ | refine ⟨_, _, rfl, ?_, ?_⟩ | refine ⟨_, rfl, ?_⟩ | refine And.intro ?_ ?_), ?_⟩
    refine (edit_c X (printN x) hX (by omega)).at fun r hr => ?_
    obtain ⟨t2, ht2, rfl⟩ := hr
    refine ⟨by (repeat' first | exact trivial | exact rfl | exact ⟨rfl, rfl⟩ | exact .inl rfl | refine ⟨_, rfl, rfl, rfl, ?_⟩ | refine ⟨_, _, rfl, ?_, ?_⟩ | refine ⟨_, rfl, ?_⟩ | refine And.intro ?_ ?_), ?_⟩
    refine (edit_c Z t2 hZ (by omega)).at fun r hr => ?_
    obtain ⟨t3, ht3, rfl⟩ := hr
    refine ⟨by (repeat' first | exact trivial | exact rfl | exact ⟨rfl, rfl⟩ | exact .inl rfl | refine ⟨_, rfl, rfl, rfl, ?_⟩ | refine ⟨_, _, rfl, ?_, ?_⟩ | refine ⟨_, rfl, ?_⟩ | refine And.intro ?_ ?_), ?_⟩
    obtain ⟨M, hM⟩ : ∃ M : List (List UInt8), M = [printN x, t1, t3, s.take (if (700 : Int) < (s.length : Nat) then (700 : Int) else ((s.length : Nat) : Int)).toNat] := ⟨_, rfl⟩
    have hM4 : M.length = 4 := by rw [hM]; rfl
    have eM : PV.agg (M.map PV.str) = .agg [.str (printN x), .str t1, .str t3, .str (s.take (if (700 : Int) < (s.length : Nat) then (700 : Int) else ((s.length : Nat) : Int)).toNat)] := by rw [hM]; rfl
    refine ⟨Nat, fun k => [(76, .p (.agg (M.map PV.str))), (77, .p (i64 k))], fun _ => ⟨0, []⟩, fun k => k ≤ 4, fun k => 4 - k, ?_, ?_⟩
    · exact ⟨0, by omega, ent_of [] [] [] rfl ⟨eM, rfl, trivial⟩ (by (repeat' first | exact trivial | exact rfl | exact ⟨rfl, rfl⟩ | exact .inl rfl | refine ⟨_, rfl, rfl, rfl, ?_⟩ | refine ⟨_, _, rfl, ?_, ?_⟩ | refine ⟨_, rfl, ?_⟩ | refine And.intro ?_ ?_)) rfl⟩
    intro k hk
    (first | refine brLt (fun k1 => ?_) (fun k1 => ?_) | refine brLe (fun k1 => ?_) (fun k1 => ?_) | refine brEq (fun k1 => ?_) (fun k1 => ?_))
    · have k1 : (k : Int) < 4 := k1
      have hk : k < M.length := by omega
      obtain ⟨t, ht⟩ : ∃ t, t = M.getD k [] := ⟨_, rfl⟩
      have hcell : (M.map PV.str)[(k : Int).toNat * 1]? = some (.str t) := by rw [Int.toNat_natCast, Nat.mul_one, ht]; exact str_get hk
      have hS := same_refl _ (parseN_sm t)
      refine ⟨_, ⟨⟨by omega, by omega⟩, .str t, ldInP1 (by kernel_rfl) hcell, rfl⟩, ?_⟩
      refine (parse_c t).eq rfl ?_
      refine (rParse_c t).eq rfl ?_
      refine And.intro (fun _ => ?_) (fun h => absurd rfl h)
      refine hS.eq rfl ?_
      refine ⟨(k : Int) + 1, wrap_i64 (by omega) (by omega), ?_⟩
      exact ⟨k + 1, by omega, ent_of [] [] [] rfl ⟨res_p _ _, rfl, trivial⟩ (by (repeat' first | exact trivial | exact rfl | exact ⟨rfl, rfl⟩ | exact .inl rfl | refine ⟨_, rfl, rfl, rfl, ?_⟩ | refine ⟨_, _, rfl, ?_, ?_⟩ | refine ⟨_, rfl, ?_⟩ | refine And.intro ?_ ?_)) rfl, by show 4 - (k + 1) < 4 - k; omega⟩
    · refine works_c.eq rfl ?_
      exact end1 _ rfl rfl rfl
end Go.Proofs.YtmdmjnfdemgpoaaDoor

/- Plain laws on sums of counts. -/
namespace Go.Proofs.YtmdmjnfdemgpoaaDoor
open Go Y
set_option maxRecDepth 100000
set_option maxHeartbeats 4000000

theorem bump_get {w : List Int} {i : Int} {k : Nat} (h : k < w.length) : (bump w i).getD k 0 = w.getD k 0 + (if i = (k : Int) then 1 else 0) := by
  unfold bump
  by_cases h0 : 0 ≤ i
  · rw [if_pos h0]
    by_cases e : i = (k : Int)
    · have : i.toNat = k := by omega
      rw [if_pos e, this, set_getD h, if_pos rfl]
    · rw [if_neg e]
      by_cases hl : i.toNat < w.length
      · rw [set_getD hl, if_neg (by omega)]; omega
      · rw [List.set_eq_of_length_le (by omega)]; omega
  · rw [if_neg h0, if_neg (by omega)]; omega
def cntI (cs vars : List Int) (xs : List (List Int)) (k : Int) : Nat := xs.countP fun c => decide (idxN cs c vars 0 = k)
theorem tab_get (cs vars : List Int) (S : Nat) (xs : List (List Int)) {k : Nat} (hk : k < S) : (tabN cs vars S xs).getD k 0 = (cntI cs vars xs k : Nat) := by
  unfold tabN cntI
  suffices ∀ w : List Int, w.length = S → (xs.foldl (fun w c => bump w (idxN cs c vars 0)) w).getD k 0 = w.getD k 0 + (xs.countP fun c => decide (idxN cs c vars 0 = (k : Int)) : Nat) by
    rw [this _ (by simp)]
    simp [List.getD_eq_getElem?_getD, hk]
  induction xs with
  | nil => intro w _; simp
  | cons c xs ih =>
    intro w hw
    rw [List.foldl_cons, ih _ (by rw [bump_len, hw]), bump_get (by omega), List.countP_cons]
    by_cases e : idxN cs c vars 0 = (k : Int)
    · simp only [e, if_true, decide_true]; omega
    · simp only [e, if_false, decide_false]; simp

/-- Values in their ranges. -/
structure VOk (cs v : List Int) : Prop where
  len : v.length = cs.length
  rng : ∀ i, i < cs.length → 0 ≤ v.getD i 0 ∧ v.getD i 0 < cs.getD i 0
def inC (cs vars : List Int) : Prop := ∀ u ∈ vars, 0 ≤ u ∧ u < (cs.length : Int)

theorem idx_lin {cs v : List Int} (hv : VOk cs v) : ∀ {r : List Int} {a : Int}, inC cs r → idxN cs v r a = a * prodN (cardsOf cs r) + idxN cs v r 0
  | [], a, _ => by
    have : prodN (cardsOf cs []) = 1 := rfl
    rw [this, idxN, idxN]; omega
  | u :: r, a, h => by
    obtain ⟨u1, u2⟩ := h u (by simp)
    have hr : inC cs r := fun x hx => h x (by simp [hx])
    have h0 := (hv.rng u.toNat (by omega)).1
    have e : prodN (cardsOf cs (u :: r)) = cs.getD u.toNat 0 * prodN (cardsOf cs r) := prod_cons _ _
    rw [idx_known h0, idx_known h0, idx_lin hv hr, idx_lin hv hr (a := 0 * _ + _), e]
    rw [Int.zero_mul, Int.zero_add, Int.add_mul, Int.mul_assoc]
    omega
theorem idx_inj {cs c v : List Int} (hv : VOk cs v) (hc : ∀ i, i < cs.length → c.getD i 0 < cs.getD i 0) : ∀ {r : List Int} {a b : Int}, inC cs r → 0 ≤ a → 0 ≤ b → idxN cs c r a = idxN cs v r b → a = b ∧ ∀ u ∈ r, c.getD u.toNat 0 = v.getD u.toNat 0
  | [], a, b, _, _, _, h => by rw [idxN, idxN] at h; exact ⟨h, by simp⟩
  | u :: r, a, b, hi, ha, hb, h => by
    obtain ⟨u1, u2⟩ := hi u (by simp)
    have hr : inC cs r := fun x hx => hi x (by simp [hx])
    obtain ⟨v0, v1⟩ := hv.rng u.toNat (by omega)
    have hcu := hc u.toNat (by omega)
    have hmb := Int.mul_nonneg hb (show 0 ≤ cs.getD u.toNat 0 by omega)
    have hnn : 0 ≤ idxN cs v (u :: r) b := by
      have : ∀ {l : List Int} {x : Int}, inC cs l → 0 ≤ x → 0 ≤ idxN cs v l x := by
        intro l
        induction l with
        | nil => intro x _ hx; exact hx
        | cons y l ih =>
          intro x hl hx
          obtain ⟨y1, y2⟩ := hl y (by simp)
          obtain ⟨w0, w1⟩ := hv.rng y.toNat (by omega)
          rw [idx_known w0]
          have := Int.mul_nonneg hx (show 0 ≤ cs.getD y.toNat 0 by omega)
          exact ih (fun z hz => hl z (by simp [hz])) (by omega)
      exact this hi hb
    rw [← h, idxN] at hnn
    rw [idx_known v0, idxN] at h
    split at h
    · rename_i hneg
      rw [if_pos hneg] at hnn
      omega
    · rename_i hpos
      have hma := Int.mul_nonneg ha (show 0 ≤ cs.getD u.toNat 0 by omega)
      obtain ⟨e1, e2⟩ := idx_inj hv hc hr (by omega) (by omega) h
      have key : a = b := by
        rcases Int.lt_trichotomy a b with hlt | heq | hgt
        · exfalso
          have : (a + 1) * cs.getD u.toNat 0 ≤ b * cs.getD u.toNat 0 := Int.mul_le_mul_of_nonneg_right (by omega) (by omega)
          rw [Int.add_mul] at this
          omega
        · exact heq
        · exfalso
          have : (b + 1) * cs.getD u.toNat 0 ≤ a * cs.getD u.toNat 0 := Int.mul_le_mul_of_nonneg_right (by omega) (by omega)
          rw [Int.add_mul] at this
          omega
      subst key
      refine ⟨rfl, fun x hx => ?_⟩
      rcases List.mem_cons.1 hx with rfl | hx
      · omega
      · exact e2 x hx
theorem idx_congr {cs c v : List Int} : ∀ {r : List Int} {a : Int}, (∀ u ∈ r, c.getD u.toNat 0 = v.getD u.toNat 0) → idxN cs c r a = idxN cs v r a
  | [], _, _ => rfl
  | u :: r, a, h => by
    rw [idxN, idxN, h u (by simp), idx_congr (c := c) (v := v) (r := r) fun x hx => h x (by simp [hx])]
def eqOn (vars c v : List Int) : Bool := vars.all fun u => decide (c.getD u.toNat 0 = v.getD u.toNat 0)
theorem eqOn_iff {vars c v : List Int} : eqOn vars c v = true ↔ ∀ u ∈ vars, c.getD u.toNat 0 = v.getD u.toNat 0 := by simp [eqOn]
/-- How often the values occur. -/
theorem cnt_eq {cs vars v : List Int} {xs : List (List Int)} (hv : VOk cs v) (hi : inC cs vars) (hx : ∀ c ∈ xs, okCase cs c) : cntI cs vars xs (idxN cs v vars 0) = xs.countP fun c => eqOn vars c v := by
  unfold cntI
  refine List.countP_congr fun c hc => ?_
  rw [decide_eq_true_eq, eqOn_iff]
  constructor
  · intro h
    exact (idx_inj hv (fun i hi => ((hx c hc).2 i hi).2) hi (by omega) (by omega) h).2
  · intro h
    exact idx_congr h

/-- Cases whose index lies below a bound, by their index at fewer variables. -/
def sumI (cs vars some : List Int) (xs : List (List Int)) (A k : Int) : Nat := xs.countP fun c => decide (0 ≤ idxN cs c vars 0 ∧ idxN cs c vars 0 < A) && decide (idxN cs c some 0 = k)
theorem sum_zero (cs vars some : List Int) (xs : List (List Int)) (k : Int) : sumI cs vars some xs 0 k = 0 := by
  unfold sumI
  rw [List.countP_eq_zero]
  intro c _
  simp only [Bool.and_eq_true, decide_eq_true_eq, not_and]
  intro h
  omega
theorem sum_step {cs vars some v : List Int} {xs : List (List Int)} {k : Int} (hv : VOk cs v) (hi : inC cs vars) (hx : ∀ c ∈ xs, okCase cs c) (hs : ∀ u ∈ some, u ∈ vars) (h0 : 0 ≤ idxN cs v vars 0) :
    (sumI cs vars some xs (idxN cs v vars 0 + 1) k : Int) = sumI cs vars some xs (idxN cs v vars 0) k + (if idxN cs v some 0 = k then (cntI cs vars xs (idxN cs v vars 0) : Int) else 0) := by
  unfold sumI cntI
  induction xs with
  | nil => simp
  | cons c xs ih =>
    have ih := ih fun d hd => hx d (by simp [hd])
    have hcong : idxN cs c vars 0 = idxN cs v vars 0 → idxN cs c some 0 = idxN cs v some 0 := fun h => by
      have := (idx_inj hv (fun i hi => ((hx c (by simp)).2 i hi).2) hi (by omega) (by omega) h).2
      exact idx_congr fun u hu => this u (hs u hu)
    rw [List.countP_cons, List.countP_cons, List.countP_cons]
    generalize idxN cs c vars 0 = p at hcong ⊢
    generalize idxN cs c some 0 = q at hcong ⊢
    generalize idxN cs v vars 0 = t at hcong h0 ih ⊢
    generalize idxN cs v some 0 = q2 at hcong ih ⊢
    by_cases e : p = t
    · have hq := hcong e
      subst e
      subst hq
      by_cases e2 : q = k
      · subst e2
        rw [if_pos rfl] at ih ⊢
        have a1 : (decide (0 ≤ p ∧ p < p + 1) && decide (q = q)) = true := by simp; omega
        have a2 : (decide (0 ≤ p ∧ p < p) && decide (q = q)) = false := by simp
        have a3 : decide (p = p) = true := by simp
        rw [a1, a2, a3]
        simp only [if_true, Bool.false_eq_true, if_false]
        omega
      · rw [if_neg e2] at ih ⊢
        have a1 : (decide (0 ≤ p ∧ p < p + 1) && decide (q = k)) = false := by simp [e2]
        have a2 : (decide (0 ≤ p ∧ p < p) && decide (q = k)) = false := by simp
        rw [a1, a2]
        simp only [Bool.false_eq_true, if_false]
        omega
    · have a1 : decide (0 ≤ p ∧ p < t + 1) = decide (0 ≤ p ∧ p < t) := by
        rw [decide_eq_decide]; omega
      have a3 : decide (p = t) = false := by simp [e]
      rw [a1, a3]
      simp only [Bool.false_eq_true, if_false]
      by_cases h5 : q2 = k
      · rw [if_pos h5] at ih ⊢; omega
      · rw [if_neg h5] at ih ⊢; omega
theorem sum_le (cs vars some : List Int) (xs : List (List Int)) (A k : Int) : sumI cs vars some xs A k ≤ cntI cs some xs k := by
  unfold sumI cntI
  refine List.countP_mono_left fun c _ h => ?_
  simp only [Bool.and_eq_true] at h
  exact h.2
theorem sum_all {cs vars some : List Int} {xs : List (List Int)} {A k : Int} (h : ∀ c ∈ xs, 0 ≤ idxN cs c vars 0 ∧ idxN cs c vars 0 < A) : sumI cs vars some xs A k = cntI cs some xs k := by
  unfold sumI cntI
  refine List.countP_congr fun c hc => ?_
  simp [h c hc]

/-! ### The values of an index -/
/-- What holds when the variables from j on have their values. -/
structure Dec (cs vars v : List Int) (t rest : Int) (j : Nat) : Prop where
  vok : VOk cs v
  lo : 0 ≤ rest
  hi : rest < prodN (cardsOf cs (vars.take j))
  eq : t = rest * prodN (cardsOf cs (vars.drop j)) + idxN cs v (vars.drop j) 0
theorem prod_app (a b : List Int) : prodN (a ++ b) = prodN a * prodN b := by
  induction a with
  | nil => rw [List.nil_append]; show _ = 1 * _; rw [Int.one_mul]
  | cons x a ih => rw [List.cons_append, prod_cons, prod_cons, ih, Int.mul_assoc]
theorem dec_start {cs vars v : List Int} {t : Int} (hv : VOk cs v) (h0 : 0 ≤ t) (h1 : t < prodN (cardsOf cs vars)) : Dec cs vars v t t vars.length := by
  refine ⟨hv, h0, by rw [List.take_length]; exact h1, ?_⟩
  rw [List.drop_length]
  have : prodN (cardsOf cs []) = 1 := rfl
  rw [this, idxN]; omega
theorem dec_end {cs vars v : List Int} {t rest : Int} (h : Dec cs vars v t rest 0) : rest = 0 ∧ idxN cs v vars 0 = t := by
  have h1 := h.hi
  have h2 := h.lo
  have h3 := h.eq
  rw [List.take_zero] at h1
  have e : prodN (cardsOf cs []) = 1 := rfl
  rw [e] at h1
  have h4 : rest = 0 := by omega
  refine ⟨h4, ?_⟩
  rw [h4, List.drop_zero, Int.zero_mul] at h3
  omega
theorem dec_step {cs vars v : List Int} {t rest : Int} {j : Nat} (h : Dec cs vars v t rest (j + 1)) (hj : j < vars.length) (hl : listP cs.length vars) (hc : ∀ x ∈ cs, okCard x) :
    Dec cs vars (v.set (vars.getD j 0).toNat (rest.tmod (cs.getD (vars.getD j 0).toNat 0))) t (rest.tdiv (cs.getD (vars.getD j 0).toNat 0)) j := by
  have hm := list_mem hl
  obtain ⟨u, hu⟩ : ∃ u, u = vars.getD j 0 := ⟨_, rfl⟩
  rw [← hu]
  obtain ⟨u1, u2⟩ := hm u (by rw [hu]; exact getD_memL 0 hj)
  have hun : u.toNat < cs.length := by omega
  obtain ⟨c, hcc⟩ : ∃ c, c = cs.getD u.toNat 0 := ⟨_, rfl⟩
  have hok := hc c (by rw [hcc]; exact getD_memL 0 hun)
  have hc2 := hok.1
  rw [← hcc]
  have hlen := h.vok.len
  have hlo := h.lo
  have hq : rest = rest.tdiv c * c + rest.tmod c := by have := Int.mul_tdiv_add_tmod rest c; rw [Int.mul_comm] at this; omega
  have hm0 := Int.tmod_nonneg c hlo
  have hm1 := Int.tmod_lt_of_pos rest (show 0 < c by omega)
  have hd0 : 0 ≤ rest.tdiv c := Int.tdiv_nonneg hlo (by omega)
  have hvok : VOk cs (v.set u.toNat (rest.tmod c)) := by
    refine ⟨by rw [List.length_set]; exact hlen, fun i hi => ?_⟩
    rw [set_getD (by omega)]
    split
    · rename_i e; subst e; rw [← hcc]; exact ⟨hm0, hm1⟩
    · exact h.vok.rng i hi
  have hdrop : vars.drop j = u :: vars.drop (j + 1) := by rw [hu, List.drop_eq_getElem_cons hj, List.getD_eq_getElem?_getD, List.getElem?_eq_getElem hj]; rfl
  have hother : ∀ x ∈ vars.drop (j + 1), (v.set u.toNat (rest.tmod c)).getD x.toNat 0 = v.getD x.toNat 0 := by
    intro x hx
    rw [set_getD (by omega), if_neg]
    intro e
    obtain ⟨x1, x2⟩ := hm x (List.mem_of_mem_drop hx)
    have hxu : x = u := by omega
    rw [hxu] at hx
    obtain ⟨i, hi, hxi⟩ := List.mem_iff_getElem.1 hx
    rw [List.getElem_drop] at hxi
    have hgt : ∀ k, j < k → k < vars.length → vars.getD j 0 < vars.getD k 0 := by
      intro k
      induction k with
      | zero => intro h0 _; omega
      | succ k ih =>
        intro h0 h1
        have hk := (hl (k + 1) h1).1
        rw [prevN, if_neg (by omega), Nat.add_sub_cancel] at hk
        rcases Nat.lt_or_ge j k with h2 | h2
        · have := ih h2 (by omega); omega
        · have : j = k := by omega
          subst this; exact hk
    rw [List.length_drop] at hi
    have hg := hgt (j + 1 + i) (by omega) (by omega)
    rw [← hu, List.getD_eq_getElem?_getD, List.getElem?_eq_getElem (show j + 1 + i < vars.length by omega)] at hg
    simp only [Option.getD_some] at hg
    omega
  have hin : inC cs (vars.drop (j + 1)) := fun x hx => hm x (List.mem_of_mem_drop hx)
  have ecard : prodN (cardsOf cs (u :: vars.drop (j + 1))) = c * prodN (cardsOf cs (vars.drop (j + 1))) := by rw [hcc]; exact prod_cons _ _
  refine ⟨hvok, hd0, ?_, ?_⟩
  · have h1 := h.hi
    rw [take_succ_getD 0 hj, ← hu] at h1
    have e : cardsOf cs (vars.take j ++ [u]) = cardsOf cs (vars.take j) ++ [c] := by rw [cardsOf, List.map_append, hcc]; rfl
    have e1 : prodN [c] = c := by show 1 * c = c; rw [Int.one_mul]
    rw [e, prod_app, e1] at h1
    have hp0 : 0 ≤ prodN (cardsOf cs (vars.take j)) := by
      have := prod_pos (cardsOf_ok hc fun x hx => hm x (List.mem_of_mem_take hx)) (l := cardsOf cs (vars.take j))
      omega
    rcases Int.lt_or_le (rest.tdiv c) (prodN (cardsOf cs (vars.take j))) with h2 | h2
    · exact h2
    · exfalso
      have := Int.mul_le_mul_of_nonneg_right h2 (show 0 ≤ c by omega)
      omega
  · rw [hdrop, ecard]
    have hv0 : (v.set u.toNat (rest.tmod c)).getD u.toNat 0 = rest.tmod c := by rw [set_getD (by omega), if_pos rfl]
    rw [idx_known (by rw [hv0]; exact hm0), hv0, Int.zero_mul, Int.zero_add, idx_lin hvok hin, idx_congr (v := v) hother, ← Int.mul_assoc, h.eq]
    have : rest * prodN (cardsOf cs (vars.drop (j + 1))) = rest.tdiv c * c * prodN (cardsOf cs (vars.drop (j + 1))) + rest.tmod c * prodN (cardsOf cs (vars.drop (j + 1))) := by
      rw [← Int.add_mul, ← hq]
    omega
end Go.Proofs.YtmdmjnfdemgpoaaDoor

/- The parts of a split together; sorted lists; counts of lists put together. -/
namespace Go.Proofs.YtmdmjnfdemgpoaaDoor
open Go Y
set_option maxRecDepth 100000
set_option maxHeartbeats 4000000

theorem pick_or {α : Type} {p q r : Nat → Bool} (h : ∀ k, r k = (p k || q k)) (hn : ∀ k, p k = true → q k = false) : ∀ (xs : List α) (k : Nat), (pickN p k xs ++ pickN q k xs).Perm (pickN r k xs)
  | [], k => by simp [pickN]
  | x :: xs, k => by
    have ih := pick_or h hn xs (k + 1)
    have h1 := h k
    have h2 := hn k
    simp only [pickN]
    cases hp : p k
    · cases hq : q k
      · rw [hp, hq] at h1
        rw [h1]; simpa using ih
      · rw [hp, hq] at h1
        rw [h1]
        simp only [Bool.false_eq_true, if_false, Bool.or_true, if_true]
        exact List.perm_middle.trans (ih.cons x)
    · rw [h2 hp] at h1 ⊢
      rw [h1, hp]
      simpa using ih.cons x
theorem pick_true {α : Type} {p : Nat → Bool} (h : ∀ k, p k = true) : ∀ (xs : List α) (k : Nat), pickN p k xs = xs
  | [], _ => by simp [pickN]
  | x :: xs, k => by simp only [pickN, h, if_true]; rw [pick_true h xs]
theorem pick_false {α : Type} {p : Nat → Bool} (h : ∀ k, p k = false) : ∀ (xs : List α) (k : Nat), pickN p k xs = []
  | [], _ => by simp [pickN]
  | x :: xs, k => by simp only [pickN, h, Bool.false_eq_true, if_false]; exact pick_false h xs _
theorem part_rest (d : Dt) (p i : Int) : ((partN d p i).cases ++ (restN d p i).cases).Perm d.cases := by
  have h := pick_or (p := inPart p i) (q := fun k => !inPart p i k) (r := fun _ => true) (fun k => by cases inPart p i k <;> rfl) (fun k hk => by simp [hk]) d.cases 0
  rw [pick_true (fun _ => rfl)] at h
  exact h

/-- The cases of the first parts. -/
def aheadB (n i : Nat) (k : Nat) : Bool := decide (k % n < i)
theorem aheadB_step (n i : Nat) {α : Type} (xs : List α) : (pickN (aheadB n i) 0 xs ++ pickN (inPart n i) 0 xs).Perm (pickN (aheadB n (i + 1)) 0 xs) := by
  have e : ∀ k : Nat, inPart n i k = decide (k % n = i) := fun k => by
    unfold inPart
    have : ((k : Int).tmod (n : Int)) = ((k % n : Nat) : Int) := by
      rw [Int.tmod_eq_emod_of_nonneg (by omega)]; simp
    rw [this]
    exact decide_eq_decide.2 (by omega)
  refine pick_or (fun k => ?_) (fun k hk => ?_) xs 0
  · rw [e, aheadB, aheadB, ← Bool.decide_or]
    exact decide_eq_decide.2 (by omega)
  · rw [e]
    simp only [aheadB, decide_eq_true_eq] at hk
    exact decide_eq_false (by omega)
theorem aheadB_all {α : Type} {n : Nat} (h : 0 < n) (xs : List α) : pickN (aheadB n n) 0 xs = xs := pick_true (fun k => decide_eq_true (Nat.mod_lt k h)) xs 0
theorem aheadB_none {α : Type} (n : Nat) (xs : List α) : pickN (aheadB n 0) 0 xs = [] := pick_false (fun k => decide_eq_false (by omega)) xs 0

theorem getD_ext {a b : List Int} (hl : a.length = b.length) (h : ∀ k, k < a.length → a.getD k 0 = b.getD k 0) : a = b := by
  refine List.ext_getElem hl fun k h1 h2 => ?_
  have := h k h1
  rwa [List.getD_eq_getElem?_getD, List.getD_eq_getElem?_getD, List.getElem?_eq_getElem h1, List.getElem?_eq_getElem h2] at this
theorem tab_perm {cs vars : List Int} {S : Nat} {a b : List (List Int)} (h : a.Perm b) : tabN cs vars S a = tabN cs vars S b := by
  refine getD_ext (by rw [tab_len, tab_len]) fun k hk => ?_
  rw [tab_len] at hk
  rw [tab_get _ _ _ _ hk, tab_get _ _ _ _ hk, cntI, cntI, h.countP_eq]
theorem tab_app {cs vars : List Int} {S : Nat} {a b : List (List Int)} {k : Nat} (hk : k < S) : (tabN cs vars S (a ++ b)).getD k 0 = (tabN cs vars S a).getD k 0 + (tabN cs vars S b).getD k 0 := by
  rw [tab_get _ _ _ _ hk, tab_get _ _ _ _ hk, tab_get _ _ _ _ hk, cntI, cntI, cntI, List.countP_append]
  omega
theorem tab_zero {cs vars : List Int} {S : Nat} : tabN cs vars S [] = List.replicate S 0 := rfl

theorem sorted_eq {a b : List (List Int)} (ha : sortedL a) (hb : sortedL b) (h : a.Perm b) : a = b := by
  have key : ∀ {l : List (List Int)}, sortedL l → l.Pairwise fun x y => ¬ cmpL y x < 0 := fun {l} hl => by
    rw [List.pairwise_iff_getElem]
    intro i j hi hj hij
    have := hl i j hij hj
    rwa [List.getD_eq_getElem?_getD, List.getD_eq_getElem?_getD, List.getElem?_eq_getElem hi, List.getElem?_eq_getElem hj] at this
  refine List.Perm.eq_of_pairwise (fun x y _ _ h1 h2 => ?_) (key ha) (key hb) h
  have := cmp_flip x y
  exact cmp_eq (by omega)
end Go.Proofs.YtmdmjnfdemgpoaaDoor

/- The statement on the parts together. -/
namespace Go.Proofs.YtmdmjnfdemgpoaaDoor
open Go Y
set_option maxRecDepth 100000
set_option maxHeartbeats 40000000

theorem part_right {d : Dt} (h : rightP d) (p i : Int) : rightP (partN d p i) ∧ rightP (restN d p i) := by
  obtain ⟨⟨r1, r2, r3⟩, r4, r5, r6⟩ := h
  have l1 : (pickN (inPart p i) 0 d.cases).length ≤ d.cases.length := pick_len _ _ _
  have l2 : (pickN (fun k => !inPart p i k) 0 d.cases).length ≤ d.cases.length := pick_len _ _ _
  exact ⟨⟨⟨r1, r2, Nat.le_trans l1 r3⟩, r4, fun c hc => r5 c (pick_mem hc), r6⟩, ⟨⟨r1, r2, Nat.le_trans l2 r3⟩, r4, fun c hc => r5 c (pick_mem hc), r6⟩⟩
theorem right_sm {d : Dt} (h : rightP d) : Sm7 d := by
  obtain ⟨r1, r2, r3⟩ := h.1
  refine ⟨by omega, by omega, fun c hc => ?_⟩
  have := (h.2.2.1 c hc).1
  omega
theorem tab_le {cs vars : List Int} {S : Nat} {xs : List (List Int)} {k : Nat} (hk : k < S) : 0 ≤ (tabN cs vars S xs).getD k 0 ∧ (tabN cs vars S xs).getD k 0 ≤ xs.length := by
  rw [tab_get _ _ _ _ hk]
  have : cntI cs vars xs k ≤ xs.length := List.countP_le_length
  omega
theorem rem40 (p : UInt8) : ((p.toNat : Int)).tmod 40 = ((p.toNat % 40 : Nat) : Int) := rfl


def faOw (f : Fa) : AObj := ⟨TF, false, .bx (f.cells.map .p)⟩
def whH (x : Dt) (f : Fa) (s : List Int) (cs : List (List Int)) : Hp := ⟨5, [(4, csO cs), (3, iO s), (2, faOw f), (1, dtO x)]⟩
def whI (x p q : Dt) (f a b : Fa) (s : List Int) (cs : List (List Int)) : Hp := ⟨9, [(8, faOw b), (7, faOw a), (6, dtO q), (5, dtO p), (4, csO cs), (3, iO s), (2, faOw f), (1, dtO x)]⟩

theorem dataWhole_c (D : Df) (parts set : UInt8) (hD : DfOK D) : Pure cx 9 [D.pv, u8 parts, u8 set] (· = .ret [.bool true]) := by
  refine pure_of_vc Tryd.func9 rfl rfl rfl ?_
  refine works_c.eq rfl ?_
  refine (data_c D hD.five hD.miss).at fun r hr => ?_
  obtain ⟨x, hx, rfl⟩ := hr
  have hr := hx.right
  have hz := hx.sm
  obtain ⟨n, hn⟩ : ∃ n : Nat, n = 1 + parts.toNat % 40 := ⟨_, rfl⟩
  have hn40 : n ≤ 40 := by omega
  have hn6 : x.cards.length ≤ 6 := hr.1.2.1
  obtain ⟨vars, hvars⟩ : ∃ l, l = varsN set x.cards.length := ⟨_, rfl⟩
  have hV := vars_c x.cards.length set (by omega)
  have hl := vars_list set x.cards.length
  rw [← hvars] at hV hl
  have hvl := list_len hl
  have hC := count_c x vars hz (by omega)
  have hB := countP_len hz (show vars.length ≤ 1000 by omega)
  rw [countP, if_pos hr, if_pos hl] at hB
  rw [countV, countP, if_pos hr, if_pos hl] at hC
  obtain ⟨f, hf⟩ : ∃ f, f = countN x vars := ⟨_, rfl⟩
  obtain ⟨S, hS⟩ : ∃ S : Nat, S = (prodN (cardsOf x.cards vars)).toNat := ⟨_, rfl⟩
  have hfw : f.w = tabN x.cards vars S x.cases := by rw [hf, hS]; rfl
  have hfl : f.w.length = S := by rw [hfw, tab_len]
  have hS4 : S ≤ 4096 := by rw [← hfl, hf]; exact hB.2.2
  rw [← hf] at hC
  have hxl : x.cases.length ≤ 40 := hr.1.2.2
  refine ⟨by decide, ?_⟩
  refine ⟨((parts.toNat % 40 : Nat) : Int), by show _ = IntKind.i64.wrap (((parts.toNat : Nat) : Int).tmod 40); rw [rem40]; exact wrap_i64 (by omega) (by omega), ?_⟩
  refine ⟨(n : Int), by rw [hn]; exact wrap_i64 (by omega) (by omega), ?_⟩
  refine hV.eq (congrArg (fun n : Nat => [AV.p (i64 n), AV.p (u8 set)]) (show (x.cards.map i64).length = x.cards.length by simp)) ?_
  refine hC.eq rfl ?_
  refine And.intro (fun _ => ?_) (fun h => absurd rfl h)
  refine ⟨by show (0 : Int) ≤ ((f.w.map i64).length : Nat) ∧ (((f.w.map i64).length : Nat) : Int) ≤ ((f.w.map i64).length : Nat) ∧ (((f.w.map i64).length : Nat) : Int) * 8 ≤ 281474976710656 ∧ (((f.w.map i64).length : Nat) : Int) ≤ 281474976710656; rw [List.length_map]; omega, ?_⟩
  refine ⟨Nat × List (List Int) × List Int, fun y => [(7, .ptr 1 0 0), (8, .p (i64 n)), (9, .p (ints vars)), (10, .ptr 2 0 0), (12, .sl 3 1 0 y.2.2.length), (13, .sl 4 1 0 y.2.1.length), (50, .p (i64 n)), (51, .p (i64 y.1))], fun y => whH x f y.2.2 y.2.1,
    fun y => y.1 ≤ n ∧ y.2.1.Perm (pickN (aheadB n y.1) 0 x.cases) ∧ y.2.2 = tabN x.cards vars S y.2.1, fun y => n - y.1, ?_, ?_⟩
  · refine ⟨(0, [], List.replicate S 0), ⟨by simp, by rw [aheadB_none], rfl⟩, ent_of [] [] [(4, 1)] rfl ⟨⟨rfl, rfl⟩, rfl, rfl, ⟨rfl, rfl⟩, ?_, by (repeat' first | exact trivial | exact rfl | exact ⟨rfl, rfl⟩ | exact .inl rfl | refine ⟨_, rfl, rfl, rfl, ?_⟩ | refine ⟨_, _, rfl, ?_, ?_⟩ | refine ⟨_, rfl, ?_⟩ | refine And.intro ?_ ?_), rfl, rfl, trivial⟩ ?_ rfl⟩
    · exact congrArg (fun n => AV.sl 3 1 0 n) (show (f.w.map i64).length = (List.replicate S (0 : Int)).length by rw [List.length_map, hfl, List.length_replicate])
    · refine ⟨⟨rfl, rfl, rfl⟩, ⟨_, rfl, rfl, rfl, ?_⟩, ⟨_, rfl, rfl, rfl, _, rfl, by (repeat' first | exact trivial | exact rfl | exact ⟨rfl, rfl⟩ | exact .inl rfl | refine ⟨_, rfl, rfl, rfl, ?_⟩ | refine ⟨_, _, rfl, ?_, ?_⟩ | refine ⟨_, rfl, ?_⟩ | refine And.intro ?_ ?_)⟩, ⟨_, rfl, rfl, rfl, _, rfl, by (repeat' first | exact trivial | exact rfl | exact ⟨rfl, rfl⟩ | exact .inl rfl | refine ⟨_, rfl, rfl, rfl, ?_⟩ | refine ⟨_, _, rfl, ?_, ?_⟩ | refine ⟨_, rfl, ?_⟩ | refine And.intro ?_ ?_)⟩, trivial⟩
      show List.replicate (f.w.map i64).length (i64 0) = (List.replicate S (0 : Int)).map i64
      rw [List.length_map, hfl, List.map_replicate]
  rintro ⟨i, cs, s⟩ ⟨g1, g2, g3⟩
  simp only [] at g1 g2 g3
  have hcl : cs.length ≤ 40 := by rw [g2.length_eq]; exact Nat.le_trans (pick_len _ _ _) hxl
  have hsl : s.length = S := by rw [g3, tab_len]
  (first | refine brLt (fun h1 => ?_) (fun h1 => ?_) | refine brLe (fun h1 => ?_) (fun h1 => ?_) | refine brEq (fun h1 => ?_) (fun h1 => ?_))
  · have h1 : (i : Int) < n := h1
    have hsp := split_c x n i hz
    rw [splitV, if_pos hr, if_pos (show okSplit n i from ⟨by omega, by omega, by omega, by omega⟩)] at hsp
    obtain ⟨hpr, hqr⟩ := part_right hr n i
    have hpz := right_sm hpr
    have hqz := right_sm hqr
    have hperm := part_rest x n i
    have hstep := aheadB_step n i x.cases
    have hpe : (partN x n i).cases = pickN (inPart n i) 0 x.cases := rfl
    rw [← hpe] at hstep
    have hpc : (partN x n i).cards = x.cards := rfl
    have hqc : (restN x n i).cards = x.cards := rfl
    have hA := count_c (partN x n i) vars hpz (by omega)
    have hB2 := count_c (restN x n i) vars hqz (by omega)
    rw [countV, countP, if_pos hpr, if_pos (show listP (partN x n i).cards.length vars from hl)] at hA
    rw [countV, countP, if_pos hqr, if_pos (show listP (restN x n i).cards.length vars from hl)] at hB2
    have haw : (countN (partN x n i) vars).w = tabN x.cards vars S (partN x n i).cases := by rw [hS]; rfl
    have hbw : (countN (restN x n i) vars).w = tabN x.cards vars S (restN x n i).cases := by rw [hS]; rfl
    obtain ⟨p, hp⟩ : ∃ p, p = partN x n i := ⟨_, rfl⟩
    obtain ⟨q, hq⟩ : ∃ q, q = restN x n i := ⟨_, rfl⟩
    rw [← hp] at hsp hA hperm haw hstep
    rw [← hq] at hsp hB2 hperm hbw
    obtain ⟨a, ha⟩ : ∃ a, a = countN p vars := ⟨_, rfl⟩
    obtain ⟨b, hb⟩ : ∃ b, b = countN q vars := ⟨_, rfl⟩
    rw [← ha] at hA haw
    rw [← hb] at hB2 hbw
    have hal : a.w.length = S := by rw [haw, tab_len]
    have hbl : b.w.length = S := by rw [hbw, tab_len]
    have hpl := hperm.length_eq
    rw [List.length_append] at hpl
    refine hsp.eq rfl ?_
    refine hA.eq rfl ?_
    refine hB2.eq rfl ?_
    refine And.intro (fun _ => ?_) (fun h => absurd rfl h)
    refine And.intro (fun _ => ?_) (fun h => absurd rfl h)
    refine And.intro (fun _ => ?_) (fun h => absurd rfl h)
    refine And.intro (fun _ => ?_) (fun h => absurd (show (((a.w.map i64).length : Nat) : Int) = (s.length : Nat) by rw [List.length_map, hal, hsl]) h)
    refine And.intro (fun _ => ?_) (fun h => absurd (show (((b.w.map i64).length : Nat) : Int) = (s.length : Nat) by rw [List.length_map, hbl, hsl]) h)
    refine ⟨(x.cases.length : Int), by show _ = IntKind.i64.wrap ((((p.cases.map ints).length : Nat) : Int) + (((q.cases.map ints).length : Nat) : Int)); rw [List.length_map, List.length_map, ← hpl]; exact wrap_i64 (by omega) (by omega), ?_⟩
    refine And.intro (fun _ => ?_) (fun h => absurd (show (x.cases.length : Int) = ((x.cases.map ints).length : Nat) by rw [List.length_map]) h)
    refine ⟨Nat × List Int, fun y => [(7, .ptr 1 0 0), (8, .p (i64 n)), (9, .p (ints vars)), (10, .ptr 2 0 0), (12, .sl 3 1 0 y.2.length), (13, .sl 4 1 0 cs.length), (15, .ptr 5 0 0), (18, .ptr 7 0 0), (20, .ptr 8 0 0), (50, .p (i64 n)), (51, .p (i64 i)), (114, .p (i64 S)), (115, .p (i64 y.1))], fun y => whI x p q f a b y.2 cs,
      fun y => y.1 ≤ S ∧ y.2.length = S ∧ ∀ k, k < S → y.2.getD k 0 = s.getD k 0 + (if k < y.1 then a.w.getD k 0 else 0), fun y => S - y.1, ?_, ?_⟩
    · exact ⟨(0, s), ⟨by simp, hsl, fun k hk => by simp⟩, ent_of [] [] [] rfl ⟨⟨rfl, rfl⟩, rfl, rfl, ⟨rfl, rfl⟩, rfl, rfl, ⟨rfl, rfl⟩, ⟨rfl, rfl⟩, ⟨rfl, rfl⟩, rfl, rfl, congrArg (fun n : Nat => i64 n) hsl.symm, rfl, trivial⟩ ⟨⟨_, rfl, rfl, rfl, _, rfl, by (repeat' first | exact trivial | exact rfl | exact ⟨rfl, rfl⟩ | exact .inl rfl | refine ⟨_, rfl, rfl, rfl, ?_⟩ | refine ⟨_, _, rfl, ?_, ?_⟩ | refine ⟨_, rfl, ?_⟩ | refine And.intro ?_ ?_)⟩, ⟨_, rfl, rfl, rfl, _, rfl, by (repeat' first | exact trivial | exact rfl | exact ⟨rfl, rfl⟩ | exact .inl rfl | refine ⟨_, rfl, rfl, rfl, ?_⟩ | refine ⟨_, _, rfl, ?_, ?_⟩ | refine ⟨_, rfl, ?_⟩ | refine And.intro ?_ ?_)⟩, ⟨_, rfl, rfl, rfl, _, rfl, by (repeat' first | exact trivial | exact rfl | exact ⟨rfl, rfl⟩ | exact .inl rfl | refine ⟨_, rfl, rfl, rfl, ?_⟩ | refine ⟨_, _, rfl, ?_, ?_⟩ | refine ⟨_, rfl, ?_⟩ | refine And.intro ?_ ?_)⟩, ⟨_, rfl, rfl, rfl, _, rfl, by (repeat' first | exact trivial | exact rfl | exact ⟨rfl, rfl⟩ | exact .inl rfl | refine ⟨_, rfl, rfl, rfl, ?_⟩ | refine ⟨_, _, rfl, ?_, ?_⟩ | refine ⟨_, rfl, ?_⟩ | refine And.intro ?_ ?_)⟩, ⟨_, rfl, rfl, rfl, rfl⟩, ⟨_, rfl, rfl, rfl, rfl⟩, ⟨_, rfl, rfl, rfl, _, rfl, by (repeat' first | exact trivial | exact rfl | exact ⟨rfl, rfl⟩ | exact .inl rfl | refine ⟨_, rfl, rfl, rfl, ?_⟩ | refine ⟨_, _, rfl, ?_, ?_⟩ | refine ⟨_, rfl, ?_⟩ | refine And.intro ?_ ?_)⟩, ⟨_, rfl, rfl, rfl, _, rfl, by (repeat' first | exact trivial | exact rfl | exact ⟨rfl, rfl⟩ | exact .inl rfl | refine ⟨_, rfl, rfl, rfl, ?_⟩ | refine ⟨_, _, rfl, ?_, ?_⟩ | refine ⟨_, rfl, ?_⟩ | refine And.intro ?_ ?_)⟩, trivial⟩ rfl⟩
    rintro ⟨j, t⟩ ⟨j1, j2, j3⟩
    simp only [] at j1 j2 j3
    (first | refine brLt (fun h2 => ?_) (fun h2 => ?_) | refine brLe (fun h2 => ?_) (fun h2 => ?_) | refine brEq (fun h2 => ?_) (fun h2 => ?_))
    · have h2 : (j : Int) < S := h2
      have hj : j < S := by omega
      have b1 := tab_le (cs := x.cards) (vars := vars) (xs := p.cases) hj
      have b2 := tab_le (cs := x.cards) (vars := vars) (xs := q.cases) hj
      have b3 := tab_le (cs := x.cards) (vars := vars) (xs := cs) hj
      have b4 := tab_app (cs := x.cards) (vars := vars) (a := p.cases) (b := q.cases) hj
      rw [tab_perm hperm] at b4
      rw [← haw] at b1 b4
      rw [← hbw] at b2 b4
      rw [← g3] at b3
      rw [← hfw] at b4
      have b5 := j3 j hj
      rw [if_neg (by omega), Int.add_zero] at b5
      refine VDraw.seq rfl ?_
      refine ⟨_, ⟨by omega, i64 (a.w.getD j 0), icell (by omega), rfl⟩, ?_⟩
      refine ⟨_, ⟨by omega, i64 (b.w.getD j 0), icell (by omega), rfl⟩, ?_⟩
      refine ⟨a.w.getD j 0 + b.w.getD j 0, wrap_i64 (by omega) (by omega), ?_⟩
      refine ⟨_, ⟨by omega, i64 (f.w.getD j 0), icell (by omega), rfl⟩, ?_⟩
      refine And.intro (fun _ => ?_) (fun h => absurd (show a.w.getD j 0 + b.w.getD j 0 = f.w.getD j 0 by omega) h)
      refine VDraw.seq rfl ?_
      refine ⟨by show (0 : Int) ≤ (j : Nat) ∧ (j : Int) < (t.length : Nat); omega, ?_⟩
      refine ⟨_, ⟨i64 (t.getD j 0), by show (t.map i64)[0 + ((j : Nat) : Int).toNat]? = _; rw [Nat.zero_add, Int.toNat_natCast]; exact icell (by omega), rfl⟩, ?_⟩
      refine ⟨_, ⟨by omega, i64 (a.w.getD j 0), icell (by omega), rfl⟩, ?_⟩
      refine ⟨t.getD j 0 + a.w.getD j 0, wrap_i64 (by omega) (by omega), ?_⟩
      refine ⟨by show (0 : Int) ≤ (j : Nat) ∧ (j : Int) < (t.length : Nat); omega, ?_⟩
      refine ⟨by show 0 + ((j : Nat) : Int).toNat < (t.map i64).length; rw [List.length_map]; omega, ?_⟩
      refine ⟨_, wrap_i64 (by omega) (by omega), ?_⟩
      refine ⟨(j + 1, t.set j (t.getD j 0 + a.w.getD j 0)), ⟨by simp only []; omega, by simp only [List.length_set]; exact j2, fun k hk => ?_⟩, ent_of [] [] [] rfl ⟨⟨rfl, rfl⟩, rfl, rfl, ⟨rfl, rfl⟩, congrArg (fun n => AV.sl 3 1 0 n) (List.length_set).symm, rfl, ⟨rfl, rfl⟩, ⟨rfl, rfl⟩, ⟨rfl, rfl⟩, rfl, rfl, rfl, rfl, trivial⟩ ⟨⟨_, rfl, rfl, rfl, _, rfl, by (repeat' first | exact trivial | exact rfl | exact ⟨rfl, rfl⟩ | exact .inl rfl | refine ⟨_, rfl, rfl, rfl, ?_⟩ | refine ⟨_, _, rfl, ?_, ?_⟩ | refine ⟨_, rfl, ?_⟩ | refine And.intro ?_ ?_)⟩, ⟨_, rfl, rfl, rfl, _, rfl, by (repeat' first | exact trivial | exact rfl | exact ⟨rfl, rfl⟩ | exact .inl rfl | refine ⟨_, rfl, rfl, rfl, ?_⟩ | refine ⟨_, _, rfl, ?_, ?_⟩ | refine ⟨_, rfl, ?_⟩ | refine And.intro ?_ ?_)⟩, ⟨_, rfl, rfl, rfl, _, rfl, by (repeat' first | exact trivial | exact rfl | exact ⟨rfl, rfl⟩ | exact .inl rfl | refine ⟨_, rfl, rfl, rfl, ?_⟩ | refine ⟨_, _, rfl, ?_, ?_⟩ | refine ⟨_, rfl, ?_⟩ | refine And.intro ?_ ?_)⟩, ⟨_, rfl, rfl, rfl, _, rfl, by (repeat' first | exact trivial | exact rfl | exact ⟨rfl, rfl⟩ | exact .inl rfl | refine ⟨_, rfl, rfl, rfl, ?_⟩ | refine ⟨_, _, rfl, ?_, ?_⟩ | refine ⟨_, rfl, ?_⟩ | refine And.intro ?_ ?_)⟩, ⟨_, rfl, rfl, rfl, rfl⟩, ⟨_, rfl, rfl, rfl, ?_⟩, ⟨_, rfl, rfl, rfl, _, rfl, by (repeat' first | exact trivial | exact rfl | exact ⟨rfl, rfl⟩ | exact .inl rfl | refine ⟨_, rfl, rfl, rfl, ?_⟩ | refine ⟨_, _, rfl, ?_, ?_⟩ | refine ⟨_, rfl, ?_⟩ | refine And.intro ?_ ?_)⟩, ⟨_, rfl, rfl, rfl, _, rfl, by (repeat' first | exact trivial | exact rfl | exact ⟨rfl, rfl⟩ | exact .inl rfl | refine ⟨_, rfl, rfl, rfl, ?_⟩ | refine ⟨_, _, rfl, ?_, ?_⟩ | refine ⟨_, rfl, ?_⟩ | refine And.intro ?_ ?_)⟩, trivial⟩ rfl, by show S - (j + 1) < S - j; omega⟩
      · simp only []
        rw [set_getD (by omega)]
        have b6 := j3 k hk
        by_cases e : k = j
        · subst e; rw [if_pos rfl, if_pos (by omega)]; omega
        · rw [if_neg e, b6]
          by_cases hkj : k < j
          · rw [if_pos hkj, if_pos (by omega)]
          · rw [if_neg hkj, if_neg (by omega)]
      · show (t.map i64).set (0 + ((j : Nat) : Int).toNat) _ = _
        rw [Nat.zero_add, Int.toNat_natCast, List.map_set]
    · have h2 : ¬ (j : Int) < S := h2
      have hj : j = S := by omega
      subst hj
      have ht : t = tabN x.cards vars j (cs ++ p.cases) := getD_ext (by rw [j2, tab_len]) fun k hk => by
        rw [j3 k (by omega), if_pos (by omega), tab_app (by omega), ← g3, ← haw]
      refine ⟨by show 0 + cs.length ≤ (cs.map ints).length; simp, cs.map ints, takeAll (by simp), by show (cs.length + (p.cases.map ints).length) * 24 ≤ 140737488355328; rw [List.length_map]; omega, (cs ++ p.cases).map ints, by simp, ?_⟩
      refine ⟨_, wrap_i64 (by omega) (by omega), ?_⟩
      refine ⟨(i + 1, cs ++ p.cases, t), ⟨by simp only []; omega, (g2.append_right _).trans hstep, ht⟩, ent_of [] [(4, 9)] [] rfl ⟨⟨rfl, rfl⟩, rfl, rfl, ⟨rfl, rfl⟩, rfl, ?_, rfl, rfl, trivial⟩ ⟨⟨_, rfl, rfl, rfl, rfl⟩, ⟨_, rfl, rfl, rfl, rfl⟩, ⟨_, rfl, rfl, rfl, _, rfl, by (repeat' first | exact trivial | exact rfl | exact ⟨rfl, rfl⟩ | exact .inl rfl | refine ⟨_, rfl, rfl, rfl, ?_⟩ | refine ⟨_, _, rfl, ?_, ?_⟩ | refine ⟨_, rfl, ?_⟩ | refine And.intro ?_ ?_)⟩, ⟨_, rfl, rfl, rfl, _, rfl, by (repeat' first | exact trivial | exact rfl | exact ⟨rfl, rfl⟩ | exact .inl rfl | refine ⟨_, rfl, rfl, rfl, ?_⟩ | refine ⟨_, _, rfl, ?_, ?_⟩ | refine ⟨_, rfl, ?_⟩ | refine And.intro ?_ ?_)⟩, trivial⟩ rfl, by show n - (i + 1) < n - i; omega⟩
      exact congrArg (fun n => AV.sl 9 1 0 n) (show cs.length + (p.cases.map ints).length = (cs ++ p.cases).length by rw [List.length_map, List.length_append])
  · have h1 : ¬ (i : Int) < n := h1
    have hi : i = n := by omega
    subst hi
    rw [aheadB_all (by omega)] at g2
    have hsf : s = f.w := by rw [g3, hfw, tab_perm g2]
    have hE := equal_c s f.w (by omega) (by omega)
    rw [decide_eq_true hsf] at hE
    have hcc : ∀ c ∈ x.cases, c.length ≤ 1000 := hz.2.2
    have hcc2 : ∀ c ∈ cs, c.length ≤ 1000 := fun c hc => hcc c (g2.mem_iff.1 hc)
    refine (clone2_c x.cases (by omega)).holds.useN [] [] rfl trivial ⟨_, _, rfl, rfl, rfl⟩ fun e0 H0 hq => ?_
    rcases hq with ⟨rfl, rfl⟩ | ⟨h0, rfl, rfl⟩
    · refine ⟨rfl, ?_⟩
      refine (sort_c x.cases (by omega) hcc).holds.useN [] [(0, 5)] rfl ⟨⟨_, rfl, rfl, rfl, rfl⟩, trivial⟩ (by (repeat' first | exact trivial | exact rfl | exact ⟨rfl, rfl⟩ | exact .inl rfl | refine ⟨_, rfl, rfl, rfl, ?_⟩ | refine ⟨_, _, rfl, ?_, ?_⟩ | refine ⟨_, rfl, ?_⟩ | refine And.intro ?_ ?_)) fun e0 H0 hq => ?_
      obtain ⟨ys, y1, y2, rfl, rfl⟩ := hq
      refine ⟨rfl, ?_⟩
      refine (sort_c cs (by omega) hcc2).holds.useN [] [(0, 4)] rfl ⟨⟨_, rfl, rfl, rfl, rfl⟩, trivial⟩ (by (repeat' first | exact trivial | exact rfl | exact ⟨rfl, rfl⟩ | exact .inl rfl | refine ⟨_, rfl, rfl, rfl, ?_⟩ | refine ⟨_, _, rfl, ?_, ?_⟩ | refine ⟨_, rfl, ?_⟩ | refine And.intro ?_ ?_)) fun e0 H0 hq => ?_
      obtain ⟨zs, z1, z2, rfl, rfl⟩ := hq
      refine ⟨rfl, ?_⟩
      have hyz : ys = zs := sorted_eq y2 z2 ((y1.trans g2.symm).trans z1.symm)
      have yl := y1.length_eq
      have zl := z1.length_eq
      refine hE.lends [3] rfl ⟨_, _, rfl, ⟨_, rfl, by show 0 + s.length ≤ (s.map i64).length; simp, takeAll (by simp)⟩, _, _, rfl, rfl, rfl⟩ ?_
      refine (equalFunc_c ys zs (by omega) (by omega) (fun c hc => hcc c (y1.mem_iff.1 hc)) hyz).lends [4, 5] rfl ⟨_, _, rfl, ⟨_, rfl, by show 0 + x.cases.length ≤ (ys.map ints).length; rw [List.length_map]; omega, takeAll (by rw [List.length_map]; omega)⟩, _, _, rfl, ⟨_, rfl, by show 0 + cs.length ≤ (zs.map ints).length; rw [List.length_map]; omega, takeAll (by rw [List.length_map]; omega)⟩, _, _, rfl, rfl, rfl⟩ ?_
      exact end1 _ rfl rfl rfl
    · refine ⟨rfl, ?_⟩
      have hc0 : cs = [] := by rw [h0] at g2; exact List.Perm.eq_nil g2
      subst hc0
      refine sort_nil.holds.useN [] [] rfl trivial (by (repeat' first | exact trivial | exact rfl | exact ⟨rfl, rfl⟩ | exact .inl rfl | refine ⟨_, rfl, rfl, rfl, ?_⟩ | refine ⟨_, _, rfl, ?_, ?_⟩ | refine ⟨_, rfl, ?_⟩ | refine And.intro ?_ ?_)) fun e0 H0 hq => ?_
      obtain ⟨rfl, rfl⟩ := hq
      refine ⟨rfl, ?_⟩
      refine (sort_c [] (by simp) (by simp)).holds.useN [] [(0, 4)] rfl ⟨⟨_, rfl, rfl, rfl, rfl⟩, trivial⟩ (by (repeat' first | exact trivial | exact rfl | exact ⟨rfl, rfl⟩ | exact .inl rfl | refine ⟨_, rfl, rfl, rfl, ?_⟩ | refine ⟨_, _, rfl, ?_, ?_⟩ | refine ⟨_, rfl, ?_⟩ | refine And.intro ?_ ?_)) fun e0 H0 hq => ?_
      obtain ⟨zs, z1, z2, rfl, rfl⟩ := hq
      refine ⟨rfl, ?_⟩
      have hz0 : zs = [] := List.Perm.eq_nil z1
      subst hz0
      refine hE.lends [3] rfl ⟨_, _, rfl, ⟨_, rfl, by show 0 + s.length ≤ (s.map i64).length; simp, takeAll (by simp)⟩, _, _, rfl, rfl, rfl⟩ ?_
      refine (equalFunc_c [] [] (by simp) (by simp) (by simp) rfl).lends [4] rfl ⟨_, _, rfl, .inr (.inl rfl), _, _, rfl, ⟨_, rfl, by simp, rfl⟩, _, _, rfl, rfl, rfl⟩ ?_
      exact end1 _ rfl rfl rfl
end Go.Proofs.YtmdmjnfdemgpoaaDoor

/- The listed tables, as the rows of data ask. -/
namespace Go.Proofs.YtmdmjnfdemgpoaaDoor
open Go Y
set_option maxRecDepth 100000

theorem own : ownKnob Tryd.prog.godebug = none := by kernel_rfl
abbrev laidD : List (String × DataW Unit) := [("math/bits.deBruijn32tab", Rows.laid_math_bits_deBruijn32tab), ("math/bits.deBruijn64tab", Rows.laid_math_bits_deBruijn64tab), ("internal/strconv.uint64pow10", Rows.laid_internal_strconv_uint64pow10), ("unicode/utf8.acceptRanges", Rows.laid_unicode_utf8_acceptRanges), ("unicode/utf8.first", Rows.laid_unicode_utf8_first)]
theorem door_metD (os : Os) (args : Array Value) : laidMetH Tryd.prog laidD ((World.laidAll Tryd.prog os laidD).forCall (fun _ _ => 0) ⟨#[], args, []⟩).memory := by
  rw [MakeChecks.laidMetH_plain _ _ _ (by kernel_rfl)]
  exact laidMet_laidAll _ (by kernel_rfl) (by kernel_rfl)
theorem glob_okD {W : World} (_ : laidMetH Tryd.prog laidD W) : ∀ g cs, gget cx.gt g = some cs → VP (fzOf W) (.fp cs) (.pointer (some ⟨g, 0, none⟩)) := fun _ _ h => by cases h
end Go.Proofs.YtmdmjnfdemgpoaaDoor
