/- FormatReads: the row and the card. ReadLines, ReadNested and Turn return what the reference's do, for arbitrary texts, pieces of texts, and the forms of drafted networks with changes. Conditions: those of the card. -/
import Derived.ChangeArms
import Derived.OpenShut
import Derived.WideHanded
import Derived.ChangeSame
import Derived.ProofKit
import Derived.LaidMore
import Derived.LaidLaws
import Derived.Stop.Joined
import Derived.MakeChecks
import Derived.Test.YtphmmoloegjocaaGreatDoorRows
import Derived.Lay
import Derived.Test.YtphmmoloegjocaaGreatDoorCards
import Derived.Test.YtphmmoloegjocaaGreatDoorTie
import Derived.SevenTiedAt
import Derived.Test.YtphmmoloegjocaaGreatDoorQ5
/- The statements' own functions: ints, equal. -/
namespace Go.Proofs.YtphmmoloegjocaaGreatDoor
open Go Y
set_option maxRecDepth 100000
set_option maxHeartbeats 40000000

theorem ints_eq (a b : List Int) (ha : a.length ≤ 9223372036854775807) : Pure cx 56 [ints a, ints b] (· = .ret [.bool (decide (a = b))]) := by
  refine pure_of_vc Tryz.func56 rfl rfl rfl ?_
  (first | refine brLt (fun h1 => ?_) (fun h1 => ?_) | refine brLe (fun h1 => ?_) (fun h1 => ?_) | refine brEq (fun h1 => ?_) (fun h1 => ?_))
  rotate_left
  · have h1 : ¬ ((a.map i64).length : Int) = ((b.map i64).length : Nat) := h1
    rw [List.length_map, List.length_map] at h1
    refine end1 _ rfl rfl (retB ?_)
    rw [eq_comm, decide_eq_false_iff_not]
    rintro rfl
    exact h1 rfl
  have h1 : ((a.map i64).length : Int) = ((b.map i64).length : Nat) := h1
  rw [List.length_map, List.length_map] at h1
  have hl : a.length = b.length := by omega
  refine ⟨Nat, fun k => [(0, .p (ints a)), (1, .p (ints b)), (12, .p (i64 a.length)), (13, .p (i64 k))], fun _ => ⟨0, []⟩, fun k => k ≤ a.length ∧ a.take k = b.take k, fun k => a.length - k, ?_, ?_⟩
  · exact ⟨0, ⟨by omega, by simp⟩, ent0 rfl ⟨rfl, rfl, lenM i64 a, rfl, trivial⟩ trivial rfl⟩
  rintro k ⟨g1, g2⟩
  (first | refine brLt (fun h2 => ?_) (fun h2 => ?_) | refine brLe (fun h2 => ?_) (fun h2 => ?_) | refine brEq (fun h2 => ?_) (fun h2 => ?_))
  · have h2 : (k : Int) < (a.length : Nat) := h2
    refine VDraw.seq rfl ?_
    refine ⟨_, ⟨by omega, i64 (a.getD k 0), icell (by omega), rfl⟩, ?_⟩
    refine ⟨_, ⟨by omega, i64 (b.getD k 0), icell (by omega), rfl⟩, ?_⟩
    (first | refine brLt (fun h3 => ?_) (fun h3 => ?_) | refine brLe (fun h3 => ?_) (fun h3 => ?_) | refine brEq (fun h3 => ?_) (fun h3 => ?_))
    · have h3 : a.getD k 0 = b.getD k 0 := h3
      refine ⟨(k : Int) + 1, wrap_i64 (by omega) (by omega), k + 1, ⟨by omega, ?_⟩, ent0 rfl ⟨rfl, rfl, rfl, rfl, trivial⟩ trivial rfl, ?_⟩
      · rw [take_succ_getD 0 (by omega), take_succ_getD 0 (by omega), g2, h3]
      · show a.length - (k + 1) < a.length - k
        omega
    · have h3 : ¬ a.getD k 0 = b.getD k 0 := h3
      refine end1 _ rfl rfl (retB ?_)
      rw [eq_comm, decide_eq_false_iff_not]
      rintro rfl
      exact h3 rfl
  · have h2 : ¬ (k : Int) < (a.length : Nat) := h2
    refine end1 _ rfl rfl (retB ?_)
    rw [take_all (by omega), take_all (by omega)] at g2
    rw [eq_comm, decide_eq_true_iff]
    exact g2

noncomputable instance (n m : Nt) : Decidable (n = m) := Classical.propDecidable _
theorem nd_ext {x y : Nd} (h1 : x.card = y.card) (h2 : x.parents = y.parents) (h3 : x.rows = y.rows) : x = y := by
  obtain ⟨a, b, c⟩ := x
  obtain ⟨d, e, f⟩ := y
  simp only [] at h1 h2 h3
  rw [h1, h2, h3]
theorem nt_ext {n m : Nt} (h1 : n.grain = m.grain) (h2 : n.nodes = m.nodes) : n = m := by
  obtain ⟨a, b⟩ := n
  obtain ⟨d, e⟩ := m
  simp only [] at h1 h2
  rw [h1, h2]
theorem equal_z : Pure cx 23 [znV, znV] (· = .ret [.bool true]) := by
  refine pure_of_vc Tryz.func23 rfl rfl rfl ?_
  refine And.intro (fun _ => ?_) (fun h => absurd rfl h)
  refine And.intro (fun _ => ?_) (fun h => absurd rfl h)
  refine ⟨Unit, fun _ => [(25, .p (i64 0)), (26, .p (i64 0))], fun _ => ⟨2, []⟩, fun _ => True, fun _ => 0, ?_, ?_⟩
  · exact ⟨(), trivial, ent_of [] [] [] rfl (by (repeat' first | exact trivial | exact rfl | exact ⟨rfl, rfl⟩ | exact .inl rfl | refine ⟨_, rfl, rfl, rfl, ?_⟩ | refine ⟨_, _, rfl, ?_, ?_⟩ | refine ⟨_, rfl, ?_⟩ | refine And.intro ?_ ?_)) (by (repeat' first | exact trivial | exact rfl | exact ⟨rfl, rfl⟩ | exact .inl rfl | refine ⟨_, rfl, rfl, rfl, ?_⟩ | refine ⟨_, _, rfl, ?_, ?_⟩ | refine ⟨_, rfl, ?_⟩ | refine And.intro ?_ ?_)) rfl⟩
  intro _ _
  (first | refine brLt (fun h2 => ?_) (fun h2 => ?_) | refine brLe (fun h2 => ?_) (fun h2 => ?_) | refine brEq (fun h2 => ?_) (fun h2 => ?_))
  · have h2 : (0 : Int) < 0 := h2
    omega
  · exact end1 _ rfl rfl rfl
theorem equal_c (n m : Nt) (hn : BigN n) : Pure cx 23 [n.pv, m.pv] (· = .ret [.bool (decide (n = m))]) := by
  refine pure_of_vc Tryz.func23 rfl rfl rfl ?_
  have hnl := hn.nodes
  (first | refine brLt (fun h1 => ?_) (fun h1 => ?_) | refine brLe (fun h1 => ?_) (fun h1 => ?_) | refine brEq (fun h1 => ?_) (fun h1 => ?_))
  rotate_left
  · have h1 : ¬ n.grain = m.grain := h1
    refine end1 (.bool false) rfl rfl (retB ?_)
    rw [eq_comm, decide_eq_false_iff_not]
    rintro rfl
    exact h1 rfl
  have h1 : n.grain = m.grain := h1
  (first | refine brLt (fun h2 => ?_) (fun h2 => ?_) | refine brLe (fun h2 => ?_) (fun h2 => ?_) | refine brEq (fun h2 => ?_) (fun h2 => ?_))
  rotate_left
  · have h2 : ¬ ((n.nodes.map Nd.cells).length : Int) = ((m.nodes.map Nd.cells).length : Nat) := h2
    refine end1 (.bool false) rfl rfl (retB ?_)
    rw [eq_comm, decide_eq_false_iff_not]
    rintro rfl
    exact h2 rfl
  have h2 : ((n.nodes.map Nd.cells).length : Int) = ((m.nodes.map Nd.cells).length : Nat) := h2
  rw [List.length_map, List.length_map] at h2
  refine ⟨Nat, fun k => [(2, .ptr 0 0 0), (3, .ptr 1 0 0), (25, .p (i64 n.nodes.length)), (26, .p (i64 k))], fun _ => ⟨2, [(1, ntO m), (0, ntO n)]⟩, fun k => k ≤ n.nodes.length ∧ n.nodes.take k = m.nodes.take k, fun k => n.nodes.length - k, ?_, ?_⟩
  · exact ⟨0, ⟨by omega, by simp⟩, ent_of [] [] [] rfl ⟨⟨rfl, rfl⟩, ⟨rfl, rfl⟩, lenM Nd.cells n.nodes, rfl, trivial⟩ (by (repeat' first | exact trivial | exact rfl | exact ⟨rfl, rfl⟩ | exact .inl rfl | refine ⟨_, rfl, rfl, rfl, ?_⟩ | refine ⟨_, _, rfl, ?_, ?_⟩ | refine ⟨_, rfl, ?_⟩ | refine And.intro ?_ ?_)) rfl⟩
  rintro k ⟨k1, k2⟩
  (first | refine brLt (fun h3 => ?_) (fun h3 => ?_) | refine brLe (fun h3 => ?_) (fun h3 => ?_) | refine brEq (fun h3 => ?_) (fun h3 => ?_))
  rotate_left
  · have h3 : ¬ (k : Int) < (n.nodes.length : Nat) := h3
    rw [take_all (by omega), take_all (by omega)] at k2
    exact end1 (.bool true) rfl rfl (retB (decide_eq_true (nt_ext h1 k2)).symm)
  have h3 : (k : Int) < (n.nodes.length : Nat) := h3
  have hk : k < n.nodes.length := by omega
  have hk' : k < m.nodes.length := by omega
  obtain ⟨x, hx⟩ : ∃ x, x = n.nodes.getD k nd0 := ⟨_, rfl⟩
  obtain ⟨y, hy⟩ : ∃ y, y = m.nodes.getD k nd0 := ⟨_, rfl⟩
  have hxm : x ∈ n.nodes := by rw [hx]; exact getD_memL nd0 hk
  have differ : ¬ x = y → ¬ n = m := fun h e => h (by rw [hx, hy, e])
  refine VDraw.altTo [(2, .ptr 0 0 0), (3, .ptr 1 0 0), (25, .p (i64 n.nodes.length)), (26, .p (i64 k)), (6, .ptr 2 0 0), (7, .ptr 3 0 0)] ⟨4, [(3, ndO y), (2, ndO x), (1, ntO m), (0, ntO n)]⟩ rfl ?_ ?_
  · refine ⟨_, ⟨by omega, x.cells, by rw [hx]; exact ncell hk, rfl⟩, ?_⟩
    refine ⟨_, ⟨by omega, y.cells, by rw [hy]; exact ncell hk', rfl⟩, ?_⟩
    refine And.intro ?_ ?_
    · refine ⟨by (repeat' first | exact trivial | exact rfl | exact ⟨rfl, rfl⟩ | exact .inl rfl | refine ⟨_, rfl, rfl, rfl, ?_⟩ | refine ⟨_, _, rfl, ?_, ?_⟩ | refine ⟨_, rfl, ?_⟩ | refine And.intro ?_ ?_), ?_⟩
      refine ⟨by (repeat' first | exact trivial | exact rfl | exact ⟨rfl, rfl⟩ | exact .inl rfl | refine ⟨_, rfl, rfl, rfl, ?_⟩ | refine ⟨_, _, rfl, ?_, ?_⟩ | refine ⟨_, rfl, ?_⟩ | refine And.intro ?_ ?_), ?_⟩
      refine ⟨by (repeat' first | exact trivial | exact rfl | exact ⟨rfl, rfl⟩ | exact .inl rfl | refine ⟨_, rfl, rfl, rfl, ?_⟩ | refine ⟨_, _, rfl, ?_, ?_⟩ | refine ⟨_, rfl, ?_⟩ | refine And.intro ?_ ?_), ?_⟩
      exact ent_of [] [] [] rfl (by (repeat' first | exact trivial | exact rfl | exact ⟨rfl, rfl⟩ | exact .inl rfl | refine ⟨_, rfl, rfl, rfl, ?_⟩ | refine ⟨_, _, rfl, ?_, ?_⟩ | refine ⟨_, rfl, ?_⟩ | refine And.intro ?_ ?_)) (by (repeat' first | exact trivial | exact rfl | exact ⟨rfl, rfl⟩ | exact .inl rfl | refine ⟨_, rfl, rfl, rfl, ?_⟩ | refine ⟨_, _, rfl, ?_, ?_⟩ | refine ⟨_, rfl, ?_⟩ | refine And.intro ?_ ?_)) rfl
    · refine ⟨by (repeat' first | exact trivial | exact rfl | exact ⟨rfl, rfl⟩ | exact .inl rfl | refine ⟨_, rfl, rfl, rfl, ?_⟩ | refine ⟨_, _, rfl, ?_, ?_⟩ | refine ⟨_, rfl, ?_⟩ | refine And.intro ?_ ?_), ?_⟩
      refine ⟨by (repeat' first | exact trivial | exact rfl | exact ⟨rfl, rfl⟩ | exact .inl rfl | refine ⟨_, rfl, rfl, rfl, ?_⟩ | refine ⟨_, _, rfl, ?_, ?_⟩ | refine ⟨_, rfl, ?_⟩ | refine And.intro ?_ ?_), ?_⟩
      refine ⟨by (repeat' first | exact trivial | exact rfl | exact ⟨rfl, rfl⟩ | exact .inl rfl | refine ⟨_, rfl, rfl, rfl, ?_⟩ | refine ⟨_, _, rfl, ?_, ?_⟩ | refine ⟨_, rfl, ?_⟩ | refine And.intro ?_ ?_), ?_⟩
      exact ent_of [] [(2, 3), (3, 2)] [] rfl (by (repeat' first | exact trivial | exact rfl | exact ⟨rfl, rfl⟩ | exact .inl rfl | refine ⟨_, rfl, rfl, rfl, ?_⟩ | refine ⟨_, _, rfl, ?_, ?_⟩ | refine ⟨_, rfl, ?_⟩ | refine And.intro ?_ ?_)) (by (repeat' first | exact trivial | exact rfl | exact ⟨rfl, rfl⟩ | exact .inl rfl | refine ⟨_, rfl, rfl, rfl, ?_⟩ | refine ⟨_, _, rfl, ?_, ?_⟩ | refine ⟨_, rfl, ?_⟩ | refine And.intro ?_ ?_)) rfl
  (first | refine brLt (fun h4 => ?_) (fun h4 => ?_) | refine brLe (fun h4 => ?_) (fun h4 => ?_) | refine brEq (fun h4 => ?_) (fun h4 => ?_))
  rotate_left
  · have h4 : ¬ x.card = y.card := h4
    refine end1 (.bool false) rfl rfl (retB ?_)
    rw [eq_comm, decide_eq_false_iff_not]
    exact differ fun e => h4 (by rw [e])
  have h4 : x.card = y.card := h4
  (first | refine brLt (fun h5 => ?_) (fun h5 => ?_) | refine brLe (fun h5 => ?_) (fun h5 => ?_) | refine brEq (fun h5 => ?_) (fun h5 => ?_))
  rotate_left
  · have h5 : ¬ ((x.rows.map ints).length : Int) = ((y.rows.map ints).length : Nat) := h5
    refine end1 (.bool false) rfl rfl (retB ?_)
    rw [eq_comm, decide_eq_false_iff_not]
    exact differ fun e => h5 (by rw [e])
  have h5 : ((x.rows.map ints).length : Int) = ((y.rows.map ints).length : Nat) := h5
  rw [List.length_map, List.length_map] at h5
  have hP := ints_eq x.parents y.parents (hn.par x hxm)
  by_cases h6 : x.parents = y.parents
  rotate_left
  · rw [decide_eq_false h6] at hP
    refine hP.eq rfl ?_
    refine end1 (.bool false) rfl rfl (retB ?_)
    rw [eq_comm, decide_eq_false_iff_not]
    exact differ fun e => h6 (by rw [e])
  rw [decide_eq_true h6] at hP
  refine hP.eq rfl ?_
  have hxr := hn.rows x hxm
  refine ⟨Nat, fun j => [(2, .ptr 0 0 0), (3, .ptr 1 0 0), (25, .p (i64 n.nodes.length)), (26, .p (i64 k)), (6, .ptr 2 0 0), (7, .ptr 3 0 0), (63, .p (i64 x.rows.length)), (64, .p (i64 j))], fun _ => ⟨4, [(3, ndO y), (2, ndO x), (1, ntO m), (0, ntO n)]⟩, fun j => j ≤ x.rows.length ∧ x.rows.take j = y.rows.take j, fun j => x.rows.length - j, ?_, ?_⟩
  · exact ⟨0, ⟨by omega, by simp⟩, ent_of [] [] [] rfl ⟨⟨rfl, rfl⟩, ⟨rfl, rfl⟩, rfl, rfl, ⟨rfl, rfl⟩, ⟨rfl, rfl⟩, lenM ints x.rows, rfl, trivial⟩ (by (repeat' first | exact trivial | exact rfl | exact ⟨rfl, rfl⟩ | exact .inl rfl | refine ⟨_, rfl, rfl, rfl, ?_⟩ | refine ⟨_, _, rfl, ?_, ?_⟩ | refine ⟨_, rfl, ?_⟩ | refine And.intro ?_ ?_)) rfl⟩
  rintro j ⟨j1, j2⟩
  (first | refine brLt (fun h7 => ?_) (fun h7 => ?_) | refine brLe (fun h7 => ?_) (fun h7 => ?_) | refine brEq (fun h7 => ?_) (fun h7 => ?_))
  rotate_left
  · have h7 : ¬ (j : Int) < (x.rows.length : Nat) := h7
    rw [take_all (by omega), take_all (by omega)] at j2
    refine ⟨(k : Int) + 1, wrap_i64 (by omega) (by omega), ?_⟩
    refine ⟨k + 1, ⟨by omega, ?_⟩, ent_of [] [] [] rfl (by (repeat' first | exact trivial | exact rfl | exact ⟨rfl, rfl⟩ | exact .inl rfl | refine ⟨_, rfl, rfl, rfl, ?_⟩ | refine ⟨_, _, rfl, ?_, ?_⟩ | refine ⟨_, rfl, ?_⟩ | refine And.intro ?_ ?_)) (by (repeat' first | exact trivial | exact rfl | exact ⟨rfl, rfl⟩ | exact .inl rfl | refine ⟨_, rfl, rfl, rfl, ?_⟩ | refine ⟨_, _, rfl, ?_, ?_⟩ | refine ⟨_, rfl, ?_⟩ | refine And.intro ?_ ?_)) rfl, by show n.nodes.length - (k + 1) < n.nodes.length - k; omega⟩
    rw [take_succ_getD nd0 hk, take_succ_getD nd0 hk', k2, ← hx, ← hy, nd_ext h4 h6 j2]
  have h7 : (j : Int) < (x.rows.length : Nat) := h7
  have hj : j < x.rows.length := by omega
  have hj' : j < y.rows.length := by omega
  have hrm := getD_memL [] hj
  refine VDraw.seq rfl ?_
  refine ⟨_, ⟨by omega, ints (x.rows.getD j []), ccell hj, rfl⟩, ?_⟩
  refine ⟨_, ⟨by omega, ints (y.rows.getD j []), ccell hj', rfl⟩, ?_⟩
  have hI := ints_eq (x.rows.getD j []) (y.rows.getD j []) (hn.row x hxm _ hrm)
  by_cases h8 : x.rows.getD j [] = y.rows.getD j []
  · rw [decide_eq_true h8] at hI
    refine hI.eq rfl ?_
    refine ⟨(j : Int) + 1, wrap_i64 (by omega) (by omega), ?_⟩
    refine ⟨j + 1, ⟨by omega, ?_⟩, ent_of [] [] [] rfl (by (repeat' first | exact trivial | exact rfl | exact ⟨rfl, rfl⟩ | exact .inl rfl | refine ⟨_, rfl, rfl, rfl, ?_⟩ | refine ⟨_, _, rfl, ?_, ?_⟩ | refine ⟨_, rfl, ?_⟩ | refine And.intro ?_ ?_)) (by (repeat' first | exact trivial | exact rfl | exact ⟨rfl, rfl⟩ | exact .inl rfl | refine ⟨_, rfl, rfl, rfl, ?_⟩ | refine ⟨_, _, rfl, ?_, ?_⟩ | refine ⟨_, rfl, ?_⟩ | refine And.intro ?_ ?_)) rfl, by show x.rows.length - (j + 1) < x.rows.length - j; omega⟩
    rw [take_succ_getD [] hj, take_succ_getD [] hj', j2, h8]
  · rw [decide_eq_false h8] at hI
    refine hI.eq rfl ?_
    refine end1 (.bool false) rfl rfl (retB ?_)
    rw [eq_comm, decide_eq_false_iff_not]
    exact differ fun e => h8 (by rw [e])
end Go.Proofs.YtphmmoloegjocaaGreatDoor

/- The statements' own functions: lined, nested, badLine, badNest, reads. -/
namespace Go.Proofs.YtphmmoloegjocaaGreatDoor
open Go Y
set_option maxRecDepth 100000
set_option maxHeartbeats 40000000

theorem lined_yes (t : List UInt8) (n : Nt) (ht : t.length ≤ 50000) (h : readLR t = .inr n) : Pure cx 26 [.str t, n.pv] (· = .ret [.bool true]) := by
  have hv := readL_ok h
  refine pure_of_vc Tryz.func26 rfl rfl rfl ?_
  have hR := readLines_p t ht
  rw [readL_res, h] at hR
  have hE := equal_c n n (valid_big hv)
  rw [decide_eq_true rfl] at hE
  refine hR.eq rfl ?_
  refine And.intro (fun _ => ?_) (fun h => absurd rfl h)
  refine And.intro (fun _ => ?_) (fun h => absurd rfl h)
  refine hE.eq rfl ?_
  exact end1 _ rfl rfl rfl
theorem nested_yes (t : List UInt8) (n : Nt) (ht : t.length ≤ 50000) (h : readNR t = .inr n) : Pure cx 27 [.str t, n.pv] (· = .ret [.bool true]) := by
  have hv := readN_ok h
  refine pure_of_vc Tryz.func27 rfl rfl rfl ?_
  have hR := readNested_p t ht
  rw [readN_res, h] at hR
  have hE := equal_c n n (valid_big hv)
  rw [decide_eq_true rfl] at hE
  refine hR.eq rfl ?_
  refine And.intro (fun _ => ?_) (fun h => absurd rfl h)
  refine And.intro (fun _ => ?_) (fun h => absurd rfl h)
  refine hE.eq rfl ?_
  exact end1 _ rfl rfl rfl
theorem badLine_yes (t : List UInt8) (p : Nat) (e : Int) (ht : t.length ≤ 50000) (h : readLR t = .inl (p, e)) : Pure cx 19 [.str t, i64 (p : Nat), i64 e] (· = .ret [.bool true]) := by
  refine pure_of_vc Tryz.func19 rfl rfl rfl ?_
  have hR := readLines_p t ht
  rw [readL_res, h] at hR
  refine hR.eq rfl ?_
  refine And.intro (fun _ => ?_) (fun h => absurd rfl h)
  refine And.intro (fun _ => ?_) (fun h => absurd rfl h)
  refine And.intro (fun _ => ?_) (fun h => absurd rfl h)
  refine And.intro (fun _ => ?_) (fun h => absurd rfl h)
  exact end1 _ rfl rfl rfl
theorem badNest_yes (t : List UInt8) (p : Nat) (e : Int) (ht : t.length ≤ 50000) (h : readNR t = .inl (p, e)) : Pure cx 22 [.str t, i64 (p : Nat), i64 e] (· = .ret [.bool true]) := by
  refine pure_of_vc Tryz.func22 rfl rfl rfl ?_
  have hR := readNested_p t ht
  rw [readN_res, h] at hR
  refine hR.eq rfl ?_
  refine And.intro (fun _ => ?_) (fun h => absurd rfl h)
  refine And.intro (fun _ => ?_) (fun h => absurd rfl h)
  refine And.intro (fun _ => ?_) (fun h => absurd rfl h)
  refine And.intro (fun _ => ?_) (fun h => absurd rfl h)
  exact end1 _ rfl rfl rfl

theorem turn_two (s : List UInt8) : ∃ u e, turnV s = [.str u, i64 e] := by
  rw [turnV]
  split
  · generalize readNR s = r
    rcases r with ⟨p, e⟩ | n <;> exact ⟨_, _, rfl⟩
  · generalize readLR s = r
    rcases r with ⟨p, e⟩ | n <;> exact ⟨_, _, rfl⟩
theorem equal_same {r : Sum (Nat × Int) Nt} {n : Nt} (e : r = .inr n) (h : ∀ n, r = .inr n → validP n) : Pure cx 23 [n.pv, n.pv] (· = .ret [.bool true]) := by
  have hE := equal_c n n (valid_big (h n e))
  rw [decide_eq_true rfl] at hE
  exact hE
theorem reads_c (s : List UInt8) (hs : s.length ≤ 50000) : Pure cx 17 [.str s] (· = .ret [.bool true]) := by
  have h1 := readLines_p s hs
  have h2 := readLines_c s hs
  have h3 := readNested_p s hs
  have h4 := readNested_c s hs
  have h5 := turn_p s hs
  have h6 := rTurn_c s hs
  rw [readL_res] at h1 h2
  rw [readN_res] at h3 h4
  obtain ⟨u, g, eT⟩ := turn_two s
  rw [eT] at h5 h6
  refine pure_of_vc Tryz.func17 rfl rfl rfl ?_
  rcases hL : readLR s with ⟨p, e⟩ | n
  · rw [hL] at h1 h2
    rcases hN : readNR s with ⟨q, f⟩ | m
    · rw [hN] at h3 h4
      refine h1.eq rfl ?_
      refine h2.eq rfl ?_
      refine h3.eq rfl ?_
      refine h4.eq rfl ?_
      refine h5.eq rfl ?_
      refine h6.eq rfl ?_
      refine And.intro (fun _ => ?_) (fun h => absurd rfl h)
      refine And.intro (fun _ => ?_) (fun h => absurd rfl h)
      refine equal_z.eq rfl ?_
      refine And.intro (fun _ => ?_) (fun h => absurd rfl h)
      refine And.intro (fun _ => ?_) (fun h => absurd rfl h)
      refine equal_z.eq rfl ?_
      refine And.intro (fun _ => ?_) (fun h => absurd rfl h)
      refine And.intro (fun _ => ?_) (fun h => absurd rfl h)
      exact end1 _ rfl rfl rfl
    · rw [hN] at h3 h4
      refine h1.eq rfl ?_
      refine h2.eq rfl ?_
      refine h3.eq rfl ?_
      refine h4.eq rfl ?_
      refine h5.eq rfl ?_
      refine h6.eq rfl ?_
      refine And.intro (fun _ => ?_) (fun h => absurd rfl h)
      refine And.intro (fun _ => ?_) (fun h => absurd rfl h)
      refine equal_z.eq rfl ?_
      refine And.intro (fun _ => ?_) (fun h => absurd rfl h)
      refine And.intro (fun _ => ?_) (fun h => absurd rfl h)
      refine (equal_same hN fun n h => readN_ok h).eq rfl ?_
      refine And.intro (fun _ => ?_) (fun h => absurd rfl h)
      refine And.intro (fun _ => ?_) (fun h => absurd rfl h)
      exact end1 _ rfl rfl rfl
  · rw [hL] at h1 h2
    rcases hN : readNR s with ⟨q, f⟩ | m
    · rw [hN] at h3 h4
      refine h1.eq rfl ?_
      refine h2.eq rfl ?_
      refine h3.eq rfl ?_
      refine h4.eq rfl ?_
      refine h5.eq rfl ?_
      refine h6.eq rfl ?_
      refine And.intro (fun _ => ?_) (fun h => absurd rfl h)
      refine And.intro (fun _ => ?_) (fun h => absurd rfl h)
      refine (equal_same hL fun n h => readL_ok h).eq rfl ?_
      refine And.intro (fun _ => ?_) (fun h => absurd rfl h)
      refine And.intro (fun _ => ?_) (fun h => absurd rfl h)
      refine equal_z.eq rfl ?_
      refine And.intro (fun _ => ?_) (fun h => absurd rfl h)
      refine And.intro (fun _ => ?_) (fun h => absurd rfl h)
      exact end1 _ rfl rfl rfl
    · rw [hN] at h3 h4
      refine h1.eq rfl ?_
      refine h2.eq rfl ?_
      refine h3.eq rfl ?_
      refine h4.eq rfl ?_
      refine h5.eq rfl ?_
      refine h6.eq rfl ?_
      refine And.intro (fun _ => ?_) (fun h => absurd rfl h)
      refine And.intro (fun _ => ?_) (fun h => absurd rfl h)
      refine (equal_same hL fun n h => readL_ok h).eq rfl ?_
      refine And.intro (fun _ => ?_) (fun h => absurd rfl h)
      refine And.intro (fun _ => ?_) (fun h => absurd rfl h)
      refine (equal_same hN fun n h => readN_ok h).eq rfl ?_
      refine And.intro (fun _ => ?_) (fun h => absurd rfl h)
      refine And.intro (fun _ => ?_) (fun h => absurd rfl h)
      exact end1 _ rfl rfl rfl
end Go.Proofs.YtphmmoloegjocaaGreatDoor

/- The chapter's examples (plain). Printed by gen/works41.py. -/
namespace Go.Proofs.YtphmmoloegjocaaGreatDoor
open Go Y
set_option maxRecDepth 100000
set_option maxHeartbeats 4000000

def exOne : Nt := ⟨4, [⟨2, [], [[1, 3]]⟩]⟩
def exTwo : Nt := ⟨4, [⟨2, [], [[1, 3]]⟩, ⟨2, [0], [[4, 0], [2, 2]]⟩]⟩
theorem valid_one : validP exOne := by
  refine ⟨by decide, by decide, by unfold okCard; decide, by unfold placedP listP; decide, by decide, ⟨fun v => v, ?_⟩, ?_⟩
  · show ∀ v, v < 1 → ∀ p, p < 1 → (parAt [0] v).testBit p = true → p < v
    decide
  · show ∀ v, v < 1 → nodeP exOne v
    unfold nodeP rowP
    decide
theorem valid_two : validP exTwo := by
  refine ⟨by decide, by decide, by unfold okCard; decide, by unfold placedP listP; decide, by decide, ⟨fun v => v, ?_⟩, ?_⟩
  · show ∀ v, v < 2 → ∀ p, p < 2 → (parAt [0, 1] v).testBit p = true → p < v
    decide
  · show ∀ v, v < 2 → nodeP exTwo v
    unfold nodeP rowP
    decide
theorem line_ok {t : List UInt8} {n : Ns} (h : t.length ≤ 40000) (e : runL true ns0 0 (linesN t) = .inr (false, n)) (hv : validP n.net) : readLR t = .inr n.net := by
  rw [readLR, if_neg (by omega), e]
  exact if_pos hv
theorem line_no {t : List UInt8} {k : Nat} (h : t.length ≤ 40000) (e : runL true ns0 0 (linesN t) = .inl k) : readLR t = .inl (k, 5) := by
  rw [readLR, if_neg (by omega), e]
theorem line_none {t : List UInt8} {n : Ns} (h : t.length ≤ 40000) (e : runL true ns0 0 (linesN t) = .inr (true, n)) : readLR t = .inl (0, 5) := by
  rw [readLR, if_neg (by omega), e]
theorem line_inv {t : List UInt8} {n : Ns} (h : t.length ≤ 40000) (e : runL true ns0 0 (linesN t) = .inr (false, n)) (hv : ¬ validP n.net) : readLR t = .inl (0, 50) := by
  rw [readLR, if_neg (by omega), e]
  exact if_neg hv
theorem nest_ok {t : List UInt8} {n : Nt} {q : Nat} (h : t.length ≤ 40000) (e : netP t (t.length + 1) = .inr (n, q)) (hv : validP n) : readNR t = .inr n := by
  rw [readNR, if_neg (by omega), e]
  exact if_pos hv
theorem nest_no {t : List UInt8} {k : Nat} (h : t.length ≤ 40000) (e : netP t (t.length + 1) = .inl k) : readNR t = .inl (k, 5) := by
  rw [readNR, if_neg (by omega), e]
theorem nest_inv {t : List UInt8} {n : Nt} {q : Nat} (h : t.length ≤ 40000) (e : netP t (t.length + 1) = .inr (n, q)) (hv : ¬ validP n) : readNR t = .inl (0, 50) := by
  rw [readNR, if_neg (by omega), e]
  exact if_neg hv

def exL : List UInt8 := [110, 101, 116, 32, 52, 10, 110, 111, 100, 101, 32, 50, 10, 114, 111, 119, 32, 49, 32, 51, 10, 110, 111, 100, 101, 32, 50, 32, 102, 114, 111, 109, 32, 48, 10, 114, 111, 119, 32, 52, 32, 48, 10, 114, 111, 119, 32, 50, 32, 50, 10]
def exN : List UInt8 := [40, 110, 101, 116, 32, 52, 32, 40, 110, 111, 100, 101, 32, 50, 32, 40, 41, 32, 40, 49, 32, 51, 41, 41, 32, 40, 110, 111, 100, 101, 32, 50, 32, 40, 48, 41, 32, 40, 52, 32, 48, 41, 32, 40, 50, 32, 50, 41, 41, 41]
theorem ex_lines : byLines exTwo = exL := by decide
theorem ex_nested : nested exTwo = exN := by decide
theorem ex_l1 : readLR [110, 101, 116, 32, 52, 10, 32, 32, 59, 32, 120, 10, 110, 111, 100, 101, 32, 32, 50, 32, 10, 114, 111, 119, 32, 49, 32, 51] = .inr exOne := line_ok (n := ⟨4, [], some ⟨2, [], [[1, 3]]⟩⟩) (by decide) (by rfl) valid_one
theorem ex_l2 : readLR [110, 101, 116, 32, 52, 10, 114, 111, 119, 32, 49] = .inl (2, 5) := line_no (by decide) (by rfl)
theorem ex_l3 : readLR [110, 101, 116, 32, 48, 52] = .inl (1, 5) := line_no (by decide) (by rfl)
theorem ex_l4 : readLR [] = .inl (0, 5) := line_none (n := ns0) (by decide) (by rfl)
theorem ex_l5 : readLR [110, 101, 116, 32, 52] = .inl (0, 50) := line_inv (n := ⟨4, [], none⟩) (by decide) (by rfl) (fun h => absurd h.len.1 (by decide))
theorem ex_l6 : readLR [120] = .inl (1, 5) := line_no (by decide) (by rfl)
theorem ex_n0 : readNR exN = .inr exTwo := nest_ok (q := 50) (by decide) (by rfl) valid_two
theorem ex_n1 : readNR [40, 110, 101, 116, 32, 52, 40, 110, 111, 100, 101, 32, 50, 40, 41, 40, 49, 32, 51, 41, 41, 41] = .inr exOne := nest_ok (q := 22) (by decide) (by rfl) valid_one
theorem ex_n2 : readNR [40, 110, 101, 116, 32, 52, 32, 40, 110, 111, 100, 101, 32, 50, 32, 40, 41, 32, 40, 41, 41, 41] = .inl (19, 5) := nest_no (by decide) (by rfl)
theorem ex_n3 : readNR [40, 110, 101, 116, 52, 41] = .inl (1, 5) := nest_no (by decide) (by rfl)
theorem ex_n4 : readNR [40, 110, 101, 116, 32, 52] = .inl (6, 5) := nest_no (by decide) (by rfl)
theorem ex_t1 : turnV exN = [.str exL, i64 0] := by
  rw [turnV, if_pos ⟨by decide, by rfl⟩, ex_n0, ← ex_lines]
theorem ex_t2 : turnV [120] = [.str [], i64 5] := by
  rw [turnV, if_neg (fun h => absurd h.2 (by decide)), ex_l6]
end Go.Proofs.YtphmmoloegjocaaGreatDoor

/- The chapter's examples: works. -/
namespace Go.Proofs.YtphmmoloegjocaaGreatDoor
open Go Y
set_option maxRecDepth 100000
set_option maxHeartbeats 40000000

theorem two_c : Pure cx 43 [] (· = .ret [exTwo.pv]) := by
  refine pure_of_vc Tryz.func43 rfl rfl rfl ?_
  refine end1 exTwo.pv rfl ⟨_, rfl, _, _, rfl, rfl, _, _, rfl, ?_, rfl⟩ rfl
  refine ⟨_, rfl, by decide, ⟨_, _, rfl, ⟨_, _, rfl, rfl, _, _, rfl, .inr (.inl rfl), _, _, rfl, ?_, rfl⟩, _, _, rfl, ⟨_, _, rfl, rfl, _, _, rfl, ?_, _, _, rfl, ?_, rfl⟩, rfl⟩⟩
  · exact ⟨_, _, rfl, rfl, _, _, rfl, ⟨_, rfl, by decide, rfl⟩, rfl⟩
  · exact ⟨_, rfl, by decide, rfl⟩
  · exact ⟨_, _, rfl, rfl, _, _, rfl, ⟨_, rfl, by decide, rfl⟩, _, _, rfl, ⟨_, rfl, by decide, rfl⟩, rfl⟩
theorem one_c : Pure cx 45 [] (· = .ret [exOne.pv]) := by
  refine pure_of_vc Tryz.func45 rfl rfl rfl ?_
  refine two_c.eq rfl ?_
  refine ⟨by show (0 : Int) ≤ 1 ∧ (1 : Int) ≤ 2; decide, ?_⟩
  exact end1 exOne.pv rfl rfl rfl
theorem works_c : Pure cx 13 [] (· = .ret [.bool true]) := by
  have h1 := lines_c exTwo (valid_big valid_two)
  rw [linesP, if_pos valid_two, ex_lines] at h1
  have h2 := nestedE_c exTwo (valid_big valid_two)
  rw [nestedP, if_pos valid_two, ex_nested] at h2
  have h3 := turn_p exN (by decide)
  rw [ex_t1] at h3
  have h4 := turn_p [120] (by decide)
  rw [ex_t2] at h4
  refine pure_of_vc Tryz.func13 rfl rfl rfl ?_
  refine two_c.eq rfl ?_
  refine h1.eq rfl ?_
  refine two_c.eq rfl ?_
  refine h2.eq rfl ?_
  refine h3.eq rfl ?_
  refine h4.eq rfl ?_
  refine And.intro (fun _ => ?_) (fun h => absurd rfl h)
  refine And.intro (fun _ => ?_) (fun h => absurd rfl h)
  refine And.intro (fun _ => ?_) (fun h => absurd rfl h)
  refine And.intro (fun _ => ?_) (fun h => absurd rfl h)
  refine And.intro (fun _ => ?_) (fun h => absurd rfl h)
  refine And.intro (fun _ => ?_) (fun h => absurd rfl h)
  refine And.intro (fun _ => ?_) (fun h => absurd rfl h)
  refine one_c.eq rfl ?_
  refine (lined_yes _ exOne (by decide) ex_l1).eq rfl ?_
  refine (badLine_yes _ 2 5 (by decide) ex_l2).eq rfl ?_
  refine (badLine_yes _ 1 5 (by decide) ex_l3).eq rfl ?_
  refine (badLine_yes _ 0 5 (by decide) ex_l4).eq rfl ?_
  refine (badLine_yes _ 0 50 (by decide) ex_l5).eq rfl ?_
  refine one_c.eq rfl ?_
  refine (nested_yes _ exOne (by decide) ex_n1).eq rfl ?_
  refine (badNest_yes _ 19 5 (by decide) ex_n2).eq rfl ?_
  refine (badNest_yes _ 1 5 (by decide) ex_n3).eq rfl ?_
  refine (badNest_yes _ 6 5 (by decide) ex_n4).eq rfl ?_
  exact end1 _ rfl rfl rfl
end Go.Proofs.YtphmmoloegjocaaGreatDoor

/- The statements' own functions: Edit.Of. -/
namespace Go.Proofs.YtphmmoloegjocaaGreatDoor
open Go Y
set_option maxRecDepth 100000
set_option maxHeartbeats 40000000

structure Ed where
  place : UInt16
  cut : UInt16
  kind : UInt8
abbrev Ed.cells (E : Ed) : List PV := [.int .u16 (E.place.toNat : Nat), .int .u16 (E.cut.toNat : Nat), u8 E.kind]
abbrev Ed.pv (E : Ed) : PV := .agg E.cells
def edO (E : Ed) : AObj := ⟨41, false, .bx (E.cells.map .p)⟩
def someL : List (List UInt8) := [[], [32], [10], [40], [41], [40, 41], [32, 48], [32, 49], [32, 48, 49], [49], [110, 111, 100, 101, 32], [114, 111, 119, 32], [110, 101, 116, 32], [32, 102, 114, 111, 109], [32, 102, 114, 111, 109, 32, 48], [59], [10, 59, 32, 120, 10], [10, 114, 111, 119, 32, 49, 32, 49], [32, 40, 49, 32, 49, 41], [45], [120], [49, 48, 48, 48, 48], [9], [10, 110, 111, 100, 101, 32, 50, 10]]
theorem edit_c (E : Ed) (s : List UInt8) (hs : s.length ≤ 100000) : Pure cx 16 [E.pv, .str s] fun r => ∃ t : List UInt8, t.length ≤ s.length + 20 ∧ r = .ret [.str t] := by
  refine pure_of_vc Tryz.func16 rfl rfl rfl ?_
  have hk : E.kind.toNat < 256 := E.kind.toNat_lt
  have ha : E.place.toNat < 65536 := E.place.toNat_lt
  have hc : E.cut.toNat < 65536 := E.cut.toNat_lt
  obtain ⟨w, hw⟩ : ∃ w, w = someL.getD (E.kind.toNat % 24) [] := ⟨_, rfl⟩
  have hwl : w.length ≤ 14 := by
    have : ∀ v ∈ someL, v.length ≤ 14 := by decide
    rw [hw]
    exact this _ (getD_memL [] (by show _ < 24; omega))
  have e1 : ((E.kind.toNat : Nat) : Int).tmod 24 = ((E.kind.toNat % 24 : Nat) : Int) := rfl
  refine ⟨by decide, ?_⟩
  refine ⟨_, ⟨⟨by show (0 : Int) ≤ ((E.kind.toNat : Nat) : Int).tmod 24; rw [e1]; omega, by show ((E.kind.toNat : Nat) : Int).tmod 24 < 24; rw [e1]; omega⟩, .str w, ldInP1 (by kernel_rfl) (by show (someL.map PV.str)[(((E.kind.toNat : Nat) : Int).tmod 24).toNat * 1]? = _; rw [e1, hw, Int.toNat_natCast, Nat.mul_one]; exact tcell (l := someL) (by show _ < 24; omega)), rfl⟩, ?_⟩
  refine ⟨((E.place.toNat : Nat) : Int), wrap_i64 (by omega) (by omega), ?_⟩
  refine ⟨((s.length + 1 : Nat) : Int), by rw [Int.natCast_add]; exact wrap_i64 (by omega) (by omega), ?_⟩
  refine ⟨by omega, ?_⟩
  obtain ⟨a, hA⟩ : ∃ a, a = E.place.toNat % (s.length + 1) := ⟨_, rfl⟩
  have hal : a < s.length + 1 := by rw [hA]; exact Nat.mod_lt _ (by omega)
  have e2 : ((E.place.toNat : Nat) : Int).tmod ((s.length + 1 : Nat) : Int) = (a : Nat) := by rw [hA]; rfl
  have e3 : ((E.cut.toNat : Nat) : Int).tmod 8 = ((E.cut.toNat % 8 : Nat) : Int) := rfl
  refine VDraw.seq rfl ?_
  refine ⟨by show (0 : Int) ≤ ((E.place.toNat : Nat) : Int).tmod ((s.length + 1 : Nat) : Int) ∧ ((E.place.toNat : Nat) : Int).tmod ((s.length + 1 : Nat) : Int) ≤ (s.length : Nat); rw [e2]; omega, ?_⟩
  have hm0 : (((E.place.toNat : Nat) : Int).tmod ((s.length + 1 : Nat) : Int)).toNat = a := by rw [e2]; exact Int.toNat_natCast a
  refine ⟨by show (s.take (((E.place.toNat : Nat) : Int).tmod ((s.length + 1 : Nat) : Int)).toNat).length + w.length ≤ 9223372036854775807; rw [List.length_take]; omega, ?_⟩
  refine ⟨by decide, ?_⟩
  refine ⟨((E.cut.toNat % 8 : Nat) : Int), by show _ = IntKind.i64.wrap (((E.cut.toNat : Nat) : Int).tmod 8); rw [e3]; exact wrap_i64 (by omega) (by omega), ?_⟩
  refine ⟨((a + E.cut.toNat % 8 : Nat) : Int), by show _ = IntKind.i64.wrap (((E.place.toNat : Nat) : Int).tmod ((s.length + 1 : Nat) : Int) + ((E.cut.toNat % 8 : Nat) : Int)); rw [e2, ← Int.natCast_add]; exact wrap_i64 (by omega) (by omega), ?_⟩
  refine ⟨by show (0 : Int) ≤ (if ((a + E.cut.toNat % 8 : Nat) : Int) < (s.length : Nat) then ((a + E.cut.toNat % 8 : Nat) : Int) else (s.length : Nat)) ∧ (if ((a + E.cut.toNat % 8 : Nat) : Int) < (s.length : Nat) then ((a + E.cut.toNat % 8 : Nat) : Int) else (s.length : Nat)) ≤ (s.length : Nat); split <;> omega, ?_⟩
  have hfin : ∀ z : Int, (s.take (((E.place.toNat : Nat) : Int).tmod ((s.length + 1 : Nat) : Int)).toNat ++ w ++ s.drop z.toNat).length ≤ 100000 + 100000 + 14 := fun z => by
    rw [List.length_append, List.length_append, List.length_take, List.length_drop]; omega
  refine ⟨by have := hfin (if ((a + E.cut.toNat % 8 : Nat) : Int) < (s.length : Nat) then ((a + E.cut.toNat % 8 : Nat) : Int) else (s.length : Nat)); rw [List.length_append] at this; exact Nat.le_trans this (by decide), ?_⟩
  refine end1 _ rfl rfl ⟨_, ?_, rfl⟩
  show (s.take (((E.place.toNat : Nat) : Int).tmod ((s.length + 1 : Nat) : Int)).toNat ++ w ++ s.drop (if ((a + E.cut.toNat % 8 : Nat) : Int) < (s.length : Nat) then ((a + E.cut.toNat % 8 : Nat) : Int) else (s.length : Nat)).toNat).length ≤ s.length + 20
  rw [hm0, List.length_append, List.length_append, List.length_take, List.length_drop]
  split <;> omega
end Go.Proofs.YtphmmoloegjocaaGreatDoor

/- The statement on reading. -/
namespace Go.Proofs.YtphmmoloegjocaaGreatDoor
open Go Y
set_option maxRecDepth 100000
set_option maxHeartbeats 40000000

theorem DrB.sm {n : Nt} (h : DrB n) : SmT n := valid_sm h.valid
theorem DrB.rows {n : Nt} (h : DrB n) {x : Nd} (hx : x ∈ n.nodes) : x.rows.length ≤ 64 := by
  have hp3 := h.par x hx
  obtain ⟨v, hv, rfl⟩ := mem_getD nd0 hx
  have hp := h.valid.placed _ hx
  have h1 := (h.valid.node v hv).1
  have hok := atN_ok (l := cardsN n) (ps := (n.nodes.getD v nd0).parents) (fun c hc' => by obtain ⟨y, hy, rfl⟩ := List.mem_map.1 hc'; exact h.valid.cards y hy) (by rw [cardsN, List.length_map]; exact list_mem hp)
  have hal : (atN (cardsN n) (n.nodes.getD v nd0).parents).length = (n.nodes.getD v nd0).parents.length := List.length_map ..
  have h3 := prod_take hok _ (Nat.le_refl _)
  rw [take_all (Nat.le_refl _)] at h3
  have h4 : (4 : Int) ^ (atN (cardsN n) (n.nodes.getD v nd0).parents).length ≤ 64 := by
    have : ∀ i ≤ 3, (4 : Int) ^ i ≤ 64 := by decide
    exact this _ (by omega)
  have h5 : prodN (pcardsN n v) = prodN (atN (cardsN n) (n.nodes.getD v nd0).parents) := rfl
  omega
theorem DrB.lines {n : Nt} (h : DrB n) : (byLines n).length ≤ 6000 := by
  have hs := h.sm
  have h1 := flat_len (f := nodeLines) (B := 1100) (l := n.nodes) fun x hx => by
    have h2 := hs.head_len hx
    have h3 := flat_len (f := rowLine) (B := 16) (l := x.rows) fun r hr => hs.row_len hx hr
    have h4 := h.rows hx
    rw [nodeLines, List.length_append]
    have : 16 * x.rows.length ≤ 16 * 64 := Nat.mul_le_mul_left _ h4
    omega
  have h2 := h.five
  have h3 : 1100 * n.nodes.length ≤ 1100 * 5 := Nat.mul_le_mul_left _ h2
  have h4 := dec_len n.grain
  rw [byLines, List.length_append, List.length_append, List.length_append]
  simp only [List.length_cons, List.length_nil]
  omega
theorem DrB.nest {n : Nt} (h : DrB n) : (nested n).length ≤ 6000 := by
  have hs := h.sm
  have h1 := flat_len (f := fun x => 32 :: nodeNest x) (B := 1100) (l := n.nodes) fun x hx => by
    have h2 := list_len41 x.parents
    have h3 := flat_len (f := fun r => 32 :: listN r) (B := 15) (l := x.rows) fun r hr => by
      have h2 := list_len41 r
      have h3 := (hs.row x hx r hr).2.2
      simp only [List.length_cons]; omega
    have h4 := h.rows hx
    have h5 := h.par x hx
    have h6 := dec_len x.card
    have : 15 * x.rows.length ≤ 15 * 64 := Nat.mul_le_mul_left _ h4
    simp only [nodeNest, List.length_cons, List.length_append, List.length_nil]
    omega
  have h2 := h.five
  have h3 : 1100 * n.nodes.length ≤ 1100 * 5 := Nat.mul_le_mul_left _ h2
  have h4 := dec_len n.grain
  simp only [nested, List.length_cons, List.length_append, List.length_nil]
  omega

def pieceL : List (List UInt8) := [[110, 101, 116, 32, 52, 10], [110, 111, 100, 101, 32, 50, 10], [114, 111, 119, 32, 49, 32, 51, 10], [114, 111, 119, 32, 52, 32, 48, 10], [110, 111, 100, 101, 32, 50, 32, 102, 114, 111, 109, 32, 48, 10], [32, 32, 59, 10], [10], [40, 110, 101, 116, 32, 52], [40, 110, 111, 100, 101, 32, 50], [32, 40, 41], [40, 48, 41], [40, 49, 32, 51, 41], [32, 40, 52, 32, 48, 41], [40, 50, 32, 50, 41], [41], [32], [10], [114, 111, 119, 10], [110, 111, 100, 101, 32, 49, 10], [114, 111, 119, 32, 52, 10]]
theorem piece_len : ∀ v ∈ pieceL, v.length ≤ 14 := by decide
def pcsO : AObj := ⟨42, false, .bx (pieceL.map fun w => .p (.str w))⟩
abbrev frL (D : D5) (E F : Ed) : List (Nat × AObj) := [(2, edO F), (1, edO E), (0, d5O D)]
def eight (a b c d e f g h : List UInt8) : List (List UInt8) := [a, b, c, d, e, f, g, h]
theorem eight_len {a b c d e f g h : List UInt8} {B : Nat} (ha : a.length ≤ B) (hb : b.length ≤ B) (hc : c.length ≤ B) (hd : d.length ≤ B) (he : e.length ≤ B) (hf : f.length ≤ B) (hg : g.length ≤ B) (hh : h.length ≤ B) : ∀ v ∈ eight a b c d e f g h, v.length ≤ B := by
  intro v hv
  simp only [eight, List.mem_cons, List.not_mem_nil, or_false] at hv
  rcases hv with rfl | rfl | rfl | rfl | rfl | rfl | rfl | rfl <;> assumption
theorem formatReads_c (raw : List UInt8) (l : List UInt8) (D : D5) (E F : Ed) (hr : raw.length ≤ 9223372036854775807) (hl : l.length ≤ 9223372036854775807) (hD : OkD5 D) :
    Pure cx 4 [.str raw, .lst (l.map u8), D.pv, E.pv, F.pv] (· = .ret [.bool true]) := by
  refine pure_of_vc Tryz.func4 rfl rfl rfl ?_
  refine ⟨Nat × List UInt8, fun x => [(0, .p (.str raw)), (1, .p (.lst (l.map u8))), (7, .ptr 0 0 0), (8, .ptr 1 0 0), (9, .ptr 2 0 0), (11, .ptr 3 0 0), (12, .p (.str x.2)), (13, .p (i64 x.1))], fun _ => ⟨4, (3, pcsO) :: frL D E F⟩, fun x => x.1 ≤ l.length ∧ x.1 ≤ 40 ∧ x.2.length ≤ 14 * x.1, fun x => l.length - x.1, ?_, ?_⟩
  · exact ⟨(0, []), ⟨by simp, by simp, by simp⟩, ent_of [] [] [] rfl (by (repeat' first | exact trivial | exact rfl | exact ⟨rfl, rfl⟩ | exact .inl rfl | refine ⟨_, rfl, rfl, rfl, ?_⟩ | refine ⟨_, _, rfl, ?_, ?_⟩ | refine ⟨_, rfl, ?_⟩ | refine And.intro ?_ ?_)) (by (repeat' first | exact trivial | exact rfl | exact ⟨rfl, rfl⟩ | exact .inl rfl | refine ⟨_, rfl, rfl, rfl, ?_⟩ | refine ⟨_, _, rfl, ?_, ?_⟩ | refine ⟨_, rfl, ?_⟩ | refine And.intro ?_ ?_)) rfl⟩
  rintro ⟨k, t⟩ ⟨k1, k2, k3⟩
  simp only [] at k1 k2 k3
  (first | refine brLt (fun h1 => ?_) (fun h1 => ?_) | refine brLe (fun h1 => ?_) (fun h1 => ?_) | refine brEq (fun h1 => ?_) (fun h1 => ?_))
  · have h1 : (k : Int) < ((l.map u8).length : Nat) := h1
    rw [List.length_map] at h1
    (first | refine brLt (fun h2 => ?_) (fun h2 => ?_) | refine brLe (fun h2 => ?_) (fun h2 => ?_) | refine brEq (fun h2 => ?_) (fun h2 => ?_))
    · have h2 : (k : Int) < 40 := h2
      have hk : k < l.length := by omega
      obtain ⟨b, hb⟩ : ∃ b, b = l.getD k 0 := ⟨_, rfl⟩
      have hb256 := b.toNat_lt
      have e1 : ((b.toNat : Nat) : Int).tmod 20 = ((b.toNat % 20 : Nat) : Int) := rfl
      obtain ⟨w, hw⟩ : ∃ w, w = pieceL.getD (b.toNat % 20) [] := ⟨_, rfl⟩
      have hwl : w.length ≤ 14 := by rw [hw]; exact piece_len _ (getD_memL [] (by show _ < 20; omega))
      refine ⟨_, ⟨by omega, u8 b, by rw [hb]; exact bcell hk, rfl⟩, ?_⟩
      refine ⟨((b.toNat : Nat) : Int), wrap_i64 (by omega) (by omega), ?_⟩
      refine ⟨by decide, ?_⟩
      refine ⟨by show (0 : Int) ≤ ((b.toNat : Nat) : Int).tmod 20 ∧ ((b.toNat : Nat) : Int).tmod 20 < 20; rw [e1]; omega, ?_⟩
      refine ⟨.p (.str w), ldIn1 (by kernel_rfl) (by show (pieceL.map fun w => AV.p (.str w))[0 + (((b.toNat : Nat) : Int).tmod 20).toNat * 1]? = _; rw [e1, hw, Int.toNat_natCast, Nat.mul_one, Nat.zero_add, List.getElem?_map, List.getD_eq_getElem?_getD, List.getElem?_eq_getElem (show b.toNat % 20 < pieceL.length by show _ < 20; omega)]; rfl), ?_⟩
      refine ⟨by show t.length + w.length ≤ 9223372036854775807; omega, ?_⟩
      refine ⟨_, wrap_i64 (by omega) (by omega), ?_⟩
      exact ⟨(k + 1, t ++ w), ⟨by simp only []; omega, by simp only []; omega, by simp only [List.length_append]; omega⟩, ent_of [] [] [] rfl (by (repeat' first | exact trivial | exact rfl | exact ⟨rfl, rfl⟩ | exact .inl rfl | refine ⟨_, rfl, rfl, rfl, ?_⟩ | refine ⟨_, _, rfl, ?_, ?_⟩ | refine ⟨_, rfl, ?_⟩ | refine And.intro ?_ ?_)) (by (repeat' first | exact trivial | exact rfl | exact ⟨rfl, rfl⟩ | exact .inl rfl | refine ⟨_, rfl, rfl, rfl, ?_⟩ | refine ⟨_, _, rfl, ?_, ?_⟩ | refine ⟨_, rfl, ?_⟩ | refine And.intro ?_ ?_)) rfl, by show l.length - (k + 1) < l.length - k; omega⟩
    · refine (net_c D hD).at fun r hr => ?_
      obtain ⟨n, hn, rfl⟩ := hr
      have hs := hn.sm
      have hb1 := hn.lines
      have hb2 := hn.nest
      refine VDraw.seq rfl ?_
      refine (rByLines_c n hs).eq rfl ?_
      refine ⟨by (repeat' first | exact trivial | exact rfl | exact ⟨rfl, rfl⟩ | exact .inl rfl | refine ⟨_, rfl, rfl, rfl, ?_⟩ | refine ⟨_, _, rfl, ?_, ?_⟩ | refine ⟨_, rfl, ?_⟩ | refine And.intro ?_ ?_), ?_⟩
      refine (rNested_c n hs).eq rfl ?_
      have hE1 := edit_c E (byLines n) (by omega)
      have hE2 := edit_c E (nested n) (by omega)
      refine VDraw.seq rfl ?_
      refine ⟨by show (0 : Int) ≤ (if (200 : Int) < (raw.length : Nat) then (200 : Int) else (raw.length : Nat)) ∧ (if (200 : Int) < (raw.length : Nat) then (200 : Int) else (raw.length : Nat)) ≤ (raw.length : Nat); split <;> omega, ?_⟩
      refine hE1.at fun r hr => ?_
      obtain ⟨t5, l5, rfl⟩ := hr
      refine ⟨by (repeat' first | exact trivial | exact rfl | exact ⟨rfl, rfl⟩ | exact .inl rfl | refine ⟨_, rfl, rfl, rfl, ?_⟩ | refine ⟨_, _, rfl, ?_, ?_⟩ | refine ⟨_, rfl, ?_⟩ | refine And.intro ?_ ?_), ?_⟩
      refine hE2.at fun r hr => ?_
      obtain ⟨t6, l6, rfl⟩ := hr
      refine ⟨by (repeat' first | exact trivial | exact rfl | exact ⟨rfl, rfl⟩ | exact .inl rfl | refine ⟨_, rfl, rfl, rfl, ?_⟩ | refine ⟨_, _, rfl, ?_, ?_⟩ | refine ⟨_, rfl, ?_⟩ | refine And.intro ?_ ?_), ?_⟩
      refine hE1.at fun r hr => ?_
      obtain ⟨t7, l7, rfl⟩ := hr
      refine ⟨by (repeat' first | exact trivial | exact rfl | exact ⟨rfl, rfl⟩ | exact .inl rfl | refine ⟨_, rfl, rfl, rfl, ?_⟩ | refine ⟨_, _, rfl, ?_, ?_⟩ | refine ⟨_, rfl, ?_⟩ | refine And.intro ?_ ?_), ?_⟩
      refine (edit_c F t7 (by omega)).at fun r hr => ?_
      obtain ⟨t8, l8, rfl⟩ := hr
      refine ⟨by (repeat' first | exact trivial | exact rfl | exact ⟨rfl, rfl⟩ | exact .inl rfl | refine ⟨_, rfl, rfl, rfl, ?_⟩ | refine ⟨_, _, rfl, ?_, ?_⟩ | refine ⟨_, rfl, ?_⟩ | refine And.intro ?_ ?_), ?_⟩
      refine hE2.at fun r hr => ?_
      obtain ⟨t9, l9, rfl⟩ := hr
      refine ⟨by (repeat' first | exact trivial | exact rfl | exact ⟨rfl, rfl⟩ | exact .inl rfl | refine ⟨_, rfl, rfl, rfl, ?_⟩ | refine ⟨_, _, rfl, ?_, ?_⟩ | refine ⟨_, rfl, ?_⟩ | refine And.intro ?_ ?_), ?_⟩
      refine (edit_c F t9 (by omega)).at fun r hr => ?_
      obtain ⟨t10, l10, rfl⟩ := hr
      refine ⟨by (repeat' first | exact trivial | exact rfl | exact ⟨rfl, rfl⟩ | exact .inl rfl | refine ⟨_, rfl, rfl, rfl, ?_⟩ | refine ⟨_, _, rfl, ?_, ?_⟩ | refine ⟨_, rfl, ?_⟩ | refine And.intro ?_ ?_), ?_⟩
      refine ⟨Nat, fun j => [(70, .p (.agg ((eight (raw.take (if (200 : Int) < (raw.length : Nat) then (200 : Int) else (raw.length : Nat)).toNat) t (byLines n) (nested n) t5 t6 t8 t10).map .str))), (71, .p (i64 j))], fun _ => ⟨4, []⟩, fun j => j ≤ 8, fun j => 8 - j, ?_, ?_⟩
      · exact ⟨0, by omega, ent_of [] [] [] rfl ⟨rfl, rfl, trivial⟩ trivial rfl⟩
      intro j hj
      obtain ⟨L, hL⟩ : ∃ L, L = eight (raw.take (if (200 : Int) < (raw.length : Nat) then (200 : Int) else (raw.length : Nat)).toNat) t (byLines n) (nested n) t5 t6 t8 t10 := ⟨_, rfl⟩
      have hL8 : L.length = 8 := by rw [hL]; rfl
      have hLl : ∀ v ∈ L, v.length ≤ 50000 := by
        rw [hL]
        refine eight_len ?_ (by omega) (by omega) (by omega) (by omega) (by omega) (by omega) (by omega)
        exact Nat.le_trans (List.length_take_le _ _) (by split <;> omega)
      rw [← hL]
      (first | refine brLt (fun h3 => ?_) (fun h3 => ?_) | refine brLe (fun h3 => ?_) (fun h3 => ?_) | refine brEq (fun h3 => ?_) (fun h3 => ?_))
      · have h3 : (j : Int) < 8 := h3
        have hjL : j < L.length := by omega
        have hm := getD_memL [] hjL
        refine ⟨_, ⟨⟨by omega, by omega⟩, .str (L.getD j []), ldInP1 (by kernel_rfl) (by show (L.map PV.str)[((j : Nat) : Int).toNat * 1]? = _; rw [Int.toNat_natCast, Nat.mul_one]; exact tcell hjL), rfl⟩, ?_⟩
        refine (reads_c _ (hLl _ hm)).eq rfl ?_
        refine ⟨_, wrap_i64 (by omega) (by omega), ?_⟩
        exact ⟨j + 1, by omega, ent_of [] [] [] rfl ⟨res_p _ _, rfl, trivial⟩ trivial rfl, by show 8 - (j + 1) < 8 - j; omega⟩
      · exact works_c.eq rfl (end1 _ rfl rfl rfl)
  · refine (net_c D hD).at fun r hr => ?_
    obtain ⟨n, hn, rfl⟩ := hr
    have hs := hn.sm
    have hb1 := hn.lines
    have hb2 := hn.nest
    refine VDraw.seq rfl ?_
    refine (rByLines_c n hs).eq rfl ?_
    refine ⟨by (repeat' first | exact trivial | exact rfl | exact ⟨rfl, rfl⟩ | exact .inl rfl | refine ⟨_, rfl, rfl, rfl, ?_⟩ | refine ⟨_, _, rfl, ?_, ?_⟩ | refine ⟨_, rfl, ?_⟩ | refine And.intro ?_ ?_), ?_⟩
    refine (rNested_c n hs).eq rfl ?_
    have hE1 := edit_c E (byLines n) (by omega)
    have hE2 := edit_c E (nested n) (by omega)
    refine VDraw.seq rfl ?_
    refine ⟨by show (0 : Int) ≤ (if (200 : Int) < (raw.length : Nat) then (200 : Int) else (raw.length : Nat)) ∧ (if (200 : Int) < (raw.length : Nat) then (200 : Int) else (raw.length : Nat)) ≤ (raw.length : Nat); split <;> omega, ?_⟩
    refine hE1.at fun r hr => ?_
    obtain ⟨t5, l5, rfl⟩ := hr
    refine ⟨by (repeat' first | exact trivial | exact rfl | exact ⟨rfl, rfl⟩ | exact .inl rfl | refine ⟨_, rfl, rfl, rfl, ?_⟩ | refine ⟨_, _, rfl, ?_, ?_⟩ | refine ⟨_, rfl, ?_⟩ | refine And.intro ?_ ?_), ?_⟩
    refine hE2.at fun r hr => ?_
    obtain ⟨t6, l6, rfl⟩ := hr
    refine ⟨by (repeat' first | exact trivial | exact rfl | exact ⟨rfl, rfl⟩ | exact .inl rfl | refine ⟨_, rfl, rfl, rfl, ?_⟩ | refine ⟨_, _, rfl, ?_, ?_⟩ | refine ⟨_, rfl, ?_⟩ | refine And.intro ?_ ?_), ?_⟩
    refine hE1.at fun r hr => ?_
    obtain ⟨t7, l7, rfl⟩ := hr
    refine ⟨by (repeat' first | exact trivial | exact rfl | exact ⟨rfl, rfl⟩ | exact .inl rfl | refine ⟨_, rfl, rfl, rfl, ?_⟩ | refine ⟨_, _, rfl, ?_, ?_⟩ | refine ⟨_, rfl, ?_⟩ | refine And.intro ?_ ?_), ?_⟩
    refine (edit_c F t7 (by omega)).at fun r hr => ?_
    obtain ⟨t8, l8, rfl⟩ := hr
    refine ⟨by (repeat' first | exact trivial | exact rfl | exact ⟨rfl, rfl⟩ | exact .inl rfl | refine ⟨_, rfl, rfl, rfl, ?_⟩ | refine ⟨_, _, rfl, ?_, ?_⟩ | refine ⟨_, rfl, ?_⟩ | refine And.intro ?_ ?_), ?_⟩
    refine hE2.at fun r hr => ?_
    obtain ⟨t9, l9, rfl⟩ := hr
    refine ⟨by (repeat' first | exact trivial | exact rfl | exact ⟨rfl, rfl⟩ | exact .inl rfl | refine ⟨_, rfl, rfl, rfl, ?_⟩ | refine ⟨_, _, rfl, ?_, ?_⟩ | refine ⟨_, rfl, ?_⟩ | refine And.intro ?_ ?_), ?_⟩
    refine (edit_c F t9 (by omega)).at fun r hr => ?_
    obtain ⟨t10, l10, rfl⟩ := hr
    refine ⟨by (repeat' first | exact trivial | exact rfl | exact ⟨rfl, rfl⟩ | exact .inl rfl | refine ⟨_, rfl, rfl, rfl, ?_⟩ | refine ⟨_, _, rfl, ?_, ?_⟩ | refine ⟨_, rfl, ?_⟩ | refine And.intro ?_ ?_), ?_⟩
    refine ⟨Nat, fun j => [(70, .p (.agg ((eight (raw.take (if (200 : Int) < (raw.length : Nat) then (200 : Int) else (raw.length : Nat)).toNat) t (byLines n) (nested n) t5 t6 t8 t10).map .str))), (71, .p (i64 j))], fun _ => ⟨4, []⟩, fun j => j ≤ 8, fun j => 8 - j, ?_, ?_⟩
    · exact ⟨0, by omega, ent_of [] [] [] rfl ⟨rfl, rfl, trivial⟩ trivial rfl⟩
    intro j hj
    obtain ⟨L, hL⟩ : ∃ L, L = eight (raw.take (if (200 : Int) < (raw.length : Nat) then (200 : Int) else (raw.length : Nat)).toNat) t (byLines n) (nested n) t5 t6 t8 t10 := ⟨_, rfl⟩
    have hL8 : L.length = 8 := by rw [hL]; rfl
    have hLl : ∀ v ∈ L, v.length ≤ 50000 := by
      rw [hL]
      refine eight_len ?_ (by omega) (by omega) (by omega) (by omega) (by omega) (by omega) (by omega)
      exact Nat.le_trans (List.length_take_le _ _) (by split <;> omega)
    rw [← hL]
    (first | refine brLt (fun h3 => ?_) (fun h3 => ?_) | refine brLe (fun h3 => ?_) (fun h3 => ?_) | refine brEq (fun h3 => ?_) (fun h3 => ?_))
    · have h3 : (j : Int) < 8 := h3
      have hjL : j < L.length := by omega
      have hm := getD_memL [] hjL
      refine ⟨_, ⟨⟨by omega, by omega⟩, .str (L.getD j []), ldInP1 (by kernel_rfl) (by show (L.map PV.str)[((j : Nat) : Int).toNat * 1]? = _; rw [Int.toNat_natCast, Nat.mul_one]; exact tcell hjL), rfl⟩, ?_⟩
      refine (reads_c _ (hLl _ hm)).eq rfl ?_
      refine ⟨_, wrap_i64 (by omega) (by omega), ?_⟩
      exact ⟨j + 1, by omega, ent_of [] [] [] rfl ⟨res_p _ _, rfl, trivial⟩ trivial rfl, by show 8 - (j + 1) < 8 - j; omega⟩
    · exact works_c.eq rfl (end1 _ rfl rfl rfl)
end Go.Proofs.YtphmmoloegjocaaGreatDoor

/- Arguments and listed variables, read as data. -/
namespace Go.Proofs.YtphmmoloegjocaaGreatDoor.Y
open Go

/-- The parts of a struct or an array, with their offsets. -/
def partsOf (P : Program) (t : TypeId) : Option (List (TypeId × Nat)) :=
  match P.underlying t with
  | some (.struct fs) => some (fs.toList.map fun f => (f.type, f.offset))
  | some (.array k e) => some ((List.range k).map fun i => (e, i * P.cellsOf e))
  | _ => none
def tiles (P : Program) : List (TypeId × Nat) → Nat → Option Nat
  | [], o => some o
  | f :: r, o => if f.2 = o then tiles P r (o + P.cellsOf f.1) else none
theorem tiles_le {P : Program} : ∀ {l : List (TypeId × Nat)} {o n : Nat}, tiles P l o = some n → o ≤ n
  | [], o, n, h => by simp only [tiles, Option.some.injEq] at h; omega
  | f :: r, o, n, h => by
    simp only [tiles] at h
    split at h
    · have := tiles_le h; omega
    · cases h

def basic : TypeDesc → Bool
  | .bool => true
  | .int _ => true
  | .string => true
  | _ => false

/-- Types of plain data: what the readings below cover. -/
def supp (P : Program) : Nat → TypeId → Bool
  | 0, _ => false
  | n + 1, t => match partsOf P t with
    | some l => decide (tiles P l 0 = some (P.cellsOf t)) && l.all fun f => supp P n f.1
    | none => match P.underlying t with
      | some (.slice e) => decide (0 < P.cellsOf e) && supp P n e
      | some d => basic d
      | none => false

def Flds (P : Program) (p : TypeId → List PV → Prop) : List (TypeId × Nat) → List PV → Prop
  | [], xs => xs = []
  | f :: r, xs => ∃ ys zs, xs = ys ++ zs ∧ ys.length = P.cellsOf f.1 ∧ p f.1 ys ∧ Flds P p r zs

/-- The cells of a value of a type. -/
def TyT (P : Program) : Nat → TypeId → List PV → Prop
  | 0, _, _ => False
  | m + 1, t, xs => match partsOf P t with
    | some l => Flds P (TyT P m) l xs
    | none => match P.underlying t with
      | some .bool => ∃ b, xs = [.bool b]
      | some (.int k) => ∃ n, xs = [.int k n] ∧ (Lit.int k n).wf = true
      | some .string => ∃ s, xs = [.str s] ∧ s.length ≤ maxLen
      | some (.slice e) => match Nat.beq (P.cellsOf e) 1 with
        | true => ∃ ys, xs = [.lst ys] ∧ ys.length ≤ maxLen ∧ ∀ y ∈ ys, TyT P m e [y]
        | false => ∃ yss, xs = [.lsts (P.cellsOf e) yss] ∧ yss.length ≤ maxLen ∧ ∀ ys ∈ yss, TyT P m e ys
      | _ => False

section
variable {H : Type} {enc : TypeId × Value → H} {P : Program} {W : World} {sp : Nat → Bool} {held : Bool}

/-- Cells of a block, one after the other. -/
theorem cells_take {a : Addr} {n : Nat} {cs : List Value} (hn : 0 < n) (h : W.cells? 0 a n = some cs) :
    ∃ c t z, W.heap[a.block]? = some (.cells c t z) ∧ a.spot = none ∧ cs.length = n ∧ a.off + n ≤ c.toList.length ∧ cs = (c.toList.drop a.off).take n := by
  unfold World.cells? at h
  rw [if_pos (Nat.zero_le _)] at h
  have hl := mapM_some_length h
  rw [List.length_range] at hl
  have hg : ∀ i, i < n → W.cell? (a.add i) = cs[i]? := fun i hi => mapM_some_get h i i (by simp [hi])
  have h0 := hg 0 hn
  have ha : a.add 0 = a := by simp [Addr.add]
  rw [ha, List.getElem?_eq_getElem (by omega)] at h0
  unfold World.cell? at h0
  split at h0
  · rename_i c t z hb
    have hs : a.spot = none := by
      cases hs : a.spot with
      | none => rfl
      | some _ => simp [hs] at h0
    have hcell : ∀ i, i < n → c[a.off + i]? = cs[i]? := by
      intro i hi
      have := hg i hi
      unfold World.cell? at this
      have hblk : (a.add i).block = a.block := by unfold Addr.add; split <;> rfl
      have hsp : (a.add i).spot = none := by unfold Addr.add; split <;> first | exact hs | rfl
      have hoff : (a.add i).off = a.off + i := by unfold Addr.add; split <;> simp_all
      rw [hblk, hb] at this
      simp only [hsp, hoff] at this
      simpa using this
    have hlen : a.off + n ≤ c.toList.length := by
      have := hcell (n - 1) (by omega)
      rw [List.getElem?_eq_getElem (by omega)] at this
      have := (Array.getElem?_eq_some_iff.1 this).1
      simp
      omega
    refine ⟨c, t, z, hb, hs, hl, hlen, ?_⟩
    refine List.ext_getElem? fun i => ?_
    by_cases hi : i < n
    · rw [← hcell i hi, List.getElem?_take_of_lt hi, List.getElem?_drop]
      simp
    · rw [List.getElem?_eq_none (by omega), List.getElem?_eq_none (by simp; omega)]
  · cases h0

def AllCells (fz : Fzn) (W : World) : Prop := ∀ b c t z, W.heap[b]? = some (.cells c t z) → fz b = some c.toList

/-- What a reading says of the cells. -/
def Rd (P : Program) (fz : Fzn) (m : Nat) (t : TypeId) (cs : List Value) : Prop := ∃ xs, VPL fz xs cs ∧ (∀ u ∈ cs, plainV u = true) ∧ TyT P m t xs

theorem flds_of {fz : Fzn} {m : Nat} {cs : List Value} : ∀ (l : List (TypeId × Nat)) (o : Nat), tiles P l o = some cs.length → (∀ f ∈ l, Rd P fz m f.1 ((cs.drop f.2).take (P.cellsOf f.1))) →
    ∃ xs, VPL fz xs (cs.drop o) ∧ (∀ u ∈ cs.drop o, plainV u = true) ∧ Flds P (TyT P m) l xs
  | [], o, ht, _ => by
    simp only [tiles, Option.some.injEq] at ht
    subst ht
    exact ⟨[], by simp [VPL], by simp, rfl⟩
  | f :: r, o, ht, hr => by
    simp only [tiles] at ht
    split at ht
    · rename_i ho
      have hle := tiles_le ht
      obtain ⟨ys, h1, h2, h3⟩ := hr f (by simp)
      obtain ⟨zs, k1, k2, k3⟩ := flds_of r (o + P.cellsOf f.1) ht fun g hg => hr g (by simp [hg])
      rw [ho] at h1 h2
      have e : cs.drop o = (cs.drop o).take (P.cellsOf f.1) ++ cs.drop (o + P.cellsOf f.1) := by
        rw [← List.drop_drop, List.take_append_drop]
      refine ⟨ys ++ zs, ?_, ?_, ys, zs, rfl, ?_, h3, k3⟩
      · rw [e]; exact VPL_append h1 k1
      · rw [e]; intro u hu; rcases List.mem_append.1 hu with hu | hu
        · exact h2 u hu
        · exact k2 u hu
      · rw [← VPL_length h1, List.length_take, List.length_drop]; omega
    · cases ht

theorem parts_trod {t : TypeId} {l : List (TypeId × Nat)} (hp : partsOf P t = some l) {n : Nat} {cs : List Value} {x : DataW H × List MemPlace} (h : DataW.trod enc P W 0 sp held n t cs = some x) :
    ∃ (xs : List (DataW H × List MemPlace)) (k : Nat), n = k + 1 ∧ x = (.agg (xs.map (·.1)), xs.flatMap (·.2)) ∧ cs.length = P.cellsOf t ∧ xs.length = l.length ∧
      ∀ (i : Nat) (f : TypeId × Nat), l[i]? = some f → DataW.trod enc P W 0 sp held k f.1 ((cs.drop f.2).take (P.cellsOf f.1)) = xs[i]? := by
  unfold partsOf at hp
  split at hp
  · rename_i fs hu
    injection hp with hp
    subst hp
    obtain ⟨xs, k, h1, h2, h3, h4, h5⟩ := DataW.trod_struct hu h
    refine ⟨xs, k, h1, h2, h3, by simpa using h4, fun i f hf => ?_⟩
    rw [List.getElem?_map, Option.map_eq_some_iff] at hf
    obtain ⟨g, hg, rfl⟩ := hf
    exact h5 i g (by simpa using hg)
  · rename_i k' e hu
    injection hp with hp
    subst hp
    obtain ⟨xs, k, h1, h2, h3, h4, h5⟩ := DataW.trod_array hu h
    refine ⟨xs, k, h1, h2, h3, by simpa using h4, fun i f hf => ?_⟩
    rw [List.getElem?_map, Option.map_eq_some_iff] at hf
    obtain ⟨j, hj, rfl⟩ := hf
    have hi := (List.getElem?_eq_some_iff.1 hj)
    obtain ⟨hi, hj⟩ := hi
    simp at hi hj
    subst hj
    exact h5 i hi
  · cases hp

theorem flat_singles {l : List (List PV)} (h : ∀ cs ∈ l, cs.length = 1) : l.flatten.length = l.length ∧ ∀ y ∈ l.flatten, [y] ∈ l := by
  induction l with
  | nil => simp
  | cons x r ih =>
    have hx := h x (by simp)
    obtain ⟨y, rfl⟩ : ∃ y, x = [y] := by
      match x, hx with
      | [y], _ => exact ⟨y, rfl⟩
    obtain ⟨h1, h2⟩ := ih fun c hc => h c (by simp [hc])
    refine ⟨by simp [h1], fun z hz => ?_⟩
    simp at hz
    rcases hz with rfl | hz
    · simp
    · have := h2 z (by simpa using hz)
      simp [this]

/-- A READING OF PLAIN DATA is a value of its type. -/
theorem typed_of_trod {fz : Fzn} (hfz : AllCells fz W) : ∀ (m : Nat) (t : TypeId) (n : Nat) (cs : List Value) (x : DataW H × List MemPlace), supp P m t = true → DataW.trod enc P W 0 sp held n t cs = some x → Rd P fz m t cs
  | 0, _, _, _, _, hs, _ => by simp [supp] at hs
  | m + 1, t, n, cs, x, hs, h => by
    have ih := typed_of_trod hfz m
    simp only [supp] at hs
    cases hp : partsOf P t with
    | some l =>
      simp only [hp, Bool.and_eq_true, decide_eq_true_eq, List.all_eq_true] at hs
      obtain ⟨xs, k, h1, h2, h3, h4, h5⟩ := parts_trod hp h
      obtain ⟨ys, g1, g2, g3⟩ := flds_of (fz := fz) (m := m) (cs := cs) l 0 (by rw [h3]; exact hs.1) fun f hf => by
        obtain ⟨i, hi, rfl⟩ := List.getElem_of_mem hf
        have := h5 i _ (List.getElem?_eq_getElem hi)
        rw [List.getElem?_eq_getElem (by omega)] at this
        exact ih _ _ _ _ (hs.2 _ hf) this
      exact ⟨ys, by simpa using g1, by simpa using g2, by simp only [TyT, hp]; exact g3⟩
    | none =>
      simp only [hp] at hs
      cases hu : P.underlying t with
      | none => simp [hu] at hs
      | some d =>
        simp only [hu] at hs
        cases d with
        | bool =>
          obtain ⟨b, rfl, _⟩ := DataW.trod_bool hu h
          exact ⟨[.bool b], by simp [VPL, VP], by simp [plainV], by simp [TyT, hp, hu]⟩
        | int k =>
          obtain ⟨b, rfl, _, hw⟩ := DataW.trod_int hu h
          exact ⟨[.int k b], by simp [VPL, VP], by simp [plainV], by simp [TyT, hp, hu, hw]⟩
        | string =>
          obtain ⟨⟨⟨s⟩⟩, rfl, _, hw⟩ := DataW.trod_string hu h
          exact ⟨[.str s], by simp [VPL, VP], by simp [plainV], by simp only [TyT, hp, hu]; exact ⟨s, rfl, hw⟩⟩
        | slice e =>
          simp only [Bool.and_eq_true, decide_eq_true_eq] at hs
          obtain ⟨hs0, hse⟩ := hs
          have fin : ∀ (v : Value) (len : Nat) (yss : List (List PV)), len ≤ maxLen → yss.length = len → (∀ ys ∈ yss, ys.length = P.cellsOf e ∧ TyT P m e ys) → plainV v = true →
              (yss = [] → ∃ a c, v = .slice a 0 c) → (yss ≠ [] → ∃ b o c arr us, v = .slice (some ⟨b, o, none⟩) len c ∧ len ≤ c ∧ fz b = some arr ∧ VPLL fz (P.cellsOf e) yss us ∧ Seg arr o us) → Rd P fz (m + 1) t [v] := by
            intro v len yss hml hlen hty hpl hnil hcons
            by_cases h1 : P.cellsOf e = 1
            · have hfl := flat_singles (l := yss) fun c hc => by rw [(hty c hc).1, h1]
              refine ⟨[.lst yss.flatten], ?_, by simpa using hpl, ?_⟩
              · simp only [VPL]
                refine ⟨v, [], rfl, ?_, rfl⟩
                simp only [VP]
                by_cases hy : yss = []
                · exact .inl ⟨by simp [hy], hnil hy⟩
                · obtain ⟨b, o, c, arr, us, k1, k2, k3, k4, k5⟩ := hcons hy
                  exact .inr ⟨b, o, c, arr, us, by rw [hfl.1, hlen]; exact k1, by rw [hfl.1, hlen]; exact k2, k3, (VPLL_flat.1 k4).1, k5⟩
              · simp only [TyT, hp, hu, h1]
                exact ⟨_, rfl, by rw [hfl.1, hlen]; exact hml, fun y hy => (hty _ (hfl.2 y hy)).2⟩
            · refine ⟨[.lsts (P.cellsOf e) yss], ?_, by simpa using hpl, ?_⟩
              · simp only [VPL]
                refine ⟨v, [], rfl, ?_, rfl⟩
                simp only [VP]
                by_cases hy : yss = []
                · exact .inl ⟨hy, hnil hy⟩
                · obtain ⟨b, o, c, arr, us, k1, k2, k3, k4, k5⟩ := hcons hy
                  exact .inr ⟨b, o, c, arr, us, by rw [hlen]; exact k1, by rw [hlen]; exact k2, k3, k4, k5⟩
              · have hb : Nat.beq (P.cellsOf e) 1 = false := beq_ne h1
                simp only [TyT, hp, hu, hb]
                exact ⟨_, rfl, by rw [hlen]; exact hml, fun y hy => (hty _ hy).2⟩
          rcases DataW.trod_slice hu h with ⟨rfl, _⟩ | ⟨a, len, cap, elems, rest, n', rfl, rfl, _, _, hlc, hcm, hel, hE, _, _⟩
          · exact fin _ 0 [] (by simp [maxLen]) rfl (by simp) rfl (fun _ => ⟨none, 0, rfl⟩) (by simp)
          · have hcs : ∀ i, i < len → ∃ cs', W.cells? 0 (a.add (i * P.cellsOf e)) (P.cellsOf e) = some cs' ∧ Rd P fz m e cs' := by
              intro i hi
              have := hE i hi
              rw [List.getElem?_eq_getElem (by omega), Option.bind_eq_some_iff] at this
              obtain ⟨cs', h1, h2⟩ := this
              exact ⟨cs', h1, ih _ _ _ _ hse h2⟩
            by_cases hl0 : len = 0
            · subst hl0
              exact fin _ 0 [] (by simp [maxLen]) rfl (by simp) rfl (fun _ => ⟨_, _, rfl⟩) (by simp)
            · obtain ⟨cs0, c1, _⟩ := hcs 0 (by omega)
              have ha : a.add (0 * P.cellsOf e) = a := by simp [Addr.add]
              rw [ha] at c1
              obtain ⟨c, tt, z, hb, hsp, _, _, _⟩ := cells_take hs0 c1
              have key : ∀ k, k ≤ len → ∃ yss us, yss.length = k ∧ VPLL fz (P.cellsOf e) yss us ∧ (∀ u ∈ us, plainV u = true) ∧ (∀ ys ∈ yss, ys.length = P.cellsOf e ∧ TyT P m e ys) ∧ (k ≠ 0 → a.off + k * P.cellsOf e ≤ c.toList.length) ∧ us = (c.toList.drop a.off).take (k * P.cellsOf e) := by
                intro k
                induction k with
                | zero => intro _; exact ⟨[], [], rfl, by simp [VPLL], by simp, by simp, by simp, by simp⟩
                | succ k ihk =>
                  intro hk
                  obtain ⟨yss, us, k1, k2, k3, k4, k5, k6⟩ := ihk (by omega)
                  obtain ⟨cs', d1, ys, d2, d3, d4⟩ := hcs k (by omega)
                  obtain ⟨c', tt', z', e1, e2, e3, e4, e5⟩ := cells_take hs0 d1
                  have hblk : (a.add (k * P.cellsOf e)).block = a.block := by unfold Addr.add; split <;> rfl
                  have hoff : (a.add (k * P.cellsOf e)).off = a.off + k * P.cellsOf e := by unfold Addr.add; split <;> simp_all
                  rw [hblk, hb] at e1
                  simp only [Option.some.injEq, Obj.cells.injEq] at e1
                  obtain ⟨rfl, _, _⟩ := e1
                  rw [hoff] at e4 e5
                  have hys : ys.length = P.cellsOf e := by rw [← VPL_length d2, e3]
                  have hf := VPLL_flat.1 k2
                  refine ⟨yss ++ [ys], us ++ cs', by simp [k1], VPLL_flat.2 ⟨?_, ?_⟩, ?_, ?_, fun _ => by rw [Nat.succ_mul]; omega, ?_⟩
                  · simpa using VPL_append hf.1 d2
                  · intro q hq; rcases List.mem_append.1 hq with hq | hq
                    · exact hf.2 q hq
                    · simp at hq; subst hq; exact hys
                  · intro u hu; rcases List.mem_append.1 hu with hu | hu
                    · exact k3 u hu
                    · exact d3 u hu
                  · intro q hq; rcases List.mem_append.1 hq with hq | hq
                    · exact k4 q hq
                    · simp at hq; subst hq; exact ⟨hys, d4⟩
                  · rw [k6, e5, Nat.succ_mul, List.take_add, List.drop_drop]
              obtain ⟨yss, us, k1, k2, k3, k4, k5, k6⟩ := key len (Nat.le_refl _)
              have k5 := k5 hl0
              have hne : yss ≠ [] := by intro e; subst e; simp at k1; omega
              refine fin _ len yss (by omega) k1 k4 rfl (fun e => absurd e hne) fun _ => ⟨a.block, a.off, cap, c.toList, us, ?_, hlc, hfz _ _ _ _ hb, k2, ?_⟩
              · obtain ⟨ab, ao, asp⟩ := a; simp only [] at hsp; subst hsp; rfl
              · refine ⟨c.toList.take a.off, c.toList.drop (a.off + len * P.cellsOf e), ?_, ?_, k3⟩
                · rw [k6, List.append_assoc, ← List.drop_drop, List.take_append_drop, List.take_append_drop]
                · rw [List.length_take]; omega
        | _ => simp [basic] at hs

/-! ### Listed variables -/
mutual
def flatD : DataW H → Option (List PV)
  | .lit (.bool b) => some [.bool b]
  | .lit (.int k n) => some [.int k n]
  | .lit (.string s) => some [.str s]
  | .agg ps => flatDL ps
  | _ => none
def flatDL : List (DataW H) → Option (List PV)
  | [] => some []
  | d :: r => match flatD d, flatDL r with
    | some xs, some ys => some (xs ++ ys)
    | _, _ => none
end

theorem fldsD_of {fz : Fzn} {cs : List Value} {Q : DataW H → List Value → Prop} (hQ : ∀ d us xs, Q d us → flatD d = some xs → VPL fz xs us ∧ ∀ u ∈ us, plainV u = true) : ∀ (l : List (TypeId × Nat)) (ds : List (DataW H)) (o : Nat) (xs : List PV), tiles P l o = some cs.length → ds.length = l.length →
    (∀ (i : Nat) f d, l[i]? = some f → ds[i]? = some d → Q d ((cs.drop f.2).take (P.cellsOf f.1))) → flatDL ds = some xs → VPL fz xs (cs.drop o) ∧ ∀ u ∈ cs.drop o, plainV u = true
  | [], ds, o, xs, ht, hl, _, hd => by
    simp only [tiles, Option.some.injEq] at ht
    subst ht
    obtain rfl := List.eq_nil_of_length_eq_zero hl
    simp only [flatDL, Option.some.injEq] at hd
    subst hd
    simp [VPL]
  | f :: r, [], o, xs, ht, hl, _, hd => by simp at hl
  | f :: r, d :: ds, o, xs, ht, hl, hr, hd => by
    simp only [tiles] at ht
    split at ht
    · rename_i ho
      simp only [flatDL] at hd
      split at hd
      · rename_i ys zs e1 e2
        injection hd with hd
        subst hd
        have h1 := hQ d _ ys (hr 0 f d rfl rfl) e1
        have h2 := fldsD_of hQ r ds (o + P.cellsOf f.1) zs ht (by simpa using hl) (fun i g e hg he => hr (i + 1) g e hg he) e2
        rw [ho] at h1
        have e : cs.drop o = (cs.drop o).take (P.cellsOf f.1) ++ cs.drop (o + P.cellsOf f.1) := by
          rw [← List.drop_drop, List.take_append_drop]
        rw [e]
        refine ⟨VPL_append h1.1 h2.1, fun u hu => ?_⟩
        rcases List.mem_append.1 hu with hu | hu
        · exact h1.2 u hu
        · exact h2.2 u hu
      · cases hd
    · cases ht

theorem laid_of_trod {fz : Fzn} : ∀ (m : Nat) (t : TypeId) (n : Nat) (cs : List Value) (x : DataW H × List MemPlace) (xs : List PV), supp P m t = true → DataW.trod enc P W 0 sp held n t cs = some x → flatD x.1 = some xs → VPL fz xs cs ∧ ∀ u ∈ cs, plainV u = true
  | 0, _, _, _, _, _, hs, _, _ => by simp [supp] at hs
  | m + 1, t, n, cs, x, xs, hs, h, hd => by
    have ih := laid_of_trod (fz := fz) m
    simp only [supp] at hs
    cases hp : partsOf P t with
    | some l =>
      simp only [hp, Bool.and_eq_true, decide_eq_true_eq, List.all_eq_true] at hs
      obtain ⟨ys, k, h1, h2, h3, h4, h5⟩ := parts_trod hp h
      rw [h2] at hd
      simp only [flatD] at hd
      have := fldsD_of (fz := fz) (P := P) (cs := cs) (Q := fun d us => ∀ xs, flatD d = some xs → VPL fz xs us ∧ ∀ u ∈ us, plainV u = true) (fun d us xs hq hx => hq xs hx) l (ys.map (·.1)) 0 xs (by rw [h3]; exact hs.1) (by simpa using h4) (fun i f d hf hd' => by
        rw [List.getElem?_map, Option.map_eq_some_iff] at hd'
        obtain ⟨y, hy, rfl⟩ := hd'
        have e := h5 i f hf
        rw [hy] at e
        intro xs hx
        exact ih _ _ _ _ xs (hs.2 _ (List.mem_of_getElem? hf)) e hx) hd
      simpa using this
    | none =>
      simp only [hp] at hs
      cases hu : P.underlying t with
      | none => simp [hu] at hs
      | some d =>
        simp only [hu] at hs
        cases d with
        | bool =>
          obtain ⟨b, rfl, rfl⟩ := DataW.trod_bool hu h
          simp only [flatD, Option.some.injEq] at hd
          subst hd
          exact ⟨by simp [VPL, VP], by simp [plainV]⟩
        | int k =>
          obtain ⟨b, rfl, rfl, hw⟩ := DataW.trod_int hu h
          simp only [flatD, Option.some.injEq] at hd
          subst hd
          exact ⟨by simp [VPL, VP], by simp [plainV]⟩
        | string =>
          obtain ⟨⟨⟨s⟩⟩, rfl, rfl, hw⟩ := DataW.trod_string hu h
          simp only [flatD, Option.some.injEq] at hd
          subst hd
          exact ⟨by simp [VPL, VP], by simp [plainV]⟩
        | slice e =>
          rcases DataW.trod_slice hu h with ⟨rfl, rfl⟩ | ⟨a, len, cap, elems, rest, n', rfl, rfl, rfl, _⟩
          · simp [flatD] at hd
          · simp [flatD] at hd
        | _ => simp [basic] at hs
end
end Go.Proofs.YtphmmoloegjocaaGreatDoor.Y

/- From contracts on data to the statements of rows. -/
namespace Go.Proofs.YtphmmoloegjocaaGreatDoor.Y
open Go

theorem mapM_mono {α β : Type} {f g : α → Option β} : ∀ {l : List α} {r : List β}, (∀ x ∈ l, ∀ y, f x = some y → g x = some y) → l.mapM f = some r → l.mapM g = some r
  | [], r, _, h => by simpa using h
  | x :: l, r, hfg, h => by
    simp only [List.mapM_cons, Option.bind_eq_bind, Option.bind_eq_some_iff, Option.pure_def, Option.some.injEq] at h ⊢
    obtain ⟨y, h1, ys, h2, h3⟩ := h
    exact ⟨y, hfg x (by simp) y h1, ys, mapM_mono (fun z hz => hfg z (by simp [hz])) h2, h3⟩

/-- All that was there is there as it was. -/
def Kept (W W' : World) : Prop := ∀ (b : Nat) (o : Obj), W.heap[b]? = some o → W'.heap[b]? = some o

section
variable {H : Type} {enc : TypeId × Value → H} {P : Program} {W W' : World} {sp' : Nat → Bool} {held : Bool}

theorem Kept.cell (hk : Kept W W') {a : Addr} {v : Value} (h : W.cell? a = some v) : W'.cell? a = some v := by
  unfold World.cell? at h ⊢
  split at h
  · rename_i c t z hb
    rw [hk _ _ hb]
    exact h
  · cases h
theorem Kept.cells (hk : Kept W W') {a : Addr} {n : Nat} {cs : List Value} (h : W.cells? 0 a n = some cs) : W'.cells? 0 a n = some cs := by
  unfold World.cells? at h ⊢
  rw [if_pos (Nat.zero_le _)] at h ⊢
  exact mapM_mono (fun _ _ _ hx => hk.cell hx) h

theorem trod_kept (hk : Kept W W') (hsp : ∀ b, b < W.heap.size → sp' b = true) : ∀ (m : Nat) (t : TypeId) (n : Nat) (cs : List Value) (x : DataW H × List MemPlace), supp P m t = true → DataW.trod enc P W 0 (fun _ => true) held n t cs = some x → DataW.trod enc P W' 0 sp' held n t cs = some x
  | 0, _, _, _, _, hs, _ => by simp [supp] at hs
  | m + 1, t, 0, cs, x, hs, h => by simp [DataW.trod] at h
  | m + 1, t, n + 1, cs, x, hs, h => by
    have ih := trod_kept hk hsp m
    simp only [supp] at hs
    cases hu : P.underlying t with
    | none =>
      have hp : partsOf P t = none := by simp [partsOf, hu]
      simp [hp, hu] at hs
    | some d =>
      cases d with
      | struct fs =>
        have hp : partsOf P t = some (fs.toList.map fun f => (f.type, f.offset)) := by simp [partsOf, hu]
        simp only [hp, Bool.and_eq_true, List.all_eq_true] at hs
        unfold DataW.trod at h ⊢
        rw [hu] at h ⊢
        simp only [] at h ⊢
        split at h
        · rename_i hl
          rw [if_pos hl]
          rw [Option.map_eq_some_iff] at h ⊢
          obtain ⟨xs, h1, h2⟩ := h
          exact ⟨xs, mapM_mono (fun f hf y hy => ih _ _ _ _ (hs.2 (f.type, f.offset) (List.mem_map_of_mem hf)) hy) h1, h2⟩
        · cases h
      | array k e =>
        have hp : partsOf P t = some ((List.range k).map fun i => (e, i * P.cellsOf e)) := by simp [partsOf, hu]
        simp only [hp, Bool.and_eq_true, List.all_eq_true] at hs
        unfold DataW.trod at h ⊢
        rw [hu] at h ⊢
        simp only [] at h ⊢
        split at h
        · rename_i hl
          rw [if_pos hl]
          rw [Option.map_eq_some_iff] at h ⊢
          obtain ⟨xs, h1, h2⟩ := h
          exact ⟨xs, mapM_mono (fun i hi y hy => ih _ _ _ _ (hs.2 (e, i * P.cellsOf e) (List.mem_map_of_mem hi)) hy) h1, h2⟩
        · cases h
      | bool =>
        obtain ⟨b, rfl, rfl⟩ := DataW.trod_bool hu h
        unfold DataW.trod; rw [hu]
      | int k =>
        obtain ⟨b, rfl, rfl, hw⟩ := DataW.trod_int hu h
        unfold DataW.trod; rw [hu]; simp [hw]
      | string =>
        obtain ⟨s, rfl, rfl, hw⟩ := DataW.trod_string hu h
        unfold DataW.trod; rw [hu]; simp [hw]
      | slice e =>
        have hp : partsOf P t = none := by simp [partsOf, hu]
        simp only [hp, hu, Bool.and_eq_true, decide_eq_true_eq] at hs
        rcases DataW.trod_slice hu h with ⟨rfl, rfl⟩ | ⟨a, len, cap, _, _, _, _, rfl, _⟩
        · unfold DataW.trod; rw [hu]; rfl
        unfold DataW.trod at h ⊢
        rw [hu] at h ⊢
        simp only [if_true] at h ⊢
        split at h
        rotate_left
        · cases h
        rename_i hc
        rw [if_pos hc]
        rw [Option.bind_eq_some_iff] at h ⊢
        obtain ⟨elems, h1, h2⟩ := h
        rw [Option.map_eq_some_iff] at h2
        obtain ⟨rest, h2, h3⟩ := h2
        have el : ∀ i y, (W.cells? 0 (a.add (i * P.cellsOf e)) (P.cellsOf e)).bind (DataW.trod enc P W 0 (fun _ => true) held n e) = some y → (W'.cells? 0 (a.add (i * P.cellsOf e)) (P.cellsOf e)).bind (DataW.trod enc P W' 0 sp' held n e) = some y := by
          intro i y hy
          rw [Option.bind_eq_some_iff] at hy ⊢
          obtain ⟨cs', g1, g2⟩ := hy
          exact ⟨cs', hk.cells g1, ih _ _ _ _ hs.2 g2⟩
        refine ⟨elems, mapM_mono (fun i _ y hy => el i y hy) h1, ?_⟩
        rw [Option.map_eq_some_iff]
        refine ⟨rest, ?_, h3⟩
        by_cases hd : cap - len = 0
        · rw [hd] at h2 ⊢
          simp at h2
          subst h2
          cases sp' a.block <;> simp
        · have hb : a.block < W.heap.size := by
            have hl := mapM_some_length h2
            rw [List.length_range] at hl
            have := mapM_some_get h2 0 0 (by rw [List.getElem?_eq_getElem (by simp; omega)]; simp)
            rw [List.getElem?_eq_getElem (by omega), Option.bind_eq_some_iff] at this
            obtain ⟨cs', g1, _⟩ := this
            obtain ⟨c, t', z, g3, _⟩ := cells_take hs.1 g1
            have hblk : (a.add ((len + 0) * P.cellsOf e)).block = a.block := by unfold Addr.add; split <;> rfl
            rw [hblk] at g3
            exact (Array.getElem?_eq_some_iff.1 g3).1
          rw [if_pos (hsp _ hb)]
          exact mapM_mono (fun i _ y hy => el (len + i) y hy) h2
      | _ =>
        have hp : partsOf P t = none := by simp [partsOf, hu]
        simp [hp, hu, basic] at hs

theorem trodAll_kept (hk : Kept W W') (hsp : ∀ b, b < W.heap.size → sp' b = true) (m : Nat) : ∀ {ts : List TypeId} {vs : List Value} {ds : List (DataW H)} {ps : List MemPlace}, ts.all (supp P m) = true → DataW.TrodAll enc P W 0 (fun _ => true) held ts vs ds ps → DataW.TrodAll enc P W' 0 sp' held ts vs ds ps
  | [], [], [], ps, _, h => h
  | t :: ts, v :: vs, d :: ds, ps, hs, h => by
    simp only [List.all_cons, Bool.and_eq_true] at hs
    obtain ⟨p, q, ⟨fuel, h1⟩, h2, h3⟩ := h
    exact ⟨p, q, ⟨fuel, trod_kept hk hsp m _ _ _ _ hs.1 h1⟩, trodAll_kept hk hsp m hs.2 h2, h3⟩
  | [], [], _ :: _, ps, _, h => by simp [DataW.TrodAll] at h
  | [], _ :: _, _, ps, _, h => by simp [DataW.TrodAll] at h
  | _ :: _, [], _, ps, _, h => by simp [DataW.TrodAll] at h
  | _ :: _, _ :: _, [], ps, _, h => by simp [DataW.TrodAll] at h

/-- An argument of a type. -/
def ArgT (P : Program) (m : Nat) (t : TypeId) (x : PV) : Prop := match partsOf P t with
  | some _ => ∃ xs, x = .agg xs ∧ TyT P m t xs
  | none => TyT P m t [x]
def ArgsT (P : Program) (m : Nat) : List TypeId → List PV → Prop
  | [], xs => xs = []
  | t :: ts, xs => ∃ x r, xs = x :: r ∧ ArgT P m t x ∧ ArgsT P m ts r

def fzOf (W : World) : Fzn := fun b => match W.heap[b]? with
  | some (.cells c _ _) => some c.toList
  | _ => none
theorem fzOf_all (W : World) : AllCells (fzOf W) W := fun b c t z h => by simp [fzOf, h]
theorem fzOf_some {b : Nat} {arr : List Value} (h : fzOf W b = some arr) : ∃ c t z, W.heap[b]? = some (.cells c t z) ∧ arr = c.toList := by
  unfold fzOf at h
  split at h
  · rename_i c t z hb
    injection h with h
    exact ⟨c, t, z, hb, h.symm⟩
  · cases h

theorem arg_of {m : Nat} {base : Nat} {t : TypeId} {v : Value} {d : DataW H} {ps : List MemPlace} (hs : supp P m t = true) (hval : Value.okWide P W .any base t v) (h : DataW.Trod enc P W 0 (fun _ => true) true t v d ps) : ∃ x, VP (fzOf W) x v ∧ ArgT P m t x := by
  obtain ⟨fuel, h⟩ := h
  obtain ⟨xs, h1, h2, h3⟩ := typed_of_trod (fzOf_all W) m t fuel _ _ hs h
  unfold Value.okWide at hval
  cases hp : partsOf P t with
  | some l =>
    have : ∃ cs, v = .agg cs := by
      unfold partsOf at hp
      split at hp
      · rename_i fs hu; simp only [hu] at hval; obtain ⟨cs, h, _⟩ := hval; exact ⟨cs, h⟩
      · rename_i k e hu; simp only [hu] at hval; obtain ⟨cs, h, _⟩ := hval; exact ⟨cs, h⟩
      · cases hp
    obtain ⟨cs, rfl⟩ := this
    exact ⟨.agg xs, by simp only [VP]; exact ⟨cs, rfl, h1⟩, by simp only [ArgT, hp]; exact ⟨xs, rfl, h3⟩⟩
  | none =>
    have hv : v.cells = #[v] := by
      cases m with
      | zero => simp [supp] at hs
      | succ m =>
        simp only [supp, hp] at hs
        cases hu : P.underlying t with
        | none => simp [hu] at hs
        | some d =>
          simp only [hu] at hs hval
          cases d with
          | struct fs => simp [partsOf, hu] at hp
          | array k e => simp [partsOf, hu] at hp
          | bool => cases v <;> simp_all [Cell.okWide, Cell.ok, Value.cells]
          | int k => cases v <;> simp_all [Cell.okWide, Cell.ok, Value.cells]
          | string => cases v <;> simp_all [Cell.okWide, Cell.ok, Value.cells]
          | slice e => cases v <;> simp_all [Cell.okWide, Cell.ok, Value.cells]
          | _ => simp [basic] at hs
    rw [hv] at h1
    obtain ⟨x, rfl, h4⟩ : ∃ x, xs = [x] ∧ VP (fzOf W) x v := by
      match xs, h1 with
      | [], h1 => simp [VPL] at h1
      | x :: r, h1 =>
        simp only [VPL] at h1
        obtain ⟨u, us, e, g1, g2⟩ := h1
        simp only [List.cons.injEq] at e
        obtain ⟨rfl, rfl⟩ := e
        match r, g2 with
        | [], _ => exact ⟨x, rfl, g1⟩
        | y :: r, g2 => simp [VPL] at g2
    exact ⟨x, h4, by simp only [ArgT, hp]; exact h3⟩

theorem args_of {m base : Nat} : ∀ {ts : List TypeId} {vs : List Value} {ds : List (DataW H)} {ps : List MemPlace}, ts.all (supp P m) = true → (∀ (j : Nat) t v, ts[j]? = some t → vs[j]? = some v → Value.okWide P W .any base t v) → DataW.TrodAll enc P W 0 (fun _ => true) true ts vs ds ps →
    ∃ xs, VPL (fzOf W) xs vs ∧ ArgsT P m ts xs ∧ ds.length = ts.length
  | [], [], [], ps, _, _, _ => ⟨[], by simp [VPL], rfl, rfl⟩
  | t :: ts, v :: vs, d :: ds, ps, hs, hv, h => by
    simp only [List.all_cons, Bool.and_eq_true] at hs
    obtain ⟨p, q, h1, h2, h3⟩ := h
    obtain ⟨x, g1, g2⟩ := arg_of hs.1 (hv 0 t v rfl rfl) h1
    obtain ⟨xs, k1, k2, k3⟩ := args_of hs.2 (fun j t v ht hv' => hv (j + 1) t v ht hv') h2
    exact ⟨x :: xs, by simp only [VPL]; exact ⟨v, vs, rfl, g1, k1⟩, ⟨x, xs, rfl, g2, k2⟩, by simp [k3]⟩
  | [], [], _ :: _, ps, _, _, h => by simp [DataW.TrodAll] at h
  | [], _ :: _, _, ps, _, _, h => by simp [DataW.TrodAll] at h
  | _ :: _, [], _, ps, _, _, h => by simp [DataW.TrodAll] at h
  | _ :: _, _ :: _, [], ps, _, _, h => by simp [DataW.TrodAll] at h
end

/-- The tables of the context are those that the row lists. -/
def gtOK (P : Program) (m : Nat) : List (Nat × List PV) → List (String × DataW Unit) → Prop
  | [], _ => True
  | (g, cs) :: r, (n, d) :: r' => P.globalNamed n = some g ∧ (∃ t, (P.globals[g]?).map (·.type) = some t ∧ supp P m t = true) ∧ flatD d = some cs ∧ gtOK P m r r'
  | _ :: _, [] => False

theorem glob_of_laid {P : Program} {m : Nat} {W : World} : ∀ {gt : List (Nat × List PV)} {laid : List (String × DataW Unit)} {ps : List MemPlace}, gtOK P m gt laid → DataW.LaidVars P W laid ps → ∀ g cs, gget gt g = some cs → VP (fzOf W) (.fp cs) (.pointer (some ⟨g, 0, none⟩))
  | [], _, _, _, _, g, cs, h => by simp [gget] at h
  | (g', cs') :: r, [], _, hg, _, g, cs, h => by simp [gtOK] at hg
  | (g', cs') :: r, (n, d) :: r', ps, hg, hl, g, cs, h => by
    obtain ⟨h1, ⟨t, h2, h3⟩, h4, h5⟩ := hg
    obtain ⟨g0, t0, cs0, fuel, p, q, k1, k2, k3, k4, k5, k6⟩ := hl
    rw [h1] at k1
    injection k1 with k1
    subst k1
    rw [h2] at k2
    injection k2 with k2
    subst k2
    simp only [gget] at h
    split at h
    · rename_i he
      have he := Nat.eq_of_beq_eq_true he
      subst he
      injection h with h
      subst h
      obtain ⟨g1, g2⟩ := laid_of_trod (fz := fzOf W) m t fuel _ _ _ h3 k4 h4
      have hb : ∃ ty z, W.heap[g']? = some (.cells cs0 ty z) := by
        unfold World.var? at k3
        rw [h1] at k3
        simp only [Option.bind_some] at k3
        split at k3
        · rename_i c ty z hb
          injection k3 with k3
          subst k3
          exact ⟨ty, z, hb⟩
        · cases k3
      obtain ⟨ty, z, hb⟩ := hb
      simp only [VP]
      exact ⟨g', 0, cs0.toList, cs0.toList, rfl, fzOf_all W _ _ _ _ hb, g1, [], [], by simp, rfl, g2⟩
    · exact glob_of_laid h5 k5 g cs h

section
variable {cx : Cx}

/-- A law on data, called in a world. -/
theorem calls_of_pure {H : Type} {enc : TypeId × Value → H} {W : World} {f : FuncId} {fn : Func} {c : Code} {m base : Nat} {args : Array Value} {ds : List (DataW H)} {ps : List MemPlace}
    (hf : cx.P.funcs[f]? = some fn) (hname : (fn.name == "runtime.NumGoroutine") = false) (hb : fn.body = some c) (hs : fn.params.toList.all (supp cx.P m) = true)
    (hpure : ∀ xs, ArgsT cx.P m fn.params.toList xs → Pure cx f xs (· = .ret [.bool true]))
    (hval : ∀ (j : Nat) t v, fn.params[j]? = some t → args[j]? = some v → Value.okWide cx.P W .any base t v)
    (hA : DataW.TrodAll enc cx.P W 0 (fun _ => true) true fn.params.toList args.toList ds ps)
    (hglob : ∀ g cs, gget cx.gt g = some cs → VP (fzOf W) (.fp cs) (.pointer (some ⟨g, 0, none⟩))) :
    Calls cx.P f args W fun e W' => e = .returned (.bool true) ∧ W'.os = W.os ∧ W'.output = W.output ∧ ∀ k, k < W.heap.size → W'.heap[k]? = W.heap[k]? := by
  obtain ⟨xs, h1, h2, _⟩ := args_of hs (fun j t v ht hv => hval j t v (by simpa using ht) (by simpa using hv)) hA
  have hR : R cx ⟨fun _ => none, fzOf W⟩ ⟨0, []⟩ W := by
    refine ⟨hglob, fun _ _ => rfl, fun b arr hb => ?_, fun n o hn => by simp [lget] at hn, fun n o q hn => by simp [lget] at hn, fun n o m p q q' hn => by simp [lget] at hn⟩
    obtain ⟨c, t, z, g1, rfl⟩ := fzOf_some hb
    exact ⟨t, z, g1⟩
  have key : ∀ e w', Post cx ⟨fun _ => none, fzOf W⟩ ⟨0, []⟩ W (EndP (· = .ret [.bool true])) e w' → e = .returned (.bool true) ∧ w'.os = W.os ∧ w'.output = W.output ∧ ∀ k, k < W.heap.size → w'.heap[k]? = W.heap[k]? := by
    intro e w' hP
    obtain ⟨r, Γ', hq, _, hE, _, hT, _⟩ := pure_post hR hP
    subst hq
    obtain ⟨v', rfl, hv⟩ := hE
    simp only [VR, VP] at hv
    subst hv
    exact ⟨rfl, hT.os, hT.output, fun k hk => hT.kept k hk own_nil⟩
  have hrun := run_enter hf hname hb args W
  rcases hpure xs h2 ⟨fun _ => none, fzOf W⟩ W args.toList hR (VRL_p.2 h1) with ⟨_, h4⟩ | ⟨v', w', h4, _⟩
  · exact h4.mono key
  · rw [hrun] at h4
    injection h4 with h4
    cases h4

/-- What a law's row asks behind the call. -/
theorem post_of_kept {H : Type} {enc : TypeId × Value → H} {W W' : World} {fn : Func} {s : ChangeSpec} {m : Nat} {bt : TypeId} {apart fresh handsOn : Bool} {args : Array Value} {ds gs : List (DataW H)} {before : List MemPlace}
    (hs : fn.params.toList.all (supp cx.P m) = true) (hvars : s.vars = []) (hres : fn.resultTypes = #[bt]) (hbt : cx.P.underlying bt = some .bool)
    (hfn : ∀ ds : List (DataW H), ds.length = fn.params.toList.length → s.fn H ds = { results := [.lit (.bool true)], args := ds })
    (hW : DataW.Whole enc cx.P fn.params.toList s.vars apart W args.toList ds gs before) (hlen : ds.length = fn.params.toList.length)
    (hos : W'.os = W.os) (hout : W'.output = W.output) (hkept : ∀ k, k < W.heap.size → W'.heap[k]? = W.heap[k]?) :
    s.post enc cx.P fn apart fresh handsOn false W args (.bool true) W' := by
  have hk : Kept W W' := fun b o hb => by rw [hkept b (Array.getElem?_eq_some_iff.1 hb).1]; exact hb
  have hW' := hW
  obtain ⟨p, q, h1, h2, _, _, _⟩ := hW'
  rw [hvars] at h2
  obtain ⟨rfl, rfl⟩ := Go.ChangeShapes.trodVars_none h2
  have e : s.fn H (ds ++ []) = { results := [.lit (.bool true)], args := ds } := by rw [List.append_nil]; exact hfn ds hlen
  refine ⟨ds, [], before, [], p, [], hW, ?_, ?_, ?_, ?_, fun h => by cases h⟩
  · rw [e, hres]
    exact Go.ChangeShapes.trodAll_mk1 (Go.RowKit.shut_bool hbt true)
  · rw [e]
    exact trodAll_kept hk (fun b hb => by simpa using hb) m hs h1
  · rw [e, hvars]
    rfl
  · refine ⟨hos, hout, fun i hi => ?_⟩
    rw [hkept i hi]
    have := Array.getElem?_eq_getElem hi
    rw [this]
    cases W.heap[i] <;> simp
end
end Go.Proofs.YtphmmoloegjocaaGreatDoor.Y

/- Arguments of the statements: drafts. -/
namespace Go.Proofs.YtphmmoloegjocaaGreatDoor
open Go Y
set_option maxRecDepth 100000
set_option maxHeartbeats 4000000

theorem ty_u8 {m : Nat} {xs : List PV} (h : TyT Tryz.prog (m + 1) 5 xs) : ∃ b : UInt8, xs = [u8 b] := by
  have hp : partsOf Tryz.prog 5 = none := by simp [partsOf, Tryz.underlying5]
  simp only [TyT, hp, Tryz.underlying5] at h
  obtain ⟨n, rfl, hw⟩ := h
  have := bounds_u8 hw
  refine ⟨UInt8.ofNat n.toNat, ?_⟩
  have e : ((UInt8.ofNat n.toNat).toNat : Int) = n := by
    simp
    omega
  rw [u8, e]
theorem lift_list {α : Type} {f : α → PV} {P : α → Prop} {ys : List PV} (h : ∀ y ∈ ys, ∃ a, y = f a ∧ P a) : ∃ zs : List α, ys = zs.map f ∧ ∀ z ∈ zs, P z := by
  induction ys with
  | nil => exact ⟨[], rfl, by simp⟩
  | cons y r ih =>
    obtain ⟨a, rfl, ha⟩ := h y (by simp)
    obtain ⟨zs, rfl, hz⟩ := ih fun z hz => h z (by simp [hz])
    exact ⟨a :: zs, rfl, fun z hm => by rcases List.mem_cons.1 hm with rfl | hm; exact ha; exact hz z hm⟩
theorem ty_bytes {m : Nat} {xs : List PV} (h : TyT Tryz.prog (m + 2) 26 xs) : ∃ bs : List UInt8, xs = [.lst (bs.map u8)] ∧ bs.length ≤ 9223372036854775807 := by
  have hp : partsOf Tryz.prog 26 = none := by simp [partsOf, Tryz.underlying26]
  have hc : Tryz.prog.cellsOf 5 = 1 := by kernel_rfl
  rw [TyT] at h
  simp only [hp, Tryz.underlying26, hc] at h
  obtain ⟨ys, rfl, hl, hy⟩ := h
  obtain ⟨bs, rfl, _⟩ := lift_list (f := u8) (P := fun _ => True) fun y hy' => by
    obtain ⟨b, hb⟩ := ty_u8 (hy y hy')
    simp at hb
    exact ⟨b, hb, trivial⟩
  exact ⟨bs, rfl, by rw [List.length_map] at hl; exact hl⟩
theorem lift_lists {α : Type} {f : α → List PV} {P : α → Prop} {ys : List (List PV)} (h : ∀ y ∈ ys, ∃ a, y = f a ∧ P a) : ∃ zs : List α, ys = zs.map f ∧ ∀ z ∈ zs, P z := by
  induction ys with
  | nil => exact ⟨[], rfl, by simp⟩
  | cons y r ih =>
    obtain ⟨a, rfl, ha⟩ := h y (by simp)
    obtain ⟨zs, rfl, hz⟩ := ih fun z hz => h z (by simp [hz])
    exact ⟨a :: zs, rfl, fun z hm => by rcases List.mem_cons.1 hm with rfl | hm; exact ha; exact hz z hm⟩
theorem ty_piece {m : Nat} {xs : List PV} (h : TyT Tryz.prog (m + 3) 67 xs) : ∃ p : Pc, xs = p.cells ∧ p.w.length ≤ 9223372036854775807 := by
  have hp : partsOf Tryz.prog 67 = some [(5, 0), (5, 1), (26, 2)] := by kernel_rfl
  rw [TyT] at h
  simp only [hp] at h
  obtain ⟨x1, _, rfl, _, h1, x2, _, rfl, _, h2, x3, _, rfl, _, h3, rfl⟩ := h
  obtain ⟨a, rfl⟩ := ty_u8 h1
  obtain ⟨b, rfl⟩ := ty_u8 h2
  obtain ⟨c, rfl, hc⟩ := ty_bytes h3
  exact ⟨⟨a, b, c⟩, rfl, hc⟩
theorem ty_pieces {m : Nat} {xs : List PV} (h : TyT Tryz.prog (m + 4) 25 xs) : ∃ l : List Pc, xs = [.lsts 3 (l.map Pc.cells)] ∧ l.length ≤ 9223372036854775807 ∧ ∀ p ∈ l, p.w.length ≤ 9223372036854775807 := by
  have hp : partsOf Tryz.prog 25 = none := by simp [partsOf, Tryz.underlying25]
  have hc : Tryz.prog.cellsOf 67 = 3 := by kernel_rfl
  rw [TyT] at h
  simp only [hp, Tryz.underlying25, hc] at h
  obtain ⟨ys, rfl, hn, hy⟩ := h
  obtain ⟨l, rfl, hl⟩ := lift_lists (f := Pc.cells) (P := fun p => p.w.length ≤ 9223372036854775807) fun y hy' => ty_piece (hy y hy')
  rw [List.length_map] at hn
  exact ⟨l, rfl, hn, hl⟩
theorem ty_draft5 {m : Nat} {xs : List PV} (h : TyT Tryz.prog (m + 5) 28 xs) : ∃ D : D5, xs = D.cells ∧ OkD5 D := by
  have hp : partsOf Tryz.prog 28 = some [(5, 0), (25, 1), (26, 2)] := by kernel_rfl
  rw [TyT] at h
  simp only [hp] at h
  obtain ⟨x1, _, rfl, _, h1, x2, _, rfl, _, h2, x3, _, rfl, _, h3, rfl⟩ := h
  obtain ⟨a, rfl⟩ := ty_u8 h1
  obtain ⟨b, rfl, hb1, hb2⟩ := ty_pieces h2
  obtain ⟨c, rfl, hc⟩ := ty_bytes h3
  exact ⟨⟨a, b, c⟩, rfl, ⟨hb1, hc, hb2⟩⟩
theorem arg_plain {t : TypeId} {m : Nat} {x : PV} (hp : partsOf Tryz.prog t = none) (h : ArgT Tryz.prog m t x) : TyT Tryz.prog m t [x] := by
  simpa only [ArgT, hp] using h
theorem arg_draft5 {m : Nat} {x : PV} (h : ArgT Tryz.prog (m + 5) 28 x) : ∃ D : D5, x = D.pv ∧ OkD5 D := by
  have hp : partsOf Tryz.prog 28 = some [(5, 0), (25, 1), (26, 2)] := by kernel_rfl
  simp only [ArgT, hp] at h
  obtain ⟨xs, rfl, h⟩ := h
  obtain ⟨w, rfl, hw⟩ := ty_draft5 h
  exact ⟨w, rfl, hw⟩
end Go.Proofs.YtphmmoloegjocaaGreatDoor

/- Arguments of the statements: networks, changes. -/
namespace Go.Proofs.YtphmmoloegjocaaGreatDoor
open Go Y
set_option maxRecDepth 100000
set_option maxHeartbeats 4000000

theorem ty_u16 {m : Nat} {xs : List PV} (h : TyT Tryz.prog (m + 1) 39 xs) : ∃ b : UInt16, xs = [.int .u16 (b.toNat : Int)] := by
  have hp : partsOf Tryz.prog 39 = none := by simp [partsOf, Tryz.underlying39]
  simp only [TyT, hp, Tryz.underlying39] at h
  obtain ⟨n, rfl, hw⟩ := h
  have := bounds_u16 hw
  refine ⟨UInt16.ofNat n.toNat, ?_⟩
  have e : ((UInt16.ofNat n.toNat).toNat : Int) = n := by
    simp
    omega
  rw [e]
theorem ty_int {m : Nat} {xs : List PV} (h : TyT Tryz.prog (m + 1) 3 xs) : ∃ n, xs = [i64 n] ∧ -9223372036854775808 ≤ n ∧ n ≤ 9223372036854775807 := by
  have hp : partsOf Tryz.prog 3 = none := by simp [partsOf, Tryz.underlying3]
  simp only [TyT, hp, Tryz.underlying3] at h
  obtain ⟨n, rfl, hw⟩ := h
  exact ⟨n, rfl, bounds_i64 hw⟩
theorem ty_str {m : Nat} {xs : List PV} (h : TyT Tryz.prog (m + 1) 9 xs) : ∃ s, xs = [.str s] ∧ s.length ≤ 9223372036854775807 := by
  have hp : partsOf Tryz.prog 9 = none := by simp [partsOf, Tryz.underlying9]
  simp only [TyT, hp, Tryz.underlying9] at h
  obtain ⟨n, rfl, hl⟩ := h
  exact ⟨n, rfl, hl⟩
theorem ty_ints {m : Nat} {xs : List PV} (h : TyT Tryz.prog (m + 2) 62 xs) : ∃ l : List Int, xs = [ints l] ∧ l.length ≤ 9223372036854775807 := by
  have hp : partsOf Tryz.prog 62 = none := by simp [partsOf, Tryz.underlying62]
  have hc : Tryz.prog.cellsOf 3 = 1 := by kernel_rfl
  rw [TyT] at h
  simp only [hp, Tryz.underlying62, hc] at h
  obtain ⟨ys, rfl, hl, hy⟩ := h
  obtain ⟨l, rfl, _⟩ := lift_list (f := i64) (P := fun _ => True) fun y hy' => by
    obtain ⟨b, hb, _⟩ := ty_int (hy y hy')
    simp at hb
    exact ⟨b, hb, trivial⟩
  exact ⟨l, rfl, by rw [List.length_map] at hl; exact hl⟩
theorem ty_cases {m : Nat} {xs : List PV} (h : TyT Tryz.prog (m + 3) 69 xs) : ∃ l : List (List Int), xs = [.lst (l.map ints)] ∧ l.length ≤ 9223372036854775807 ∧ ∀ c ∈ l, c.length ≤ 9223372036854775807 := by
  have hp : partsOf Tryz.prog 69 = none := by simp [partsOf, Tryz.underlying69]
  have hc : Tryz.prog.cellsOf 62 = 1 := by kernel_rfl
  rw [TyT] at h
  simp only [hp, Tryz.underlying69, hc] at h
  obtain ⟨ys, rfl, hl, hy⟩ := h
  obtain ⟨l, rfl, hm⟩ := lift_list (f := ints) (P := fun c => c.length ≤ 9223372036854775807) fun y hy' => by
    obtain ⟨b, hb, hb'⟩ := ty_ints (hy y hy')
    simp at hb
    exact ⟨b, hb, hb'⟩
  exact ⟨l, rfl, by rw [List.length_map] at hl; exact hl, hm⟩
theorem ty_node {m : Nat} {xs : List PV} (h : TyT Tryz.prog (m + 4) 71 xs) : ∃ x : Nd, xs = x.cells ∧ x.parents.length ≤ 9223372036854775807 ∧ x.rows.length ≤ 9223372036854775807 ∧ ∀ r ∈ x.rows, r.length ≤ 9223372036854775807 := by
  have hp : partsOf Tryz.prog 71 = some [(3, 0), (62, 1), (69, 2)] := by kernel_rfl
  rw [TyT] at h
  simp only [hp] at h
  obtain ⟨x1, _, rfl, _, h1, x2, _, rfl, _, h2, x3, _, rfl, _, h3, rfl⟩ := h
  obtain ⟨a, rfl, _⟩ := ty_int h1
  obtain ⟨b, rfl, hb⟩ := ty_ints h2
  obtain ⟨c, rfl, hc, hd⟩ := ty_cases h3
  exact ⟨⟨a, b, c⟩, rfl, hb, hc, hd⟩
theorem ty_nodes {m : Nat} {xs : List PV} (h : TyT Tryz.prog (m + 5) 22 xs) : ∃ l : List Nd, xs = [.lsts 3 (l.map Nd.cells)] ∧ l.length ≤ 9223372036854775807 ∧ ∀ x ∈ l, x.parents.length ≤ 9223372036854775807 ∧ x.rows.length ≤ 9223372036854775807 ∧ ∀ r ∈ x.rows, r.length ≤ 9223372036854775807 := by
  have hp : partsOf Tryz.prog 22 = none := by simp [partsOf, Tryz.underlying22]
  have hc : Tryz.prog.cellsOf 71 = 3 := by kernel_rfl
  rw [TyT] at h
  simp only [hp, Tryz.underlying22, hc] at h
  obtain ⟨ys, rfl, hn, hy⟩ := h
  obtain ⟨l, rfl, hl⟩ := lift_lists (f := Nd.cells) (P := fun x => x.parents.length ≤ 9223372036854775807 ∧ x.rows.length ≤ 9223372036854775807 ∧ ∀ r ∈ x.rows, r.length ≤ 9223372036854775807) fun y hy' => ty_node (hy y hy')
  rw [List.length_map] at hn
  exact ⟨l, rfl, hn, hl⟩
theorem ty_net {m : Nat} {xs : List PV} (h : TyT Tryz.prog (m + 6) 24 xs) : ∃ n : Nt, xs = n.cells ∧ BigN n := by
  have hp : partsOf Tryz.prog 24 = some [(3, 0), (22, 1)] := by kernel_rfl
  rw [TyT] at h
  simp only [hp] at h
  obtain ⟨x1, _, rfl, _, h1, x2, _, rfl, _, h2, rfl⟩ := h
  obtain ⟨a, rfl, _⟩ := ty_int h1
  obtain ⟨b, rfl, hb, hc⟩ := ty_nodes h2
  exact ⟨⟨a, b⟩, rfl, hb, fun x hx => (hc x hx).1, fun x hx => (hc x hx).2.1, fun x hx => (hc x hx).2.2⟩
theorem arg_net {m : Nat} {x : PV} (h : ArgT Tryz.prog (m + 6) 24 x) : ∃ n : Nt, x = n.pv ∧ BigN n := by
  have hp : partsOf Tryz.prog 24 = some [(3, 0), (22, 1)] := by kernel_rfl
  simp only [ArgT, hp] at h
  obtain ⟨xs, rfl, h⟩ := h
  obtain ⟨w, rfl, hw⟩ := ty_net h
  exact ⟨w, rfl, hw⟩
theorem arg_edit41 {m : Nat} {x : PV} (h : ArgT Tryz.prog (m + 2) 41 x) : ∃ E : Ed, x = E.pv := by
  have hp : partsOf Tryz.prog 41 = some [(39, 0), (39, 1), (5, 2)] := by kernel_rfl
  simp only [ArgT, hp] at h
  obtain ⟨xs, rfl, h⟩ := h
  rw [TyT] at h
  simp only [hp] at h
  obtain ⟨x1, _, rfl, _, h1, x2, _, rfl, _, h2, x3, _, rfl, _, h3, rfl⟩ := h
  obtain ⟨a, rfl⟩ := ty_u16 h1
  obtain ⟨b, rfl⟩ := ty_u16 h2
  obtain ⟨c, rfl⟩ := ty_u8 h3
  exact ⟨⟨a, b, c⟩, rfl⟩
/-- A change of a network. -/
structure B5 where
  what : UInt8
  place : UInt8
  row : UInt8
  n : Int
abbrev B5.cells (B : B5) : List PV := [u8 B.what, u8 B.place, u8 B.row, i64 B.n]
abbrev B5.pv (B : B5) : PV := .agg B.cells
theorem arg_bend5 {m : Nat} {x : PV} (h : ArgT Tryz.prog (m + 2) 30 x) : ∃ B : B5, x = B.pv ∧ -9223372036854775808 ≤ B.n ∧ B.n ≤ 9223372036854775807 := by
  have hp : partsOf Tryz.prog 30 = some [(5, 0), (5, 1), (5, 2), (3, 3)] := by kernel_rfl
  simp only [ArgT, hp] at h
  obtain ⟨xs, rfl, h⟩ := h
  rw [TyT] at h
  simp only [hp] at h
  obtain ⟨x1, _, rfl, _, h1, x2, _, rfl, _, h2, x3, _, rfl, _, h3, x4, _, rfl, _, h4, rfl⟩ := h
  obtain ⟨a, rfl⟩ := ty_u8 h1
  obtain ⟨b, rfl⟩ := ty_u8 h2
  obtain ⟨c, rfl⟩ := ty_u8 h3
  obtain ⟨d, rfl, hd⟩ := ty_int h4
  exact ⟨⟨a, b, c, d⟩, rfl, hd⟩
end Go.Proofs.YtphmmoloegjocaaGreatDoor

/- The listed tables, as the rows of format ask. -/
namespace Go.Proofs.YtphmmoloegjocaaGreatDoor
open Go Y
set_option maxRecDepth 100000

theorem own : ownKnob Tryz.prog.godebug = none := by kernel_rfl
abbrev laidD : List (String × DataW Unit) := [("math/bits.deBruijn32tab", Rows.laid_math_bits_deBruijn32tab), ("math/bits.deBruijn64tab", Rows.laid_math_bits_deBruijn64tab), ("internal/strconv.uint64pow10", Rows.laid_internal_strconv_uint64pow10), ("unicode/utf8.acceptRanges", Rows.laid_unicode_utf8_acceptRanges), ("unicode/utf8.first", Rows.laid_unicode_utf8_first)]
theorem door_metD (os : Os) (args : Array Value) : laidMetH Tryz.prog laidD ((World.laidAll Tryz.prog os laidD).forCall (fun _ _ => 0) ⟨#[], args, []⟩).memory := by
  rw [MakeChecks.laidMetH_plain _ _ _ (by kernel_rfl)]
  exact laidMet_laidAll _ (by kernel_rfl) (by kernel_rfl)
theorem glob_okD {W : World} (_ : laidMetH Tryz.prog laidD W) : ∀ g cs, gget cx.gt g = some cs → VP (fzOf W) (.fp cs) (.pointer (some ⟨g, 0, none⟩)) := fun _ _ h => by cases h
end Go.Proofs.YtphmmoloegjocaaGreatDoor

/- FormatReads: the row and the card. ReadLines, ReadNested and Turn return what the reference's do, for arbitrary texts, pieces of texts, and the forms of drafted networks with changes. Conditions: those of the card. -/
namespace Go.Proofs.YtphmmoloegjocaaGreatDoor
open Go Y
set_option maxRecDepth 100000

theorem formatReads_pure : ∀ xs, ArgsT Tryz.prog 8 Tryz.f4.params.toList xs → Pure cx 4 xs (· = .ret [.bool true]) := by
  intro xs h
  rw [Tryz.params4] at h
  obtain ⟨x0, _, rfl, h0, x1, _, rfl, h1, x2, _, rfl, h2, x3, _, rfl, h3, x4, _, rfl, h4, rfl⟩ := h
  obtain ⟨v0, e0, g0⟩ := ty_str (arg_plain (by simp [partsOf, Tryz.underlying9]) h0)
  injection e0 with e0
  subst e0
  obtain ⟨v1, e1, g1⟩ := ty_bytes (arg_plain (by simp [partsOf, Tryz.underlying26]) h1)
  injection e1 with e1
  subst e1
  obtain ⟨v2, rfl, g2⟩ := arg_draft5 h2
  obtain ⟨v3, rfl⟩ := arg_edit41 h3
  obtain ⟨v4, rfl⟩ := arg_edit41 h4
  exact formatReads_c v0 v1 v2 v3 v4 g0 g1 g2
theorem formatReads_lifted (os : Os) (started : os.Started) (H : Type) (enc : TypeId × Value → H) :
    ReturnsInHanded {} Tryz.checked os 4 .any (fun w args => (Rows.formatReadsSpec.pre enc Tryz.prog Tryz.f4 [] false w args ∧ laidMetH Tryz.prog laidD w) ∧ sizedMet enc Tryz.prog Tryz.f4 (OpenSpec.ofChange Rows.formatReadsSpec) false w args)
      (Rows.formatReadsSpec.post enc Tryz.prog Tryz.f4 false true false false) := by
  refine returnsInHanded_of_change_and (C := Tryz.checked) (X := fun w _ => laidMetH Tryz.prog laidD w) (fun _ _ _ hh h => h.of_heap hh) own started (by kernel_rfl) Tryz.func4
    (ChangeSpec.witness_shaped (enc := enc) (C := Tryz.checked) (os := os) (X := fun w _ => laidMetH Tryz.prog laidD w) false (World.laidAll Tryz.prog os laidD) #[.string ⟨#[]⟩, .slice none 0 0, .agg #[.int .u8 0, .slice none 0 0, .slice none 0 0], .agg #[.int .u16 0, .int .u16 0, .int .u8 0], .agg #[.int .u16 0, .int .u16 0, .int .u8 0]] 8 (World.laidAll_os _ _ _) (World.shaped_of_ZipB (by kernel_rfl) (by kernel_rfl)) (by kernel_rfl) (by kernel_rfl) (by kernel_rfl) (door_metD os _)) ?_
  intro W base args ds gs before hval hW _ _ hL _
  obtain ⟨p, q, hA, hV, _⟩ := id hW
  have hs : Tryz.f4.params.toList.all (supp Tryz.prog 8) = true := by kernel_rfl
  obtain ⟨_, _, _, hlen⟩ := args_of hs (fun j t v ht hv => hval j t v (by simpa using ht) (by simpa using hv)) hA
  refine (calls_of_pure (cx := cx) Tryz.func4 (by kernel_rfl) rfl hs formatReads_pure hval hA (glob_okD hL)).mono fun e W' ⟨he, h1, h2, h3⟩ => ?_
  subst he
  exact ⟨_, rfl, post_of_kept (cx := cx) (m := 8) hs rfl (by kernel_rfl) Tryz.underlying4 (fun ds h => by
    rw [Tryz.params4] at h
    match ds, h with
    | [_, _, _, _, _], _ => rfl) hW hlen h1 h2 h3⟩

theorem formatReads_holds : Rows.FormatReadsSaid :=
  OpenClaim.holds_of_wide 4 Tryz.f4 rfl rfl rfl rfl rfl rfl rfl ⟨rfl, rfl, rfl, rfl, rfl⟩ rfl rfl rfl rfl rfl (by kernel_rfl) Tryz.func4 (by kernel_rfl)
    (of_decide_eq_true (by kernel_rfl)) (by unfold Func.isWrapper; first | (rw [if_pos (by decide +kernel)]; kernel_rfl) | (rw [if_neg (by decide +kernel)]; exact ⟨rfl, rfl⟩))
    (fun os started H enc _ => formatReads_lifted os started H enc)

theorem formatReads_card : Rows.FormatReadsCardSaid :=
  Claim7.holds_tied_plain_at .later [] [.data, .data, .data, .data, .pinned] true (true, "05df7281f202b8135faad0929ba83131a8abc96c8d0575467d8e0ee31e71e4e4") true
    formatReads_holds (fun _ h => by cases h) (by kernel_rfl) (fun _ h => by cases h) formatReads_row_tie rfl ⟨rfl, rfl⟩ (by kernel_rfl) rfl
    (fun f fn hf hfn => by
      obtain rfl : f = 4 := Option.some.inj ((show Tryz.prog.funcNamed "haruspex/haruspexlaw41.FormatReads" = some 4 by kernel_rfl).symm.trans hf) |>.symm
      obtain rfl : fn = Tryz.f4 := (Option.some.inj (Tryz.func4.symm.trans hfn)).symm
      exact ⟨by kernel_rfl, fun j t ht => by
        have hall : (Tryz.f4.params.toList.all fun u => !Tryz.prog.wantsStandIn u) = true := by kernel_rfl
        exact (show Tryz.prog.wantsStandIn t = false by simpa using List.all_eq_true.1 hall t (by simpa using Array.mem_of_getElem? ht))⟩)
    (by kernel_rfl)
#print axioms formatReads_card
end Go.Proofs.YtphmmoloegjocaaGreatDoor
