/- FormatKnown: the row and the card. The examples, words and blanks, numbers, and limits. Conditions: those of the card. -/
import Derived.Lib.FieldsP
import Derived.Shelf.Strings.Builder1
import Derived.Shelf.Strings.Builder2
import Derived.Shelf.Strings.OnBuilder
import Derived.Shelf.Strings.Trim
import Derived.Shelf.Small.Utf8
import Derived.Shelf.Small.Strs
import Derived.Shelf.Strings.BuilderF
import Derived.Shelf.Strconv.Itoa0
import Derived.Shelf.Strconv.Itoa1
import Derived.Shelf.LaysM
import Derived.Shelf.Strconv.Itoa2
import Derived.Shelf.Strconv.Itoa3
import Derived.Shelf.Strings.Search1
import Derived.Shelf.Strings.Search2
import Derived.Shelf.Strings.Cut
import Derived.Shelf.Strings.Shaped
import Derived.Shelf.Strings.Prefix
import Derived.Shelf.Unicode.Decode
import Derived.Shelf.Strings.Runes
import Derived.Shelf.Strings.AsciiSet
import Derived.Shelf.Bits.Mul64
import Derived.Shelf.Strings.Repeat
import Derived.Shelf.Unicode.DecodeSlow
import Derived.Shelf.Unicode.DecodeAny
import Derived.Shelf.Strings.FieldsFuncAny
import Derived.Shelf.Strings.FieldsFuncGrows
import Derived.Shelf.Strings.Search3
import Derived.Shelf.Strings.Count
import Derived.Shelf.Strings.Split
import Derived.Shelf.Strings.Replace
import Derived.Shelf.Strings.SplitShaped
import Derived.Shelf.Strings.SlTrimAscii
import Derived.Test.YtphmmoloegjocaaDoorProg
import Derived.Below
import Derived.ChangeArms
import Derived.OpenShut
import Derived.WideHanded
import Derived.ChangeSame
import Derived.ProofKit
import Derived.LaidMore
import Derived.LaidLaws
import Derived.Stop.Joined
import Derived.MakeChecks
import Derived.Test.YtphmmoloegjocaaDoorRows
import Derived.Lay
import Derived.Test.YtphmmoloegjocaaDoorCards
import Derived.Test.YtphmmoloegjocaaDoorTie
import Derived.SevenTiedAt
import Derived.Test.YtphmmoloegjocaaDoorQ3
/- The program's ReadNested. -/
namespace Go.Proofs.YtphmmoloegjocaaDoor
open Go Y
set_option maxRecDepth 100000
set_option maxHeartbeats 40000000

theorem result_h (T : TypeId) (g : Int) (m : Nat) (p : Nat) (rest : List PV) : HoldsG cx 105 [.ptr 0 0 0] (cmH T g (.sl 1 3 0 m) p rest) fun e H' => e = .returned (.agg [.p (i64 g), .sl 1 3 0 m]) ∧ H' = cmH T g (.sl 1 3 0 m) p rest := by
  refine holdsN_of_vc Tryd.func105 rfl rfl rfl ?_
  exact ⟨[], [], [], .returned (.agg [.p (i64 g), .sl 1 3 0 m]), cmH T g (.sl 1 3 0 m) p rest, rfl, ⟨_, rfl, _, rfl, _, _, rfl, rfl, _, _, rfl, rfl, rfl⟩, ⟨⟨_, rfl, rfl, rfl, _, rfl, _, _, rfl, rfl, _, _, rfl, rfl, _, _, rfl, rfl, seeL_p rest⟩, trivial⟩, rfl, rfl⟩
def erO (n : Int) : AObj := ⟨31, false, .bx [.p (i64 n)]⟩
def plO (n : Int) : AObj := ⟨3, false, .bx [.p (i64 n)]⟩
abbrev TPn : TypeId := 96
theorem nums_ok {s : List UInt8} : ∀ {f : Nat} {acc l : List Int} {q q' : Nat}, q ≤ s.length → acc.length ≤ q → numsP s f acc q = .inr (l, q') → l.length ≤ q'
  | 0, _, _, _, _, _, _, h => by cases h
  | f + 1, acc, l, q, q', hq, ha, h => by
    rw [numsP] at h
    split at h
    · cases h; have := nx_le hq; omega
    · obtain ⟨n, p, h1, h2⟩ := then_inr h
      have := num_lt hq h1
      exact nums_ok this.2 (by rw [snoc_len]; omega) h2
theorem rowRd_ok {s : List UInt8} {F : Nat} {l : List Int} {q q' : Nat} (hq : q ≤ s.length) (h : rowRd s F q = .inr (l, q')) : q < q' ∧ q' ≤ s.length ∧ l.length ≤ s.length := by
  rw [rowRd] at h
  obtain ⟨_, p1, h1, h⟩ := then_inr h
  have a1 := must_le hq h1
  obtain ⟨v, p2, h2, h⟩ := then_inr h
  have a2 := num_lt a1.2 h2
  obtain ⟨_, p3, h3, h⟩ := then_inr h
  have a3 := nums_le a2.2 h3
  have b3 := nums_ok a2.2 (by show 1 ≤ p2; omega) h3
  obtain ⟨_, p4, h4, h⟩ := then_inr h
  have a4 := must_le a3.2 h4
  cases h
  omega
theorem rows_ok {s : List UInt8} {F : Nat} : ∀ {f : Nat} {acc l : List (List Int)} {q q' : Nat}, q ≤ s.length → acc.length ≤ q → (∀ r ∈ acc, r.length ≤ s.length) → rowsP s F f acc q = .inr (l, q') → l.length ≤ q' ∧ ∀ r ∈ l, r.length ≤ s.length
  | 0, _, _, _, _, _, _, _, h => by cases h
  | f + 1, acc, l, q, q', hq, ha, hr, h => by
    rw [rowsP] at h
    split at h
    · cases h; have := nx_le hq; exact ⟨by omega, hr⟩
    · obtain ⟨n, p, h1, h2⟩ := then_inr h
      have := rowRd_ok hq h1
      refine rows_ok this.2.1 (by rw [snoc_len]; omega) (fun r hm => ?_) h2
      rcases List.mem_append.1 hm with hm | hm
      · exact hr r hm
      · simp only [List.mem_singleton] at hm; subst hm; exact this.2.2
theorem node_ok {s : List UInt8} {F q : Nat} {x : Nd} {q' : Nat} (hq : q ≤ s.length) (h : nodeRd s F q = .inr (x, q')) : OkX x s.length := by
  rw [nodeRd] at h
  obtain ⟨_, p1, h1, h⟩ := then_inr h
  have a1 := must_le hq h1
  obtain ⟨_, p2, h2, h⟩ := then_inr h
  have a2 := must_le a1.2 h2
  obtain ⟨_, p3, h3, h⟩ := then_inr h
  have a3 := num_lt a2.2 h3
  obtain ⟨ps, p4, h4, h⟩ := then_inr h
  rw [lstP] at h4
  obtain ⟨_, p5, h5, h4⟩ := then_inr h4
  have a5 := must_le a3.2 h5
  obtain ⟨_, p6, h6, h4⟩ := then_inr h4
  have a6 := nums_le a5.2 h6
  have b6 := nums_ok a5.2 (Nat.zero_le _) h6
  obtain ⟨_, p7, h7, h4⟩ := then_inr h4
  have a7 := must_le a6.2 h7
  cases h4
  obtain ⟨rs, p8, h8, h⟩ := then_inr h
  have a8 := rows_le a7.2 h8
  have b8 := rows_ok a7.2 (Nat.zero_le _) (by simp) h8
  obtain ⟨_, p9, h9, h⟩ := then_inr h
  cases h
  exact ⟨by show ps.length ≤ _; omega, by show rs.length ≤ _; omega, b8.2⟩
theorem nodes_ok {s : List UInt8} {F : Nat} (hF : s.length < F) : ∀ {f : Nat} {acc l : List Nd} {q q' : Nat}, q ≤ s.length → acc.length ≤ q → (∀ x ∈ acc, OkX x s.length) → nodesP s F f acc q = .inr (l, q') → (l.length ≤ q' ∧ q' ≤ s.length) ∧ ∀ x ∈ l, OkX x s.length
  | 0, _, _, _, _, _, _, _, h => by cases h
  | f + 1, acc, l, q, q', hq, ha, hr, h => by
    rw [nodesP] at h
    split at h
    · cases h; have := nx_le hq; exact ⟨by omega, hr⟩
    · obtain ⟨n, p, h1, h2⟩ := then_inr h
      have := node_lt hq hF h1
      have hk := node_ok hq h1
      refine nodes_ok hF this.2 (by rw [snoc_len]; omega) (fun r hm => ?_) h2
      rcases List.mem_append.1 hm with hm | hm
      · exact hr r hm
      · simp only [List.mem_singleton] at hm; subst hm; exact hk
theorem read_big {s : List UInt8} {F : Nat} {n : Nt} {q : Nat} (hs : s.length ≤ 50000) (hF : s.length < F) (h : netP s F = .inr (n, q)) : BigN n := by
  rw [netP] at h
  obtain ⟨_, p1, h1, h⟩ := then_inr h
  have a1 := must_le (Nat.zero_le _) h1
  obtain ⟨_, p2, h2, h⟩ := then_inr h
  have a2 := must_le a1.2 h2
  obtain ⟨g, p3, h3, h⟩ := then_inr h
  have a3 := num_lt a2.2 h3
  obtain ⟨l, p4, h4, h⟩ := then_inr h
  have a4 := nodes_ok hF a3.2 (Nat.zero_le _) (by simp) h4
  obtain ⟨_, p5, h5, h⟩ := then_inr h
  split at h
  · cases h
    exact big_of (n := s.length) (by omega) (by omega) a4.2
  · cases h
theorem read_n (s : List UInt8) (hs : s.length ≤ 50000) : HoldsG cx 51 [.iface TPn (.ptr 0 0 0), .p (.str s)] ⟨1, [(0, nrO 0 (.p .nils) 0 [] [])]⟩ fun e H' => e = .returned (.tup ((readNV s).map .p)) ∧ H' = ⟨1, []⟩ := by
  refine holdsN_of_vc Tryd.func51 rfl rfl rfl ?_
  (first | refine brLt (fun h0 => ?_) (fun h0 => ?_) | refine brLe (fun h0 => ?_) (fun h0 => ?_) | refine brEq (fun h0 => ?_) (fun h0 => ?_))
  · have h0 : (40000 : Int) < (s.length : Nat) := h0
    have e : readNV s = [znV, i64 0, i64 3] := by rw [readNV, if_pos (by omega)]
    exact ⟨[], [], [], .returned (.tup ([znV, i64 0, i64 3].map .p)), ⟨1, []⟩, rfl, ⟨_, rfl, _, rfl, _, _, rfl, rfl, _, _, rfl, rfl, _, _, rfl, rfl, rfl⟩, trivial, by rw [e], rfl⟩
  have h0 : ¬ (40000 : Int) < (s.length : Nat) := h0
  obtain ⟨F, hF⟩ : ∃ F, F = s.length + 1 := ⟨_, rfl⟩
  have hV : readNV s = match netP s F with
      | .inl e => [znV, i64 (e : Nat), i64 5]
      | .inr (n, _) => if validP n then [n.pv, i64 0, i64 0] else [znV, i64 0, i64 50] := by
    subst hF; rw [readNV]; exact if_neg (by omega)
  refine ⟨104, none, .ptr 0 0 0, by kernel_rfl, rfl, ?_⟩
  refine (read_p s F (by omega) (by omega)).holds.useN [] [] rfl (by (repeat' first | exact trivial | exact rfl | exact ⟨rfl, rfl⟩ | exact .inl rfl | refine ⟨_, rfl, rfl, rfl, ?_⟩ | refine ⟨_, _, rfl, ?_, ?_⟩ | refine ⟨_, rfl, ?_⟩ | refine And.intro ?_ ?_)) (by (repeat' first | exact trivial | exact rfl | exact ⟨rfl, rfl⟩ | exact .inl rfl | refine ⟨_, rfl, rfl, rfl, ?_⟩ | refine ⟨_, _, rfl, ?_, ?_⟩ | refine ⟨_, rfl, ?_⟩ | refine And.intro ?_ ?_)) fun e0 H0 hq => ?_
  rcases hr : netP s F with p | ⟨n, q⟩
  · rw [hr] at hq hV
    obtain ⟨rfl, rfl⟩ := hq
    refine ⟨rfl, ?_⟩
    refine holdsD_rec Tryd.func63 rfl rfl rfl ?_
    refine ⟨[], [], [], .returned und, ⟨4, [(3, erO 5), (2, plO p), (1, znO)]⟩, rfl, by (repeat' first | exact trivial | exact rfl | exact ⟨rfl, rfl⟩ | exact .inl rfl | refine ⟨_, rfl, rfl, rfl, ?_⟩ | refine ⟨_, _, rfl, ?_, ?_⟩ | refine ⟨_, rfl, ?_⟩ | refine And.intro ?_ ?_), by (repeat' first | exact trivial | exact rfl | exact ⟨rfl, rfl⟩ | exact .inl rfl | refine ⟨_, rfl, rfl, rfl, ?_⟩ | refine ⟨_, _, rfl, ?_, ?_⟩ | refine ⟨_, rfl, ?_⟩ | refine And.intro ?_ ?_), ?_⟩
    exact ⟨[], [], [], .returned (.tup ([znV, i64 (p : Nat), i64 5].map .p)), ⟨1, []⟩, rfl, ⟨_, rfl, _, rfl, _, _, rfl, rfl, _, _, rfl, rfl, _, _, rfl, rfl, rfl⟩, trivial, by rw [hV], rfl⟩
  rw [hr] at hq hV
  obtain ⟨p, t, rfl, rfl⟩ := hq
  refine ⟨rfl, ?_⟩
  refine ⟨105, some 0, .ptr 0 0 0, by kernel_rfl, rfl, ?_⟩
  refine (result_h TNs n.grain n.nodes.length p [.str s, .str t]).useE [] [(1, 4)] rfl (by (repeat' first | exact trivial | exact rfl | exact ⟨rfl, rfl⟩ | exact .inl rfl | refine ⟨_, rfl, rfl, rfl, ?_⟩ | refine ⟨_, _, rfl, ?_, ?_⟩ | refine ⟨_, rfl, ?_⟩ | refine And.intro ?_ ?_)) (by (repeat' first | exact trivial | exact rfl | exact ⟨rfl, rfl⟩ | exact .inl rfl | refine ⟨_, rfl, rfl, rfl, ?_⟩ | refine ⟨_, _, rfl, ?_, ?_⟩ | refine ⟨_, rfl, ?_⟩ | refine And.intro ?_ ?_)) ?_
  have hC := check_c n (read_big hs (by omega) hr)
  by_cases hv : validP n
  · rw [checkN, if_pos hv] at hC
    have hV : readNV s = [n.pv, i64 0, i64 0] := by rw [hV]; exact if_pos hv
    refine hC.uses [4] rfl ⟨_, _, rfl, ⟨_, rfl, _, _, rfl, rfl, _, _, rfl, ⟨_, rfl, by show 0 + n.nodes.length ≤ (n.nodes.map Nd.cells).length; simp, takeAll (by simp)⟩, rfl⟩, rfl⟩ ?_
    (first | refine brLt (fun h1 => ?_) (fun h1 => ?_) | refine brLe (fun h1 => ?_) (fun h1 => ?_) | refine brEq (fun h1 => ?_) (fun h1 => ?_))
    rotate_left
    · have h1 : ¬ (0 : Int) = 0 := h1
      exact absurd rfl h1
    refine holdsD_rec Tryd.func63 rfl rfl rfl ?_
    refine ⟨[], [], [], .returned und, ⟨5, [(4, { nsO n.nodes with fr := true }), (3, erO 0), (2, plO 0), (1, nbS 4 n.grain n.nodes.length)]⟩, rfl, by (repeat' first | exact trivial | exact rfl | exact ⟨rfl, rfl⟩ | exact .inl rfl | refine ⟨_, rfl, rfl, rfl, ?_⟩ | refine ⟨_, _, rfl, ?_, ?_⟩ | refine ⟨_, rfl, ?_⟩ | refine And.intro ?_ ?_), by (repeat' first | exact trivial | exact rfl | exact ⟨rfl, rfl⟩ | exact .inl rfl | refine ⟨_, rfl, rfl, rfl, ?_⟩ | refine ⟨_, _, rfl, ?_, ?_⟩ | refine ⟨_, rfl, ?_⟩ | refine And.intro ?_ ?_), ?_⟩
    exact ⟨[], [], [], .returned (.tup ([n.pv, i64 0, i64 0].map .p)), ⟨1, []⟩, rfl, ⟨_, rfl, _, rfl, _, _, rfl, ⟨_, rfl, _, _, rfl, rfl, _, _, rfl, ⟨_, rfl, by show 0 + n.nodes.length ≤ (n.nodes.map Nd.cells).length; simp, takeAll (by simp)⟩, rfl⟩, _, _, rfl, rfl, _, _, rfl, rfl, rfl⟩, trivial, by rw [hV], rfl⟩
  · rw [checkN, if_neg hv] at hC
    have hV : readNV s = [znV, i64 0, i64 50] := by rw [hV]; exact if_neg hv
    refine hC.uses [4] rfl ⟨_, _, rfl, ⟨_, rfl, _, _, rfl, rfl, _, _, rfl, ⟨_, rfl, by show 0 + n.nodes.length ≤ (n.nodes.map Nd.cells).length; simp, takeAll (by simp)⟩, rfl⟩, rfl⟩ ?_
    (first | refine brLt (fun h1 => ?_) (fun h1 => ?_) | refine brLe (fun h1 => ?_) (fun h1 => ?_) | refine brEq (fun h1 => ?_) (fun h1 => ?_))
    · have h1 : (50 : Int) = 0 := h1
      exact absurd h1 (by decide)
    refine holdsD_rec Tryd.func63 rfl rfl rfl ?_
    refine ⟨[], [], [], .returned und, ⟨5, [(3, erO 50), (2, plO 0), (1, znO)]⟩, rfl, by (repeat' first | exact trivial | exact rfl | exact ⟨rfl, rfl⟩ | exact .inl rfl | refine ⟨_, rfl, rfl, rfl, ?_⟩ | refine ⟨_, _, rfl, ?_, ?_⟩ | refine ⟨_, rfl, ?_⟩ | refine And.intro ?_ ?_), by (repeat' first | exact trivial | exact rfl | exact ⟨rfl, rfl⟩ | exact .inl rfl | refine ⟨_, rfl, rfl, rfl, ?_⟩ | refine ⟨_, _, rfl, ?_, ?_⟩ | refine ⟨_, rfl, ?_⟩ | refine And.intro ?_ ?_), ?_⟩
    exact ⟨[], [], [], .returned (.tup ([znV, i64 0, i64 50].map .p)), ⟨1, []⟩, rfl, ⟨_, rfl, _, rfl, _, _, rfl, rfl, _, _, rfl, rfl, _, _, rfl, rfl, rfl⟩, trivial, by rw [hV], rfl⟩
theorem readNested_p (s : List UInt8) (hs : s.length ≤ 50000) : Pure cx 33 [.str s] (· = .ret (readNV s)) := by
  refine pure_of_vc Tryd.func33 rfl rfl rfl ?_
  have hN := read_n s hs
  rw [readN_res] at hN
  rw [readN_res]
  rcases hr : readNR s with ⟨p, e⟩ | n
  · rw [hr] at hN
    refine hN.useE [] [(0, 1)] rfl (by (repeat' first | exact trivial | exact rfl | exact ⟨rfl, rfl⟩ | exact .inl rfl | refine ⟨_, rfl, rfl, rfl, ?_⟩ | refine ⟨_, _, rfl, ?_, ?_⟩ | refine ⟨_, rfl, ?_⟩ | refine And.intro ?_ ?_)) (by (repeat' first | exact trivial | exact rfl | exact ⟨rfl, rfl⟩ | exact .inl rfl | refine ⟨_, rfl, rfl, rfl, ?_⟩ | refine ⟨_, _, rfl, ?_, ?_⟩ | refine ⟨_, rfl, ?_⟩ | refine And.intro ?_ ?_)) ?_
    exact end3 znV (i64 (p : Nat)) (i64 e) rfl rfl rfl rfl rfl
  · rw [hr] at hN
    refine hN.useE [] [(0, 1)] rfl (by (repeat' first | exact trivial | exact rfl | exact ⟨rfl, rfl⟩ | exact .inl rfl | refine ⟨_, rfl, rfl, rfl, ?_⟩ | refine ⟨_, _, rfl, ?_, ?_⟩ | refine ⟨_, rfl, ?_⟩ | refine And.intro ?_ ?_)) (by (repeat' first | exact trivial | exact rfl | exact ⟨rfl, rfl⟩ | exact .inl rfl | refine ⟨_, rfl, rfl, rfl, ?_⟩ | refine ⟨_, _, rfl, ?_, ?_⟩ | refine ⟨_, rfl, ?_⟩ | refine And.intro ?_ ?_)) ?_
    exact end3 n.pv (i64 0) (i64 0) rfl rfl rfl rfl rfl
end Go.Proofs.YtphmmoloegjocaaDoor

/- The program's line reader: numbers. -/
namespace Go.Proofs.YtphmmoloegjocaaDoor
open Go Y
set_option maxRecDepth 100000
set_option maxHeartbeats 40000000

abbrev TLn : TypeId := 103
abbrev lrH (g : Int) (m p : Nat) : Hp := cmH TLn g (.sl 1 3 0 m) p []
def numsQ (g : Int) (m p : Nat) (ws : List (List UInt8)) (e : AE) (H' : Hp) : Prop :=
  if allB ws = true then e = .returned (.p (ints (ws.map valN))) ∧ H' = lrH g m p else e = placeX p ∧ H' = ⟨2, []⟩
theorem numbers_p (g : Int) (m p : Nat) (ws : List (List UInt8)) (hl : ws.length ≤ 100000) (hw : ∀ w ∈ ws, w.length ≤ 100000) : HoldsG cx 117 [.ptr 0 0 0, .p (strs ws)] (lrH g m p) (numsQ g m p ws) := by
  refine holdsN_of_vc Tryd.func117 rfl rfl rfl ?_
  refine ⟨by show (0 : Int) ≤ 0 ∧ (0 : Int) ≤ ((ws.map PV.str).length : Nat) ∧ (((ws.map PV.str).length : Nat) : Int) * 8 ≤ 281474976710656 ∧ (((ws.map PV.str).length : Nat) : Int) ≤ 281474976710656; rw [List.length_map]; omega, ?_⟩
  refine ⟨Nat, fun k => [(0, .ptr 0 0 0), (5, .sl 2 1 0 ((ws.take k).map valN).length), (11, .p (strs ws)), (12, .p (i64 ws.length)), (13, .p (i64 k))], fun k => ⟨3, [(2, iO ((ws.take k).map valN)), (0, cmO TLn g (.sl 1 3 0 m) p [])]⟩, fun k => k ≤ ws.length ∧ ∀ w ∈ ws.take k, numB w = true, fun k => ws.length - k, ?_, ?_⟩
  · exact ⟨0, ⟨by omega, by simp⟩, ent_of [] [] [] rfl ⟨⟨rfl, rfl⟩, rfl, rfl, congrArg (fun n : Nat => i64 n) (List.length_map ..).symm, rfl, trivial⟩ ⟨⟨_, rfl, rfl, rfl, rfl⟩, ⟨_, rfl, rfl, rfl, _, rfl, by (repeat' first | exact trivial | exact rfl | exact ⟨rfl, rfl⟩ | exact .inl rfl | refine ⟨_, rfl, rfl, rfl, ?_⟩ | refine ⟨_, _, rfl, ?_, ?_⟩ | refine ⟨_, rfl, ?_⟩ | refine And.intro ?_ ?_)⟩, trivial⟩ rfl⟩
  rintro k ⟨k1, k2⟩
  have hkm : ((ws.take k).map valN).length ≤ ws.length := by rw [List.length_map, List.length_take]; omega
  (first | refine brLt (fun h1 => ?_) (fun h1 => ?_) | refine brLe (fun h1 => ?_) (fun h1 => ?_) | refine brEq (fun h1 => ?_) (fun h1 => ?_))
  · have h1 : (k : Int) < (ws.length : Nat) := h1
    have hk : k < ws.length := by omega
    obtain ⟨w, hw'⟩ : ∃ w, w = ws.getD k [] := ⟨_, rfl⟩
    have hwl := hw _ (getD_memL [] hk)
    rw [← hw'] at hwl
    refine ⟨_, ⟨by omega, .str w, by rw [hw']; exact tcell hk, rfl⟩, ?_⟩
    refine (num_h' TLn g (.sl 1 3 0 m) p [] (self_sl (by omega)) w hwl).holds.useN [] [] rfl (by (repeat' first | exact trivial | exact rfl | exact ⟨rfl, rfl⟩ | exact .inl rfl | refine ⟨_, rfl, rfl, rfl, ?_⟩ | refine ⟨_, _, rfl, ?_, ?_⟩ | refine ⟨_, rfl, ?_⟩ | refine And.intro ?_ ?_)) (by (repeat' first | exact trivial | exact rfl | exact ⟨rfl, rfl⟩ | exact .inl rfl | refine ⟨_, rfl, rfl, rfl, ?_⟩ | refine ⟨_, _, rfl, ?_, ?_⟩ | refine ⟨_, rfl, ?_⟩ | refine And.intro ?_ ?_)) fun e0 H0 hq => ?_
    obtain ⟨rfl, hq⟩ := hq
    by_cases hn : numB w = true
    · rw [if_pos hn] at hq
      subst hq
      have e : (ws.take (k + 1)).map valN = (ws.take k).map valN ++ [valN w] := by rw [take_succ_getD [] hk, ← hw', List.map_append]; rfl
      refine ⟨rfl, ?_⟩
      refine ⟨by show 0 + 1 ≤ 1; omega, [i64 (valN w)], rfl, ?_⟩
      refine ⟨by show 0 + ((ws.take k).map valN).length ≤ (((ws.take k).map valN).map i64).length; simp, ((ws.take k).map valN).map i64, takeAll (by simp), by show (((ws.take k).map valN).length + 1) * 8 ≤ 140737488355328; omega, ((ws.take k).map valN ++ [valN w]).map i64, by simp, ?_⟩
      refine ⟨_, wrap_i64 (by omega) (by omega), ?_⟩
      refine ⟨k + 1, ⟨by omega, mem_take [] hk k2 (by rw [← hw']; exact hn)⟩, ent_of [] [(2, 4)] [] rfl ⟨⟨rfl, rfl⟩, ?_, rfl, rfl, rfl, trivial⟩ ⟨⟨_, rfl, rfl, rfl, by show ((ws.take k).map valN ++ [valN w]).map i64 = ((ws.take (k + 1)).map valN).map i64; rw [e]⟩, ⟨_, rfl, rfl, rfl, _, rfl, by (repeat' first | exact trivial | exact rfl | exact ⟨rfl, rfl⟩ | exact .inl rfl | refine ⟨_, rfl, rfl, rfl, ?_⟩ | refine ⟨_, _, rfl, ?_, ?_⟩ | refine ⟨_, rfl, ?_⟩ | refine And.intro ?_ ?_)⟩, trivial⟩ rfl, by show ws.length - (k + 1) < ws.length - k; omega⟩
      exact congrArg (fun m => AV.sl 4 1 0 m) (by rw [e, snoc_len])
    · rw [if_neg hn] at hq
      subst hq
      refine ⟨rfl, ?_⟩
      have ha : ¬ allB ws = true := fun h => by
        have := List.all_eq_true.1 h _ (getD_memL [] hk)
        rw [← hw'] at this
        exact hn this
      exact ⟨[], [], [], placeX p, ⟨2, []⟩, rfl, ⟨_, rfl, _, _, rfl, rfl, rfl⟩, trivial, by rw [numsQ, if_neg ha]; exact ⟨rfl, rfl⟩⟩
  · have h1 : ¬ (k : Int) < (ws.length : Nat) := h1
    have hlk : ws.take k = ws := take_all (by omega)
    rw [hlk] at k2
    have ha : allB ws = true := List.all_eq_true.2 k2
    refine ⟨[2], [], [], .returned (.p (ints (ws.map valN))), lrH g m p, rfl, ⟨_, rfl, ⟨_, rfl, ?_, ?_⟩⟩, ⟨⟨_, rfl, rfl, rfl, _, rfl, by (repeat' first | exact trivial | exact rfl | exact ⟨rfl, rfl⟩ | exact .inl rfl | refine ⟨_, rfl, rfl, rfl, ?_⟩ | refine ⟨_, _, rfl, ?_, ?_⟩ | refine ⟨_, rfl, ?_⟩ | refine And.intro ?_ ?_)⟩, trivial⟩, by rw [numsQ, if_pos ha]; exact ⟨rfl, rfl⟩⟩
    · show 0 + ((ws.take k).map valN).length ≤ (((ws.take k).map valN).map i64).length
      simp
    · rw [hlk]; exact takeAll (by simp)
end Go.Proofs.YtphmmoloegjocaaDoor

/- The program's line reader: node. -/
namespace Go.Proofs.YtphmmoloegjocaaDoor
open Go Y
set_option maxRecDepth 100000
set_option maxHeartbeats 40000000

/-- A region's orders, each shown to its end. -/
theorem vdraw_alt {C : Cx} {rd : Bool} {n0 N : Nat} {all : List Oper} {σ : Sg} {ds : List AD} {H : Hp} {K : Sg → List AD → Hp → Prop} {X : List AP → Sg → List AD → Hp → Prop}
    (h : (C.P.follows .mixedOrders && slotsOK N all (masks all []) && otOK all (masks all []) (altOT C.P (masks all []) all all.length [] []) [] [] []) = true)
    (hv : vD C rd all σ K X (altOT C.P (masks all []) all all.length [] []) [] ds H) :
    ∃ ot, (C.P.follows .mixedOrders && slotsOK N all (masks all []) && otOK all (masks all []) ot [] [] []) = true ∧
    ((vD C rd all σ K X ot [] ds H) ∨
     ∃ (α : Type) (sl : α → List (Nat × AV)) (hp : α → Hp) (pr : α → Prop),
      vD C rd all σ (fun σ' ds' H' => ∃ x, pr x ∧ Ent C n0 N σ' ds' H' (sets (fun _ => .junk) (sl x)) ds (hp x)) X ot [] ds H ∧
      ∀ x, pr x → K (sets (fun _ => .junk) (sl x)) ds (hp x)) := ⟨_, h, .inl hv⟩
abbrev Ns.heapL (n : Ns) (p s r : Nat) : Hp := ⟨r + 1, [(r, rO (lastR n.last)), (s, mO (n.rows r)), (0, cmO TLn n.g (.sl s 3 0 n.len) p [])]⟩
/-- What the words behind the word node make of a network. -/
def nodeLn (n : Ns) (w : List (List UInt8)) : Option Ns :=
  if w.length = 0 ∨ w.length = 2 ∨ (2 < w.length ∧ ¬ w.getD 1 [] = kFrom) then none
  else if numB (w.getD 0 []) = true then
    if 2 < w.length then
      if allB (w.drop 2) = true then some ⟨n.g, n.init ++ n.last.toList, some ⟨valN (w.getD 0 []), (w.drop 2).map valN, []⟩⟩ else none
    else some ⟨n.g, n.init ++ n.last.toList, some ⟨valN (w.getD 0 []), [], []⟩⟩
  else none
def lnQ (p : Nat) (r : Option Ns) (e : AE) (H' : Hp) : Prop := match r with
  | none => e = placeX p ∧ H' = ⟨3, []⟩
  | some n => e = .returned und ∧ H' = n.heapL p 3 4
def nd0O (c : Int) : AObj := ⟨TNode, false, .bx [.p (i64 c), .p .nils, .p .nils]⟩
theorem node_l (n : Ns) (p : Nat) (w : List (List UInt8)) (hn : n.len ≤ 100000) (hl : w.length ≤ 100000) (hw : ∀ v ∈ w, v.length ≤ 100000) :
    HoldsG cx 115 [.ptr 0 0 0, .p (strs w)] (n.heapL p 1 2) (lnQ p (nodeLn n w)) := by
  refine holdsN_of_vc Tryd.func115 rfl rfl rfl ?_
  have hrows := rows_len' n 2
  have hlen : ∀ x, Ns.len ⟨n.g, n.init ++ n.last.toList, some x⟩ = n.len + 1 := fun x => by
    obtain ⟨g, i, l⟩ := n
    cases l <;> simp [Ns.len]
  (first | refine brLt (fun h1 => ?_) (fun h1 => ?_) | refine brLe (fun h1 => ?_) (fun h1 => ?_) | refine brEq (fun h1 => ?_) (fun h1 => ?_))
  · have h1 : ((w.map PV.str).length : Int) = 0 := h1
    rw [List.length_map] at h1
    refine (fail_h TLn n.g (.sl 1 3 0 n.len) p []).holds.useN [] [] rfl (by (repeat' first | exact trivial | exact rfl | exact ⟨rfl, rfl⟩ | exact .inl rfl | refine ⟨_, rfl, rfl, rfl, ?_⟩ | refine ⟨_, _, rfl, ?_, ?_⟩ | refine ⟨_, rfl, ?_⟩ | refine And.intro ?_ ?_)) (by (repeat' first | exact trivial | exact rfl | exact ⟨rfl, rfl⟩ | exact .inl rfl | refine ⟨_, rfl, rfl, rfl, ?_⟩ | refine ⟨_, _, rfl, ?_, ?_⟩ | refine ⟨_, rfl, ?_⟩ | refine And.intro ?_ ?_)) fun e0 H0 hq => ?_
    obtain ⟨rfl, rfl⟩ := hq
    refine ⟨rfl, ?_⟩
    exact ⟨[], [], [], placeX p, ⟨3, []⟩, rfl, ⟨_, rfl, _, _, rfl, rfl, rfl⟩, trivial, by rw [show nodeLn n w = none from (by rw [nodeLn, if_pos (.inl (by omega))])]; exact ⟨rfl, rfl⟩⟩
  have h1 : ¬ ((w.map PV.str).length : Int) = 0 := h1
  rw [List.length_map] at h1
  (first | refine brLt (fun h2 => ?_) (fun h2 => ?_) | refine brLe (fun h2 => ?_) (fun h2 => ?_) | refine brEq (fun h2 => ?_) (fun h2 => ?_))
  · have h2 : ((w.map PV.str).length : Int) = 2 := h2
    rw [List.length_map] at h2
    refine (fail_h TLn n.g (.sl 1 3 0 n.len) p []).holds.useN [] [] rfl (by (repeat' first | exact trivial | exact rfl | exact ⟨rfl, rfl⟩ | exact .inl rfl | refine ⟨_, rfl, rfl, rfl, ?_⟩ | refine ⟨_, _, rfl, ?_, ?_⟩ | refine ⟨_, rfl, ?_⟩ | refine And.intro ?_ ?_)) (by (repeat' first | exact trivial | exact rfl | exact ⟨rfl, rfl⟩ | exact .inl rfl | refine ⟨_, rfl, rfl, rfl, ?_⟩ | refine ⟨_, _, rfl, ?_, ?_⟩ | refine ⟨_, rfl, ?_⟩ | refine And.intro ?_ ?_)) fun e0 H0 hq => ?_
    obtain ⟨rfl, rfl⟩ := hq
    refine ⟨rfl, ?_⟩
    exact ⟨[], [], [], placeX p, ⟨3, []⟩, rfl, ⟨_, rfl, _, _, rfl, rfl, rfl⟩, trivial, by rw [show nodeLn n w = none from (by rw [nodeLn, if_pos (.inr (.inl (by omega)))])]; exact ⟨rfl, rfl⟩⟩
  have h2 : ¬ ((w.map PV.str).length : Int) = 2 := h2
  rw [List.length_map] at h2
  have hw0 := hw _ (getD_memL [] (show 0 < w.length by omega))
  have hN := num_h' TLn n.g (.sl 1 3 0 n.len) p [] (self_sl (by omega)) (w.getD 0 []) hw0
  (first | refine brLt (fun h3 => ?_) (fun h3 => ?_) | refine brLe (fun h3 => ?_) (fun h3 => ?_) | refine brEq (fun h3 => ?_) (fun h3 => ?_))
  · have h3 : (2 : Int) < ((w.map PV.str).length : Nat) := h3
    rw [List.length_map] at h3
    refine ⟨_, ⟨by omega, .str (w.getD 1 []), tcell (by omega), rfl⟩, ?_⟩
    (first | refine brLt (fun h4 => ?_) (fun h4 => ?_) | refine brLe (fun h4 => ?_) (fun h4 => ?_) | refine brEq (fun h4 => ?_) (fun h4 => ?_))
    rotate_left
    · have h4 : ¬ w.getD 1 [] = kFrom := h4
      refine (fail_h TLn n.g (.sl 1 3 0 n.len) p []).holds.useN [] [] rfl (by (repeat' first | exact trivial | exact rfl | exact ⟨rfl, rfl⟩ | exact .inl rfl | refine ⟨_, rfl, rfl, rfl, ?_⟩ | refine ⟨_, _, rfl, ?_, ?_⟩ | refine ⟨_, rfl, ?_⟩ | refine And.intro ?_ ?_)) (by (repeat' first | exact trivial | exact rfl | exact ⟨rfl, rfl⟩ | exact .inl rfl | refine ⟨_, rfl, rfl, rfl, ?_⟩ | refine ⟨_, _, rfl, ?_, ?_⟩ | refine ⟨_, rfl, ?_⟩ | refine And.intro ?_ ?_)) fun e0 H0 hq => ?_
      obtain ⟨rfl, rfl⟩ := hq
      refine ⟨rfl, ?_⟩
      exact ⟨[], [], [], placeX p, ⟨3, []⟩, rfl, ⟨_, rfl, _, _, rfl, rfl, rfl⟩, trivial, by rw [show nodeLn n w = none from (by rw [nodeLn, if_pos (.inr (.inr ⟨by omega, h4⟩))])]; exact ⟨rfl, rfl⟩⟩
    have h4 : w.getD 1 [] = kFrom := h4
    have hc : ¬ (w.length = 0 ∨ w.length = 2 ∨ (2 < w.length ∧ ¬ w.getD 1 [] = kFrom)) := by
      rintro (h | h | ⟨_, h⟩)
      · omega
      · omega
      · exact h h4
    by_cases hb : numB (w.getD 0 []) = true
    · refine VDraw.altTo [(0, .ptr 0 0 0), (1, .p (strs w)), (4, .ptr 3 0 0)] ⟨4, [(3, nd0O (valN (w.getD 0 []))), (2, rO (lastR n.last)), (1, mO (n.rows 2)), (0, cmO TLn n.g (.sl 1 3 0 n.len) p [])]⟩ rfl ?_ ?_
      · refine ⟨_, ⟨by omega, .str (w.getD 0 []), tcell (by omega), rfl⟩, ?_⟩
        refine And.intro ?_ ?_
        · refine hN.holds.useN [] [] rfl (by (repeat' first | exact trivial | exact rfl | exact ⟨rfl, rfl⟩ | exact .inl rfl | refine ⟨_, rfl, rfl, rfl, ?_⟩ | refine ⟨_, _, rfl, ?_, ?_⟩ | refine ⟨_, rfl, ?_⟩ | refine And.intro ?_ ?_)) (by (repeat' first | exact trivial | exact rfl | exact ⟨rfl, rfl⟩ | exact .inl rfl | refine ⟨_, rfl, rfl, rfl, ?_⟩ | refine ⟨_, _, rfl, ?_, ?_⟩ | refine ⟨_, rfl, ?_⟩ | refine And.intro ?_ ?_)) fun e0 H0 hq => ?_
          obtain ⟨rfl, hq⟩ := hq
          rw [if_pos hb] at hq
          subst hq
          refine ⟨rfl, ?_⟩
          refine ⟨by (repeat' first | exact trivial | exact rfl | exact ⟨rfl, rfl⟩ | exact .inl rfl | refine ⟨_, rfl, rfl, rfl, ?_⟩ | refine ⟨_, _, rfl, ?_, ?_⟩ | refine ⟨_, rfl, ?_⟩ | refine And.intro ?_ ?_), ?_⟩
          exact ent_of [] [] [] rfl (by (repeat' first | exact trivial | exact rfl | exact ⟨rfl, rfl⟩ | exact .inl rfl | refine ⟨_, rfl, rfl, rfl, ?_⟩ | refine ⟨_, _, rfl, ?_, ?_⟩ | refine ⟨_, rfl, ?_⟩ | refine And.intro ?_ ?_)) ⟨⟨_, rfl, rfl, rfl, _, rfl, by (repeat' first | exact trivial | exact rfl | exact ⟨rfl, rfl⟩ | exact .inl rfl | refine ⟨_, rfl, rfl, rfl, ?_⟩ | refine ⟨_, _, rfl, ?_, ?_⟩ | refine ⟨_, rfl, ?_⟩ | refine And.intro ?_ ?_)⟩, ⟨_, rfl, rfl, rfl, rfl⟩, ⟨_, rfl, rfl, rfl, _, rfl, seeLL_self n 2 2 rfl⟩, ⟨_, rfl, rfl, rfl, _, rfl, by (repeat' first | exact trivial | exact rfl | exact ⟨rfl, rfl⟩ | exact .inl rfl | refine ⟨_, rfl, rfl, rfl, ?_⟩ | refine ⟨_, _, rfl, ?_, ?_⟩ | refine ⟨_, rfl, ?_⟩ | refine And.intro ?_ ?_)⟩, trivial⟩ rfl
        · refine ⟨by (repeat' first | exact trivial | exact rfl | exact ⟨rfl, rfl⟩ | exact .inl rfl | refine ⟨_, rfl, rfl, rfl, ?_⟩ | refine ⟨_, _, rfl, ?_, ?_⟩ | refine ⟨_, rfl, ?_⟩ | refine And.intro ?_ ?_), ?_⟩
          refine hN.holds.useN [] [] rfl (by (repeat' first | exact trivial | exact rfl | exact ⟨rfl, rfl⟩ | exact .inl rfl | refine ⟨_, rfl, rfl, rfl, ?_⟩ | refine ⟨_, _, rfl, ?_, ?_⟩ | refine ⟨_, rfl, ?_⟩ | refine And.intro ?_ ?_)) (by (repeat' first | exact trivial | exact rfl | exact ⟨rfl, rfl⟩ | exact .inl rfl | refine ⟨_, rfl, rfl, rfl, ?_⟩ | refine ⟨_, _, rfl, ?_, ?_⟩ | refine ⟨_, rfl, ?_⟩ | refine And.intro ?_ ?_)) fun e0 H0 hq => ?_
          obtain ⟨rfl, hq⟩ := hq
          rw [if_pos hb] at hq
          subst hq
          refine ⟨rfl, ?_⟩
          exact ent_of [] [] [] rfl (by (repeat' first | exact trivial | exact rfl | exact ⟨rfl, rfl⟩ | exact .inl rfl | refine ⟨_, rfl, rfl, rfl, ?_⟩ | refine ⟨_, _, rfl, ?_, ?_⟩ | refine ⟨_, rfl, ?_⟩ | refine And.intro ?_ ?_)) ⟨⟨_, rfl, rfl, rfl, _, rfl, by (repeat' first | exact trivial | exact rfl | exact ⟨rfl, rfl⟩ | exact .inl rfl | refine ⟨_, rfl, rfl, rfl, ?_⟩ | refine ⟨_, _, rfl, ?_, ?_⟩ | refine ⟨_, rfl, ?_⟩ | refine And.intro ?_ ?_)⟩, ⟨_, rfl, rfl, rfl, rfl⟩, ⟨_, rfl, rfl, rfl, _, rfl, seeLL_self n 2 2 rfl⟩, ⟨_, rfl, rfl, rfl, _, rfl, by (repeat' first | exact trivial | exact rfl | exact ⟨rfl, rfl⟩ | exact .inl rfl | refine ⟨_, rfl, rfl, rfl, ?_⟩ | refine ⟨_, _, rfl, ?_, ?_⟩ | refine ⟨_, rfl, ?_⟩ | refine And.intro ?_ ?_)⟩, trivial⟩ rfl
      (first | refine brLt (fun h5 => ?_) (fun h5 => ?_) | refine brLe (fun h5 => ?_) (fun h5 => ?_) | refine brEq (fun h5 => ?_) (fun h5 => ?_))
      rotate_left
      · have h5 : ¬ (2 : Int) < ((w.map PV.str).length : Nat) := h5
        rw [List.length_map] at h5
        omega
      refine ⟨by show (0 : Int) ≤ 2 ∧ (2 : Int) ≤ ((w.map PV.str).length : Nat); rw [List.length_map]; omega, ?_⟩
      have hA := numbers_p n.g n.len p (w.drop 2) (by rw [List.length_drop]; omega) (fun v hv => hw v (List.mem_of_mem_drop hv))
      refine hA.holds.useN [] [] rfl (by (repeat' first | exact trivial | exact rfl | exact ⟨rfl, rfl⟩ | exact .inl rfl | refine ⟨_, rfl, rfl, rfl, ?_⟩ | refine ⟨_, _, rfl, ?_, ?_⟩ | refine ⟨_, rfl, ?_⟩ | refine And.intro ?_ ?_)) ⟨_, _, rfl, ⟨rfl, rfl⟩, _, _, rfl, (by show PV.lst ((w.drop 2).map PV.str) = PV.lst ((w.map PV.str).drop 2); rw [List.map_drop]), rfl⟩ fun e0 H0 hq => ?_
      rw [numsQ] at hq
      by_cases ha : allB (w.drop 2) = true
      · rw [if_pos ha] at hq
        obtain ⟨rfl, rfl⟩ := hq
        refine ⟨rfl, ?_⟩
        have hS : nodeLn n w = some ⟨n.g, n.init ++ n.last.toList, some ⟨valN (w.getD 0 []), (w.drop 2).map valN, []⟩⟩ := by rw [nodeLn, if_neg hc, if_pos hb, if_pos (by omega), if_pos ha]
        have hlen := hlen ⟨valN (w.getD 0 []), (w.drop 2).map valN, []⟩
        refine VDraw.seq rfl ?_
        refine ⟨by (repeat' first | exact trivial | exact rfl | exact ⟨rfl, rfl⟩ | exact .inl rfl | refine ⟨_, rfl, rfl, rfl, ?_⟩ | refine ⟨_, _, rfl, ?_, ?_⟩ | refine ⟨_, rfl, ?_⟩ | refine And.intro ?_ ?_), ?_⟩
        refine ⟨by show 0 + 1 ≤ 1; omega, [[i64 (valN (w.getD 0 [])), (ints ((w.drop 2).map valN)), .nils]], rfl, ?_⟩
        refine ⟨by show 0 + n.len ≤ (n.rows 2).length; omega, n.rows 2, takeAll hrows, by show (n.len + 1) * 56 ≤ 140737488355328; omega, n.rows 2 ++ mapsP [[i64 (valN (w.getD 0 [])), (ints ((w.drop 2).map valN)), .nils]], rfl, ?_⟩
        refine ⟨[2], [(3, 5)], [(4, 1)], .returned und, Ns.heapL ⟨n.g, n.init ++ n.last.toList, some ⟨(valN (w.getD 0 [])), ((w.drop 2).map valN), []⟩⟩ p 3 4, rfl, by (repeat' first | exact trivial | exact rfl | exact ⟨rfl, rfl⟩ | exact .inl rfl | refine ⟨_, rfl, rfl, rfl, ?_⟩ | refine ⟨_, _, rfl, ?_, ?_⟩ | refine ⟨_, rfl, ?_⟩ | refine And.intro ?_ ?_), ⟨⟨rfl, rfl, rfl⟩, ⟨_, rfl, rfl, rfl, _, rfl, ?_⟩, ⟨_, rfl, rfl, rfl, _, rfl, ⟨_, _, rfl, rfl, _, _, rfl, ?_, _, _, rfl, rfl, rfl⟩⟩, trivial⟩, ?_⟩
        · refine seeLL_app (rows_freeze n 2 rfl) ⟨_, _, rfl, ⟨_, _, rfl, rfl, _, _, rfl, rfl, _, _, rfl, ⟨rfl, rfl, rfl, rfl⟩, rfl⟩, rfl⟩
        · refine congrArg (fun m => AV.sl 5 3 0 m) ?_
          exact hlen.symm
        · rw [show nodeLn n w = some ⟨n.g, n.init ++ n.last.toList, some ⟨(valN (w.getD 0 [])), ((w.drop 2).map valN), []⟩⟩ from hS]
          exact ⟨rfl, rfl⟩
      · rw [if_neg ha] at hq
        obtain ⟨rfl, rfl⟩ := hq
        refine ⟨rfl, ?_⟩
        exact ⟨[], [], [], placeX p, ⟨3, []⟩, rfl, ⟨_, rfl, _, _, rfl, rfl, rfl⟩, trivial, by rw [show nodeLn n w = none from (by rw [nodeLn, if_neg hc, if_pos hb, if_pos (by omega), if_neg ha])]; exact ⟨rfl, rfl⟩⟩
    · refine vdraw_alt rfl ?_
      · refine ⟨_, ⟨by omega, .str (w.getD 0 []), tcell (by omega), rfl⟩, ?_⟩
        refine And.intro ?_ ?_
        · refine hN.holds.useN [] [] rfl (by (repeat' first | exact trivial | exact rfl | exact ⟨rfl, rfl⟩ | exact .inl rfl | refine ⟨_, rfl, rfl, rfl, ?_⟩ | refine ⟨_, _, rfl, ?_, ?_⟩ | refine ⟨_, rfl, ?_⟩ | refine And.intro ?_ ?_)) (by (repeat' first | exact trivial | exact rfl | exact ⟨rfl, rfl⟩ | exact .inl rfl | refine ⟨_, rfl, rfl, rfl, ?_⟩ | refine ⟨_, _, rfl, ?_, ?_⟩ | refine ⟨_, rfl, ?_⟩ | refine And.intro ?_ ?_)) fun e0 H0 hq => ?_
          obtain ⟨rfl, hq⟩ := hq
          rw [if_neg hb] at hq
          subst hq
          refine ⟨rfl, ?_⟩
          exact ⟨[], [], [], placeX p, ⟨3, []⟩, rfl, ⟨_, rfl, _, _, rfl, rfl, rfl⟩, trivial, by rw [show nodeLn n w = none from (by rw [nodeLn, if_neg hc, if_neg hb])]; exact ⟨rfl, rfl⟩⟩
        · refine ⟨by (repeat' first | exact trivial | exact rfl | exact ⟨rfl, rfl⟩ | exact .inl rfl | refine ⟨_, rfl, rfl, rfl, ?_⟩ | refine ⟨_, _, rfl, ?_, ?_⟩ | refine ⟨_, rfl, ?_⟩ | refine And.intro ?_ ?_), ?_⟩
          refine hN.holds.useN [] [] rfl (by (repeat' first | exact trivial | exact rfl | exact ⟨rfl, rfl⟩ | exact .inl rfl | refine ⟨_, rfl, rfl, rfl, ?_⟩ | refine ⟨_, _, rfl, ?_, ?_⟩ | refine ⟨_, rfl, ?_⟩ | refine And.intro ?_ ?_)) (by (repeat' first | exact trivial | exact rfl | exact ⟨rfl, rfl⟩ | exact .inl rfl | refine ⟨_, rfl, rfl, rfl, ?_⟩ | refine ⟨_, _, rfl, ?_, ?_⟩ | refine ⟨_, rfl, ?_⟩ | refine And.intro ?_ ?_)) fun e0 H0 hq => ?_
          obtain ⟨rfl, hq⟩ := hq
          rw [if_neg hb] at hq
          subst hq
          refine ⟨rfl, ?_⟩
          exact ⟨[], [], [], placeX p, ⟨3, []⟩, rfl, ⟨_, rfl, _, _, rfl, rfl, rfl⟩, trivial, by rw [show nodeLn n w = none from (by rw [nodeLn, if_neg hc, if_neg hb])]; exact ⟨rfl, rfl⟩⟩
  have h3 : ¬ (2 : Int) < ((w.map PV.str).length : Nat) := h3
  rw [List.length_map] at h3
  have hc : ¬ (w.length = 0 ∨ w.length = 2 ∨ (2 < w.length ∧ ¬ w.getD 1 [] = kFrom)) := by
    rintro (h | h | ⟨h, _⟩) <;> omega
  by_cases hb : numB (w.getD 0 []) = true
  · refine VDraw.altTo [(0, .ptr 0 0 0), (1, .p (strs w)), (4, .ptr 3 0 0)] ⟨4, [(3, nd0O (valN (w.getD 0 []))), (2, rO (lastR n.last)), (1, mO (n.rows 2)), (0, cmO TLn n.g (.sl 1 3 0 n.len) p [])]⟩ rfl ?_ ?_
    · refine ⟨_, ⟨by omega, .str (w.getD 0 []), tcell (by omega), rfl⟩, ?_⟩
      refine And.intro ?_ ?_
      · refine hN.holds.useN [] [] rfl (by (repeat' first | exact trivial | exact rfl | exact ⟨rfl, rfl⟩ | exact .inl rfl | refine ⟨_, rfl, rfl, rfl, ?_⟩ | refine ⟨_, _, rfl, ?_, ?_⟩ | refine ⟨_, rfl, ?_⟩ | refine And.intro ?_ ?_)) (by (repeat' first | exact trivial | exact rfl | exact ⟨rfl, rfl⟩ | exact .inl rfl | refine ⟨_, rfl, rfl, rfl, ?_⟩ | refine ⟨_, _, rfl, ?_, ?_⟩ | refine ⟨_, rfl, ?_⟩ | refine And.intro ?_ ?_)) fun e0 H0 hq => ?_
        obtain ⟨rfl, hq⟩ := hq
        rw [if_pos hb] at hq
        subst hq
        refine ⟨rfl, ?_⟩
        refine ⟨by (repeat' first | exact trivial | exact rfl | exact ⟨rfl, rfl⟩ | exact .inl rfl | refine ⟨_, rfl, rfl, rfl, ?_⟩ | refine ⟨_, _, rfl, ?_, ?_⟩ | refine ⟨_, rfl, ?_⟩ | refine And.intro ?_ ?_), ?_⟩
        exact ent_of [] [] [] rfl (by (repeat' first | exact trivial | exact rfl | exact ⟨rfl, rfl⟩ | exact .inl rfl | refine ⟨_, rfl, rfl, rfl, ?_⟩ | refine ⟨_, _, rfl, ?_, ?_⟩ | refine ⟨_, rfl, ?_⟩ | refine And.intro ?_ ?_)) ⟨⟨_, rfl, rfl, rfl, _, rfl, by (repeat' first | exact trivial | exact rfl | exact ⟨rfl, rfl⟩ | exact .inl rfl | refine ⟨_, rfl, rfl, rfl, ?_⟩ | refine ⟨_, _, rfl, ?_, ?_⟩ | refine ⟨_, rfl, ?_⟩ | refine And.intro ?_ ?_)⟩, ⟨_, rfl, rfl, rfl, rfl⟩, ⟨_, rfl, rfl, rfl, _, rfl, seeLL_self n 2 2 rfl⟩, ⟨_, rfl, rfl, rfl, _, rfl, by (repeat' first | exact trivial | exact rfl | exact ⟨rfl, rfl⟩ | exact .inl rfl | refine ⟨_, rfl, rfl, rfl, ?_⟩ | refine ⟨_, _, rfl, ?_, ?_⟩ | refine ⟨_, rfl, ?_⟩ | refine And.intro ?_ ?_)⟩, trivial⟩ rfl
      · refine ⟨by (repeat' first | exact trivial | exact rfl | exact ⟨rfl, rfl⟩ | exact .inl rfl | refine ⟨_, rfl, rfl, rfl, ?_⟩ | refine ⟨_, _, rfl, ?_, ?_⟩ | refine ⟨_, rfl, ?_⟩ | refine And.intro ?_ ?_), ?_⟩
        refine hN.holds.useN [] [] rfl (by (repeat' first | exact trivial | exact rfl | exact ⟨rfl, rfl⟩ | exact .inl rfl | refine ⟨_, rfl, rfl, rfl, ?_⟩ | refine ⟨_, _, rfl, ?_, ?_⟩ | refine ⟨_, rfl, ?_⟩ | refine And.intro ?_ ?_)) (by (repeat' first | exact trivial | exact rfl | exact ⟨rfl, rfl⟩ | exact .inl rfl | refine ⟨_, rfl, rfl, rfl, ?_⟩ | refine ⟨_, _, rfl, ?_, ?_⟩ | refine ⟨_, rfl, ?_⟩ | refine And.intro ?_ ?_)) fun e0 H0 hq => ?_
        obtain ⟨rfl, hq⟩ := hq
        rw [if_pos hb] at hq
        subst hq
        refine ⟨rfl, ?_⟩
        exact ent_of [] [] [] rfl (by (repeat' first | exact trivial | exact rfl | exact ⟨rfl, rfl⟩ | exact .inl rfl | refine ⟨_, rfl, rfl, rfl, ?_⟩ | refine ⟨_, _, rfl, ?_, ?_⟩ | refine ⟨_, rfl, ?_⟩ | refine And.intro ?_ ?_)) ⟨⟨_, rfl, rfl, rfl, _, rfl, by (repeat' first | exact trivial | exact rfl | exact ⟨rfl, rfl⟩ | exact .inl rfl | refine ⟨_, rfl, rfl, rfl, ?_⟩ | refine ⟨_, _, rfl, ?_, ?_⟩ | refine ⟨_, rfl, ?_⟩ | refine And.intro ?_ ?_)⟩, ⟨_, rfl, rfl, rfl, rfl⟩, ⟨_, rfl, rfl, rfl, _, rfl, seeLL_self n 2 2 rfl⟩, ⟨_, rfl, rfl, rfl, _, rfl, by (repeat' first | exact trivial | exact rfl | exact ⟨rfl, rfl⟩ | exact .inl rfl | refine ⟨_, rfl, rfl, rfl, ?_⟩ | refine ⟨_, _, rfl, ?_, ?_⟩ | refine ⟨_, rfl, ?_⟩ | refine And.intro ?_ ?_)⟩, trivial⟩ rfl
    (first | refine brLt (fun h5 => ?_) (fun h5 => ?_) | refine brLe (fun h5 => ?_) (fun h5 => ?_) | refine brEq (fun h5 => ?_) (fun h5 => ?_))
    · have h5 : (2 : Int) < ((w.map PV.str).length : Nat) := h5
      rw [List.length_map] at h5
      omega
    have hS : nodeLn n w = some ⟨n.g, n.init ++ n.last.toList, some ⟨valN (w.getD 0 []), [], []⟩⟩ := by rw [nodeLn, if_neg hc, if_pos hb, if_neg (by omega)]
    have hlen := hlen ⟨valN (w.getD 0 []), [], []⟩
    refine VDraw.seq rfl ?_
    refine ⟨by (repeat' first | exact trivial | exact rfl | exact ⟨rfl, rfl⟩ | exact .inl rfl | refine ⟨_, rfl, rfl, rfl, ?_⟩ | refine ⟨_, _, rfl, ?_, ?_⟩ | refine ⟨_, rfl, ?_⟩ | refine And.intro ?_ ?_), ?_⟩
    refine ⟨by show 0 + 1 ≤ 1; omega, [[i64 (valN (w.getD 0 [])), .nils, .nils]], rfl, ?_⟩
    refine ⟨by show 0 + n.len ≤ (n.rows 2).length; omega, n.rows 2, takeAll hrows, by show (n.len + 1) * 56 ≤ 140737488355328; omega, n.rows 2 ++ mapsP [[i64 (valN (w.getD 0 [])), .nils, .nils]], rfl, ?_⟩
    refine ⟨[2], [(3, 5)], [(4, 1)], .returned und, Ns.heapL ⟨n.g, n.init ++ n.last.toList, some ⟨(valN (w.getD 0 [])), [], []⟩⟩ p 3 4, rfl, by (repeat' first | exact trivial | exact rfl | exact ⟨rfl, rfl⟩ | exact .inl rfl | refine ⟨_, rfl, rfl, rfl, ?_⟩ | refine ⟨_, _, rfl, ?_, ?_⟩ | refine ⟨_, rfl, ?_⟩ | refine And.intro ?_ ?_), ⟨⟨rfl, rfl, rfl⟩, ⟨_, rfl, rfl, rfl, _, rfl, ?_⟩, ⟨_, rfl, rfl, rfl, _, rfl, ⟨_, _, rfl, rfl, _, _, rfl, ?_, _, _, rfl, rfl, rfl⟩⟩, trivial⟩, ?_⟩
    · refine seeLL_app (rows_freeze n 2 rfl) ⟨_, _, rfl, ⟨_, _, rfl, rfl, _, _, rfl, (.inr (.inl rfl)), _, _, rfl, ⟨rfl, rfl, rfl, rfl⟩, rfl⟩, rfl⟩
    · refine congrArg (fun m => AV.sl 5 3 0 m) ?_
      exact hlen.symm
    · rw [show nodeLn n w = some ⟨n.g, n.init ++ n.last.toList, some ⟨(valN (w.getD 0 [])), [], []⟩⟩ from hS]
      exact ⟨rfl, rfl⟩
  · refine vdraw_alt rfl ?_
    · refine ⟨_, ⟨by omega, .str (w.getD 0 []), tcell (by omega), rfl⟩, ?_⟩
      refine And.intro ?_ ?_
      · refine hN.holds.useN [] [] rfl (by (repeat' first | exact trivial | exact rfl | exact ⟨rfl, rfl⟩ | exact .inl rfl | refine ⟨_, rfl, rfl, rfl, ?_⟩ | refine ⟨_, _, rfl, ?_, ?_⟩ | refine ⟨_, rfl, ?_⟩ | refine And.intro ?_ ?_)) (by (repeat' first | exact trivial | exact rfl | exact ⟨rfl, rfl⟩ | exact .inl rfl | refine ⟨_, rfl, rfl, rfl, ?_⟩ | refine ⟨_, _, rfl, ?_, ?_⟩ | refine ⟨_, rfl, ?_⟩ | refine And.intro ?_ ?_)) fun e0 H0 hq => ?_
        obtain ⟨rfl, hq⟩ := hq
        rw [if_neg hb] at hq
        subst hq
        refine ⟨rfl, ?_⟩
        exact ⟨[], [], [], placeX p, ⟨3, []⟩, rfl, ⟨_, rfl, _, _, rfl, rfl, rfl⟩, trivial, by rw [show nodeLn n w = none from (by rw [nodeLn, if_neg hc, if_neg hb])]; exact ⟨rfl, rfl⟩⟩
      · refine ⟨by (repeat' first | exact trivial | exact rfl | exact ⟨rfl, rfl⟩ | exact .inl rfl | refine ⟨_, rfl, rfl, rfl, ?_⟩ | refine ⟨_, _, rfl, ?_, ?_⟩ | refine ⟨_, rfl, ?_⟩ | refine And.intro ?_ ?_), ?_⟩
        refine hN.holds.useN [] [] rfl (by (repeat' first | exact trivial | exact rfl | exact ⟨rfl, rfl⟩ | exact .inl rfl | refine ⟨_, rfl, rfl, rfl, ?_⟩ | refine ⟨_, _, rfl, ?_, ?_⟩ | refine ⟨_, rfl, ?_⟩ | refine And.intro ?_ ?_)) (by (repeat' first | exact trivial | exact rfl | exact ⟨rfl, rfl⟩ | exact .inl rfl | refine ⟨_, rfl, rfl, rfl, ?_⟩ | refine ⟨_, _, rfl, ?_, ?_⟩ | refine ⟨_, rfl, ?_⟩ | refine And.intro ?_ ?_)) fun e0 H0 hq => ?_
        obtain ⟨rfl, hq⟩ := hq
        rw [if_neg hb] at hq
        subst hq
        refine ⟨rfl, ?_⟩
        exact ⟨[], [], [], placeX p, ⟨3, []⟩, rfl, ⟨_, rfl, _, _, rfl, rfl, rfl⟩, trivial, by rw [show nodeLn n w = none from (by rw [nodeLn, if_neg hc, if_neg hb])]; exact ⟨rfl, rfl⟩⟩
end Go.Proofs.YtphmmoloegjocaaDoor

/- The program's line reader: last; the plain step. -/
namespace Go.Proofs.YtphmmoloegjocaaDoor
open Go Y
set_option maxRecDepth 100000
set_option maxHeartbeats 40000000

theorem step_node (n : Ns) (w : List (List UInt8)) : nodeLn n w = stepN false n (kNode :: w) := by
  rw [nodeLn, stepN, if_neg (by decide : ¬ (false = true))]
  rw [if_pos (show (kNode :: w).getD 0 [] = kNode from rfl)]
  have e1 : (kNode :: w).getD 1 [] = w.getD 0 [] := rfl
  have e2 : (kNode :: w).getD 2 [] = w.getD 1 [] := rfl
  have e3 : (kNode :: w).drop 3 = w.drop 2 := rfl
  have e4 : (kNode :: w).length = w.length + 1 := rfl
  rw [e1, e2, e3, e4]
  by_cases hb : numB (w.getD 0 []) = true
  · by_cases h0 : w.length = 0
    · rw [if_pos (.inl h0), if_neg (by omega)]
    · rw [if_pos (show 2 ≤ w.length + 1 ∧ numB (w.getD 0 []) = true from ⟨by omega, hb⟩)]
      by_cases h1 : w.length = 1
      · rw [if_neg (by omega), if_pos hb, if_neg (by omega), if_pos (by omega)]
      · rw [if_neg (show ¬ w.length + 1 = 2 by omega)]
        by_cases h2 : w.length = 2
        · rw [if_pos (.inr (.inl h2)), if_neg (by omega)]
        · by_cases h3 : w.getD 1 [] = kFrom
          · rw [if_neg (by rintro (h | h | ⟨_, h⟩); exact h0 h; exact h2 h; exact h h3), if_pos hb, if_pos (by omega)]
            by_cases ha : allB (w.drop 2) = true
            · rw [if_pos ha, if_pos ⟨ha, by omega, h3⟩]
            · rw [if_neg ha, if_neg (fun h => ha h.1)]
          · rw [if_pos (.inr (.inr ⟨by omega, h3⟩)), if_neg (fun h => h3 h.2.2)]
  · rw [if_neg (show ¬ (2 ≤ w.length + 1 ∧ numB (w.getD 0 []) = true) from fun h => hb h.2)]
    split <;> rfl

theorem last_l (n : Ns) (p : Nat) (h0 : 0 < n.len) (hn : n.len ≤ 100000) : HoldsG cx 116 [.ptr 0 0 0] (n.heapL p 1 2) fun e H' => e = .returned (.ptr 1 (n.len - 1) 0) ∧ H' = n.heapL p 1 2 := by
  refine holdsN_of_vc Tryd.func116 rfl rfl rfl ?_
  refine VDraw.seq rfl ?_
  refine ⟨((n.len - 1 : Nat) : Int), by show _ = IntKind.i64.wrap (((n.len : Nat) : Int) - 1); rw [show ((n.len : Nat) : Int) - 1 = ((n.len - 1 : Nat) : Int) by omega]; exact wrap_i64 (by omega) (by omega), ?_⟩
  refine ⟨by show (0 : Int) ≤ ((n.len - 1 : Nat) : Int) ∧ ((n.len - 1 : Nat) : Int) < (n.len : Nat); omega, ?_⟩
  refine ⟨[], [], [], .returned (.ptr 1 (n.len - 1) 0), n.heapL p 1 2, rfl, ⟨_, rfl, ?_⟩, ⟨⟨_, rfl, rfl, rfl, rfl⟩, ⟨_, rfl, rfl, rfl, _, rfl, seeLL_self n 2 2 rfl⟩, ⟨_, rfl, rfl, rfl, _, rfl, by (repeat' first | exact trivial | exact rfl | exact ⟨rfl, rfl⟩ | exact .inl rfl | refine ⟨_, rfl, rfl, rfl, ?_⟩ | refine ⟨_, _, rfl, ?_, ?_⟩ | refine ⟨_, rfl, ?_⟩ | refine And.intro ?_ ?_)⟩, trivial⟩, rfl, rfl⟩
  refine ⟨rfl, ?_⟩
  show AV.ptr 1 (0 + ((n.len - 1 : Nat) : Int).toNat) 0 = AV.ptr 1 (n.len - 1) 0
  rw [Nat.zero_add, Int.toNat_natCast]
end Go.Proofs.YtphmmoloegjocaaDoor

/- The program's lines: strings.Cut. -/
namespace Go.Proofs.YtphmmoloegjocaaDoor
open Go Y
set_option maxRecDepth 100000
set_option maxHeartbeats 4000000

/-! ### Cut -/
def cutV (c : UInt8) (s : List UInt8) : List PV := if c ∈ s then [.str (s.take (ahead c s)), .str (s.drop (ahead c s + 1)), .bool true] else [.str s, .str [], .bool false]
theorem end3' {Q : PEnd → Prop} {H' : Hp} (a b c : PV) (hm : marksOK H'.l (fsOf H'.l) = true) (hq : Q (.ret [a, b, c])) : EndP Q (.returned (.tup [.p a, .p b, .p c])) H' :=
  ⟨.ret [a, b, c], ⟨hm, _, rfl, _, _, rfl, res_p _ a, _, _, rfl, res_p _ b, _, _, rfl, res_p _ c, rfl⟩, hq⟩
theorem cutI_c (s : List UInt8) (c : UInt8) (hs : s.length ≤ 1000000) : Pure cx 120 [.str s, .str [c]] (· = .ret (cutV c s)) := by
  refine pure_of_vc Tryd.func120 rfl rfl rfl ?_
  have hI := index1_c s c
  by_cases hc : c ∈ s
  · rw [index_ahead.1 hc] at hI
    have ha := (ahead_split hc).2.2
    refine hI.eq rfl ?_
    (first | refine brLt (fun h1 => ?_) (fun h1 => ?_) | refine brLe (fun h1 => ?_) (fun h1 => ?_) | refine brEq (fun h1 => ?_) (fun h1 => ?_))
    · refine VDraw.seq rfl ?_
      refine ⟨by show (0 : Int) ≤ (ahead c s : Nat) ∧ ((ahead c s : Nat) : Int) ≤ (s.length : Nat); omega, ?_⟩
      refine ⟨((ahead c s + 1 : Nat) : Int), by rw [Int.natCast_add]; exact wrap_i64 (by omega) (by omega), ?_⟩
      refine ⟨by show (0 : Int) ≤ (ahead c s + 1 : Nat) ∧ ((ahead c s + 1 : Nat) : Int) ≤ (s.length : Nat); omega, ?_⟩
      exact end3' _ _ _ rfl (by rw [cutV, if_pos hc]; rfl)
    · omega
  · rw [index_ahead.2 hc] at hI
    refine hI.eq rfl ?_
    (first | refine brLt (fun h1 => ?_) (fun h1 => ?_) | refine brLe (fun h1 => ?_) (fun h1 => ?_) | refine brEq (fun h1 => ?_) (fun h1 => ?_))
    · omega
    · exact end3' _ _ _ rfl (by rw [cutV, if_neg hc])
theorem cut_c (s : List UInt8) (c : UInt8) (hs : s.length ≤ 1000000) : Pure cx 119 [.str s, .str [c]] (· = .ret (cutV c s)) := by
  refine pure_of_vc Tryd.func119 rfl rfl rfl ?_
  have hI := cutI_c s c hs
  by_cases hc : c ∈ s
  · rw [cutV, if_pos hc] at hI ⊢
    exact hI.eq rfl (end3' _ _ _ rfl rfl)
  · rw [cutV, if_neg hc] at hI ⊢
    exact hI.eq rfl (end3' _ _ _ rfl rfl)

theorem lines_in : ∀ {s : List UInt8} (w : List UInt8), 10 ∈ s → linesA w s = (w ++ s.take (ahead 10 s)) :: linesA [] (s.drop (ahead 10 s + 1))
  | [], _, h => by simp at h
  | b :: r, w, h => by
    rw [linesA]
    by_cases hb : b = 10
    · rw [if_pos hb, ahead, if_pos hb]; simp
    · have hr : 10 ∈ r := by
        rcases List.mem_cons.1 h with h | h
        · exact absurd h.symm hb
        · exact h
      rw [if_neg hb, lines_in (w ++ [b]) hr, ahead, if_neg hb]
      simp
theorem lines_not : ∀ {s : List UInt8} (w : List UInt8), 10 ∉ s → linesA w s = if w ++ s = [] then [] else [w ++ s]
  | [], w, _ => by rw [linesA, List.append_nil]
  | b :: r, w, h => by
    simp only [List.mem_cons, not_or] at h
    rw [linesA, if_neg (fun e => h.1 e.symm), lines_not (w ++ [b]) h.2]
    simp
end Go.Proofs.YtphmmoloegjocaaDoor

/- Plain: the fields at octet 32 are the words. -/
namespace Go.Proofs.YtphmmoloegjocaaDoor
open Go Y
set_option maxRecDepth 100000
set_option maxHeartbeats 4000000

def is32 (r : Nat) : Bool := r == 32
theorem dec_yes (n b1 b2 b3 : Nat) : Lib.decodeN n 32 b1 b2 b3 = (32, 1) := by
  unfold Lib.decodeN
  rw [if_pos (by decide)]
theorem dec_not {n b0 b1 b2 b3 : Nat} (h : b0 ≠ 32) : (Lib.decodeN n b0 b1 b2 b3).1 ≠ 32 ∧ (1 < (Lib.decodeN n b0 b1 b2 b3).2 → b1 ≠ 32) ∧ (2 < (Lib.decodeN n b0 b1 b2 b3).2 → b2 ≠ 32) ∧ (3 < (Lib.decodeN n b0 b1 b2 b3).2 → b3 ≠ 32) ∧ (Lib.decodeN n b0 b1 b2 b3).2 ≤ 4 := by
  unfold Lib.decodeN
  repeat' split
  all_goals (simp only; omega)
theorem words_over : ∀ (p r w : List UInt8), (∀ b ∈ p, b ≠ 32) → wordsA w (p ++ r) = wordsA (w ++ p) r
  | [], r, w, _ => by rw [List.nil_append, List.append_nil]
  | b :: p, r, w, h => by
    rw [List.cons_append, wordsA, if_neg (h b (by simp)), words_over p r _ (fun c hc => h c (by simp [hc]))]
    simp
theorem at_drop {l : List UInt8} {p k : Nat} {b : UInt8} (h : b ∈ (l.drop p).take k) : ∃ j, j < k ∧ p + j < l.length ∧ b = l.getD (p + j) 0 := by
  obtain ⟨j, hj, rfl⟩ := List.getElem_of_mem h
  rw [List.length_take, List.length_drop] at hj
  refine ⟨j, by omega, by omega, ?_⟩
  rw [List.getElem_take, List.getElem_drop, List.getD_eq_getElem?_getD, List.getElem?_eq_getElem (by omega)]; rfl
theorem toNat_ne {b : UInt8} (h : b.toNat ≠ 32) : b ≠ 32 := fun e => h (by rw [e]; rfl)
theorem spans_words (s : ByteArray) : ∀ (f pos : Nat) (st : Option Nat) (acc : List (Nat × Nat)), s.size ≤ pos + f → pos ≤ s.size → (∀ a, st = some a → a < pos) →
    acc.map (fun p => Lib.pieceU s.data.toList p.1 p.2) ++ wordsA (Lib.openPiece s.data.toList st pos) (s.data.toList.drop pos) = (Lib.closeSpans s (Lib.spansFromP is32 s f pos st acc)).map (fun p => Lib.pieceU s.data.toList p.1 p.2)
  | 0, pos, st, acc, h, hp, hst => by
    obtain rfl : pos = s.size := by omega
    have hd : s.data.toList.drop s.size = [] := List.drop_eq_nil_of_le (by rw [← Lib.size_eq]; exact Nat.le_refl _)
    rw [hd, wordsA]
    cases st with
    | none => simp [Lib.spansFromP, Lib.closeSpans, Lib.openPiece]
    | some a =>
      have := Lib.pieceU_ne s.data.toList a s.size (hst a rfl) (by rw [← Lib.size_eq]; exact Nat.le_refl _)
      simp [Lib.spansFromP, Lib.closeSpans, Lib.openPiece, this]
  | f + 1, pos, st, acc, h, hp, hst => by
    by_cases hlt : pos < s.size
    · have hl : pos < s.data.toList.length := by rw [← Lib.size_eq]; exact hlt
      have hw := Lib.width_pos s pos
      have hwn : pos + (Utf8.decode s pos).2 ≤ s.size := by
        have := Lib.decodeN_le_n' (s.size - pos) (s.get! pos).toNat (s.get! (pos + 1)).toNat (s.get! (pos + 2)).toNat (s.get! (pos + 3)).toNat (by omega)
        rw [← Lib.decode_at] at this
        omega
      have hD := Lib.decode_N s pos
      by_cases hb : (s.data.toList.getD pos 0).toNat = 32
      · rw [hb, dec_yes] at hD
        have e1 : (Utf8.decode s pos).1 = 32 := by rw [hD]
        have e2 : (Utf8.decode s pos).2 = 1 := by rw [hD]
        have hb' : s.data.toList.getD pos 0 = 32 := UInt8.toNat_inj.1 hb
        rw [drop_cons 0 hl, hb', wordsA, if_pos rfl]
        simp only [Lib.spansFromP, if_pos hlt, e1, e2, is32]
        cases st with
        | none =>
          have ih := spans_words s f (pos + 1) none acc (by omega) (by omega) (fun a h => by cases h)
          simpa [Lib.openPiece] using ih
        | some a =>
          have hpn := Lib.pieceU_ne s.data.toList a pos (hst a rfl) (by omega)
          have ih := spans_words s f (pos + 1) none (acc ++ [(a, pos)]) (by omega) (by omega) (fun a h => by cases h)
          simpa [Lib.openPiece, hpn] using ih
      · have hn := dec_not (n := s.data.toList.length - pos) (b1 := (s.data.toList.getD (pos + 1) 0).toNat) (b2 := (s.data.toList.getD (pos + 2) 0).toNat) (b3 := (s.data.toList.getD (pos + 3) 0).toNat) hb
        rw [← hD] at hn
        obtain ⟨n1, n2, n3, n4, n5⟩ := hn
        obtain ⟨R, hR⟩ : ∃ R, (Utf8.decode s pos).1 = R := ⟨_, rfl⟩
        obtain ⟨W, hW⟩ : ∃ W, (Utf8.decode s pos).2 = W := ⟨_, rfl⟩
        rw [hW] at n2 n3 n4 n5 hw hwn
        rw [hR] at n1
        have hsp : is32 R = false := by rw [is32]; simpa using n1
        have hov : s.data.toList.drop pos = (s.data.toList.drop pos).take W ++ s.data.toList.drop (pos + W) := by rw [← List.drop_drop, List.take_append_drop]
        have hne : ∀ b ∈ (s.data.toList.drop pos).take W, b ≠ 32 := by
          intro b hm
          obtain ⟨j, hj, _, rfl⟩ := at_drop hm
          have : j = 0 ∨ j = 1 ∨ j = 2 ∨ j = 3 := by omega
          rcases this with rfl | rfl | rfl | rfl
          · exact toNat_ne hb
          · exact toNat_ne (n2 hj)
          · exact toNat_ne (n3 hj)
          · exact toNat_ne (n4 hj)
        rw [hov, words_over _ _ _ hne]
        simp only [Lib.spansFromP, if_pos hlt, hR, hW, hsp, Bool.false_eq_true, if_false]
        cases st with
        | none =>
          have ih := spans_words s f (pos + W) (some pos) acc (by omega) hwn (fun a h => by cases h; omega)
          have e : ([] : List UInt8) ++ (s.data.toList.drop pos).take W = Lib.pieceU s.data.toList pos (pos + W) := by
            unfold Lib.pieceU
            rw [List.nil_append, Nat.add_sub_cancel_left]
          simp only [Lib.openPiece] at ih ⊢
          rw [e]
          exact ih
        | some a =>
          have ih := spans_words s f (pos + W) (some a) acc (by omega) hwn (fun b h => by cases h; have := hst a rfl; omega)
          simp only [Lib.openPiece] at ih ⊢
          rw [Lib.pieceU_grow _ _ _ _ (Nat.le_of_lt (hst a rfl))]
          exact ih
    · obtain rfl : pos = s.size := by omega
      have hd : s.data.toList.drop s.size = [] := List.drop_eq_nil_of_le (by rw [← Lib.size_eq]; exact Nat.le_refl _)
      rw [hd, wordsA, Lib.spansFromP_end is32 s _ _ _ _ hlt]
      cases st with
      | none => simp [Lib.closeSpans, Lib.openPiece]
      | some a =>
        have := Lib.pieceU_ne s.data.toList a s.size (hst a rfl) (by rw [← Lib.size_eq]; exact Nat.le_refl _)
        simp [Lib.closeSpans, Lib.openPiece, this]
theorem fields_words (s : List UInt8) : Lib.goFieldsP is32 ⟨⟨s⟩⟩ = (wordsN s).map fun w => (⟨⟨w⟩⟩ : ByteArray) := by
  have h := spans_words ⟨⟨s⟩⟩ (ByteArray.size ⟨⟨s⟩⟩) 0 none [] (by omega) (Nat.zero_le _) (fun a h => by cases h)
  simp only [List.map_nil, List.nil_append, Lib.openPiece, List.drop_zero] at h
  unfold Lib.goFieldsP Lib.spansOfP wordsN
  rw [h, List.map_map]
  apply List.map_congr_left
  rintro ⟨a, b⟩ _
  show ByteArray.extract _ _ _ = _
  rw [← Lib.mk_data (ByteArray.extract _ _ _)]
  simp [Lib.pieceU]
end Go.Proofs.YtphmmoloegjocaaDoor

/- Contracts of the kit's shelf, laid at this program by the kit's lay-shelf.mjs and lay-plain.mjs. -/
namespace Go.Proofs
open Go.Shelf
def Tryd.lays161_ren : Go.Shelf.Ren := ⟨fun | 161 => 32 | 231 => 47 | 227 => 48 | 233 => 49 | 235 => 50 | 228 => 60 | 197 => 61 | 151 => 62 | 260 => 70 | 152 => 71 | 137 => 78 | 119 => 79 | 224 => 80 | 225 => 81 | 217 => 84 | 266 => 85 | n => n, fun | 9 => 9 | 4 => 4 | 3 => 3 | 5 => 5 | 117 => 91 | 116 => 90 | 0 => 0 | 124 => 94 | 105 => 118 | 21 => 21 | 119 => 143 | 46 => 50 | 139 => 146 | 138 => 145 | n => n, fun | 3 => 2 | 4 => 3 | n => n⟩
theorem Tryd.lays161 : Go.Proofs.Lays.n161 Tryd.prog Tryd.lays161_ren := {
  mixed := by kernel_rfl
  f119 := Tryd.func79.trans (congrArg some (by kernel_rfl))
  f137 := Tryd.func78.trans (congrArg some (by kernel_rfl))
  f151 := Tryd.func62.trans (congrArg some (by kernel_rfl))
  f152 := Tryd.func71.trans (congrArg some (by kernel_rfl))
  f161 := Tryd.func32.trans (congrArg some (by kernel_rfl))
  f197 := Tryd.func61.trans (congrArg some (by kernel_rfl))
  f217 := Tryd.func84.trans (congrArg some (by kernel_rfl))
  f224 := Tryd.func80.trans (congrArg some (by kernel_rfl))
  f225 := Tryd.func81.trans (congrArg some (by kernel_rfl))
  f227 := Tryd.func48.trans (congrArg some (by kernel_rfl))
  f228 := Tryd.func60.trans (congrArg some (by kernel_rfl))
  f231 := Tryd.func47.trans (congrArg some (by kernel_rfl))
  f233 := Tryd.func49.trans (congrArg some (by kernel_rfl))
  f235 := Tryd.func50.trans (congrArg some (by kernel_rfl))
  f260 := Tryd.func70.trans (congrArg some (by kernel_rfl))
  f266 := Tryd.func85.trans (congrArg some (by kernel_rfl))
  t0 := Tryd.underlying0
  a0 := Tryd.isAgg0
  z0 := Tryd.sizeOf0
  v0 := Tryd.zeroValue0
  t3 := Tryd.underlying3
  a3 := Tryd.isAgg3
  z3 := Tryd.sizeOf3
  v3 := Tryd.zeroValue3
  t4 := Tryd.underlying4
  a4 := Tryd.isAgg4
  z4 := Tryd.sizeOf4
  v4 := Tryd.zeroValue4
  t5 := Tryd.underlying5
  a5 := Tryd.isAgg5
  z5 := Tryd.sizeOf5
  v5 := Tryd.zeroValue5
  t9 := Tryd.underlying9
  a9 := Tryd.isAgg9
  z9 := Tryd.sizeOf9
  v9 := Tryd.zeroValue9
  t21 := Tryd.underlying21
  a21 := Tryd.isAgg21
  z21 := Tryd.sizeOf21
  v21 := Tryd.zeroValue21
  t46 := Tryd.underlying50
  a46 := Tryd.isAgg50
  z46 := Tryd.sizeOf50
  v46 := Tryd.zeroValue50
  t105 := Tryd.underlying118
  a105 := Tryd.isAgg118
  z105 := Tryd.sizeOf118
  v105 := Tryd.zeroValue118
  t116 := Tryd.underlying90
  a116 := Tryd.isAgg90
  z116 := Tryd.sizeOf90
  t117 := Tryd.underlying91
  a117 := Tryd.isAgg91
  z117 := Tryd.sizeOf91
  v117 := Tryd.zeroValue91
  t119 := Tryd.underlying143
  a119 := Tryd.isAgg143
  z119 := Tryd.sizeOf143
  t124 := Tryd.underlying94
  a124 := Tryd.isAgg94
  z124 := Tryd.sizeOf94
  v124 := Tryd.zeroValue94
  t138 := Tryd.underlying145
  a138 := Tryd.isAgg145
  z138 := Tryd.sizeOf145
  v138 := Tryd.zeroValue145
  t139 := Tryd.underlying146
  a139 := Tryd.isAgg146
  z139 := Tryd.sizeOf146
  v139 := Tryd.zeroValue146
  g3 := by kernel_rfl
  g4 := by kernel_rfl }
def Tryd.lays99_ren : Go.Shelf.Ren := ⟨fun | 99 => 31 | 206 => 46 | n => n, fun | 9 => 9 | 4 => 4 | 3 => 3 | n => n, fun | n => n⟩
theorem Tryd.lays99 : Go.Proofs.Lays.n99 Tryd.prog Tryd.lays99_ren := {
  mixed := by kernel_rfl
  f99 := Tryd.func31.trans (congrArg some (by kernel_rfl))
  f206 := Tryd.func46.trans (congrArg some (by kernel_rfl))
  t3 := Tryd.underlying3
  a3 := Tryd.isAgg3
  z3 := Tryd.sizeOf3
  v3 := Tryd.zeroValue3
  t4 := Tryd.underlying4
  a4 := Tryd.isAgg4
  z4 := Tryd.sizeOf4
  v4 := Tryd.zeroValue4
  t9 := Tryd.underlying9
  a9 := Tryd.isAgg9
  z9 := Tryd.sizeOf9
  v9 := Tryd.zeroValue9 }
open Go.RowKit Go.Lib in
theorem Tryd.strings_HasPrefix (s p : ByteArray) (w : World) :
    Calls Tryd.prog 31 #[.string s, .string p] w fun e w' => e = .returned (.bool (Lib.hasPrefix s.data.toList p.data.toList)) ∧ w' = w := Any.strings_HasPrefix Tryd.lays99 s p w
def Tryd.lays105_ren : Go.Shelf.Ren := ⟨fun | 105 => 16 | 212 => 36 | 99 => 31 | 165 => 37 | 166 => 22 | 170 => 38 | 169 => 26 | 263 => 53 | 264 => 54 | 206 => 46 | 240 => 43 | 241 => 55 | 276 => 58 | 277 => 64 | n => n, fun | 9 => 9 | 3 => 3 | 4 => 4 | 20 => 20 | 0 => 0 | 46 => 50 | 109 => 74 | 5 => 5 | 72 => 56 | 76 => 59 | 51 => 105 | 146 => 106 | 53 => 108 | 148 => 109 | 70 => 54 | 37 => 23 | 75 => 58 | 127 => 87 | 164 => 114 | 80 => 64 | n => n, fun | n => n⟩
theorem Tryd.lays105 : Go.Proofs.Lays.n105 Tryd.prog Tryd.lays105_ren := {
  mixed := by kernel_rfl
  f99 := Tryd.func31.trans (congrArg some (by kernel_rfl))
  f105 := Tryd.func16.trans (congrArg some (by kernel_rfl))
  f165 := Tryd.func37.trans (congrArg some (by kernel_rfl))
  f166 := Tryd.func22.trans (congrArg some (by kernel_rfl))
  f169 := Tryd.func26.trans (congrArg some (by kernel_rfl))
  f170 := Tryd.func38.trans (congrArg some (by kernel_rfl))
  f206 := Tryd.func46.trans (congrArg some (by kernel_rfl))
  f212 := Tryd.func36.trans (congrArg some (by kernel_rfl))
  f240 := Tryd.func43.trans (congrArg some (by kernel_rfl))
  f241 := Tryd.func55.trans (congrArg some (by kernel_rfl))
  f263 := Tryd.func53.trans (congrArg some (by kernel_rfl))
  f264 := Tryd.func54.trans (congrArg some (by kernel_rfl))
  f276 := Tryd.func58.trans (congrArg some (by kernel_rfl))
  f277 := Tryd.func64.trans (congrArg some (by kernel_rfl))
  t0 := Tryd.underlying0
  a0 := Tryd.isAgg0
  z0 := Tryd.sizeOf0
  v0 := Tryd.zeroValue0
  t3 := Tryd.underlying3
  a3 := Tryd.isAgg3
  z3 := Tryd.sizeOf3
  v3 := Tryd.zeroValue3
  t4 := Tryd.underlying4
  a4 := Tryd.isAgg4
  z4 := Tryd.sizeOf4
  v4 := Tryd.zeroValue4
  t5 := Tryd.underlying5
  a5 := Tryd.isAgg5
  z5 := Tryd.sizeOf5
  v5 := Tryd.zeroValue5
  t9 := Tryd.underlying9
  a9 := Tryd.isAgg9
  z9 := Tryd.sizeOf9
  v9 := Tryd.zeroValue9
  t20 := Tryd.underlying20
  a20 := Tryd.isAgg20
  z20 := Tryd.sizeOf20
  v20 := Tryd.zeroValue20
  t37 := Tryd.underlying23
  a37 := Tryd.isAgg23
  z37 := Tryd.sizeOf23
  v37 := Tryd.zeroValue23
  t46 := Tryd.underlying50
  a46 := Tryd.isAgg50
  z46 := Tryd.sizeOf50
  v46 := Tryd.zeroValue50
  t51 := Tryd.underlying105
  a51 := Tryd.isAgg105
  z51 := Tryd.sizeOf105
  v51 := Tryd.zeroValue105
  t53 := Tryd.underlying108
  a53 := Tryd.isAgg108
  z53 := Tryd.sizeOf108
  v53 := Tryd.zeroValue108
  t70 := Tryd.underlying54
  a70 := Tryd.isAgg54
  z70 := Tryd.sizeOf54
  v70 := Tryd.zeroValue54
  t72 := Tryd.underlying56
  a72 := Tryd.isAgg56
  z72 := Tryd.sizeOf56
  v72 := Tryd.zeroValue56
  t75 := Tryd.underlying58
  a75 := Tryd.isAgg58
  z75 := Tryd.sizeOf58
  v75 := Tryd.zeroValue58
  t76 := Tryd.underlying59
  a76 := Tryd.isAgg59
  z76 := Tryd.sizeOf59
  v76 := Tryd.zeroValue59
  t109 := Tryd.underlying74
  a109 := Tryd.isAgg74
  z109 := Tryd.sizeOf74
  v109 := Tryd.zeroValue74
  t127 := Tryd.underlying87
  a127 := Tryd.isAgg87
  z127 := Tryd.sizeOf87
  v127 := Tryd.zeroValue87
  t146 := Tryd.underlying106
  a146 := Tryd.isAgg106
  z146 := Tryd.sizeOf106
  v146 := Tryd.zeroValue106
  t148 := Tryd.underlying109
  a148 := Tryd.isAgg109
  z148 := Tryd.sizeOf109
  v148 := Tryd.zeroValue109
  t164 := Tryd.underlying114
  a164 := Tryd.isAgg114
  z164 := Tryd.sizeOf114
  v164 := Tryd.zeroValue114 }
theorem Tryd.Builder_Extra_105 : Builder.Extra Tryd.prog Tryd.lays105_ren := {
  sizeBuilder := by kernel_rfl
  liesBuilder := by kernel_rfl
  t5 := Tryd.underlying5
  a5 := Tryd.isAgg5
  z5 := Tryd.sizeOf5
  v5 := Tryd.zeroValue5
  infoByte := by kernel_rfl
  cellsByte := by kernel_rfl
  sizeByte := by kernel_rfl
  neB5 := by decide }
open Go.RowKit Go.Lib in
theorem Tryd.strings_Repeat (s : ByteArray) (c : Nat) (w : World) (hc : c ≤ 9223372036854775807) (hlen : s.size * c ≤ 140737488355328) :
    Calls Tryd.prog 16 #[.string s, .int .i64 c] w fun e w' => e = .returned (.string ⟨(Lib.repeatL s.data.toList c).toArray⟩) ∧ Below w.heap.size w w' := Any.strings_Repeat Tryd.lays105 Tryd.Builder_Extra_105 s c w hc hlen
def Tryd.lays229_ren : Go.Shelf.Ren := ⟨fun | 229 => 113 | n => n, fun | 9 => 9 | 40 => 148 | 31 => 85 | 152 => 180 | 3 => 3 | 0 => 0 | 4 => 4 | 21 => 21 | 154 => 182 | n => n, fun | n => n⟩
theorem Tryd.lays229 : Go.Proofs.Lays.n229 Tryd.prog Tryd.lays229_ren := {
  mixed := by kernel_rfl
  f229 := Tryd.func113.trans (congrArg some (by kernel_rfl))
  t0 := Tryd.underlying0
  a0 := Tryd.isAgg0
  z0 := Tryd.sizeOf0
  v0 := Tryd.zeroValue0
  t3 := Tryd.underlying3
  a3 := Tryd.isAgg3
  z3 := Tryd.sizeOf3
  v3 := Tryd.zeroValue3
  t4 := Tryd.underlying4
  a4 := Tryd.isAgg4
  z4 := Tryd.sizeOf4
  v4 := Tryd.zeroValue4
  t9 := Tryd.underlying9
  a9 := Tryd.isAgg9
  z9 := Tryd.sizeOf9
  v9 := Tryd.zeroValue9
  t21 := Tryd.underlying21
  a21 := Tryd.isAgg21
  z21 := Tryd.sizeOf21
  v21 := Tryd.zeroValue21
  t31 := Tryd.underlying85
  a31 := Tryd.isAgg85
  z31 := Tryd.sizeOf85
  v31 := Tryd.zeroValue85
  t40 := Tryd.underlying148
  a40 := Tryd.isAgg148
  z40 := Tryd.sizeOf148
  v40 := Tryd.zeroValue148
  t152 := Tryd.underlying180
  a152 := Tryd.isAgg180
  z152 := Tryd.sizeOf180
  v152 := Tryd.zeroValue180
  t154 := Tryd.underlying182
  a154 := Tryd.isAgg182
  z154 := Tryd.sizeOf182
  v154 := Tryd.zeroValue182 }
open Go.RowKit Go.Lib in
theorem Tryd.strings_FieldsFunc_grows (g : Nat) (lb : Array Value) (eg : ∀ args w, (callFunc g args).run Tryd.prog w = .ok (.enter g args) w) (p : Nat → Bool) (s : ByteArray) (w : World) (hs : s.size ≤ 4294967296) (hp : PredGrows Tryd.prog g lb p w) :
    Calls Tryd.prog 113 #[.string s, .func (.func g) #[] lb] w fun e w' => ∃ A, e = .returned (.slice (some ⟨A, 0, none⟩) (Lib.goFieldsP p s).length (Lib.goFieldsP p s).length) ∧ w.heap.size ≤ A ∧
      w'.ownsRow w.heap.size 9 1 (.slice (some ⟨A, 0, none⟩) (Lib.goFieldsP p s).length (Lib.goFieldsP p s).length) (Lib.goFieldsP p s).length ((Lib.goFieldsP p s).map Value.string) ∧ Below w.heap.size w w' := Any.strings_FieldsFunc_grows Tryd.lays229 g lb eg p s w hs hp (by kernel_rfl) (by kernel_rfl)
end Go.Proofs

/- Contracts of the kit's shelf as contracts on data: strings.FieldsFunc, HasPrefix, TrimLeft. -/
namespace Go.Proofs.YtphmmoloegjocaaDoor
open Go Y RowKit
set_option maxRecDepth 100000
set_option maxHeartbeats 4000000

theorem later_below {Γ : Gm} {w w' : World} (hR : R cx Γ ⟨0, []⟩ w) (hb : Below w.heap.size w w') : Later cx 0 Γ ⟨0, []⟩ w Γ ⟨0, []⟩ w' := by
  have hfz : ∀ b arr, Γ.fz b = some arr → ∃ t z, w'.heap[b]? = some (.cells ⟨arr⟩ t z) := by
    intro b arr h
    obtain ⟨t, z, e⟩ := hR.fzok b arr h
    have hlt : b < w.heap.size := by
      rcases Nat.lt_or_ge b w.heap.size with h1 | h1
      · exact h1
      · rw [Array.getElem?_eq_none h1] at e; cases e
    exact ⟨t, z, by rw [hb.block b hlt]; exact e⟩
  refine ⟨⟨hR.glob, hR.fresh, hfz, fun n o hn => by simp [lget] at hn, fun n o q hn => by simp [lget] at hn, fun n o m p q q' hn => by simp [lget] at hn⟩, Ext.refl _ _, Nat.le_refl _, ⟨hb.os, hb.tape, hb.output, hb.size, fun k hk _ => hb.block k hk, fun k hk => .inr hk, Fzn.le_refl _, fun k a h => .inl h⟩⟩

/-- A contract that leaves what lay there. -/
theorem pure_below {g : FuncId} {fn : Func} {c : Code} {args : List PV} {x : PV} (hf : cx.P.funcs[g]? = some fn) (hname : (fn.name == "runtime.NumGoroutine") = false) (hbd : fn.body = some c) (hx : Res [] 5 (.p x) x)
    (h : ∀ (Γ : Gm) (w : World) (args' : List Value), R cx Γ ⟨0, []⟩ w → VRL Γ (args.map .p) args' → ∃ v', VP Γ.fz x v' ∧ Calls cx.P g ⟨args'⟩ w fun e w' => e = .returned v' ∧ Below w.heap.size w w') : Pure cx g args (· = .ret [x]) := by
  intro Γ w args' hR hA
  obtain ⟨v', h1, h2⟩ := h Γ w args' hR hA
  refine .inl ⟨run_enter hf hname hbd _ _, h2.mono fun e w' ⟨he, hw⟩ => ?_⟩
  subst he
  exact ⟨.returned (.p x), ⟨0, []⟩, Γ, ⟨.ret [x], ⟨rfl, _, rfl, hx⟩, rfl⟩, ⟨v', rfl, h1⟩, later_below hR hw⟩

/-- The other way: a contract on data without memory, as the shelf asks it of a function value. -/
theorem below_of_holds {g : FuncId} {args : List AV} {x : PV} (h : HoldsG cx g args ⟨0, []⟩ fun e H' => e = .returned (.p x) ∧ H' = ⟨0, []⟩) {w : World} {args' : List Value} {v' : Value} (hA : ∀ Γ, VRL Γ args args') (hv : ∀ v Γ, VR Γ (.p x) v → v = v') :
    Calls cx.P g ⟨args'⟩ w fun e w' => e = .returned v' ∧ Below w.heap.size w w' := by
  have hR : R cx ⟨fun _ => none, fun _ => none⟩ ⟨0, []⟩ w := ⟨fun g cs h => by simp [cx, gget] at h, fun _ _ => rfl, fun b arr h => by simp at h, fun n o hn => by simp [lget] at hn, fun n o q hn => by simp [lget] at hn, fun n o m p q q' hn => by simp [lget] at hn⟩
  refine (h _ w args' hR (hA _)).2.mono fun e w' hq => ?_
  obtain ⟨e0, H', Γ', ⟨rfl, rfl⟩, hE, hL⟩ := hq
  obtain ⟨v, rfl, hv'⟩ := hE
  have hT := hL.2.2.2
  exact ⟨by rw [hv _ _ hv'], hT.os, hT.tape, hT.output, hT.size, fun k hk => hT.kept k hk (fun ho => own_nil ho)⟩

theorem space_h (n : Int) : HoldsG cx 114 [.p (.int .i32 n)] ⟨0, []⟩ fun e H' => e = .returned (.p (.bool (decide (n = 32)))) ∧ H' = ⟨0, []⟩ := by
  refine holds_of_vc Tryd.func114 rfl rfl rfl ?_
  (first | refine brLt (fun h => ?_) (fun h => ?_) | refine brLe (fun h => ?_) (fun h => ?_) | refine brEq (fun h => ?_) (fun h => ?_))
  · have h : n = 32 := h
    exact ⟨by rw [decide_eq_true h]; rfl, rfl⟩
  · have h : ¬ n = 32 := h
    exact ⟨by rw [decide_eq_false h]; rfl, rfl⟩
theorem space_pays (w : World) : PredGrows cx.P 114 #[] is32 w := fun W x _ _ => by
  refine below_of_holds (x := .bool (decide ((x : Int) = 32))) (space_h x) (fun Γ => ?_) (fun v Γ hv => ?_)
  · simp only [VRL, VR, VP]
    exact ⟨_, _, rfl, rfl, rfl⟩
  · simp only [VR, VP] at hv
    rw [hv, is32]
    congr 1
    by_cases hx : x = 32
    · subst hx; rfl
    · rw [decide_eq_false (by omega)]
      simpa using hx

/-- A new block that nobody writes. -/
def Fzn.with (f : Fzn) (g : Nat) (arr : List Value) : Fzn := fun k => match Nat.beq k g with
  | true => some arr
  | false => f k
theorem later_fresh {Γ : Gm} {w w' : World} (hR : R cx Γ ⟨0, []⟩ w) (hb : Below w.heap.size w w') {g : Nat} {arr : List Value} {t : TypeId} {z : Nat × Nat} (hg : w.heap.size ≤ g) (he : w'.heap[g]? = some (.cells ⟨arr⟩ t z)) :
    Later cx 0 Γ ⟨0, []⟩ w ⟨Γ.nm, Fzn.with Γ.fz g arr⟩ ⟨0, []⟩ w' := by
  obtain ⟨hR1, _, _, hT⟩ := later_below hR hb
  have hnew : ∀ k a, Fzn.with Γ.fz g arr k = some a → (k = g ∧ a = arr) ∨ Γ.fz k = some a := fun k a h => by
    by_cases e : k = g
    · subst e
      simp only [Fzn.with, beq_refl', Option.some.injEq] at h
      exact .inl ⟨rfl, h.symm⟩
    · simp only [Fzn.with, beq_ne e] at h
      exact .inr h
  have hle : Γ.fz.le (Fzn.with Γ.fz g arr) := fun k a h => by
    have e : k ≠ g := fun e => by
      subst e
      obtain ⟨t, z, e⟩ := hR.fzok k a h
      have := (Array.getElem?_eq_some_iff.1 e).1
      omega
    simp only [Fzn.with, beq_ne e]
    exact h
  refine ⟨⟨fun g cs h => by simp [cx, gget] at h, hR1.fresh, fun b a h => ?_, fun n o hn => by simp [lget] at hn, fun n o q hn => by simp [lget] at hn, fun n o m p q q' hn => by simp [lget] at hn⟩, fun _ _ => rfl, Nat.le_refl _, ⟨hT.os, hT.tape, hT.output, hT.size, hT.kept, fun k hk => .inr (by obtain ⟨n, o, q, h, _⟩ := hk; simp [lget] at h), hle, fun k a h => ?_⟩⟩
  · rcases hnew b a h with ⟨rfl, rfl⟩ | h
    · exact ⟨t, z, he⟩
    · exact hR1.fzok b a h
  · rcases hnew k a h with ⟨rfl, rfl⟩ | h
    · exact .inr (.inl hg)
    · exact .inl h
/-- A contract whose result is a new row of data that refer to nothing. -/
theorem pure_row {g : FuncId} {fn : Func} {c : Code} {args : List PV} {ys : List PV} (hf : cx.P.funcs[g]? = some fn) (hname : (fn.name == "runtime.NumGoroutine") = false) (hbd : fn.body = some c)
    (h : ∀ (Γ : Gm) (w : World) (args' : List Value), R cx Γ ⟨0, []⟩ w → VRL Γ (args.map .p) args' → ∃ us, (∀ fz, VPL fz ys us) ∧ (∀ u ∈ us, plainV u = true) ∧ Calls cx.P g ⟨args'⟩ w fun e w' => ∃ A t z, e = .returned (.slice (some ⟨A, 0, none⟩) ys.length ys.length) ∧ w.heap.size ≤ A ∧ w'.heap[A]? = some (.cells ⟨us⟩ t z) ∧ Below w.heap.size w w') :
    Pure cx g args (· = .ret [.lst ys]) := by
  intro Γ w args' hR hA
  obtain ⟨us, h1, h2, h3⟩ := h Γ w args' hR hA
  refine .inl ⟨run_enter hf hname hbd _ _, h3.mono fun e w' hq => ?_⟩
  obtain ⟨A, t, z, rfl, hA1, hA2, hb⟩ := hq
  refine ⟨.returned (.p (.lst ys)), ⟨0, []⟩, _, ⟨.ret [.lst ys], ⟨rfl, _, rfl, res_p _ _⟩, rfl⟩, ⟨_, rfl, ?_⟩, later_fresh hR hb hA1 hA2⟩
  simp only [VR, VP]
  exact .inr ⟨A, 0, ys.length, us, us, rfl, Nat.le_refl _, by simp [Fzn.with], h1 _, [], [], by simp, rfl, h2⟩
theorem vpl_strs (fz : Fzn) : ∀ l : List (List UInt8), VPL fz (l.map .str) (l.map fun x => Value.string ⟨⟨x⟩⟩)
  | [] => rfl
  | x :: l => by
    simp only [List.map_cons, VPL, VP]
    exact ⟨_, _, rfl, rfl, vpl_strs fz l⟩
theorem fields_c (s : List UInt8) (hs : s.length ≤ 1000000) : Pure cx 113 [.str s, .fn (.func 114) [] []] (· = .ret [strs (wordsN s)]) := by
  refine pure_row Tryd.func113 rfl rfl fun Γ w args' hR hA => ?_
  simp only [List.map, VRL, VR, VP] at hA
  obtain ⟨a, as', rfl, rfl, b, bs', rfl, ⟨_, f1, f2, rfl, h1, h2⟩, rfl⟩ := hA
  simp only [VPL] at h1 h2
  have e1 : f1 = #[] := by cases f1; simpa using h1
  have e2 : f2 = #[] := by cases f2; simpa using h2
  subst e1 e2
  refine ⟨(wordsN s).map fun x => Value.string ⟨⟨x⟩⟩, fun fz => vpl_strs fz _, fun u hu => ?_, ?_⟩
  · obtain ⟨x, _, rfl⟩ := List.mem_map.1 hu
    rfl
  have hC := Tryd.strings_FieldsFunc_grows 114 #[] (fun args w => run_enter Tryd.func114 rfl rfl args w) is32 ⟨⟨s⟩⟩ w (by show s.length ≤ _; omega) (space_pays w)
  rw [fields_words, List.length_map, List.map_map] at hC
  refine hC.mono fun e w' hq => ?_
  obtain ⟨A, rfl, hA1, ⟨hl, hrow⟩, hb⟩ := hq
  rcases hrow with ⟨h0, _⟩ | ⟨g, cap, cur, hv, hg1, hg2, hg3, hg4, hg5, hg6⟩
  · cases h0
  have hg7 : g = A ∧ cap = (wordsN s).length := by
    simp only [Value.slice.injEq, Option.some.injEq, Addr.mk.injEq, and_true, true_and] at hv
    exact ⟨hv.1.symm, hv.2.symm⟩
  obtain ⟨rfl, rfl⟩ := hg7
  have hcur : cur.toList = (wordsN s).map fun x => Value.string ⟨⟨x⟩⟩ := by
    rw [List.take_of_length_le (by rw [Array.length_toList, hg5]; omega)] at hg6
    exact hg6
  exact ⟨g, _, _, by rw [List.length_map], hA1, hg2.trans (congrArg (fun l => some (Obj.cells ⟨l⟩ _ _)) hcur), hb⟩
end Go.Proofs.YtphmmoloegjocaaDoor

/- The program's line reader: lines. -/
namespace Go.Proofs.YtphmmoloegjocaaDoor
open Go Y
set_option maxRecDepth 100000
set_option maxHeartbeats 40000000

abbrev TPl : TypeId := 101
def teO (t : List UInt8) : AObj := ⟨9, false, .bx [.p (.str t)]⟩
def bxO : AObj := ⟨TPl, false, .bx [.ptr 0 0 0]⟩

theorem lines_h (t : List UInt8) : HoldsG cx 112 [.p (.str t)] ⟨0, []⟩ fun e H' => e = .returned (.fn (.func 118) [] [.ptr 0 0 0]) ∧ H' = ⟨1, [(0, teO t)]⟩ := by
  refine holds_of_vc Tryd.func112 rfl rfl rfl ?_
  exact ⟨rfl, rfl⟩

theorem cut_x (s : List UInt8) (hs : s.length ≤ 1000000) : ∃ line rest b, Pure cx 119 [.str s, .str [10]] (· = .ret [.str line, .str rest, .bool b]) ∧ (s ≠ [] → linesN s = line :: linesN rest ∧ line.length ≤ s.length ∧ rest.length < s.length) := by
  have h := cut_c s 10 hs
  rw [cutV] at h
  by_cases hc : (10 : UInt8) ∈ s
  · rw [if_pos hc] at h
    have ha := (ahead_split hc).2.2
    refine ⟨_, _, _, h, fun _ => ⟨?_, ?_, ?_⟩⟩
    · rw [linesN, lines_in [] hc, List.nil_append]; rfl
    · rw [List.length_take]; omega
    · rw [List.length_drop]; omega
  · rw [if_neg hc] at h
    refine ⟨_, _, _, h, fun h0 => ⟨?_, ?_, ?_⟩⟩
    · rw [linesN, lines_not [] hc, List.nil_append, if_neg h0]; rfl
    · omega
    · exact List.length_pos_iff.2 h0

/-- The heap of read in its range. -/
def rdS (st : LoopState) (pd : Option Code) (N : Nat) (σ : Sg) (ps : List Tmp) (ac bd : Code) (b : Bool) (n : Ns) (p : Nat) (t : List UInt8) : List (Nat × AObj) :=
  [(7, rO (lastR n.last)), (6, mO (n.rows 7)), (5, lpO st pd 4 N σ ps ac bd), (4, dfO), (3, teO t), (2, bO b), (1, bxO), (0, cmO TLn n.g (.sl 6 3 0 n.len) p [])]
/-- Behind the first line. -/
def rdA (N : Nat) (σ : Sg) (ps : List Tmp) (ac bd : Code) (n : Ns) (p : Nat) (t : List UInt8) : List (Nat × AObj) :=
  [(0, cmO TLn n.g (.sl 6 3 0 n.len) p []), (7, rO (lastR n.last)), (6, mO (n.rows 7)), (5, lpO .ready none 4 N σ ps ac bd), (4, dfO), (3, teO t), (2, bO true), (1, bxO)]
/-- Behind a node. -/
def rdB (N : Nat) (σ : Sg) (ps : List Tmp) (ac bd : Code) (n : Ns) (X : List (List AV)) (p : Nat) (t : List UInt8) : List (Nat × AObj) :=
  [(9, rO (lastR n.last)), (8, mO X), (0, cmO TLn n.g (.sl 8 3 0 n.len) p []), (5, lpO .ready none 4 N σ ps ac bd), (4, dfO), (3, teO t), (2, bO true), (1, bxO)]
/-- Behind a row. -/
def rdC (N : Nat) (σ : Sg) (ps : List Tmp) (ac bd : Code) (n : Ns) (X : List (List AV)) (z : AObj) (m p : Nat) (t : List UInt8) : List (Nat × AObj) :=
  [(9, rO (lastR n.last)), (8, z), (0, cmO TLn n.g (.sl 6 3 0 m) p []), (6, mO X), (5, lpO .ready none 4 N σ ps ac bd), (4, dfO), (3, teO t), (2, bO true), (1, bxO)]

theorem iterL_c (t0 : List UInt8) (ht : t0.length ≤ 50000) (N : Nat) (σ σ1 : Sg) (ds : List AD) (ps : List Tmp) (ac bd : Code) (Q : KQ)
    (hok : ∀ b n p t, runL true ns0 0 (linesN t0) = .inr (!b, n) → OkNs n 50000 → Q .normal σ1 ds ⟨8, rdS .exhausted none N σ ps ac bd b n p t⟩)
    (hno : ∀ k, runL true ns0 0 (linesN t0) = .inl k → Q (.panic [⟨.p (.iface 123 (i64 k)), false⟩]) σ1 ds ⟨6, [(4, dfO)]⟩)
    (hrd : ∀ (b : Bool) (n : Ns) (p k : Nat) (t line : List UInt8) (K : AE → Hp → Prop), OkNs n k → k ≤ 50000 → p ≤ 50000 → line.length ≤ 50000 →
      (passW (wordsN line) = true → K (.returned (vB true)) ⟨8, rdS .ready none N σ ps ac bd b n p t⟩) →
      (¬ passW (wordsN line) = true → stepN (!b) n (wordsN line) = none → ∀ H', lget H'.l 4 = some dfO → K (placeX (k + 1)) H') →
      (∀ n', ¬ passW (wordsN line) = true → stepN (!b) n (wordsN line) = some n' → K (.returned (vB true)) ⟨8, rdA N σ ps ac bd n' (k + 1) t⟩) →
      (∀ n' X, ¬ passW (wordsN line) = true → stepN (!b) n (wordsN line) = some n' → X = n'.rows 9 → K (.returned (vB true)) ⟨10, rdB N σ ps ac bd n' X (k + 1) t⟩) →
      (∀ n' X z m, ¬ passW (wordsN line) = true → stepN (!b) n (wordsN line) = some n' → X = n'.rows 9 → m = n'.len → K (.returned (vB true)) ⟨10, rdC N σ ps ac bd n' X z m (k + 1) t⟩) →
      RoundH cx 5 [.p (i64 ((k + 1 : Nat) : Int)), .p (.str line)] ⟨8, rdS .ready none N σ ps ac bd b n p t⟩ K) :
    HoldsG cx 118 [.fn (.yield 5) [] [], .ptr 3 0 0] ⟨6, [(5, lpO .ready none 4 N σ ps ac bd), (4, dfO), (3, teO t0), (2, bO false), (1, bxO), (0, cmO TLn 0 (.p .nils) 0 [])]⟩ (RangeQ 5 σ1 ds Q) := by
  refine holdsN_of_vc Tryd.func118 rfl rfl rfl ?_
  refine ⟨Bool × Ns × Nat × Nat × List UInt8, fun x => [(0, .fn (.yield 5) [] []), (1, .ptr 3 0 0), (3, .p (i64 ((x.2.2.2.1 + 1 : Nat) : Int)))], fun x => ⟨8, rdS .ready none N σ ps ac bd x.1 x.2.1 x.2.2.1 x.2.2.2.2⟩,
    fun x => x.2.2.2.1 + x.2.2.2.2.length ≤ t0.length ∧ OkNs x.2.1 x.2.2.2.1 ∧ x.2.2.1 ≤ x.2.2.2.1 ∧ runL (!x.1) x.2.1 x.2.2.2.1 (linesN x.2.2.2.2) = runL true ns0 0 (linesN t0), fun x => x.2.2.2.2.length, ?_, ?_⟩
  · refine ⟨(false, ns0, 0, 0, t0), ⟨by simp, ⟨fun _ => rfl, by simp [ns0, Ns.len], fun x hx => by simp [ns0] at hx⟩, by simp, rfl⟩, ent_of [] [] [(6, 3), (7, 1)] rfl (by (repeat' first | exact trivial | exact rfl | exact ⟨rfl, rfl⟩ | exact .inl rfl | refine ⟨_, rfl, rfl, rfl, ?_⟩ | refine ⟨_, _, rfl, ?_, ?_⟩ | refine ⟨_, rfl, ?_⟩ | refine And.intro ?_ ?_)) (by (repeat' first | exact trivial | exact rfl | exact ⟨rfl, rfl⟩ | exact .inl rfl | refine ⟨_, rfl, rfl, rfl, ?_⟩ | refine ⟨_, _, rfl, ?_, ?_⟩ | refine ⟨_, rfl, ?_⟩ | refine And.intro ?_ ?_)) rfl⟩
  rintro ⟨b, n, p, k, s⟩ ⟨g1, g2, g3, g4⟩
  simp only [] at g1 g2 g3 g4
  (first | refine brLt (fun h1 => ?_) (fun h1 => ?_) | refine brLe (fun h1 => ?_) (fun h1 => ?_) | refine brEq (fun h1 => ?_) (fun h1 => ?_))
  · have h1 : s = [] := h1
    subst h1
    have g5 : runL true ns0 0 (linesN t0) = .inr (!b, n) := by rw [← g4]; rfl
    exact ⟨[], [], [], .returned und, ⟨8, rdS .ready none N σ ps ac bd b n p []⟩, rfl, by (repeat' first | exact trivial | exact rfl | exact ⟨rfl, rfl⟩ | exact .inl rfl | refine ⟨_, rfl, rfl, rfl, ?_⟩ | refine ⟨_, _, rfl, ?_, ?_⟩ | refine ⟨_, rfl, ?_⟩ | refine And.intro ?_ ?_), ⟨⟨_, rfl, rfl, rfl, rfl⟩, ⟨_, rfl, rfl, rfl, _, rfl, seeLL_self n 7 7 rfl⟩, ⟨_, rfl, rfl, rfl, rfl, rfl, rfl⟩, ⟨_, rfl, rfl, rfl, rfl⟩, ⟨_, rfl, rfl, rfl, _, rfl, by (repeat' first | exact trivial | exact rfl | exact ⟨rfl, rfl⟩ | exact .inl rfl | refine ⟨_, rfl, rfl, rfl, ?_⟩ | refine ⟨_, _, rfl, ?_, ?_⟩ | refine ⟨_, rfl, ?_⟩ | refine And.intro ?_ ?_)⟩, ⟨_, rfl, rfl, rfl, _, rfl, by (repeat' first | exact trivial | exact rfl | exact ⟨rfl, rfl⟩ | exact .inl rfl | refine ⟨_, rfl, rfl, rfl, ?_⟩ | refine ⟨_, _, rfl, ?_, ?_⟩ | refine ⟨_, rfl, ?_⟩ | refine And.intro ?_ ?_)⟩, ⟨_, rfl, rfl, rfl, _, rfl, by (repeat' first | exact trivial | exact rfl | exact ⟨rfl, rfl⟩ | exact .inl rfl | refine ⟨_, rfl, rfl, rfl, ?_⟩ | refine ⟨_, _, rfl, ?_, ?_⟩ | refine ⟨_, rfl, ?_⟩ | refine And.intro ?_ ?_)⟩, ⟨_, rfl, rfl, rfl, _, rfl, by (repeat' first | exact trivial | exact rfl | exact ⟨rfl, rfl⟩ | exact .inl rfl | refine ⟨_, rfl, rfl, rfl, ?_⟩ | refine ⟨_, _, rfl, ?_, ?_⟩ | refine ⟨_, rfl, ?_⟩ | refine And.intro ?_ ?_)⟩, trivial⟩, hok b n p [] g5 (g2.mono (by omega))⟩
  have h1 : ¬ s = [] := h1
  obtain ⟨line, rest, c, hC, hL⟩ := cut_x s (by omega)
  obtain ⟨l1, l2, l3⟩ := hL h1
  rw [l1, runL] at g4
  obtain ⟨w1, w2⟩ := words_ok line (by omega)
  refine hC.eq rfl ?_
  refine hrd b n p k s line _ g2 (by omega) (by omega) (by omega) (fun hp => ?_) (fun hp hs H' hd => ?_) (fun n' hp hs => ?_) (fun n' X hp hs hX => ?_) (fun n' X z m hp hs hX hm => ?_)
  · rw [if_pos hp] at g4
    refine ⟨((k + 1 : Nat) : Int) + 1, wrap_i64 (by omega) (by omega), ?_⟩
    refine ⟨(b, n, p, k + 1, rest), ⟨?_, ?_, ?_, ?_⟩, ent_of [] [] [] rfl ⟨⟨rfl, _, _, rfl, rfl, rfl⟩, ⟨rfl, rfl⟩, congrArg (fun m : Int => i64 m) (show ((k + 1 : Nat) : Int) + 1 = ((k + 1 + 1 : Nat) : Int) by omega), trivial⟩ ⟨⟨_, rfl, rfl, rfl, rfl⟩, ⟨_, rfl, rfl, rfl, _, rfl, seeLL_self n 7 7 rfl⟩, ⟨_, rfl, rfl, rfl, rfl, rfl, rfl⟩, ⟨_, rfl, rfl, rfl, rfl⟩, ⟨_, rfl, rfl, rfl, _, rfl, by (repeat' first | exact trivial | exact rfl | exact ⟨rfl, rfl⟩ | exact .inl rfl | refine ⟨_, rfl, rfl, rfl, ?_⟩ | refine ⟨_, _, rfl, ?_, ?_⟩ | refine ⟨_, rfl, ?_⟩ | refine And.intro ?_ ?_)⟩, ⟨_, rfl, rfl, rfl, _, rfl, by (repeat' first | exact trivial | exact rfl | exact ⟨rfl, rfl⟩ | exact .inl rfl | refine ⟨_, rfl, rfl, rfl, ?_⟩ | refine ⟨_, _, rfl, ?_, ?_⟩ | refine ⟨_, rfl, ?_⟩ | refine And.intro ?_ ?_)⟩, ⟨_, rfl, rfl, rfl, _, rfl, by (repeat' first | exact trivial | exact rfl | exact ⟨rfl, rfl⟩ | exact .inl rfl | refine ⟨_, rfl, rfl, rfl, ?_⟩ | refine ⟨_, _, rfl, ?_, ?_⟩ | refine ⟨_, rfl, ?_⟩ | refine And.intro ?_ ?_)⟩, ⟨_, rfl, rfl, rfl, _, rfl, by (repeat' first | exact trivial | exact rfl | exact ⟨rfl, rfl⟩ | exact .inl rfl | refine ⟨_, rfl, rfl, rfl, ?_⟩ | refine ⟨_, _, rfl, ?_, ?_⟩ | refine ⟨_, rfl, ?_⟩ | refine And.intro ?_ ?_)⟩, trivial⟩ rfl, by show rest.length < s.length; omega⟩
    · simp only []; omega
    · exact g2.mono (by simp only []; omega)
    · simp only []; omega
    · exact g4
  · rw [if_neg hp, hs] at g4
    exact ⟨[], [], [], placeX (k + 1), ⟨6, [(4, dfO)]⟩, rfl, ⟨_, rfl, _, _, rfl, rfl, rfl⟩, ⟨⟨_, hd, rfl, rfl, rfl⟩, trivial⟩, hno (k + 1) g4.symm⟩
  · rw [if_neg hp, hs] at g4
    refine ⟨((k + 1 : Nat) : Int) + 1, wrap_i64 (by omega) (by omega), ?_⟩
    refine ⟨(true, n', (k + 1), k + 1, rest), ⟨?_, ?_, ?_, ?_⟩, ent_of [] [] [] rfl ⟨⟨rfl, _, _, rfl, rfl, rfl⟩, ⟨rfl, rfl⟩, congrArg (fun m : Int => i64 m) (show ((k + 1 : Nat) : Int) + 1 = ((k + 1 + 1 : Nat) : Int) by omega), trivial⟩ ⟨⟨_, rfl, rfl, rfl, rfl⟩, ⟨_, rfl, rfl, rfl, _, rfl, seeLL_self n' 7 7 rfl⟩, ⟨_, rfl, rfl, rfl, rfl, rfl, rfl⟩, ⟨_, rfl, rfl, rfl, rfl⟩, ⟨_, rfl, rfl, rfl, _, rfl, by (repeat' first | exact trivial | exact rfl | exact ⟨rfl, rfl⟩ | exact .inl rfl | refine ⟨_, rfl, rfl, rfl, ?_⟩ | refine ⟨_, _, rfl, ?_, ?_⟩ | refine ⟨_, rfl, ?_⟩ | refine And.intro ?_ ?_)⟩, ⟨_, rfl, rfl, rfl, _, rfl, by (repeat' first | exact trivial | exact rfl | exact ⟨rfl, rfl⟩ | exact .inl rfl | refine ⟨_, rfl, rfl, rfl, ?_⟩ | refine ⟨_, _, rfl, ?_, ?_⟩ | refine ⟨_, rfl, ?_⟩ | refine And.intro ?_ ?_)⟩, ⟨_, rfl, rfl, rfl, _, rfl, by (repeat' first | exact trivial | exact rfl | exact ⟨rfl, rfl⟩ | exact .inl rfl | refine ⟨_, rfl, rfl, rfl, ?_⟩ | refine ⟨_, _, rfl, ?_, ?_⟩ | refine ⟨_, rfl, ?_⟩ | refine And.intro ?_ ?_)⟩, ⟨_, rfl, rfl, rfl, _, rfl, by (repeat' first | exact trivial | exact rfl | exact ⟨rfl, rfl⟩ | exact .inl rfl | refine ⟨_, rfl, rfl, rfl, ?_⟩ | refine ⟨_, _, rfl, ?_, ?_⟩ | refine ⟨_, rfl, ?_⟩ | refine And.intro ?_ ?_)⟩, trivial⟩ rfl, by show rest.length < s.length; omega⟩
    · simp only []; omega
    · exact step_ok g2 w1 hs
    · simp only []; omega
    · exact g4
  · rw [if_neg hp, hs] at g4
    subst hX
    refine ⟨((k + 1 : Nat) : Int) + 1, wrap_i64 (by omega) (by omega), ?_⟩
    refine ⟨(true, n', (k + 1), k + 1, rest), ⟨?_, ?_, ?_, ?_⟩, ent_of [] [(6, 8), (7, 9)] [] rfl ⟨⟨rfl, _, _, rfl, rfl, rfl⟩, ⟨rfl, rfl⟩, congrArg (fun m : Int => i64 m) (show ((k + 1 : Nat) : Int) + 1 = ((k + 1 + 1 : Nat) : Int) by omega), trivial⟩ ⟨⟨_, rfl, rfl, rfl, rfl⟩, ⟨_, rfl, rfl, rfl, _, rfl, seeLL_self n' 9 7 rfl⟩, ⟨_, rfl, rfl, rfl, rfl, rfl, rfl⟩, ⟨_, rfl, rfl, rfl, rfl⟩, ⟨_, rfl, rfl, rfl, _, rfl, by (repeat' first | exact trivial | exact rfl | exact ⟨rfl, rfl⟩ | exact .inl rfl | refine ⟨_, rfl, rfl, rfl, ?_⟩ | refine ⟨_, _, rfl, ?_, ?_⟩ | refine ⟨_, rfl, ?_⟩ | refine And.intro ?_ ?_)⟩, ⟨_, rfl, rfl, rfl, _, rfl, by (repeat' first | exact trivial | exact rfl | exact ⟨rfl, rfl⟩ | exact .inl rfl | refine ⟨_, rfl, rfl, rfl, ?_⟩ | refine ⟨_, _, rfl, ?_, ?_⟩ | refine ⟨_, rfl, ?_⟩ | refine And.intro ?_ ?_)⟩, ⟨_, rfl, rfl, rfl, _, rfl, by (repeat' first | exact trivial | exact rfl | exact ⟨rfl, rfl⟩ | exact .inl rfl | refine ⟨_, rfl, rfl, rfl, ?_⟩ | refine ⟨_, _, rfl, ?_, ?_⟩ | refine ⟨_, rfl, ?_⟩ | refine And.intro ?_ ?_)⟩, ⟨_, rfl, rfl, rfl, _, rfl, by (repeat' first | exact trivial | exact rfl | exact ⟨rfl, rfl⟩ | exact .inl rfl | refine ⟨_, rfl, rfl, rfl, ?_⟩ | refine ⟨_, _, rfl, ?_, ?_⟩ | refine ⟨_, rfl, ?_⟩ | refine And.intro ?_ ?_)⟩, trivial⟩ rfl, by show rest.length < s.length; omega⟩
    · simp only []; omega
    · exact step_ok g2 w1 hs
    · simp only []; omega
    · exact g4
  · rw [if_neg hp, hs] at g4
    subst hX hm
    refine ⟨((k + 1 : Nat) : Int) + 1, wrap_i64 (by omega) (by omega), ?_⟩
    refine ⟨(true, n', (k + 1), k + 1, rest), ⟨?_, ?_, ?_, ?_⟩, ent_of [] [(7, 9)] [] rfl ⟨⟨rfl, _, _, rfl, rfl, rfl⟩, ⟨rfl, rfl⟩, congrArg (fun m : Int => i64 m) (show ((k + 1 : Nat) : Int) + 1 = ((k + 1 + 1 : Nat) : Int) by omega), trivial⟩ ⟨⟨_, rfl, rfl, rfl, rfl⟩, ⟨_, rfl, rfl, rfl, _, rfl, seeLL_self n' 9 7 rfl⟩, ⟨_, rfl, rfl, rfl, rfl, rfl, rfl⟩, ⟨_, rfl, rfl, rfl, rfl⟩, ⟨_, rfl, rfl, rfl, _, rfl, by (repeat' first | exact trivial | exact rfl | exact ⟨rfl, rfl⟩ | exact .inl rfl | refine ⟨_, rfl, rfl, rfl, ?_⟩ | refine ⟨_, _, rfl, ?_, ?_⟩ | refine ⟨_, rfl, ?_⟩ | refine And.intro ?_ ?_)⟩, ⟨_, rfl, rfl, rfl, _, rfl, by (repeat' first | exact trivial | exact rfl | exact ⟨rfl, rfl⟩ | exact .inl rfl | refine ⟨_, rfl, rfl, rfl, ?_⟩ | refine ⟨_, _, rfl, ?_, ?_⟩ | refine ⟨_, rfl, ?_⟩ | refine And.intro ?_ ?_)⟩, ⟨_, rfl, rfl, rfl, _, rfl, by (repeat' first | exact trivial | exact rfl | exact ⟨rfl, rfl⟩ | exact .inl rfl | refine ⟨_, rfl, rfl, rfl, ?_⟩ | refine ⟨_, _, rfl, ?_, ?_⟩ | refine ⟨_, rfl, ?_⟩ | refine And.intro ?_ ?_)⟩, ⟨_, rfl, rfl, rfl, _, rfl, by (repeat' first | exact trivial | exact rfl | exact ⟨rfl, rfl⟩ | exact .inl rfl | refine ⟨_, rfl, rfl, rfl, ?_⟩ | refine ⟨_, _, rfl, ?_, ?_⟩ | refine ⟨_, rfl, ?_⟩ | refine And.intro ?_ ?_)⟩, trivial⟩ rfl, by show rest.length < s.length; omega⟩
    · simp only []; omega
    · exact step_ok g2 w1 hs
    · simp only []; omega
    · exact g4
end Go.Proofs.YtphmmoloegjocaaDoor

/- The program's line reader: read. -/
namespace Go.Proofs.YtphmmoloegjocaaDoor
open Go Y
set_option maxRecDepth 100000
set_option maxHeartbeats 40000000

theorem renL_p (ρ : Nat → Nat) : ∀ l : List PV, renL ρ (l.map .p) = l.map .p
  | [] => rfl
  | x :: l => by rw [List.map_cons, renL, renL_p ρ l]; rfl
theorem renLL_p (ρ : Nat → Nat) : ∀ l : List (List PV), renLL ρ (mapsP l) = mapsP l
  | [] => rfl
  | x :: l => by rw [mapsP, renLL, renL_p, renLL_p ρ l]
theorem renLL_app (ρ : Nat → Nat) : ∀ a b : List (List AV), renLL ρ (a ++ b) = renLL ρ a ++ renLL ρ b
  | [], b => rfl
  | x :: a, b => by rw [List.cons_append, renLL, renLL_app ρ a b]; rfl
theorem ren_rows (ρ : Nat → Nat) (n : Ns) (r : Nat) : renLL ρ (n.rows r) = n.rows (ρ r) := by
  obtain ⟨g, i, l⟩ := n
  rw [Ns.rows, renLL_app, renLL_p]
  cases l <;> rfl
theorem row_put (n : Ns) {x : Nd} (hx : n.last = some x) (v : List Int) (ρ : Nat → Nat) (r r' : Nat) : (renLL ρ (n.rows r)).set (n.len - 1) [.p (i64 x.card), .p (ints x.parents), .sl r' 1 0 (x.rows.length + 1)] = Ns.rows ⟨n.g, n.init, some { x with rows := x.rows ++ [v] }⟩ r' := by
  have hnl : n.len = n.init.length + 1 := by rw [Ns.len, hx]
  rw [ren_rows, hnl, Nat.add_sub_cancel, rows_put n _ hx, Ns.rows, lastC, snoc_len]
def lineR (t : List UInt8) : Sum Nat (Bool × Ns) := runL true ns0 0 (linesN t)
/-- What reading ends with. -/
def readQ (r : Sum Nat (Bool × Ns)) (e : AE) (H' : Hp) : Prop := match r with
  | .inl k => e = placeX k ∧ H' = ⟨1, []⟩
  | .inr (true, _) => e = placeX 0 ∧ H' = ⟨1, []⟩
  | .inr (false, n) => ∃ p, OkNs n 50000 ∧ e = .returned und ∧ H' = n.heapL p 1 2

theorem read_l (t0 : List UInt8) (ht : t0.length ≤ 50000) : HoldsG cx 111 [.ptr 0 0 0, .p (.str t0)] ⟨1, [(0, cmO TLn 0 (.p .nils) 0 [])]⟩ (readQ (lineR t0)) := by
  refine holdsN_of_vc Tryd.func111 rfl rfl rfl ?_
  refine (lines_h t0).useE [] [] rfl trivial ⟨_, _, rfl, rfl, rfl⟩ ?_
  refine range_of ?_
  intro σ' ps ac bd e1 e2 e3 e4
  refine iterL_c t0 ht _ σ' _ _ ps ac bd _ (fun b n p t hr hn => ?_) (fun k hr => ?_) ?_
  · have hR : lineR t0 = .inr (!b, n) := hr
    cases b
    · refine (fail_h TLn n.g (.sl 1 3 0 n.len) 0 []).holds.useN [] [(1, 6)] rfl (by (repeat' first | exact trivial | exact rfl | exact ⟨rfl, rfl⟩ | exact .inl rfl | refine ⟨_, rfl, rfl, rfl, ?_⟩ | refine ⟨_, _, rfl, ?_, ?_⟩ | refine ⟨_, rfl, ?_⟩ | refine And.intro ?_ ?_)) (by (repeat' first | exact trivial | exact rfl | exact ⟨rfl, rfl⟩ | exact .inl rfl | refine ⟨_, rfl, rfl, rfl, ?_⟩ | refine ⟨_, _, rfl, ?_, ?_⟩ | refine ⟨_, rfl, ?_⟩ | refine And.intro ?_ ?_)) fun e0 H0 hq => ?_
      obtain ⟨rfl, rfl⟩ := hq
      refine ⟨rfl, ?_⟩
      exact ⟨[], [], [], placeX 0, ⟨1, []⟩, rfl, ⟨_, rfl, _, _, rfl, rfl, rfl⟩, trivial, by rw [hR]; exact ⟨rfl, rfl⟩⟩
    · exact ⟨[], [(1, 6), (2, 7)], [], .returned und, n.heapL p 1 2, rfl, by (repeat' first | exact trivial | exact rfl | exact ⟨rfl, rfl⟩ | exact .inl rfl | refine ⟨_, rfl, rfl, rfl, ?_⟩ | refine ⟨_, _, rfl, ?_, ?_⟩ | refine ⟨_, rfl, ?_⟩ | refine And.intro ?_ ?_), ⟨⟨_, rfl, rfl, rfl, rfl⟩, ⟨_, rfl, rfl, rfl, _, rfl, seeLL_self n 7 2 rfl⟩, ⟨_, rfl, rfl, rfl, _, rfl, by (repeat' first | exact trivial | exact rfl | exact ⟨rfl, rfl⟩ | exact .inl rfl | refine ⟨_, rfl, rfl, rfl, ?_⟩ | refine ⟨_, _, rfl, ?_, ?_⟩ | refine ⟨_, rfl, ?_⟩ | refine And.intro ?_ ?_)⟩, trivial⟩, by rw [hR]; exact ⟨p, hn, rfl, rfl⟩⟩
  · have hR : lineR t0 = .inl k := hr
    exact ⟨[], [], [], placeX k, ⟨1, []⟩, rfl, ⟨_, rfl, _, _, rfl, rfl, rfl⟩, trivial, by rw [hR]; exact ⟨rfl, rfl⟩⟩
  intro b n p k t line K g1 g2 g3 hl hS hE hA hB hC
  subst e1 e2 e3 e4
  have hlen := g1.len
  have hlast := g1.last
  have hno := g1.no
  cases b
  · obtain ⟨w1, w2⟩ := words_ok line hl
    have hF := fields_c line (by omega)
    refine round_of_vc rfl rfl rfl ?_
    refine hF.eq rfl ?_
    obtain ⟨ws, hws⟩ : ∃ ws, ws = wordsN line := ⟨_, rfl⟩
    rw [← hws] at w1 w2 hS hE hA hB hC
    rw [← hws]
    (first | refine brLt (fun h4 => ?_) (fun h4 => ?_) | refine brLe (fun h4 => ?_) (fun h4 => ?_) | refine brEq (fun h4 => ?_) (fun h4 => ?_))
    · have h4 : ((ws.map PV.str).length : Int) = 0 := h4
      rw [List.length_map] at h4
      have hnil : ws = [] := List.eq_nil_of_length_eq_zero (by omega)
      exact hS (by rw [passW, hnil]; rfl)
    have h4 : ¬ ((ws.map PV.str).length : Int) = 0 := h4
    rw [List.length_map] at h4
    have hpos : 0 < ws.length := by omega
    obtain ⟨_, hne⟩ := w2 _ (getD_memL [] hpos)
    have hp0 := List.length_pos_iff.2 hne
    have hnn : ¬ ws = [] := List.length_pos_iff.1 hpos
    refine ⟨_, ⟨by omega, .str (ws.getD 0 []), tcell hpos, rfl⟩, ?_⟩
    refine ⟨_, ⟨by omega, (ws.getD 0 []).getD 0 0, scan_at hp0, rfl⟩, ?_⟩
    (first | refine brLt (fun h5 => ?_) (fun h5 => ?_) | refine brLe (fun h5 => ?_) (fun h5 => ?_) | refine brEq (fun h5 => ?_) (fun h5 => ?_))
    · have h5 : (((ws.getD 0 []).getD 0 0).toNat : Int) = 59 := h5
      have h6 : (ws.getD 0 []).getD 0 0 = 59 := UInt8.toNat_inj.1 (by rw [show (59 : UInt8).toNat = 59 from rfl]; omega)
      exact hS (by rw [passW, decide_eq_true h6, Bool.or_true])
    have h5 : ¬ (((ws.getD 0 []).getD 0 0).toNat : Int) = 59 := h5
    have h6 : ¬ (ws.getD 0 []).getD 0 0 = 59 := fun e => h5 (by rw [e]; rfl)
    have hpass : ¬ passW ws = true := by rw [passW, decide_eq_false h6, decide_eq_false hnn]; decide
    have hSn : stepN (!false) n ws = if ws.length = 2 ∧ numB (ws.getD 1 []) = true ∧ ws.getD 0 [] = kNet then some { n with g := valN (ws.getD 1 []) } else none := by rw [stepN]; exact if_pos rfl
    refine ⟨_, ⟨by omega, .str (ws.getD 0 []), tcell hpos, rfl⟩, ?_⟩
    (first | refine brLt (fun h7 => ?_) (fun h7 => ?_) | refine brLe (fun h7 => ?_) (fun h7 => ?_) | refine brEq (fun h7 => ?_) (fun h7 => ?_))
    rotate_left
    · have h7 : ¬ ws.getD 0 [] = kNet := h7
      refine (fail_h TLn n.g (.sl 1 3 0 n.len) (k + 1) []).holds.useN [] [(1, 6)] rfl (by (repeat' first | exact trivial | exact rfl | exact ⟨rfl, rfl⟩ | exact .inl rfl | refine ⟨_, rfl, rfl, rfl, ?_⟩ | refine ⟨_, _, rfl, ?_, ?_⟩ | refine ⟨_, rfl, ?_⟩ | refine And.intro ?_ ?_)) (by (repeat' first | exact trivial | exact rfl | exact ⟨rfl, rfl⟩ | exact .inl rfl | refine ⟨_, rfl, rfl, rfl, ?_⟩ | refine ⟨_, _, rfl, ?_, ?_⟩ | refine ⟨_, rfl, ?_⟩ | refine And.intro ?_ ?_)) fun e0 H0 hq => ?_
      obtain ⟨rfl, rfl⟩ := hq
      refine ⟨rfl, ?_⟩
      exact hE hpass (by rw [hSn]; exact if_neg (fun h => h7 h.2.2)) _ rfl
    have h7 : ws.getD 0 [] = kNet := h7
    (first | refine brLt (fun h8 => ?_) (fun h8 => ?_) | refine brLe (fun h8 => ?_) (fun h8 => ?_) | refine brEq (fun h8 => ?_) (fun h8 => ?_))
    rotate_left
    · have h8 : ¬ ((ws.map PV.str).length : Int) = 2 := h8
      rw [List.length_map] at h8
      refine (fail_h TLn n.g (.sl 1 3 0 n.len) (k + 1) []).holds.useN [] [(1, 6)] rfl (by (repeat' first | exact trivial | exact rfl | exact ⟨rfl, rfl⟩ | exact .inl rfl | refine ⟨_, rfl, rfl, rfl, ?_⟩ | refine ⟨_, _, rfl, ?_, ?_⟩ | refine ⟨_, rfl, ?_⟩ | refine And.intro ?_ ?_)) (by (repeat' first | exact trivial | exact rfl | exact ⟨rfl, rfl⟩ | exact .inl rfl | refine ⟨_, rfl, rfl, rfl, ?_⟩ | refine ⟨_, _, rfl, ?_, ?_⟩ | refine ⟨_, rfl, ?_⟩ | refine And.intro ?_ ?_)) fun e0 H0 hq => ?_
      obtain ⟨rfl, rfl⟩ := hq
      refine ⟨rfl, ?_⟩
      exact hE hpass (by rw [hSn]; exact if_neg (fun h => h8 (by omega))) _ rfl
    have h8 : ((ws.map PV.str).length : Int) = 2 := h8
    rw [List.length_map] at h8
    have hw1 := (w2 _ (getD_memL [] (show 1 < ws.length by omega))).1
    have hN := num_h' TLn n.g (.sl 1 3 0 n.len) (k + 1) [] (self_sl (by omega)) (ws.getD 1 []) hw1
    refine VDraw.seq rfl ?_
    refine ⟨_, ⟨by omega, .str (ws.getD 1 []), tcell (by omega), rfl⟩, ?_⟩
    refine hN.holds.useN [] [(1, 6)] rfl (by (repeat' first | exact trivial | exact rfl | exact ⟨rfl, rfl⟩ | exact .inl rfl | refine ⟨_, rfl, rfl, rfl, ?_⟩ | refine ⟨_, _, rfl, ?_, ?_⟩ | refine ⟨_, rfl, ?_⟩ | refine And.intro ?_ ?_)) (by (repeat' first | exact trivial | exact rfl | exact ⟨rfl, rfl⟩ | exact .inl rfl | refine ⟨_, rfl, rfl, rfl, ?_⟩ | refine ⟨_, _, rfl, ?_, ?_⟩ | refine ⟨_, rfl, ?_⟩ | refine And.intro ?_ ?_)) fun e0 H0 hq => ?_
    obtain ⟨rfl, hq⟩ := hq
    by_cases hn : numB (ws.getD 1 []) = true
    · rw [if_pos hn] at hq
      subst hq
      refine ⟨rfl, ?_⟩
      refine ⟨by (repeat' first | exact trivial | exact rfl | exact ⟨rfl, rfl⟩ | exact .inl rfl | refine ⟨_, rfl, rfl, rfl, ?_⟩ | refine ⟨_, _, rfl, ?_, ?_⟩ | refine ⟨_, rfl, ?_⟩ | refine And.intro ?_ ?_), ?_⟩
      exact hA { n with g := valN (ws.getD 1 []) } hpass (by rw [hSn]; exact if_pos ⟨by omega, hn, h7⟩)
    · rw [if_neg hn] at hq
      subst hq
      refine ⟨rfl, ?_⟩
      exact hE hpass (by rw [hSn]; exact if_neg (fun h => hn h.2.1)) _ rfl
  · obtain ⟨w1, w2⟩ := words_ok line hl
    have hF := fields_c line (by omega)
    refine round_of_vc rfl rfl rfl ?_
    refine hF.eq rfl ?_
    obtain ⟨ws, hws⟩ : ∃ ws, ws = wordsN line := ⟨_, rfl⟩
    rw [← hws] at w1 w2 hS hE hA hB hC
    rw [← hws]
    (first | refine brLt (fun h4 => ?_) (fun h4 => ?_) | refine brLe (fun h4 => ?_) (fun h4 => ?_) | refine brEq (fun h4 => ?_) (fun h4 => ?_))
    · have h4 : ((ws.map PV.str).length : Int) = 0 := h4
      rw [List.length_map] at h4
      have hnil : ws = [] := List.eq_nil_of_length_eq_zero (by omega)
      exact hS (by rw [passW, hnil]; rfl)
    have h4 : ¬ ((ws.map PV.str).length : Int) = 0 := h4
    rw [List.length_map] at h4
    have hpos : 0 < ws.length := by omega
    obtain ⟨_, hne⟩ := w2 _ (getD_memL [] hpos)
    have hp0 := List.length_pos_iff.2 hne
    have hnn : ¬ ws = [] := List.length_pos_iff.1 hpos
    refine ⟨_, ⟨by omega, .str (ws.getD 0 []), tcell hpos, rfl⟩, ?_⟩
    refine ⟨_, ⟨by omega, (ws.getD 0 []).getD 0 0, scan_at hp0, rfl⟩, ?_⟩
    (first | refine brLt (fun h5 => ?_) (fun h5 => ?_) | refine brLe (fun h5 => ?_) (fun h5 => ?_) | refine brEq (fun h5 => ?_) (fun h5 => ?_))
    · have h5 : (((ws.getD 0 []).getD 0 0).toNat : Int) = 59 := h5
      have h6 : (ws.getD 0 []).getD 0 0 = 59 := UInt8.toNat_inj.1 (by rw [show (59 : UInt8).toNat = 59 from rfl]; omega)
      exact hS (by rw [passW, decide_eq_true h6, Bool.or_true])
    have h5 : ¬ (((ws.getD 0 []).getD 0 0).toNat : Int) = 59 := h5
    have h6 : ¬ (ws.getD 0 []).getD 0 0 = 59 := fun e => h5 (by rw [e]; rfl)
    have hpass : ¬ passW ws = true := by rw [passW, decide_eq_false h6, decide_eq_false hnn]; decide
    have hSn : stepN (!true) n ws = stepN false n ws := rfl
    rw [hSn] at hE hA hB hC
    refine ⟨_, ⟨by omega, .str (ws.getD 0 []), tcell hpos, rfl⟩, ?_⟩
    (first | refine brLt (fun h7 => ?_) (fun h7 => ?_) | refine brLe (fun h7 => ?_) (fun h7 => ?_) | refine brEq (fun h7 => ?_) (fun h7 => ?_))
    · have h7 : ws.getD 0 [] = kNode := h7
      have hcons : ws = kNode :: ws.drop 1 := by
        have := drop_cons (k := 0) [] hpos
        rw [List.drop_zero, h7] at this
        exact this
      have hN := node_l n (k + 1) (ws.drop 1) (by omega) (by rw [List.length_drop]; omega) (fun v hv => (w2 v (List.mem_of_mem_drop hv)).1)
      have hst : nodeLn n (ws.drop 1) = stepN false n ws := by rw [step_node, ← hcons]
      rw [hst] at hN
      refine VDraw.seq rfl ?_
      refine ⟨by show (0 : Int) ≤ 1 ∧ (1 : Int) ≤ ((ws.map PV.str).length : Nat); rw [List.length_map]; omega, ?_⟩
      refine hN.holds.useN [] [(1, 6), (2, 7)] rfl ⟨⟨_, rfl, rfl, rfl, rfl⟩, ⟨_, rfl, rfl, rfl, _, rfl, seeLL_self n 7 2 rfl⟩, ⟨_, rfl, rfl, rfl, _, rfl, by (repeat' first | exact trivial | exact rfl | exact ⟨rfl, rfl⟩ | exact .inl rfl | refine ⟨_, rfl, rfl, rfl, ?_⟩ | refine ⟨_, _, rfl, ?_, ?_⟩ | refine ⟨_, rfl, ?_⟩ | refine And.intro ?_ ?_)⟩, trivial⟩ ⟨_, _, rfl, ⟨rfl, rfl⟩, _, _, rfl, (by show PV.lst ((ws.drop 1).map PV.str) = PV.lst ((ws.map PV.str).drop 1); rw [List.map_drop]), rfl⟩ fun e0 H0 hq => ?_
      obtain ⟨S, hSS⟩ : ∃ S, S = stepN false n ws := ⟨_, rfl⟩
      rw [← hSS] at hq
      cases S with
      | none =>
        obtain ⟨rfl, rfl⟩ := hq
        refine ⟨rfl, ?_⟩
        exact hE hpass hSS.symm _ rfl
      | some n' =>
        obtain ⟨rfl, rfl⟩ := hq
        refine ⟨rfl, ?_⟩
        exact hB n' _ hpass hSS.symm (ren_rows _ n' 4)
    have h7 : ¬ ws.getD 0 [] = kNode := h7
    have hSr : stepN false n ws = if ws.getD 0 [] = kRow then (match n.last with
        | none => none
        | some x => if allB (ws.drop 1) = true ∧ 1 < ws.length then some ⟨n.g, n.init, some { x with rows := x.rows ++ [(ws.drop 1).map valN] }⟩ else none) else none := by
      rw [stepN, if_neg (by decide), if_neg h7] <;> rfl
    refine ⟨_, ⟨by omega, .str (ws.getD 0 []), tcell hpos, rfl⟩, ?_⟩
    (first | refine brLt (fun h8 => ?_) (fun h8 => ?_) | refine brLe (fun h8 => ?_) (fun h8 => ?_) | refine brEq (fun h8 => ?_) (fun h8 => ?_))
    rotate_left
    · have h8 : ¬ ws.getD 0 [] = kRow := h8
      refine (fail_h TLn n.g (.sl 1 3 0 n.len) (k + 1) []).holds.useN [] [(1, 6)] rfl (by (repeat' first | exact trivial | exact rfl | exact ⟨rfl, rfl⟩ | exact .inl rfl | refine ⟨_, rfl, rfl, rfl, ?_⟩ | refine ⟨_, _, rfl, ?_, ?_⟩ | refine ⟨_, rfl, ?_⟩ | refine And.intro ?_ ?_)) (by (repeat' first | exact trivial | exact rfl | exact ⟨rfl, rfl⟩ | exact .inl rfl | refine ⟨_, rfl, rfl, rfl, ?_⟩ | refine ⟨_, _, rfl, ?_, ?_⟩ | refine ⟨_, rfl, ?_⟩ | refine And.intro ?_ ?_)) fun e0 H0 hq => ?_
      obtain ⟨rfl, rfl⟩ := hq
      refine ⟨rfl, ?_⟩
      exact hE hpass (by rw [hSr]; exact if_neg h8) _ rfl
    have h8 : ws.getD 0 [] = kRow := h8
    rw [if_pos h8] at hSr
    (first | refine brLt (fun h9 => ?_) (fun h9 => ?_) | refine brLe (fun h9 => ?_) (fun h9 => ?_) | refine brEq (fun h9 => ?_) (fun h9 => ?_))
    rotate_left
    · have h9 : ¬ (1 : Int) < ((ws.map PV.str).length : Nat) := h9
      rw [List.length_map] at h9
      refine (fail_h TLn n.g (.sl 1 3 0 n.len) (k + 1) []).holds.useN [] [(1, 6)] rfl (by (repeat' first | exact trivial | exact rfl | exact ⟨rfl, rfl⟩ | exact .inl rfl | refine ⟨_, rfl, rfl, rfl, ?_⟩ | refine ⟨_, _, rfl, ?_, ?_⟩ | refine ⟨_, rfl, ?_⟩ | refine And.intro ?_ ?_)) (by (repeat' first | exact trivial | exact rfl | exact ⟨rfl, rfl⟩ | exact .inl rfl | refine ⟨_, rfl, rfl, rfl, ?_⟩ | refine ⟨_, _, rfl, ?_, ?_⟩ | refine ⟨_, rfl, ?_⟩ | refine And.intro ?_ ?_)) fun e0 H0 hq => ?_
      obtain ⟨rfl, rfl⟩ := hq
      refine ⟨rfl, ?_⟩
      exact hE hpass (by rw [hSr]; cases n.last with | none => rfl | some x => exact if_neg (fun h => by omega)) _ rfl
    have h9 : (1 : Int) < ((ws.map PV.str).length : Nat) := h9
    rw [List.length_map] at h9
    (first | refine brLt (fun h10 => ?_) (fun h10 => ?_) | refine brLe (fun h10 => ?_) (fun h10 => ?_) | refine brEq (fun h10 => ?_) (fun h10 => ?_))
    rotate_left
    · have h10 : ¬ (0 : Int) < ((n.len : Nat) : Int) := h10
      have hln : n.last = none := by
        cases e : n.last with
        | none => rfl
        | some x => rw [Ns.len, e] at h10; simp only [] at h10; omega
      refine (fail_h TLn n.g (.sl 1 3 0 n.len) (k + 1) []).holds.useN [] [(1, 6)] rfl (by (repeat' first | exact trivial | exact rfl | exact ⟨rfl, rfl⟩ | exact .inl rfl | refine ⟨_, rfl, rfl, rfl, ?_⟩ | refine ⟨_, _, rfl, ?_, ?_⟩ | refine ⟨_, rfl, ?_⟩ | refine And.intro ?_ ?_)) (by (repeat' first | exact trivial | exact rfl | exact ⟨rfl, rfl⟩ | exact .inl rfl | refine ⟨_, rfl, rfl, rfl, ?_⟩ | refine ⟨_, _, rfl, ?_, ?_⟩ | refine ⟨_, rfl, ?_⟩ | refine And.intro ?_ ?_)) fun e0 H0 hq => ?_
      obtain ⟨rfl, rfl⟩ := hq
      refine ⟨rfl, ?_⟩
      exact hE hpass (by rw [hSr, hln]) _ rfl
    have h10 : (0 : Int) < ((n.len : Nat) : Int) := h10
    obtain ⟨x, hx⟩ : ∃ x, n.last = some x := by
      cases e : n.last with
      | none => rw [Ns.len, e] at h10; have := hno e; rw [this] at h10; simp at h10
      | some x => exact ⟨x, rfl⟩
    rw [hx] at hSr
    have hSr : stepN false n ws = if allB (ws.drop 1) = true ∧ 1 < ws.length then some ⟨n.g, n.init, some { x with rows := x.rows ++ [(ws.drop 1).map valN] }⟩ else none := hSr
    have hnl : n.len = n.init.length + 1 := by rw [Ns.len, hx]
    have hX : ∀ ρ r, (renLL ρ (n.rows r))[n.len - 1]? = some [.p (i64 x.card), .p (ints x.parents), .sl (ρ r) 1 0 x.rows.length] := fun ρ r => by
      rw [ren_rows, hnl, Nat.add_sub_cancel]
      exact rows_at n (ρ r) hx
    have hrl : lastR n.last = x.rows := by rw [hx]; rfl
    rw [hrl] at hlast
    refine (last_l n (k + 1) (by omega) (by omega)).useE [] [(1, 6), (2, 7)] rfl ⟨⟨_, rfl, rfl, rfl, rfl⟩, ⟨_, rfl, rfl, rfl, _, rfl, seeLL_self n 7 2 rfl⟩, ⟨_, rfl, rfl, rfl, _, rfl, by (repeat' first | exact trivial | exact rfl | exact ⟨rfl, rfl⟩ | exact .inl rfl | refine ⟨_, rfl, rfl, rfl, ?_⟩ | refine ⟨_, _, rfl, ?_, ?_⟩ | refine ⟨_, rfl, ?_⟩ | refine And.intro ?_ ?_)⟩, trivial⟩ (by (repeat' first | exact trivial | exact rfl | exact ⟨rfl, rfl⟩ | exact .inl rfl | refine ⟨_, rfl, rfl, rfl, ?_⟩ | refine ⟨_, _, rfl, ?_, ?_⟩ | refine ⟨_, rfl, ?_⟩ | refine And.intro ?_ ?_)) ?_
    refine VDraw.seq rfl ?_
    refine ⟨_, ⟨_, hX _ _, rfl⟩, ?_⟩
    refine ⟨by show (0 : Int) ≤ 1 ∧ (1 : Int) ≤ ((ws.map PV.str).length : Nat); rw [List.length_map]; omega, ?_⟩
    have hM := numbers_p n.g n.len (k + 1) (ws.drop 1) (by rw [List.length_drop]; omega) (fun v hv => (w2 v (List.mem_of_mem_drop hv)).1)
    refine hM.holds.useN [] [(1, 6)] rfl (by (repeat' first | exact trivial | exact rfl | exact ⟨rfl, rfl⟩ | exact .inl rfl | refine ⟨_, rfl, rfl, rfl, ?_⟩ | refine ⟨_, _, rfl, ?_, ?_⟩ | refine ⟨_, rfl, ?_⟩ | refine And.intro ?_ ?_)) ⟨_, _, rfl, ⟨rfl, rfl⟩, _, _, rfl, (by show PV.lst ((ws.drop 1).map PV.str) = PV.lst ((ws.map PV.str).drop 1); rw [List.map_drop]), rfl⟩ fun e0 H0 hq => ?_
    rw [numsQ] at hq
    by_cases ha : allB (ws.drop 1) = true
    · rw [if_pos ha] at hq
      rw [if_pos ⟨ha, by omega⟩] at hSr
      obtain ⟨rfl, rfl⟩ := hq
      refine ⟨rfl, ?_⟩
      refine ⟨by (repeat' first | exact trivial | exact ⟨_, hX _ _, rfl⟩ | exact rfl | refine And.intro ?_ ?_), ?_⟩
      refine ⟨by (repeat' first | exact trivial | exact ⟨_, hX _ _, rfl⟩ | exact rfl | refine And.intro ?_ ?_), ?_⟩
      refine ⟨by show 0 + 1 ≤ 1; omega, [ints ((ws.drop 1).map valN)], rfl, ?_⟩
      refine ⟨by show 0 + x.rows.length ≤ ((lastR n.last).map ints).length; rw [hrl]; simp, x.rows.map ints, by show x.rows.map ints = (((lastR n.last).map ints).drop 0).take x.rows.length; rw [hrl]; exact takeAll (by simp), by show (x.rows.length + 1) * 24 ≤ 140737488355328; omega, (x.rows ++ [(ws.drop 1).map valN]).map ints, by simp, ?_⟩
      refine ⟨_, hX _ _, by show 2 + 1 ≤ 3; omega, ?_⟩
      refine hC ⟨n.g, n.init, some { x with rows := x.rows ++ [(ws.drop 1).map valN] }⟩ _ _ _ hpass hSr ?_ (by rw [hnl]; rfl)
      exact row_put n hx _ _ 2 9
    · rw [if_neg ha] at hq
      rw [if_neg (fun h => ha h.1)] at hSr
      obtain ⟨rfl, rfl⟩ := hq
      refine ⟨rfl, ?_⟩
      exact hE hpass hSr _ rfl
end Go.Proofs.YtphmmoloegjocaaDoor

/- The program's ReadLines. -/
namespace Go.Proofs.YtphmmoloegjocaaDoor
open Go Y
set_option maxRecDepth 100000
set_option maxHeartbeats 40000000

theorem rows_done' {L : List (Nat × AObj)} {d : Nat} (n : Ns) (r : Nat) (X : List (List AV)) (e : X = n.rows r) (h : lget L r = some { rO (lastR n.last) with fr := true }) : ResLL (Res L (d + 1)) ((X.drop 0).take n.len) (n.net.nodes.map Nd.cells) := by
  subst e
  exact rows_done n r h
theorem rows_len1 (n : Ns) (r : Nat) (X : List (List AV)) (e : X = n.rows r) : n.len ≤ X.length := by
  subst e
  rw [rows_len']; exact Nat.le_refl _
theorem line_v {s : List UInt8} (h : ¬ 40000 < s.length) : readLV s = match lineR s with
    | .inl k => [znV, i64 (k : Nat), i64 5]
    | .inr (true, _) => [znV, i64 0, i64 5]
    | .inr (false, n) => if validP n.net then [n.net.pv, i64 0, i64 0] else [znV, i64 0, i64 50] := by
  rw [readLV]; exact if_neg h
theorem read_nl (s : List UInt8) (hs : s.length ≤ 50000) : HoldsG cx 51 [.iface TPl (.ptr 0 0 0), .p (.str s)] ⟨1, [(0, cmO TLn 0 (.p .nils) 0 [])]⟩ fun e H' => e = .returned (.tup ((readLV s).map .p)) ∧ H' = ⟨1, []⟩ := by
  refine holdsN_of_vc Tryd.func51 rfl rfl rfl ?_
  (first | refine brLt (fun h0 => ?_) (fun h0 => ?_) | refine brLe (fun h0 => ?_) (fun h0 => ?_) | refine brEq (fun h0 => ?_) (fun h0 => ?_))
  · have h0 : (40000 : Int) < (s.length : Nat) := h0
    have e : readLV s = [znV, i64 0, i64 3] := by rw [readLV, if_pos (by omega)]
    exact ⟨[], [], [], .returned (.tup ([znV, i64 0, i64 3].map .p)), ⟨1, []⟩, rfl, ⟨_, rfl, _, rfl, _, _, rfl, rfl, _, _, rfl, rfl, _, _, rfl, rfl, rfl⟩, trivial, by rw [e], rfl⟩
  have h0 : ¬ (40000 : Int) < (s.length : Nat) := h0
  have hV := line_v (s := s) (by omega)
  refine ⟨111, none, .ptr 0 0 0, by kernel_rfl, rfl, ?_⟩
  refine (read_l s (by omega)).holds.useN [] [] rfl (by (repeat' first | exact trivial | exact rfl | exact ⟨rfl, rfl⟩ | exact .inl rfl | refine ⟨_, rfl, rfl, rfl, ?_⟩ | refine ⟨_, _, rfl, ?_, ?_⟩ | refine ⟨_, rfl, ?_⟩ | refine And.intro ?_ ?_)) (by (repeat' first | exact trivial | exact rfl | exact ⟨rfl, rfl⟩ | exact .inl rfl | refine ⟨_, rfl, rfl, rfl, ?_⟩ | refine ⟨_, _, rfl, ?_, ?_⟩ | refine ⟨_, rfl, ?_⟩ | refine And.intro ?_ ?_)) fun e0 H0 hq => ?_
  rcases hr : lineR s with k | ⟨b, n⟩
  · rw [hr] at hq hV
    obtain ⟨rfl, rfl⟩ := hq
    refine ⟨rfl, ?_⟩
    refine holdsD_rec Tryd.func63 rfl rfl rfl ?_
    refine ⟨[], [], [], .returned und, ⟨4, [(3, erO 5), (2, plO (k : Nat)), (1, znO)]⟩, rfl, by (repeat' first | exact trivial | exact rfl | exact ⟨rfl, rfl⟩ | exact .inl rfl | refine ⟨_, rfl, rfl, rfl, ?_⟩ | refine ⟨_, _, rfl, ?_, ?_⟩ | refine ⟨_, rfl, ?_⟩ | refine And.intro ?_ ?_), by (repeat' first | exact trivial | exact rfl | exact ⟨rfl, rfl⟩ | exact .inl rfl | refine ⟨_, rfl, rfl, rfl, ?_⟩ | refine ⟨_, _, rfl, ?_, ?_⟩ | refine ⟨_, rfl, ?_⟩ | refine And.intro ?_ ?_), ?_⟩
    exact ⟨[], [], [], .returned (.tup ([znV, i64 (k : Nat), i64 5].map .p)), ⟨1, []⟩, rfl, ⟨_, rfl, _, rfl, _, _, rfl, rfl, _, _, rfl, rfl, _, _, rfl, rfl, rfl⟩, trivial, by rw [hV], rfl⟩
  cases b
  rotate_left
  · rw [hr] at hq hV
    obtain ⟨rfl, rfl⟩ := hq
    refine ⟨rfl, ?_⟩
    refine holdsD_rec Tryd.func63 rfl rfl rfl ?_
    refine ⟨[], [], [], .returned und, ⟨4, [(3, erO 5), (2, plO 0), (1, znO)]⟩, rfl, by (repeat' first | exact trivial | exact rfl | exact ⟨rfl, rfl⟩ | exact .inl rfl | refine ⟨_, rfl, rfl, rfl, ?_⟩ | refine ⟨_, _, rfl, ?_, ?_⟩ | refine ⟨_, rfl, ?_⟩ | refine And.intro ?_ ?_), by (repeat' first | exact trivial | exact rfl | exact ⟨rfl, rfl⟩ | exact .inl rfl | refine ⟨_, rfl, rfl, rfl, ?_⟩ | refine ⟨_, _, rfl, ?_, ?_⟩ | refine ⟨_, rfl, ?_⟩ | refine And.intro ?_ ?_), ?_⟩
    exact ⟨[], [], [], .returned (.tup ([znV, i64 0, i64 5].map .p)), ⟨1, []⟩, rfl, ⟨_, rfl, _, rfl, _, _, rfl, rfl, _, _, rfl, rfl, _, _, rfl, rfl, rfl⟩, trivial, by rw [hV], rfl⟩
  rw [hr] at hq hV
  obtain ⟨p, hn, rfl, rfl⟩ := hq
  have hV : readLV s = if validP n.net then [n.net.pv, i64 0, i64 0] else [znV, i64 0, i64 50] := hV
  refine ⟨rfl, ?_⟩
  refine ⟨105, some 0, .ptr 0 0 0, by kernel_rfl, rfl, ?_⟩
  refine (result_h TLn n.g n.len p []).useE [] [(1, 4)] rfl (by (repeat' first | exact trivial | exact rfl | exact ⟨rfl, rfl⟩ | exact .inl rfl | refine ⟨_, rfl, rfl, rfl, ?_⟩ | refine ⟨_, _, rfl, ?_, ?_⟩ | refine ⟨_, rfl, ?_⟩ | refine And.intro ?_ ?_)) (by (repeat' first | exact trivial | exact rfl | exact ⟨rfl, rfl⟩ | exact .inl rfl | refine ⟨_, rfl, rfl, rfl, ?_⟩ | refine ⟨_, _, rfl, ?_, ?_⟩ | refine ⟨_, rfl, ?_⟩ | refine And.intro ?_ ?_)) ?_
  have hC := check_c n.net (hn.big (by omega))
  by_cases hv : validP n.net
  · rw [checkN, if_pos hv] at hC
    have hV : readLV s = [n.net.pv, i64 0, i64 0] := by rw [hV]; exact if_pos hv
    refine hC.uses [4, 5] rfl ⟨_, _, rfl, ⟨_, rfl, _, _, rfl, rfl, _, _, rfl, ⟨n.net.nodes.map Nd.cells, rfl, by rw [Nat.zero_add]; exact rows_len1 n 5 _ (ren_rows _ n 2), rows_done' n 5 _ (ren_rows _ n 2) rfl⟩, rfl⟩, rfl⟩ ?_
    (first | refine brLt (fun h1 => ?_) (fun h1 => ?_) | refine brLe (fun h1 => ?_) (fun h1 => ?_) | refine brEq (fun h1 => ?_) (fun h1 => ?_))
    rotate_left
    · have h1 : ¬ (0 : Int) = 0 := h1
      exact absurd rfl h1
    refine holdsD_rec Tryd.func63 rfl rfl rfl ?_
    refine ⟨[], [], [], .returned und, ⟨6, [(3, erO 0), (2, plO 0), (1, ntO n.net)]⟩, rfl, by (repeat' first | exact trivial | exact rfl | exact ⟨rfl, rfl⟩ | exact .inl rfl | refine ⟨_, rfl, rfl, rfl, ?_⟩ | refine ⟨_, _, rfl, ?_, ?_⟩ | refine ⟨_, rfl, ?_⟩ | refine And.intro ?_ ?_), ⟨⟨_, rfl, rfl, rfl, _, rfl, by (repeat' first | exact trivial | exact rfl | exact ⟨rfl, rfl⟩ | exact .inl rfl | refine ⟨_, rfl, rfl, rfl, ?_⟩ | refine ⟨_, _, rfl, ?_, ?_⟩ | refine ⟨_, rfl, ?_⟩ | refine And.intro ?_ ?_)⟩, ⟨_, rfl, rfl, rfl, _, rfl, by (repeat' first | exact trivial | exact rfl | exact ⟨rfl, rfl⟩ | exact .inl rfl | refine ⟨_, rfl, rfl, rfl, ?_⟩ | refine ⟨_, _, rfl, ?_, ?_⟩ | refine ⟨_, rfl, ?_⟩ | refine And.intro ?_ ?_)⟩, ⟨_, rfl, rfl, rfl, _, rfl, ⟨_, _, rfl, rfl, _, _, rfl, ⟨n.net.nodes.map Nd.cells, rfl, by rw [Nat.zero_add]; exact rows_len1 n 5 _ (ren_rows _ n 2), rows_done' n 5 _ (ren_rows _ n 2) rfl⟩, rfl⟩⟩, trivial⟩, ?_⟩
    exact ⟨[], [], [], .returned (.tup ([n.net.pv, i64 0, i64 0].map .p)), ⟨1, []⟩, rfl, ⟨_, rfl, _, rfl, _, _, rfl, rfl, _, _, rfl, rfl, _, _, rfl, rfl, rfl⟩, trivial, by rw [hV], rfl⟩
  · rw [checkN, if_neg hv] at hC
    have hV : readLV s = [znV, i64 0, i64 50] := by rw [hV]; exact if_neg hv
    refine hC.uses [4, 5] rfl ⟨_, _, rfl, ⟨_, rfl, _, _, rfl, rfl, _, _, rfl, ⟨n.net.nodes.map Nd.cells, rfl, by rw [Nat.zero_add]; exact rows_len1 n 5 _ (ren_rows _ n 2), rows_done' n 5 _ (ren_rows _ n 2) rfl⟩, rfl⟩, rfl⟩ ?_
    (first | refine brLt (fun h1 => ?_) (fun h1 => ?_) | refine brLe (fun h1 => ?_) (fun h1 => ?_) | refine brEq (fun h1 => ?_) (fun h1 => ?_))
    · have h1 : (50 : Int) = 0 := h1
      exact absurd h1 (by decide)
    refine holdsD_rec Tryd.func63 rfl rfl rfl ?_
    refine ⟨[], [], [], .returned und, ⟨6, [(3, erO 50), (2, plO 0), (1, znO)]⟩, rfl, by (repeat' first | exact trivial | exact rfl | exact ⟨rfl, rfl⟩ | exact .inl rfl | refine ⟨_, rfl, rfl, rfl, ?_⟩ | refine ⟨_, _, rfl, ?_, ?_⟩ | refine ⟨_, rfl, ?_⟩ | refine And.intro ?_ ?_), by (repeat' first | exact trivial | exact rfl | exact ⟨rfl, rfl⟩ | exact .inl rfl | refine ⟨_, rfl, rfl, rfl, ?_⟩ | refine ⟨_, _, rfl, ?_, ?_⟩ | refine ⟨_, rfl, ?_⟩ | refine And.intro ?_ ?_), ?_⟩
    exact ⟨[], [], [], .returned (.tup ([znV, i64 0, i64 50].map .p)), ⟨1, []⟩, rfl, ⟨_, rfl, _, rfl, _, _, rfl, rfl, _, _, rfl, rfl, _, _, rfl, rfl, rfl⟩, trivial, by rw [hV], rfl⟩
theorem readLines_p (s : List UInt8) (hs : s.length ≤ 50000) : Pure cx 34 [.str s] (· = .ret (readLV s)) := by
  refine pure_of_vc Tryd.func34 rfl rfl rfl ?_
  have hN := read_nl s hs
  rw [readL_res] at hN
  rw [readL_res]
  rcases hr : readLR s with ⟨p, e⟩ | n
  · rw [hr] at hN
    refine hN.useE [] [(0, 1)] rfl (by (repeat' first | exact trivial | exact rfl | exact ⟨rfl, rfl⟩ | exact .inl rfl | refine ⟨_, rfl, rfl, rfl, ?_⟩ | refine ⟨_, _, rfl, ?_, ?_⟩ | refine ⟨_, rfl, ?_⟩ | refine And.intro ?_ ?_)) (by (repeat' first | exact trivial | exact rfl | exact ⟨rfl, rfl⟩ | exact .inl rfl | refine ⟨_, rfl, rfl, rfl, ?_⟩ | refine ⟨_, _, rfl, ?_, ?_⟩ | refine ⟨_, rfl, ?_⟩ | refine And.intro ?_ ?_)) ?_
    exact end3 znV (i64 (p : Nat)) (i64 e) rfl rfl rfl rfl rfl
  · rw [hr] at hN
    refine hN.useE [] [(0, 1)] rfl (by (repeat' first | exact trivial | exact rfl | exact ⟨rfl, rfl⟩ | exact .inl rfl | refine ⟨_, rfl, rfl, rfl, ?_⟩ | refine ⟨_, _, rfl, ?_, ?_⟩ | refine ⟨_, rfl, ?_⟩ | refine And.intro ?_ ?_)) (by (repeat' first | exact trivial | exact rfl | exact ⟨rfl, rfl⟩ | exact .inl rfl | refine ⟨_, rfl, rfl, rfl, ?_⟩ | refine ⟨_, _, rfl, ?_, ?_⟩ | refine ⟨_, rfl, ?_⟩ | refine And.intro ?_ ?_)) ?_
    exact end3 n.pv (i64 0) (i64 0) rfl rfl rfl rfl rfl
end Go.Proofs.YtphmmoloegjocaaDoor

/- The program's Turn. -/
namespace Go.Proofs.YtphmmoloegjocaaDoor
open Go Y RowKit
set_option maxRecDepth 100000
set_option maxHeartbeats 40000000

theorem trim_c (s : List UInt8) (_hs : s.length ≤ 1000000) : Pure cx 32 [.str s, .str [32, 10]] (· = .ret [.str (Lib.trimLeftS s [32, 10])]) := by
  refine pure_below Tryd.func32 rfl rfl rfl fun Γ w args' hR hA => ?_
  simp only [List.map, VRL, VR, VP] at hA
  obtain ⟨a, as', rfl, rfl, b, bs', rfl, rfl, rfl⟩ := hA
  refine ⟨_, rfl, Any.strings_TrimLeft_laid Tryd.lays161 (by kernel_rfl) ⟨⟨s⟩⟩ ⟨⟨[32, 10]⟩⟩ w (by decide) (fun j b h => ?_)⟩
  have hm : b ∈ ([32, 10] : List UInt8) := List.mem_of_getElem? h
  simp only [List.mem_cons, List.not_mem_nil, or_false] at hm
  rcases hm with rfl | rfl <;> decide
theorem hasPre_c (s p : List UInt8) : Pure cx 31 [.str s, .str p] (· = .ret [.bool (Lib.hasPrefix s p)]) := by
  refine pure_below Tryd.func31 rfl rfl rfl fun Γ w args' hR hA => ?_
  simp only [List.map, VRL, VR, VP] at hA
  obtain ⟨a, as', rfl, rfl, b, bs', rfl, rfl, rfl⟩ := hA
  exact ⟨_, rfl, (Tryd.strings_HasPrefix ⟨⟨s⟩⟩ ⟨⟨p⟩⟩ w).mono fun e w' ⟨h1, h2⟩ => ⟨h1, h2 ▸ Below.refl _ _⟩⟩

theorem bl_fun : (fun b : UInt8 => ([32, 10] : List UInt8).contains b) = isBl := by
  funext b
  rw [isBl]
  by_cases h1 : b = 32
  · subst h1; rfl
  by_cases h2 : b = 10
  · subst h2; rfl
  have h3 : b.toNat ≠ 32 := fun e => h1 (UInt8.toNat_inj.1 e)
  have h4 : b.toNat ≠ 10 := fun e => h2 (UInt8.toNat_inj.1 e)
  simp [h1, h2, h3, h4]
theorem drop_nx (s : List UInt8) : s.drop (nx s 0) = s.dropWhile isBl := by
  rw [nx, scanF, List.drop_zero, Nat.zero_add]
  induction s with
  | nil => rfl
  | cons b r ih =>
    rw [List.takeWhile_cons, List.dropWhile_cons]
    split
    · simpa using ih
    · rfl
theorem tok_open (s : List UInt8) : Lib.hasPrefix (Lib.trimLeftS s [32, 10]) [40] = true ↔ tok s 0 = kOpen := by
  rw [Lib.trimLeftS, bl_fun, ← drop_nx, tok]
  have hle : nx s 0 ≤ s.length := (nx_le (Nat.zero_le _)).2
  rcases Nat.lt_or_ge (nx s 0) s.length with hlt | hge
  · obtain ⟨b, hb⟩ : ∃ b, b = s.getD (nx s 0) 0 := ⟨_, rfl⟩
    have hdr : s.drop (nx s 0) = b :: s.drop (nx s 0 + 1) := by rw [hb]; exact drop_cons 0 hlt
    have hte : nx s 0 < te s 0 := by
      rw [te]
      split
      · omega
      · rename_i h
        have : nx s 0 ≤ scanF isWd s (nx s 0) := Nat.le_add_right _ _
        omega
    constructor
    · intro h
      rw [hdr] at h
      have hb40 : b = 40 := by
        have h : ((40 : UInt8) == b && true) = true := h
        rw [Bool.and_true, beq_iff_eq] at h
        exact h.symm
      have hsc : scanF isWd s (nx s 0) = nx s 0 := by
        rw [scanF, hdr, hb40]; rfl
      have e : te s 0 = nx s 0 + 1 := by rw [te, if_pos ⟨hsc, hlt⟩]
      rw [e, hdr, hb40, Nat.add_sub_cancel_left]; rfl
    · intro h
      rw [hdr, show te s 0 - nx s 0 = (te s 0 - nx s 0 - 1) + 1 by omega, List.take_succ_cons] at h
      injection h with h1 h2
      rw [hdr, h1]; rfl
  · rw [List.drop_eq_nil_of_le (by omega)]
    constructor <;> intro h
    · cases h
    · simp at h
theorem valid_big {n : Nt} (h : validP n) : BigN n := by
  have hs := valid_sm h
  exact ⟨by have := hs.len; omega, fun x hx => by have := (hs.par x hx).2; omega, fun x hx => by have := (hs.rows x hx).2; omega, fun x hx r hr => by have := (hs.row x hx r hr).2.2; omega⟩
theorem turn_p (s : List UInt8) (hs : s.length ≤ 50000) : Pure cx 9 [.str s] (· = .ret (turnV s)) := by
  refine pure_of_vc Tryd.func9 rfl rfl rfl ?_
  have hL := readLines_p s hs
  rw [readL_res] at hL
  have hN := readNested_p s hs
  rw [readN_res] at hN
  have hP := hasPre_c (Lib.trimLeftS s [32, 10]) [40]
  refine (trim_c s (by omega)).eq rfl ?_
  by_cases h1 : tok s 0 = kOpen
  · rw [(tok_open s).2 h1] at hP
    refine hP.eq rfl ?_
    rcases hr : readNR s with ⟨p, e⟩ | n
    · rw [hr] at hN
      have hV : turnV s = [.str [], i64 e] := by
        rw [turnV]
        by_cases hl : s.length ≤ 40000
        · rw [if_pos ⟨hl, h1⟩, hr]
        · rw [if_neg (fun h => hl h.1)]
          rw [readNR, if_pos (by omega)] at hr
          rw [readLR, if_pos (by omega)]
          injection hr with hr
          injection hr with _ he
          rw [← he]
      have he := readN_err hr
      refine hN.eq rfl ?_
      (first | refine brLt (fun h2 => ?_) (fun h2 => ?_) | refine brLe (fun h2 => ?_) (fun h2 => ?_) | refine brEq (fun h2 => ?_) (fun h2 => ?_))
      · have h2 : e = 0 := h2
        omega
      · exact end2 (.str []) (i64 e) rfl rfl rfl (by rw [hV])
    · rw [hr] at hN
      have hl : s.length ≤ 40000 := by
        rcases Nat.lt_or_ge 40000 s.length with h | h
        · rw [readNR, if_pos h] at hr; cases hr
        · exact h
      have hv := readN_ok hr
      have hV : turnV s = [.str (byLines n), i64 0] := by rw [turnV, if_pos ⟨hl, h1⟩, hr]
      refine hN.eq rfl ?_
      (first | refine brLt (fun h2 => ?_) (fun h2 => ?_) | refine brLe (fun h2 => ?_) (fun h2 => ?_) | refine brEq (fun h2 => ?_) (fun h2 => ?_))
      rotate_left
      · have h2 : ¬ (0 : Int) = 0 := h2
        exact absurd rfl h2
      have hC := lines_c n (valid_big hv)
      rw [linesP, if_pos hv] at hC
      refine hC.eq rfl ?_
      exact end2 (.str (byLines n)) (i64 0) rfl rfl rfl (by rw [hV])
  · rw [Bool.eq_false_iff.2 (fun h => h1 ((tok_open s).1 h))] at hP
    refine hP.eq rfl ?_
    have hV : turnV s = match readLR s with
        | .inl (_, e) => [.str [], i64 e]
        | .inr n => [.str (nested n), i64 0] := by rw [turnV]; exact if_neg (fun h => h1 h.2)
    rcases hr : readLR s with ⟨p, e⟩ | n
    · rw [hr] at hL hV
      have he := readL_err hr
      refine hL.eq rfl ?_
      (first | refine brLt (fun h2 => ?_) (fun h2 => ?_) | refine brLe (fun h2 => ?_) (fun h2 => ?_) | refine brEq (fun h2 => ?_) (fun h2 => ?_))
      · have h2 : e = 0 := h2
        omega
      · exact end2 (.str []) (i64 e) rfl rfl rfl (by rw [hV])
    · rw [hr] at hL hV
      have hv := readL_ok hr
      refine hL.eq rfl ?_
      (first | refine brLt (fun h2 => ?_) (fun h2 => ?_) | refine brLe (fun h2 => ?_) (fun h2 => ?_) | refine brEq (fun h2 => ?_) (fun h2 => ?_))
      rotate_left
      · have h2 : ¬ (0 : Int) = 0 := h2
        exact absurd rfl h2
      have hC := nestedE_c n (valid_big hv)
      rw [nestedP, if_pos hv] at hC
      refine hC.eq rfl ?_
      exact end2 (.str (nested n)) (i64 0) rfl rfl rfl (by rw [hV])
end Go.Proofs.YtphmmoloegjocaaDoor

/- The statements' own functions: ints, equal. -/
namespace Go.Proofs.YtphmmoloegjocaaDoor
open Go Y
set_option maxRecDepth 100000
set_option maxHeartbeats 40000000

theorem ints_eq (a b : List Int) (ha : a.length ≤ 9223372036854775807) : Pure cx 52 [ints a, ints b] (· = .ret [.bool (decide (a = b))]) := by
  refine pure_of_vc Tryd.func52 rfl rfl rfl ?_
  (first | refine brLt (fun h1 => ?_) (fun h1 => ?_) | refine brLe (fun h1 => ?_) (fun h1 => ?_) | refine brEq (fun h1 => ?_) (fun h1 => ?_))
  rotate_left
  · have h1 : ¬ ((a.map i64).length : Int) = ((b.map i64).length : Nat) := h1
    rw [List.length_map, List.length_map] at h1
    refine end1 _ rfl rfl (retB ?_)
    rw [eq_comm, decide_eq_false_iff_not]
    rintro rfl
    exact h1 rfl
  have h1 : ((a.map i64).length : Int) = ((b.map i64).length : Nat) := h1
  rw [List.length_map, List.length_map] at h1
  have hl : a.length = b.length := by omega
  refine ⟨Nat, fun k => [(0, .p (ints a)), (1, .p (ints b)), (12, .p (i64 a.length)), (13, .p (i64 k))], fun _ => ⟨0, []⟩, fun k => k ≤ a.length ∧ a.take k = b.take k, fun k => a.length - k, ?_, ?_⟩
  · exact ⟨0, ⟨by omega, by simp⟩, ent0 rfl ⟨rfl, rfl, lenM i64 a, rfl, trivial⟩ trivial rfl⟩
  rintro k ⟨g1, g2⟩
  (first | refine brLt (fun h2 => ?_) (fun h2 => ?_) | refine brLe (fun h2 => ?_) (fun h2 => ?_) | refine brEq (fun h2 => ?_) (fun h2 => ?_))
  · have h2 : (k : Int) < (a.length : Nat) := h2
    refine VDraw.seq rfl ?_
    refine ⟨_, ⟨by omega, i64 (a.getD k 0), icell (by omega), rfl⟩, ?_⟩
    refine ⟨_, ⟨by omega, i64 (b.getD k 0), icell (by omega), rfl⟩, ?_⟩
    (first | refine brLt (fun h3 => ?_) (fun h3 => ?_) | refine brLe (fun h3 => ?_) (fun h3 => ?_) | refine brEq (fun h3 => ?_) (fun h3 => ?_))
    · have h3 : a.getD k 0 = b.getD k 0 := h3
      refine ⟨(k : Int) + 1, wrap_i64 (by omega) (by omega), k + 1, ⟨by omega, ?_⟩, ent0 rfl ⟨rfl, rfl, rfl, rfl, trivial⟩ trivial rfl, ?_⟩
      · rw [take_succ_getD 0 (by omega), take_succ_getD 0 (by omega), g2, h3]
      · show a.length - (k + 1) < a.length - k
        omega
    · have h3 : ¬ a.getD k 0 = b.getD k 0 := h3
      refine end1 _ rfl rfl (retB ?_)
      rw [eq_comm, decide_eq_false_iff_not]
      rintro rfl
      exact h3 rfl
  · have h2 : ¬ (k : Int) < (a.length : Nat) := h2
    refine end1 _ rfl rfl (retB ?_)
    rw [take_all (by omega), take_all (by omega)] at g2
    rw [eq_comm, decide_eq_true_iff]
    exact g2

noncomputable instance (n m : Nt) : Decidable (n = m) := Classical.propDecidable _
theorem nd_ext {x y : Nd} (h1 : x.card = y.card) (h2 : x.parents = y.parents) (h3 : x.rows = y.rows) : x = y := by
  obtain ⟨a, b, c⟩ := x
  obtain ⟨d, e, f⟩ := y
  simp only [] at h1 h2 h3
  rw [h1, h2, h3]
theorem nt_ext {n m : Nt} (h1 : n.grain = m.grain) (h2 : n.nodes = m.nodes) : n = m := by
  obtain ⟨a, b⟩ := n
  obtain ⟨d, e⟩ := m
  simp only [] at h1 h2
  rw [h1, h2]
theorem equal_c (n m : Nt) (hn : BigN n) : Pure cx 35 [n.pv, m.pv] (· = .ret [.bool (decide (n = m))]) := by
  refine pure_of_vc Tryd.func35 rfl rfl rfl ?_
  have hnl := hn.nodes
  (first | refine brLt (fun h1 => ?_) (fun h1 => ?_) | refine brLe (fun h1 => ?_) (fun h1 => ?_) | refine brEq (fun h1 => ?_) (fun h1 => ?_))
  rotate_left
  · have h1 : ¬ n.grain = m.grain := h1
    refine end1 (.bool false) rfl rfl (retB ?_)
    rw [eq_comm, decide_eq_false_iff_not]
    rintro rfl
    exact h1 rfl
  have h1 : n.grain = m.grain := h1
  (first | refine brLt (fun h2 => ?_) (fun h2 => ?_) | refine brLe (fun h2 => ?_) (fun h2 => ?_) | refine brEq (fun h2 => ?_) (fun h2 => ?_))
  rotate_left
  · have h2 : ¬ ((n.nodes.map Nd.cells).length : Int) = ((m.nodes.map Nd.cells).length : Nat) := h2
    refine end1 (.bool false) rfl rfl (retB ?_)
    rw [eq_comm, decide_eq_false_iff_not]
    rintro rfl
    exact h2 rfl
  have h2 : ((n.nodes.map Nd.cells).length : Int) = ((m.nodes.map Nd.cells).length : Nat) := h2
  rw [List.length_map, List.length_map] at h2
  refine ⟨Nat, fun k => [(2, .ptr 0 0 0), (3, .ptr 1 0 0), (25, .p (i64 n.nodes.length)), (26, .p (i64 k))], fun _ => ⟨2, [(1, ntO m), (0, ntO n)]⟩, fun k => k ≤ n.nodes.length ∧ n.nodes.take k = m.nodes.take k, fun k => n.nodes.length - k, ?_, ?_⟩
  · exact ⟨0, ⟨by omega, by simp⟩, ent_of [] [] [] rfl ⟨⟨rfl, rfl⟩, ⟨rfl, rfl⟩, lenM Nd.cells n.nodes, rfl, trivial⟩ (by (repeat' first | exact trivial | exact rfl | exact ⟨rfl, rfl⟩ | exact .inl rfl | refine ⟨_, rfl, rfl, rfl, ?_⟩ | refine ⟨_, _, rfl, ?_, ?_⟩ | refine ⟨_, rfl, ?_⟩ | refine And.intro ?_ ?_)) rfl⟩
  rintro k ⟨k1, k2⟩
  (first | refine brLt (fun h3 => ?_) (fun h3 => ?_) | refine brLe (fun h3 => ?_) (fun h3 => ?_) | refine brEq (fun h3 => ?_) (fun h3 => ?_))
  rotate_left
  · have h3 : ¬ (k : Int) < (n.nodes.length : Nat) := h3
    rw [take_all (by omega), take_all (by omega)] at k2
    exact end1 (.bool true) rfl rfl (retB (decide_eq_true (nt_ext h1 k2)).symm)
  have h3 : (k : Int) < (n.nodes.length : Nat) := h3
  have hk : k < n.nodes.length := by omega
  have hk' : k < m.nodes.length := by omega
  obtain ⟨x, hx⟩ : ∃ x, x = n.nodes.getD k nd0 := ⟨_, rfl⟩
  obtain ⟨y, hy⟩ : ∃ y, y = m.nodes.getD k nd0 := ⟨_, rfl⟩
  have hxm : x ∈ n.nodes := by rw [hx]; exact getD_memL nd0 hk
  have differ : ¬ x = y → ¬ n = m := fun h e => h (by rw [hx, hy, e])
  refine VDraw.altTo [(2, .ptr 0 0 0), (3, .ptr 1 0 0), (25, .p (i64 n.nodes.length)), (26, .p (i64 k)), (6, .ptr 2 0 0), (7, .ptr 3 0 0)] ⟨4, [(3, ndO y), (2, ndO x), (1, ntO m), (0, ntO n)]⟩ rfl ?_ ?_
  · refine ⟨_, ⟨by omega, x.cells, by rw [hx]; exact ncell hk, rfl⟩, ?_⟩
    refine ⟨_, ⟨by omega, y.cells, by rw [hy]; exact ncell hk', rfl⟩, ?_⟩
    refine And.intro ?_ ?_
    · refine ⟨by (repeat' first | exact trivial | exact rfl | exact ⟨rfl, rfl⟩ | exact .inl rfl | refine ⟨_, rfl, rfl, rfl, ?_⟩ | refine ⟨_, _, rfl, ?_, ?_⟩ | refine ⟨_, rfl, ?_⟩ | refine And.intro ?_ ?_), ?_⟩
      refine ⟨by (repeat' first | exact trivial | exact rfl | exact ⟨rfl, rfl⟩ | exact .inl rfl | refine ⟨_, rfl, rfl, rfl, ?_⟩ | refine ⟨_, _, rfl, ?_, ?_⟩ | refine ⟨_, rfl, ?_⟩ | refine And.intro ?_ ?_), ?_⟩
      refine ⟨by (repeat' first | exact trivial | exact rfl | exact ⟨rfl, rfl⟩ | exact .inl rfl | refine ⟨_, rfl, rfl, rfl, ?_⟩ | refine ⟨_, _, rfl, ?_, ?_⟩ | refine ⟨_, rfl, ?_⟩ | refine And.intro ?_ ?_), ?_⟩
      exact ent_of [] [] [] rfl (by (repeat' first | exact trivial | exact rfl | exact ⟨rfl, rfl⟩ | exact .inl rfl | refine ⟨_, rfl, rfl, rfl, ?_⟩ | refine ⟨_, _, rfl, ?_, ?_⟩ | refine ⟨_, rfl, ?_⟩ | refine And.intro ?_ ?_)) (by (repeat' first | exact trivial | exact rfl | exact ⟨rfl, rfl⟩ | exact .inl rfl | refine ⟨_, rfl, rfl, rfl, ?_⟩ | refine ⟨_, _, rfl, ?_, ?_⟩ | refine ⟨_, rfl, ?_⟩ | refine And.intro ?_ ?_)) rfl
    · refine ⟨by (repeat' first | exact trivial | exact rfl | exact ⟨rfl, rfl⟩ | exact .inl rfl | refine ⟨_, rfl, rfl, rfl, ?_⟩ | refine ⟨_, _, rfl, ?_, ?_⟩ | refine ⟨_, rfl, ?_⟩ | refine And.intro ?_ ?_), ?_⟩
      refine ⟨by (repeat' first | exact trivial | exact rfl | exact ⟨rfl, rfl⟩ | exact .inl rfl | refine ⟨_, rfl, rfl, rfl, ?_⟩ | refine ⟨_, _, rfl, ?_, ?_⟩ | refine ⟨_, rfl, ?_⟩ | refine And.intro ?_ ?_), ?_⟩
      refine ⟨by (repeat' first | exact trivial | exact rfl | exact ⟨rfl, rfl⟩ | exact .inl rfl | refine ⟨_, rfl, rfl, rfl, ?_⟩ | refine ⟨_, _, rfl, ?_, ?_⟩ | refine ⟨_, rfl, ?_⟩ | refine And.intro ?_ ?_), ?_⟩
      exact ent_of [] [(2, 3), (3, 2)] [] rfl (by (repeat' first | exact trivial | exact rfl | exact ⟨rfl, rfl⟩ | exact .inl rfl | refine ⟨_, rfl, rfl, rfl, ?_⟩ | refine ⟨_, _, rfl, ?_, ?_⟩ | refine ⟨_, rfl, ?_⟩ | refine And.intro ?_ ?_)) (by (repeat' first | exact trivial | exact rfl | exact ⟨rfl, rfl⟩ | exact .inl rfl | refine ⟨_, rfl, rfl, rfl, ?_⟩ | refine ⟨_, _, rfl, ?_, ?_⟩ | refine ⟨_, rfl, ?_⟩ | refine And.intro ?_ ?_)) rfl
  (first | refine brLt (fun h4 => ?_) (fun h4 => ?_) | refine brLe (fun h4 => ?_) (fun h4 => ?_) | refine brEq (fun h4 => ?_) (fun h4 => ?_))
  rotate_left
  · have h4 : ¬ x.card = y.card := h4
    refine end1 (.bool false) rfl rfl (retB ?_)
    rw [eq_comm, decide_eq_false_iff_not]
    exact differ fun e => h4 (by rw [e])
  have h4 : x.card = y.card := h4
  (first | refine brLt (fun h5 => ?_) (fun h5 => ?_) | refine brLe (fun h5 => ?_) (fun h5 => ?_) | refine brEq (fun h5 => ?_) (fun h5 => ?_))
  rotate_left
  · have h5 : ¬ ((x.rows.map ints).length : Int) = ((y.rows.map ints).length : Nat) := h5
    refine end1 (.bool false) rfl rfl (retB ?_)
    rw [eq_comm, decide_eq_false_iff_not]
    exact differ fun e => h5 (by rw [e])
  have h5 : ((x.rows.map ints).length : Int) = ((y.rows.map ints).length : Nat) := h5
  rw [List.length_map, List.length_map] at h5
  have hP := ints_eq x.parents y.parents (hn.par x hxm)
  by_cases h6 : x.parents = y.parents
  rotate_left
  · rw [decide_eq_false h6] at hP
    refine hP.eq rfl ?_
    refine end1 (.bool false) rfl rfl (retB ?_)
    rw [eq_comm, decide_eq_false_iff_not]
    exact differ fun e => h6 (by rw [e])
  rw [decide_eq_true h6] at hP
  refine hP.eq rfl ?_
  have hxr := hn.rows x hxm
  refine ⟨Nat, fun j => [(2, .ptr 0 0 0), (3, .ptr 1 0 0), (25, .p (i64 n.nodes.length)), (26, .p (i64 k)), (6, .ptr 2 0 0), (7, .ptr 3 0 0), (63, .p (i64 x.rows.length)), (64, .p (i64 j))], fun _ => ⟨4, [(3, ndO y), (2, ndO x), (1, ntO m), (0, ntO n)]⟩, fun j => j ≤ x.rows.length ∧ x.rows.take j = y.rows.take j, fun j => x.rows.length - j, ?_, ?_⟩
  · exact ⟨0, ⟨by omega, by simp⟩, ent_of [] [] [] rfl ⟨⟨rfl, rfl⟩, ⟨rfl, rfl⟩, rfl, rfl, ⟨rfl, rfl⟩, ⟨rfl, rfl⟩, lenM ints x.rows, rfl, trivial⟩ (by (repeat' first | exact trivial | exact rfl | exact ⟨rfl, rfl⟩ | exact .inl rfl | refine ⟨_, rfl, rfl, rfl, ?_⟩ | refine ⟨_, _, rfl, ?_, ?_⟩ | refine ⟨_, rfl, ?_⟩ | refine And.intro ?_ ?_)) rfl⟩
  rintro j ⟨j1, j2⟩
  (first | refine brLt (fun h7 => ?_) (fun h7 => ?_) | refine brLe (fun h7 => ?_) (fun h7 => ?_) | refine brEq (fun h7 => ?_) (fun h7 => ?_))
  rotate_left
  · have h7 : ¬ (j : Int) < (x.rows.length : Nat) := h7
    rw [take_all (by omega), take_all (by omega)] at j2
    refine ⟨(k : Int) + 1, wrap_i64 (by omega) (by omega), ?_⟩
    refine ⟨k + 1, ⟨by omega, ?_⟩, ent_of [] [] [] rfl (by (repeat' first | exact trivial | exact rfl | exact ⟨rfl, rfl⟩ | exact .inl rfl | refine ⟨_, rfl, rfl, rfl, ?_⟩ | refine ⟨_, _, rfl, ?_, ?_⟩ | refine ⟨_, rfl, ?_⟩ | refine And.intro ?_ ?_)) (by (repeat' first | exact trivial | exact rfl | exact ⟨rfl, rfl⟩ | exact .inl rfl | refine ⟨_, rfl, rfl, rfl, ?_⟩ | refine ⟨_, _, rfl, ?_, ?_⟩ | refine ⟨_, rfl, ?_⟩ | refine And.intro ?_ ?_)) rfl, by show n.nodes.length - (k + 1) < n.nodes.length - k; omega⟩
    rw [take_succ_getD nd0 hk, take_succ_getD nd0 hk', k2, ← hx, ← hy, nd_ext h4 h6 j2]
  have h7 : (j : Int) < (x.rows.length : Nat) := h7
  have hj : j < x.rows.length := by omega
  have hj' : j < y.rows.length := by omega
  have hrm := getD_memL [] hj
  refine VDraw.seq rfl ?_
  refine ⟨_, ⟨by omega, ints (x.rows.getD j []), ccell hj, rfl⟩, ?_⟩
  refine ⟨_, ⟨by omega, ints (y.rows.getD j []), ccell hj', rfl⟩, ?_⟩
  have hI := ints_eq (x.rows.getD j []) (y.rows.getD j []) (hn.row x hxm _ hrm)
  by_cases h8 : x.rows.getD j [] = y.rows.getD j []
  · rw [decide_eq_true h8] at hI
    refine hI.eq rfl ?_
    refine ⟨(j : Int) + 1, wrap_i64 (by omega) (by omega), ?_⟩
    refine ⟨j + 1, ⟨by omega, ?_⟩, ent_of [] [] [] rfl (by (repeat' first | exact trivial | exact rfl | exact ⟨rfl, rfl⟩ | exact .inl rfl | refine ⟨_, rfl, rfl, rfl, ?_⟩ | refine ⟨_, _, rfl, ?_, ?_⟩ | refine ⟨_, rfl, ?_⟩ | refine And.intro ?_ ?_)) (by (repeat' first | exact trivial | exact rfl | exact ⟨rfl, rfl⟩ | exact .inl rfl | refine ⟨_, rfl, rfl, rfl, ?_⟩ | refine ⟨_, _, rfl, ?_, ?_⟩ | refine ⟨_, rfl, ?_⟩ | refine And.intro ?_ ?_)) rfl, by show x.rows.length - (j + 1) < x.rows.length - j; omega⟩
    rw [take_succ_getD [] hj, take_succ_getD [] hj', j2, h8]
  · rw [decide_eq_false h8] at hI
    refine hI.eq rfl ?_
    refine end1 (.bool false) rfl rfl (retB ?_)
    rw [eq_comm, decide_eq_false_iff_not]
    exact differ fun e => h8 (by rw [e])
end Go.Proofs.YtphmmoloegjocaaDoor

/- The statements' own functions: lined, nested, badLine, badNest, reads. -/
namespace Go.Proofs.YtphmmoloegjocaaDoor
open Go Y
set_option maxRecDepth 100000
set_option maxHeartbeats 40000000

theorem lined_yes (t : List UInt8) (n : Nt) (ht : t.length ≤ 50000) (h : readLR t = .inr n) : Pure cx 10 [.str t, n.pv] (· = .ret [.bool true]) := by
  have hv := readL_ok h
  refine pure_of_vc Tryd.func10 rfl rfl rfl ?_
  have hR := readLines_p t ht
  rw [readL_res, h] at hR
  have hE := equal_c n n (valid_big hv)
  rw [decide_eq_true rfl] at hE
  refine hR.eq rfl ?_
  refine And.intro (fun _ => ?_) (fun h => absurd rfl h)
  refine And.intro (fun _ => ?_) (fun h => absurd rfl h)
  refine hE.eq rfl ?_
  exact end1 _ rfl rfl rfl
theorem nested_yes (t : List UInt8) (n : Nt) (ht : t.length ≤ 50000) (h : readNR t = .inr n) : Pure cx 14 [.str t, n.pv] (· = .ret [.bool true]) := by
  have hv := readN_ok h
  refine pure_of_vc Tryd.func14 rfl rfl rfl ?_
  have hR := readNested_p t ht
  rw [readN_res, h] at hR
  have hE := equal_c n n (valid_big hv)
  rw [decide_eq_true rfl] at hE
  refine hR.eq rfl ?_
  refine And.intro (fun _ => ?_) (fun h => absurd rfl h)
  refine And.intro (fun _ => ?_) (fun h => absurd rfl h)
  refine hE.eq rfl ?_
  exact end1 _ rfl rfl rfl
theorem badLine_yes (t : List UInt8) (p : Nat) (e : Int) (ht : t.length ≤ 50000) (h : readLR t = .inl (p, e)) : Pure cx 12 [.str t, i64 (p : Nat), i64 e] (· = .ret [.bool true]) := by
  refine pure_of_vc Tryd.func12 rfl rfl rfl ?_
  have hR := readLines_p t ht
  rw [readL_res, h] at hR
  refine hR.eq rfl ?_
  refine And.intro (fun _ => ?_) (fun h => absurd rfl h)
  refine And.intro (fun _ => ?_) (fun h => absurd rfl h)
  refine And.intro (fun _ => ?_) (fun h => absurd rfl h)
  refine And.intro (fun _ => ?_) (fun h => absurd rfl h)
  exact end1 _ rfl rfl rfl
theorem badNest_yes (t : List UInt8) (p : Nat) (e : Int) (ht : t.length ≤ 50000) (h : readNR t = .inl (p, e)) : Pure cx 13 [.str t, i64 (p : Nat), i64 e] (· = .ret [.bool true]) := by
  refine pure_of_vc Tryd.func13 rfl rfl rfl ?_
  have hR := readNested_p t ht
  rw [readN_res, h] at hR
  refine hR.eq rfl ?_
  refine And.intro (fun _ => ?_) (fun h => absurd rfl h)
  refine And.intro (fun _ => ?_) (fun h => absurd rfl h)
  refine And.intro (fun _ => ?_) (fun h => absurd rfl h)
  refine And.intro (fun _ => ?_) (fun h => absurd rfl h)
  exact end1 _ rfl rfl rfl

end Go.Proofs.YtphmmoloegjocaaDoor

/- The chapter's examples (plain). Printed by gen/works41.py. -/
namespace Go.Proofs.YtphmmoloegjocaaDoor
open Go Y
set_option maxRecDepth 100000
set_option maxHeartbeats 4000000

def exOne : Nt := ⟨4, [⟨2, [], [[1, 3]]⟩]⟩
def exTwo : Nt := ⟨4, [⟨2, [], [[1, 3]]⟩, ⟨2, [0], [[4, 0], [2, 2]]⟩]⟩
theorem valid_one : validP exOne := by
  refine ⟨by decide, by decide, by unfold okCard; decide, by unfold placedP listP; decide, by decide, ⟨fun v => v, ?_⟩, ?_⟩
  · show ∀ v, v < 1 → ∀ p, p < 1 → (parAt [0] v).testBit p = true → p < v
    decide
  · show ∀ v, v < 1 → nodeP exOne v
    unfold nodeP rowP
    decide
theorem valid_two : validP exTwo := by
  refine ⟨by decide, by decide, by unfold okCard; decide, by unfold placedP listP; decide, by decide, ⟨fun v => v, ?_⟩, ?_⟩
  · show ∀ v, v < 2 → ∀ p, p < 2 → (parAt [0, 1] v).testBit p = true → p < v
    decide
  · show ∀ v, v < 2 → nodeP exTwo v
    unfold nodeP rowP
    decide
theorem line_ok {t : List UInt8} {n : Ns} (h : t.length ≤ 40000) (e : runL true ns0 0 (linesN t) = .inr (false, n)) (hv : validP n.net) : readLR t = .inr n.net := by
  rw [readLR, if_neg (by omega), e]
  exact if_pos hv
theorem line_no {t : List UInt8} {k : Nat} (h : t.length ≤ 40000) (e : runL true ns0 0 (linesN t) = .inl k) : readLR t = .inl (k, 5) := by
  rw [readLR, if_neg (by omega), e]
theorem line_none {t : List UInt8} {n : Ns} (h : t.length ≤ 40000) (e : runL true ns0 0 (linesN t) = .inr (true, n)) : readLR t = .inl (0, 5) := by
  rw [readLR, if_neg (by omega), e]
theorem line_inv {t : List UInt8} {n : Ns} (h : t.length ≤ 40000) (e : runL true ns0 0 (linesN t) = .inr (false, n)) (hv : ¬ validP n.net) : readLR t = .inl (0, 50) := by
  rw [readLR, if_neg (by omega), e]
  exact if_neg hv
theorem nest_ok {t : List UInt8} {n : Nt} {q : Nat} (h : t.length ≤ 40000) (e : netP t (t.length + 1) = .inr (n, q)) (hv : validP n) : readNR t = .inr n := by
  rw [readNR, if_neg (by omega), e]
  exact if_pos hv
theorem nest_no {t : List UInt8} {k : Nat} (h : t.length ≤ 40000) (e : netP t (t.length + 1) = .inl k) : readNR t = .inl (k, 5) := by
  rw [readNR, if_neg (by omega), e]
theorem nest_inv {t : List UInt8} {n : Nt} {q : Nat} (h : t.length ≤ 40000) (e : netP t (t.length + 1) = .inr (n, q)) (hv : ¬ validP n) : readNR t = .inl (0, 50) := by
  rw [readNR, if_neg (by omega), e]
  exact if_neg hv

def exL : List UInt8 := [110, 101, 116, 32, 52, 10, 110, 111, 100, 101, 32, 50, 10, 114, 111, 119, 32, 49, 32, 51, 10, 110, 111, 100, 101, 32, 50, 32, 102, 114, 111, 109, 32, 48, 10, 114, 111, 119, 32, 52, 32, 48, 10, 114, 111, 119, 32, 50, 32, 50, 10]
def exN : List UInt8 := [40, 110, 101, 116, 32, 52, 32, 40, 110, 111, 100, 101, 32, 50, 32, 40, 41, 32, 40, 49, 32, 51, 41, 41, 32, 40, 110, 111, 100, 101, 32, 50, 32, 40, 48, 41, 32, 40, 52, 32, 48, 41, 32, 40, 50, 32, 50, 41, 41, 41]
theorem ex_lines : byLines exTwo = exL := by decide
theorem ex_nested : nested exTwo = exN := by decide
theorem ex_l1 : readLR [110, 101, 116, 32, 52, 10, 32, 32, 59, 32, 120, 10, 110, 111, 100, 101, 32, 32, 50, 32, 10, 114, 111, 119, 32, 49, 32, 51] = .inr exOne := line_ok (n := ⟨4, [], some ⟨2, [], [[1, 3]]⟩⟩) (by decide) (by rfl) valid_one
theorem ex_l2 : readLR [110, 101, 116, 32, 52, 10, 114, 111, 119, 32, 49] = .inl (2, 5) := line_no (by decide) (by rfl)
theorem ex_l3 : readLR [110, 101, 116, 32, 48, 52] = .inl (1, 5) := line_no (by decide) (by rfl)
theorem ex_l4 : readLR [] = .inl (0, 5) := line_none (n := ns0) (by decide) (by rfl)
theorem ex_l5 : readLR [110, 101, 116, 32, 52] = .inl (0, 50) := line_inv (n := ⟨4, [], none⟩) (by decide) (by rfl) (fun h => absurd h.len.1 (by decide))
theorem ex_l6 : readLR [120] = .inl (1, 5) := line_no (by decide) (by rfl)
theorem ex_n0 : readNR exN = .inr exTwo := nest_ok (q := 50) (by decide) (by rfl) valid_two
theorem ex_n1 : readNR [40, 110, 101, 116, 32, 52, 40, 110, 111, 100, 101, 32, 50, 40, 41, 40, 49, 32, 51, 41, 41, 41] = .inr exOne := nest_ok (q := 22) (by decide) (by rfl) valid_one
theorem ex_n2 : readNR [40, 110, 101, 116, 32, 52, 32, 40, 110, 111, 100, 101, 32, 50, 32, 40, 41, 32, 40, 41, 41, 41] = .inl (19, 5) := nest_no (by decide) (by rfl)
theorem ex_n3 : readNR [40, 110, 101, 116, 52, 41] = .inl (1, 5) := nest_no (by decide) (by rfl)
theorem ex_n4 : readNR [40, 110, 101, 116, 32, 52] = .inl (6, 5) := nest_no (by decide) (by rfl)
theorem ex_t1 : turnV exN = [.str exL, i64 0] := by
  rw [turnV, if_pos ⟨by decide, by rfl⟩, ex_n0, ← ex_lines]
theorem ex_t2 : turnV [120] = [.str [], i64 5] := by
  rw [turnV, if_neg (fun h => absurd h.2 (by decide)), ex_l6]
end Go.Proofs.YtphmmoloegjocaaDoor

/- The chapter's examples: works. -/
namespace Go.Proofs.YtphmmoloegjocaaDoor
open Go Y
set_option maxRecDepth 100000
set_option maxHeartbeats 40000000

theorem two_c : Pure cx 11 [] (· = .ret [exTwo.pv]) := by
  refine pure_of_vc Tryd.func11 rfl rfl rfl ?_
  refine end1 exTwo.pv rfl ⟨_, rfl, _, _, rfl, rfl, _, _, rfl, ?_, rfl⟩ rfl
  refine ⟨_, rfl, by decide, ⟨_, _, rfl, ⟨_, _, rfl, rfl, _, _, rfl, .inr (.inl rfl), _, _, rfl, ?_, rfl⟩, _, _, rfl, ⟨_, _, rfl, rfl, _, _, rfl, ?_, _, _, rfl, ?_, rfl⟩, rfl⟩⟩
  · exact ⟨_, _, rfl, rfl, _, _, rfl, ⟨_, rfl, by decide, rfl⟩, rfl⟩
  · exact ⟨_, rfl, by decide, rfl⟩
  · exact ⟨_, _, rfl, rfl, _, _, rfl, ⟨_, rfl, by decide, rfl⟩, _, _, rfl, ⟨_, rfl, by decide, rfl⟩, rfl⟩
theorem one_c : Pure cx 15 [] (· = .ret [exOne.pv]) := by
  refine pure_of_vc Tryd.func15 rfl rfl rfl ?_
  refine two_c.eq rfl ?_
  refine ⟨by show (0 : Int) ≤ 1 ∧ (1 : Int) ≤ 2; decide, ?_⟩
  exact end1 exOne.pv rfl rfl rfl
theorem works_c : Pure cx 5 [] (· = .ret [.bool true]) := by
  have h1 := lines_c exTwo (valid_big valid_two)
  rw [linesP, if_pos valid_two, ex_lines] at h1
  have h2 := nestedE_c exTwo (valid_big valid_two)
  rw [nestedP, if_pos valid_two, ex_nested] at h2
  have h3 := turn_p exN (by decide)
  rw [ex_t1] at h3
  have h4 := turn_p [120] (by decide)
  rw [ex_t2] at h4
  refine pure_of_vc Tryd.func5 rfl rfl rfl ?_
  refine two_c.eq rfl ?_
  refine h1.eq rfl ?_
  refine two_c.eq rfl ?_
  refine h2.eq rfl ?_
  refine h3.eq rfl ?_
  refine h4.eq rfl ?_
  refine And.intro (fun _ => ?_) (fun h => absurd rfl h)
  refine And.intro (fun _ => ?_) (fun h => absurd rfl h)
  refine And.intro (fun _ => ?_) (fun h => absurd rfl h)
  refine And.intro (fun _ => ?_) (fun h => absurd rfl h)
  refine And.intro (fun _ => ?_) (fun h => absurd rfl h)
  refine And.intro (fun _ => ?_) (fun h => absurd rfl h)
  refine And.intro (fun _ => ?_) (fun h => absurd rfl h)
  refine one_c.eq rfl ?_
  refine (lined_yes _ exOne (by decide) ex_l1).eq rfl ?_
  refine (badLine_yes _ 2 5 (by decide) ex_l2).eq rfl ?_
  refine (badLine_yes _ 1 5 (by decide) ex_l3).eq rfl ?_
  refine (badLine_yes _ 0 5 (by decide) ex_l4).eq rfl ?_
  refine (badLine_yes _ 0 50 (by decide) ex_l5).eq rfl ?_
  refine one_c.eq rfl ?_
  refine (nested_yes _ exOne (by decide) ex_n1).eq rfl ?_
  refine (badNest_yes _ 19 5 (by decide) ex_n2).eq rfl ?_
  refine (badNest_yes _ 1 5 (by decide) ex_n3).eq rfl ?_
  refine (badNest_yes _ 6 5 (by decide) ex_n4).eq rfl ?_
  exact end1 _ rfl rfl rfl
end Go.Proofs.YtphmmoloegjocaaDoor

/- The statements' own functions: Edit.Of. -/
namespace Go.Proofs.YtphmmoloegjocaaDoor
open Go Y
set_option maxRecDepth 100000
set_option maxHeartbeats 40000000

structure Ed where
  place : UInt16
  cut : UInt16
  kind : UInt8
abbrev Ed.cells (E : Ed) : List PV := [.int .u16 (E.place.toNat : Nat), .int .u16 (E.cut.toNat : Nat), u8 E.kind]
abbrev Ed.pv (E : Ed) : PV := .agg E.cells
end Go.Proofs.YtphmmoloegjocaaDoor

/- Reading lines: a form's text, also with other blanks (plain). -/
namespace Go.Proofs.YtphmmoloegjocaaDoor
open Go Y
set_option maxRecDepth 100000
set_option maxHeartbeats 4000000

/-! ### Numbers -/
theorem dec_all : ∀ n < 100, numB (dec (n : Nat)) = true ∧ valN (dec (n : Nat)) = (n : Nat) := by decide +kernel
theorem dec_num {x : Int} (h0 : 0 ≤ x) (h : x < 100) : numB (dec x) = true ∧ valN (dec x) = x := by
  obtain ⟨n, rfl⟩ := Int.eq_ofNat_of_zero_le h0
  exact dec_all n (by omega)
theorem dec_ne (x : Int) : dec x ≠ [] := fun e => by have := dec_len x; rw [e] at this; simp at this
theorem isDg_ne {b c : UInt8} (h : isDg b = true) (hc : isDg c = false) : b ≠ c := fun e => by rw [e, hc] at h; cases h

/-! ### Words -/
structure Gw (w : List UInt8) : Prop where
  ne : w ≠ []
  sp : 32 ∉ w
  nl : 10 ∉ w
theorem gw_dec {x : Int} (h0 : 0 ≤ x) (h : x < 100) : Gw (dec x) :=
  ⟨dec_ne x, fun hm => isDg_ne (num_all (dec_num h0 h).1 _ hm) (by decide) rfl, fun hm => isDg_ne (num_all (dec_num h0 h).1 _ hm) (by decide) rfl⟩
def joinL (sep : List UInt8) : List (List UInt8) → List UInt8
  | [] => []
  | w :: r => w ++ r.flatMap (sep ++ ·)
theorem words_run : ∀ {u w s : List UInt8}, 32 ∉ u → wordsA w (u ++ s) = wordsA (w ++ u) s
  | [], w, s, _ => by rw [List.nil_append, List.append_nil]
  | b :: u, w, s, h => by
    simp only [List.mem_cons, not_or] at h
    rw [List.cons_append, wordsA, if_neg (fun e => h.1 e.symm), words_run h.2, List.append_assoc]; rfl
theorem words_gap0 : ∀ {g s : List UInt8}, (∀ b ∈ g, b = 32) → wordsA [] (g ++ s) = wordsA [] s
  | [], s, _ => rfl
  | b :: g, s, h => by
    rw [List.cons_append, wordsA, if_pos (h b (by simp)), if_pos rfl]
    exact words_gap0 fun c hc => h c (by simp [hc])
theorem words_gap {g s w : List UInt8} (h : ∀ b ∈ g, b = 32) (hg : g ≠ []) (hw : w ≠ []) : wordsA w (g ++ s) = w :: wordsA [] s := by
  cases g with
  | nil => exact absurd rfl hg
  | cons b g =>
    rw [List.cons_append, wordsA, if_pos (h b (by simp)), if_neg hw, words_gap0 fun c hc => h c (by simp [hc])]
theorem words_rest {sep g : List UInt8} (hs : ∀ b ∈ sep, b = 32) (hne : sep ≠ []) (hg : ∀ b ∈ g, b = 32) : ∀ {r : List (List UInt8)} {w : List UInt8}, w ≠ [] → (∀ v ∈ r, Gw v) → wordsA w (r.flatMap (sep ++ ·) ++ g) = w :: r
  | [], w, hw, _ => by
    show wordsA w g = [w]
    by_cases e : g = []
    · subst e; rw [wordsA, if_neg hw]
    · have := words_gap (s := []) hg e hw
      rw [List.append_nil] at this
      rw [this, wordsA, if_pos rfl]
  | v :: r, w, hw, h => by
    have hv := h v (by simp)
    rw [List.flatMap_cons, List.append_assoc, List.append_assoc, words_gap hs hne hw, words_run hv.sp, List.nil_append, words_rest hs hne hg hv.ne fun x hx => h x (by simp [hx])]
theorem words_join {sep g : List UInt8} (hs : ∀ b ∈ sep, b = 32) (hne : sep ≠ []) (hg : ∀ b ∈ g, b = 32) {ws : List (List UInt8)} (h : ∀ v ∈ ws, Gw v) : wordsN (joinL sep ws ++ g) = ws := by
  cases ws with
  | nil =>
    have := words_gap0 (s := []) hg
    rw [List.append_nil] at this
    exact this
  | cons w r =>
    have hw := h w (by simp)
    rw [wordsN, joinL, List.append_assoc, words_run hw.sp, List.nil_append, words_rest hs hne hg hw.ne fun x hx => h x (by simp [hx])]
theorem join_nl {sep : List UInt8} (hs : 10 ∉ sep) : ∀ {ws : List (List UInt8)}, (∀ v ∈ ws, Gw v) → 10 ∉ joinL sep ws
  | [], _, h => by simp [joinL] at h
  | w :: r, h, hm => by
    rw [joinL] at hm
    rcases List.mem_append.1 hm with hm | hm
    · exact (h w (by simp)).nl hm
    · obtain ⟨v, hv, hm⟩ := List.mem_flatMap.1 hm
      rcases List.mem_append.1 hm with hm | hm
      · exact hs hm
      · exact (h v (by simp [hv])).nl hm

/-! ### Lines that are not passed over -/
def keepL (ls : List (List UInt8)) : List (List (List UInt8)) := (ls.map wordsN).filter fun w => !passW w
def keep (t : List UInt8) : List (List (List UInt8)) := keepL (linesN t)
theorem keepL_cons (u : List UInt8) (r : List (List UInt8)) : keepL (u :: r) = if passW (wordsN u) = true then keepL r else wordsN u :: keepL r := by
  rw [keepL, List.map_cons, List.filter_cons]
  by_cases h : passW (wordsN u) = true
  · rw [if_pos h, h]; rfl
  · rw [if_neg h, Bool.not_eq_true] at *
    rw [h]; rfl
theorem lines_run : ∀ {u w r : List UInt8}, 10 ∉ u → linesA w (u ++ 10 :: r) = (w ++ u) :: linesA [] r
  | [], w, r, _ => by rw [List.nil_append, linesA, if_pos rfl, List.append_nil]
  | b :: u, w, r, h => by
    simp only [List.mem_cons, not_or] at h
    rw [List.cons_append, linesA, if_neg (fun e => h.1 e.symm), lines_run h.2, List.append_assoc]; rfl
theorem keep_line {u r : List UInt8} (h : 10 ∉ u) : keep (u ++ 10 :: r) = if passW (wordsN u) = true then keep r else wordsN u :: keep r := by
  rw [keep, linesN, lines_run h, List.nil_append, keepL_cons]; rfl
theorem keep_nlA : ∀ (u w : List UInt8), keepL (linesA w (u ++ [10])) = keepL (linesA w u)
  | [], w => by
    have e : linesA w [10] = [w] := by rw [linesA, if_pos rfl, linesA, if_pos rfl]
    rw [List.nil_append, e, linesA]
    by_cases h : w = []
    · subst h; rw [if_pos rfl]; rfl
    · rw [if_neg h]
  | b :: u, w => by
    rw [List.cons_append, linesA, linesA]
    by_cases h : b = 10
    · rw [if_pos h, if_pos h, keepL_cons, keepL_cons, keep_nlA u []]
    · rw [if_neg h, if_neg h, keep_nlA u _]
theorem keep_nl (u : List UInt8) : keep (u ++ [10]) = keep u := keep_nlA u []
theorem keep_flat {A : List (List UInt8) → List UInt8} {B : List UInt8} (hB : ∀ r, keep (B ++ r) = keep r) : ∀ {W : List (List (List UInt8))}, (∀ w ∈ W, 10 ∉ A w ∧ wordsN (A w) = w ∧ passW w = false) → ∀ r, keep (W.flatMap (fun w => A w ++ 10 :: B) ++ r) = W ++ keep r
  | [], _, r => rfl
  | w :: W, h, r => by
    obtain ⟨h1, h2, h3⟩ := h w (by simp)
    rw [List.flatMap_cons, List.append_assoc, List.append_assoc, List.cons_append, keep_line h1, h2, h3, if_neg (by decide), hB, keep_flat hB fun x hx => h x (by simp [hx])]; rfl

/-! ### Running over words -/
def runW : Bool → Ns → List (List (List UInt8)) → Option (Bool × Ns)
  | f, n, [] => some (f, n)
  | f, n, w :: ws => match stepN f n w with
    | none => none
    | some n' => runW false n' ws
theorem runL_app : ∀ {pre : List (List UInt8)} {rest : List (List UInt8)} {f f' : Bool} {n n' : Ns} {i : Nat}, runW f n (keepL pre) = some (f', n') → runL f n i (pre ++ rest) = runL f' n' (i + pre.length) rest
  | [], rest, f, f', n, n', i, h => by
    cases h; rfl
  | u :: pre, rest, f, f', n, n', i, h => by
    rw [keepL_cons] at h
    rw [List.cons_append, runL, List.length_cons, show i + (pre.length + 1) = i + 1 + pre.length by omega]
    by_cases hp : passW (wordsN u) = true
    · rw [if_pos hp] at h ⊢
      exact runL_app h
    · rw [if_neg hp] at h ⊢
      rw [runW] at h
      cases hs : stepN f n (wordsN u) with
      | none => rw [hs] at h; cases h
      | some m => rw [hs] at h; exact runL_app h
theorem runL_keep {t : List UInt8} {f f' : Bool} {n n' : Ns} (h : runW f n (keep t) = some (f', n')) : runL f n 0 (linesN t) = .inr (f', n') := by
  have := runL_app (rest := []) (i := 0) h
  rw [List.append_nil] at this
  rw [this]; rfl
theorem runW_app : ∀ {a b : List (List (List UInt8))} {f f' : Bool} {n n' : Ns}, runW f n a = some (f', n') → runW f n (a ++ b) = runW f' n' b
  | [], b, f, f', n, n', h => by cases h; rfl
  | w :: a, b, f, f', n, n', h => by
    rw [runW] at h
    rw [List.cons_append, runW]
    cases hs : stepN f n w with
    | none => rw [hs] at h; cases h
    | some m => rw [hs] at h; exact runW_app h

/-! ### The words of a network's lines -/
def rowW (r : List Int) : List (List UInt8) := kRow :: r.map dec
def nodeW (x : Nd) : List (List UInt8) := kNode :: dec x.card :: (if x.parents = [] then [] else kFrom :: x.parents.map dec)
def blockW (x : Nd) : List (List (List UInt8)) := nodeW x :: x.rows.map rowW
def netW (n : Nt) : List (List (List UInt8)) := [kNet, dec n.grain] :: n.nodes.flatMap blockW
theorem nums_flat (l : List Int) : numsN l = (l.map dec).flatMap ([32] ++ ·) := by rw [numsN, List.flatMap_map]; rfl
theorem row_join (r : List Int) : rowLine r = joinL [32] (rowW r) ++ [10] := by
  rw [rowLine, nums_flat, rowW, joinL, List.append_assoc]
theorem node_join (x : Nd) : nodeHead x = joinL [32] (nodeW x) ++ [10] := by
  rw [nodeHead, nodeW, joinL]
  by_cases h : x.parents = []
  · rw [if_pos h, if_pos h]; simp
  · rw [if_neg h, if_neg h, nums_flat]; simp
theorem block_join (x : Nd) : nodeLines x = (blockW x).flatMap fun w => joinL [32] w ++ [10] := by
  rw [nodeLines, blockW, List.flatMap_cons, node_join, List.flatMap_map]
  congr 1
  exact congrArg (fun f => List.flatMap f x.rows) (funext row_join)
theorem net_join (n : Nt) : byLines n = (netW n).flatMap fun w => joinL [32] w ++ [10] := by
  rw [byLines, netW, List.flatMap_cons, List.flatMap_assoc]
  have e : ([110, 101, 116, 32] ++ (dec n.grain ++ [10]) : List UInt8) = joinL [32] [kNet, dec n.grain] ++ [10] := by simp [joinL]
  rw [e]
  congr 1
  exact congrArg (fun f => List.flatMap f n.nodes) (funext block_join)

/-! ### What they are run to -/
/-- Numbers that have two digits at most; rows are not empty. -/
structure Tw (n : Nt) : Prop where
  g : 0 ≤ n.grain ∧ n.grain < 100
  card : ∀ x ∈ n.nodes, 0 ≤ x.card ∧ x.card < 100
  par : ∀ x ∈ n.nodes, two x.parents
  row : ∀ x ∈ n.nodes, ∀ r ∈ x.rows, two r ∧ r ≠ []
theorem valid_tw {n : Nt} (h : validP n) : Tw n := by
  have hs := valid_sm h
  refine ⟨hs.grain, fun x hx => by have := hs.card x hx; omega, fun x hx => (hs.par x hx).1, fun x hx r hr => ⟨(hs.row x hx r hr).1, fun e => ?_⟩⟩
  have := (hs.row x hx r hr).2.1
  rw [e] at this
  simp at this
theorem all_dec {l : List Int} (h : two l) : allB (l.map dec) = true ∧ (l.map dec).map valN = l := by
  constructor
  · rw [allB, List.all_eq_true]
    intro w hw
    obtain ⟨x, hx, rfl⟩ := List.mem_map.1 hw
    exact (dec_num (h x hx).1 (h x hx).2).1
  · rw [List.map_map]
    conv => rhs; rw [← List.map_id l]
    exact List.map_congr_left fun x hx => (dec_num (h x hx).1 (h x hx).2).2
theorem step_net (N : Ns) {g : Int} (h0 : 0 ≤ g) (h : g < 100) : stepN true N [kNet, dec g] = some { N with g := g } := by
  have hd := dec_num h0 h
  rw [stepN, if_pos rfl, if_pos ⟨rfl, hd.1, rfl⟩]
  show some { N with g := valN (dec g) } = _
  rw [hd.2]
theorem step_nodeW (N : Ns) {x : Nd} (hc : 0 ≤ x.card ∧ x.card < 100) (hp : two x.parents) : stepN false N (nodeW x) = some ⟨N.g, N.init ++ N.last.toList, some ⟨x.card, x.parents, []⟩⟩ := by
  have hd := dec_num hc.1 hc.2
  obtain ⟨c, ps, rs⟩ := x
  simp only [] at hc hp hd
  rw [stepN, if_neg (by decide), if_pos (show (nodeW ⟨c, ps, rs⟩).getD 0 [] = kNode by rfl)]
  show (if 2 ≤ (nodeW ⟨c, ps, rs⟩).length ∧ numB (dec c) = true then _ else _) = _
  cases ps with
  | nil =>
    rw [if_pos ⟨by show 2 ≤ 2; omega, hd.1⟩, if_pos (show (nodeW ⟨c, [], rs⟩).length = 2 by rfl)]
    show some (⟨N.g, N.init ++ N.last.toList, some ⟨valN (dec c), [], []⟩⟩ : Ns) = _
    rw [hd.2]
  | cons p ps =>
    have ha := all_dec hp
    have e : nodeW ⟨c, p :: ps, rs⟩ = kNode :: dec c :: kFrom :: (p :: ps).map dec := by rw [nodeW, if_neg (by simp)]
    rw [e, if_pos ⟨by simp, hd.1⟩, if_neg (by simp)]
    show (if allB ((p :: ps).map dec) = true ∧ 3 < (kNode :: dec c :: kFrom :: (p :: ps).map dec).length ∧ kFrom = kFrom then some (⟨N.g, N.init ++ N.last.toList, some ⟨valN (dec c), ((p :: ps).map dec).map valN, []⟩⟩ : Ns) else none) = _
    rw [if_pos ⟨ha.1, by simp, rfl⟩, ha.2, hd.2]
theorem step_rowW {N : Ns} {y : Nd} (hl : N.last = some y) {r : List Int} (h : two r) (hr : r ≠ []) : stepN false N (rowW r) = some ⟨N.g, N.init, some { y with rows := y.rows ++ [r] }⟩ := by
  have ha := all_dec h
  rw [stepN, if_neg (by decide), if_neg (show ¬ (rowW r).getD 0 [] = kNode by show ¬ kRow = kNode; decide), if_pos (show (rowW r).getD 0 [] = kRow by rfl), hl]
  show (if allB (r.map dec) = true ∧ 1 < (rowW r).length then some (⟨N.g, N.init, some { y with rows := y.rows ++ [(r.map dec).map valN] }⟩ : Ns) else none) = _
  have := List.length_pos_iff.2 hr
  rw [if_pos ⟨ha.1, by rw [rowW, List.length_cons, List.length_map]; omega⟩, ha.2]
theorem run_rows : ∀ {rs : List (List Int)} {g : Int} {l : List Nd} {y : Nd}, (∀ r ∈ rs, two r ∧ r ≠ []) → runW false ⟨g, l, some y⟩ (rs.map rowW) = some (false, ⟨g, l, some { y with rows := y.rows ++ rs }⟩)
  | [], g, l, y, _ => by
    obtain ⟨c, p, rs⟩ := y
    show some (false, _) = _
    rw [List.append_nil]
  | r :: rs, g, l, y, h => by
    have hr := h r (by simp)
    rw [List.map_cons, runW, step_rowW rfl hr.1 hr.2]
    show runW false ⟨g, l, some { y with rows := y.rows ++ [r] }⟩ (rs.map rowW) = _
    rw [run_rows fun x hx => h x (by simp [hx])]
    simp
theorem run_block (N : Ns) {x : Nd} (hc : 0 ≤ x.card ∧ x.card < 100) (hp : two x.parents) (hr : ∀ r ∈ x.rows, two r ∧ r ≠ []) : runW false N (blockW x) = some (false, ⟨N.g, N.init ++ N.last.toList, some x⟩) := by
  rw [blockW, runW, step_nodeW N hc hp]
  show runW false ⟨N.g, N.init ++ N.last.toList, some ⟨x.card, x.parents, []⟩⟩ (x.rows.map rowW) = _
  rw [run_rows hr]; rfl
theorem run_nodes : ∀ {l : List Nd} {N : Ns}, (∀ x ∈ l, (0 ≤ x.card ∧ x.card < 100) ∧ two x.parents ∧ ∀ r ∈ x.rows, two r ∧ r ≠ []) → ∃ N', runW false N (l.flatMap blockW) = some (false, N') ∧ N'.net = ⟨N.g, N.net.nodes ++ l⟩
  | [], N, _ => ⟨N, rfl, by rw [List.append_nil]; rfl⟩
  | x :: l, N, h => by
    obtain ⟨h1, h2, h3⟩ := h x (by simp)
    obtain ⟨N', e1, e2⟩ := run_nodes (l := l) (N := ⟨N.g, N.init ++ N.last.toList, some x⟩) fun y hy => h y (by simp [hy])
    refine ⟨N', ?_, ?_⟩
    · rw [List.flatMap_cons, runW_app (run_block N h1 h2 h3)]; exact e1
    · rw [e2]
      simp [Ns.net]
theorem run_net {n : Nt} (h : Tw n) : ∃ N', runW true ns0 (netW n) = some (false, N') ∧ N'.net = n := by
  obtain ⟨N', e1, e2⟩ := run_nodes (l := n.nodes) (N := ⟨n.grain, [], none⟩) fun x hx => ⟨h.card x hx, h.par x hx, h.row x hx⟩
  refine ⟨N', ?_, ?_⟩
  · rw [netW, runW, step_net ns0 h.g.1 h.g.2]; exact e1
  · rw [e2]; rfl
theorem readL_of {t : List UInt8} {n : Nt} (hl : t.length ≤ 40000) (hv : validP n) (h : keep t = netW n) : readLR t = .inr n := by
  obtain ⟨N', e1, e2⟩ := run_net (valid_tw hv)
  rw [← h] at e1
  rw [readLR, if_neg (by omega), runL_keep e1]
  simp only []
  rw [e2, if_pos hv]
end Go.Proofs.YtphmmoloegjocaaDoor

/- Reading nested texts: a form's text, also with other blanks; texts that are cut off (plain). -/
namespace Go.Proofs.YtphmmoloegjocaaDoor
open Go Y
set_option maxRecDepth 100000
set_option maxHeartbeats 4000000

/-! ### The words that stand at a place -/
def At (s : List UInt8) : Nat → List (List UInt8) → Nat → Prop
  | p, [], q => p = q
  | p, w :: ts, q => tok s p = w ∧ At s (te s p) ts q
theorem at_app {s : List UInt8} : ∀ {a b : List (List UInt8)} {p q : Nat}, At s p (a ++ b) q → ∃ m, At s p a m ∧ At s m b q
  | [], b, p, q, h => ⟨p, rfl, h⟩
  | w :: a, b, p, q, h => by
    obtain ⟨h1, h2⟩ := h
    obtain ⟨m, h3, h4⟩ := at_app h2
    exact ⟨m, ⟨h1, h3⟩, h4⟩
theorem at_len {s : List UInt8} : ∀ {ts : List (List UInt8)} {p q : Nat}, p ≤ s.length → At s p ts q → (∀ w ∈ ts, w ≠ []) → p + ts.length ≤ q ∧ q ≤ s.length
  | [], p, q, hp, h, _ => by
    have h : p = q := h
    simp only [List.length_nil]; omega
  | w :: ts, p, q, hp, h, hne => by
    obtain ⟨h1, h2⟩ := h
    have h3 := te_lt hp (by rw [h1]; exact hne w (by simp))
    have h4 := at_len (te_le hp).2 h2 fun v hv => hne v (by simp [hv])
    rw [List.length_cons]; omega
theorem then_run {α β : Type} (a : α) (p : Nat) (k : α → Nat → Rd β) : Rd.then (.inr (a, p)) k = k a p := rfl
theorem dec_close {x : Int} (h0 : 0 ≤ x) (h : x < 100) : dec x ≠ kClose := fun e => by
  have := (dec_num h0 h).1
  rw [e] at this
  exact absurd this (by decide)
theorem num_at {s : List UInt8} {p : Nat} {x : Int} (h0 : 0 ≤ x) (h : x < 100) (e : tok s p = dec x) : numP s p = .inr (x, te s p) := by
  have hd := dec_num h0 h
  rw [numP, e, if_pos hd.1, hd.2]
theorem must_at {s w : List UInt8} {p : Nat} (e : tok s p = w) : mustP s w p = .inr ((), te s p) := by rw [mustP, if_pos e]
theorem nums_at {s : List UInt8} : ∀ {l : List Int} {F p q : Nat} {acc : List Int}, two l → l.length < F → At s p (l.map dec) q → tok s q = kClose → numsP s F acc p = .inr (acc ++ l, nx s q)
  | [], F + 1, p, q, acc, _, _, ha, hq => by
    have ha : p = q := ha
    rw [numsP, ha, if_pos hq, List.append_nil]
  | x :: l, F + 1, p, q, acc, h, hl, ha, hq => by
    obtain ⟨h1, h2⟩ := ha
    have hx := h x (by simp)
    rw [numsP, if_neg (by rw [h1]; exact dec_close hx.1 hx.2), num_at hx.1 hx.2 h1]
    show numsP s F (acc ++ [x]) (te s p) = _
    rw [nums_at (fun y hy => h y (by simp [hy])) (by simpa using hl) h2 hq]
    simp
def lstT (l : List Int) : List (List UInt8) := kOpen :: (l.map dec ++ [kClose])
theorem lst_at {s : List UInt8} {l : List Int} {F p q : Nat} (h : two l) (hl : l.length < F) (ha : At s p (lstT l) q) : lstP s F p = .inr (l, q) := by
  obtain ⟨h1, h2⟩ := ha
  obtain ⟨m, h3, h4, h5⟩ := at_app h2
  have h5 : te s m = q := h5
  rw [lstP, must_at h1, then_run, nums_at h hl h3 h4, then_run, must_nx, must_at h4, then_run, h5]; rfl
theorem row_at {s : List UInt8} {l : List Int} {F p q : Nat} (h : two l) (hne : l ≠ []) (hl : l.length < F) (ha : At s p (lstT l) q) : rowRd s F p = .inr (l, q) := by
  cases l with
  | nil => exact absurd rfl hne
  | cons x l =>
    obtain ⟨h1, h2, h2'⟩ := ha
    obtain ⟨m, h3, h4, h5⟩ := at_app h2'
    have h5 : te s m = q := h5
    have hx := h x (by simp)
    rw [rowRd, must_at h1, then_run, num_at hx.1 hx.2 h2, then_run, nums_at (fun y hy => h y (by simp [hy])) (by rw [List.length_cons] at hl; omega) h3 h4, then_run, must_nx, must_at h4, then_run, h5]; rfl
theorem rows_atN {s : List UInt8} {F : Nat} : ∀ {rs : List (List Int)} {f p q : Nat} {acc : List (List Int)}, (∀ r ∈ rs, two r ∧ r ≠ [] ∧ r.length < F) → rs.length < f → At s p (rs.flatMap lstT) q → tok s q = kClose → rowsP s F f acc p = .inr (acc ++ rs, nx s q)
  | [], f + 1, p, q, acc, _, _, ha, hq => by
    have ha : p = q := ha
    rw [rowsP, ha, if_pos hq, List.append_nil]
  | r :: rs, f + 1, p, q, acc, h, hl, ha, hq => by
    rw [List.flatMap_cons] at ha
    obtain ⟨m, h1, h2⟩ := at_app ha
    obtain ⟨k1, k2, k3⟩ := h r (by simp)
    rw [rowsP, if_neg (by rw [h1.1]; decide), row_at k1 k2 k3 h1]
    show rowsP s F f (acc ++ [r]) m = _
    rw [rows_atN (fun y hy => h y (by simp [hy])) (by simpa using hl) h2 hq]
    simp
def nodeT (x : Nd) : List (List UInt8) := kOpen :: kNode :: dec x.card :: (lstT x.parents ++ (x.rows.flatMap lstT ++ [kClose]))
structure OkF (F : Nat) (x : Nd) : Prop where
  card : 0 ≤ x.card ∧ x.card < 100
  par : two x.parents
  row : ∀ r ∈ x.rows, two r ∧ r ≠ [] ∧ r.length < F
  pl : x.parents.length < F
  rl : x.rows.length < F
theorem node_at {s : List UInt8} {x : Nd} {F p q : Nat} (h : OkF F x) (ha : At s p (nodeT x) q) : nodeRd s F p = .inr (x, q) := by
  obtain ⟨h1, h2, h3, h4⟩ := ha
  obtain ⟨m, h5, h6⟩ := at_app h4
  obtain ⟨k, h7, h8, h9⟩ := at_app h6
  have h9 : te s k = q := h9
  rw [nodeRd, must_at h1, then_run, must_at h2, then_run, num_at h.card.1 h.card.2 h3, then_run, lst_at h.par h.pl h5, then_run, rows_atN h.row h.rl h7 h8, then_run, must_nx, must_at h8, then_run, h9]; rfl
theorem nodes_at {s : List UInt8} {F : Nat} : ∀ {l : List Nd} {f p q : Nat} {acc : List Nd}, (∀ x ∈ l, OkF F x) → l.length < f → At s p (l.flatMap nodeT) q → tok s q = kClose → nodesP s F f acc p = .inr (acc ++ l, nx s q)
  | [], f + 1, p, q, acc, _, _, ha, hq => by
    have ha : p = q := ha
    rw [nodesP, ha, if_pos hq, List.append_nil]
  | x :: l, f + 1, p, q, acc, h, hl, ha, hq => by
    rw [List.flatMap_cons] at ha
    obtain ⟨m, h1, h2⟩ := at_app ha
    rw [nodesP, if_neg (by rw [h1.1]; decide), node_at (h x (by simp)) h1]
    show nodesP s F f (acc ++ [x]) m = _
    rw [nodes_at (fun y hy => h y (by simp [hy])) (by simpa using hl) h2 hq]
    simp
def netT (n : Nt) : List (List UInt8) := kOpen :: kNet :: dec n.grain :: (n.nodes.flatMap nodeT ++ [kClose])
theorem net_at {s : List UInt8} {n : Nt} {F q : Nat} (hg : 0 ≤ n.grain ∧ n.grain < 100) (h : ∀ x ∈ n.nodes, OkF F x) (hl : n.nodes.length < F) (ha : At s 0 (netT n) q) : netP s F = if tok s q = [] then .inr (n, q) else .inl (nx s q) := by
  obtain ⟨h1, h2, h3, h4⟩ := ha
  obtain ⟨m, h5, h6, h7⟩ := at_app h4
  have h7 : te s m = q := h7
  rw [netP, must_at h1, then_run, must_at h2, then_run, num_at hg.1 hg.2 h3, then_run, nodes_at h hl h5 h6, then_run, must_nx, must_at h6, then_run, h7]; rfl

/-! ### The words are not empty, and count -/
theorem lstT_ne (l : List Int) : ∀ w ∈ lstT l, w ≠ [] := by
  intro w hw
  simp only [lstT, List.mem_cons, List.mem_append, List.mem_map, List.not_mem_nil, or_false] at hw
  rcases hw with rfl | ⟨x, _, rfl⟩ | rfl
  · simp
  · exact dec_ne x
  · simp
theorem nodeT_ne (x : Nd) : ∀ w ∈ nodeT x, w ≠ [] := by
  intro w hw
  simp only [nodeT, List.mem_cons, List.mem_append, List.mem_flatMap, List.not_mem_nil, or_false] at hw
  rcases hw with rfl | rfl | rfl | h | ⟨r, _, h⟩ | rfl
  · simp
  · simp
  · exact dec_ne _
  · exact lstT_ne _ w h
  · exact lstT_ne _ w h
  · simp
theorem netT_ne (n : Nt) : ∀ w ∈ netT n, w ≠ [] := by
  intro w hw
  simp only [netT, List.mem_cons, List.mem_append, List.mem_flatMap, List.not_mem_nil, or_false] at hw
  rcases hw with rfl | rfl | rfl | ⟨x, _, h⟩ | rfl
  · simp
  · simp
  · exact dec_ne _
  · exact nodeT_ne x w h
  · simp
theorem flat_ge {α β : Type} {f : α → List β} {l : List α} {x : α} (h : x ∈ l) : (f x).length ≤ (l.flatMap f).length := by
  induction l with
  | nil => simp at h
  | cons y l ih =>
    rw [List.flatMap_cons, List.length_append]
    rcases List.mem_cons.1 h with rfl | h
    · omega
    · have := ih h; omega
theorem flat_count {α β : Type} {f : α → List β} {l : List α} (h : ∀ x ∈ l, 1 ≤ (f x).length) : l.length ≤ (l.flatMap f).length := by
  induction l with
  | nil => simp
  | cons y l ih =>
    rw [List.flatMap_cons, List.length_append, List.length_cons]
    have := ih fun x hx => h x (by simp [hx])
    have := h y (by simp)
    omega
theorem netT_big {n : Nt} (h : Tw n) {F : Nat} (hF : (netT n).length < F) : n.nodes.length < F ∧ ∀ x ∈ n.nodes, OkF F x := by
  have h1 : (netT n).length = (n.nodes.flatMap nodeT).length + 4 := by simp [netT]
  have h2 := flat_count (f := nodeT) (l := n.nodes) fun x _ => by simp [nodeT]
  refine ⟨by omega, fun x hx => ?_⟩
  have h3 := flat_ge (f := nodeT) hx
  have h4 : (nodeT x).length = (x.parents.length + 2) + (x.rows.flatMap lstT).length + 4 := by simp [nodeT, lstT]; omega
  have h5 := flat_count (f := lstT) (l := x.rows) fun r _ => by simp [lstT]
  refine ⟨h.card x hx, h.par x hx, fun r hr => ⟨(h.row x hx r hr).1, (h.row x hx r hr).2, ?_⟩, by omega, by omega⟩
  have h6 := flat_ge (f := lstT) hr
  have h7 : (lstT r).length = r.length + 2 := by simp [lstT]
  omega

/-! ### From texts to words -/
def okT (w r : List UInt8) : Prop := w = kOpen ∨ w = kClose ∨ (w ≠ [] ∧ (∀ b ∈ w, isWd b = true) ∧ ∀ b r', r = b :: r' → isWd b = false)
def Rn : List (List UInt8) → List UInt8 → List UInt8 → Prop
  | [], u, v => u = v
  | w :: ts, u, v => ∃ g r, u = g ++ (w ++ r) ∧ (∀ b ∈ g, isBl b = true) ∧ okT w r ∧ Rn ts r v
theorem tw_all {f : UInt8 → Bool} : ∀ {g r : List UInt8}, (∀ b ∈ g, f b = true) → (∀ b r', r = b :: r' → f b = false) → (g ++ r).takeWhile f = g
  | [], r, _, h => by
    cases r with
    | nil => rfl
    | cons b r => rw [List.nil_append, List.takeWhile_cons, h b r rfl]; rfl
  | a :: g, r, hg, h => by rw [List.cons_append, List.takeWhile_cons, if_pos (hg a (by simp)), tw_all (fun b hb => hg b (by simp [hb])) h]
theorem bl_wd {b : UInt8} (h : isWd b = true) : isBl b = false := by
  simp only [isWd, Bool.and_eq_true, Bool.not_eq_true'] at h
  rw [isBl, h.1.1.1, h.1.1.2]; rfl
theorem tok_at {s g w r : List UInt8} {p : Nat} (hp : p ≤ s.length) (e : s.drop p = g ++ (w ++ r)) (hg : ∀ b ∈ g, isBl b = true) (hw : okT w r) : tok s p = w ∧ te s p ≤ s.length ∧ s.drop (te s p) = r ∧ nx s p = p + g.length := by
  have hwb : ∀ b r', w ++ r = b :: r' → isBl b = false := by
    rcases hw with rfl | rfl | ⟨h1, h2, _⟩
    · intro b r' h; cases h; rfl
    · intro b r' h; cases h; rfl
    · intro b r' h
      cases w with
      | nil => exact absurd rfl h1
      | cons c w => cases h; exact bl_wd (h2 b (by simp))
  have hn : nx s p = p + g.length := by rw [nx, scanF, e, tw_all hg hwb]
  have hd : s.drop (nx s p) = w ++ r := by rw [hn, ← List.drop_drop, e, List.drop_append_of_le_length (Nat.le_refl _), List.drop_length, List.nil_append]
  have hl : (s.drop p).length = (g ++ (w ++ r)).length := by rw [e]
  rw [List.length_drop, List.length_append, List.length_append] at hl
  have ht : te s p = nx s p + w.length := by
    rcases hw with rfl | rfl | ⟨h1, h2, h3⟩
    · have hs : scanF isWd s (nx s p) = nx s p := by rw [scanF, hd]; rfl
      have : (kOpen : List UInt8).length = 1 := rfl
      rw [te, hs, if_pos ⟨rfl, by omega⟩]; rfl
    · have hs : scanF isWd s (nx s p) = nx s p := by rw [scanF, hd]; rfl
      have : (kClose : List UInt8).length = 1 := rfl
      rw [te, hs, if_pos ⟨rfl, by omega⟩]; rfl
    · have hs : scanF isWd s (nx s p) = nx s p + w.length := by rw [scanF, hd, tw_all h2 h3]
      have := List.length_pos_iff.2 h1
      rw [te, hs, if_neg (by omega)]
  refine ⟨?_, by omega, ?_, hn⟩
  · rw [tok, hd, ht, show nx s p + w.length - nx s p = w.length by omega, List.take_append_of_le_length (Nat.le_refl _), List.take_length]
  · rw [ht, ← List.drop_drop, hd, List.drop_append_of_le_length (Nat.le_refl _), List.drop_length, List.nil_append]
theorem at_rn {s : List UInt8} : ∀ {ts : List (List UInt8)} {p : Nat} {v : List UInt8}, p ≤ s.length → Rn ts (s.drop p) v → ∃ q, At s p ts q ∧ s.drop q = v ∧ q ≤ s.length
  | [], p, v, hp, h => ⟨p, rfl, h, hp⟩
  | w :: ts, p, v, hp, h => by
    obtain ⟨g, r, e, hg, hw, hr⟩ := h
    obtain ⟨h1, h2, h3, _⟩ := tok_at hp e hg hw
    obtain ⟨q, k1, k2, k3⟩ := at_rn h2 (by rw [h3]; exact hr)
    exact ⟨q, ⟨h1, k1⟩, k2, k3⟩
theorem tok_end {s : List UInt8} {q : Nat} (hq : q ≤ s.length) (h : ∀ b ∈ s.drop q, isBl b = true) : tok s q = [] ∧ nx s q = s.length := by
  have hn : nx s q = s.length := by
    have := tw_all (r := []) h (fun b r' h => by cases h)
    rw [List.append_nil] at this
    rw [nx, scanF, this, List.length_drop]; omega
  refine ⟨?_, hn⟩
  rw [tok, hn, List.drop_length, List.take_nil]
/-- A text in which a network's words stand is read as it. -/
theorem readN_of {s z : List UInt8} {n : Nt} (hl : s.length ≤ 40000) (hv : validP n) (h : Rn (netT n) s z) (hz : ∀ b ∈ z, isBl b = true) : readNR s = .inr n := by
  have ht := valid_tw hv
  obtain ⟨q, h1, h2, h3⟩ := at_rn (Nat.zero_le _) (by rw [List.drop_zero]; exact h)
  have h4 := at_len (Nat.zero_le _) h1 (netT_ne n)
  obtain ⟨h5, h6⟩ := netT_big ht (F := s.length + 1) (by omega)
  rw [readNR, if_neg (by omega), net_at ht.g h6 h5 h1, if_pos (tok_end h3 (by rw [h2]; exact hz)).1]
  exact if_pos hv
/-! ### Texts made of words and what stands between them -/
def rnd (sep : List UInt8 → List UInt8 → List UInt8) : List UInt8 → List (List UInt8) → List UInt8
  | _, [] => []
  | w, v :: ts => sep w v ++ (v ++ rnd sep v ts)
theorem rnd_app (sep : List UInt8 → List UInt8 → List UInt8) : ∀ (a b : List (List UInt8)) (w : List UInt8), rnd sep w (a ++ b) = rnd sep w a ++ rnd sep (a.getLastD w) b
  | [], b, w => rfl
  | v :: a, b, w => by
    rw [List.cons_append, rnd, rnd, rnd_app sep a b v, List.append_assoc, List.append_assoc]
    cases a <;> rfl
def isP (w : List UInt8) : Bool := decide (w = kOpen) || decide (w = kClose)
/-- Words of octets that can stand in words, and parentheses. -/
def Gt (w : List UInt8) : Prop := isP w = true ∨ (isP w = false ∧ w ≠ [] ∧ ∀ b ∈ w, isWd b = true)
theorem rn_rnd {sep : List UInt8 → List UInt8 → List UInt8} (hs : ∀ w v, ∀ b ∈ sep w v, isBl b = true) (hne : ∀ w v, isP w = false → isP v = false → sep w v ≠ []) {z : List UInt8} (hz : ∀ b r, z = b :: r → isWd b = false) :
    ∀ (ts : List (List UInt8)) (w : List UInt8), (∀ v ∈ ts, Gt v) → Rn ts (rnd sep w ts ++ z) z
  | [], w, _ => rfl
  | v :: ts, w, h => by
    refine ⟨sep w v, rnd sep v ts ++ z, by rw [rnd, List.append_assoc, List.append_assoc], hs w v, ?_, rn_rnd hs hne hz ts v fun x hx => h x (by simp [hx])⟩
    rcases h v (by simp) with hv | ⟨hv, h1, h2⟩
    · simp only [isP, Bool.or_eq_true, decide_eq_true_eq] at hv
      rcases hv with hv | hv
      · exact .inl hv
      · exact .inr (.inl hv)
    · refine .inr (.inr ⟨h1, h2, fun b r' e => ?_⟩)
      cases ts with
      | nil => exact hz b r' e
      | cons x ts =>
        rw [rnd, List.append_assoc] at e
        rcases hsx : sep v x with _ | ⟨c, g⟩
        · rw [hsx, List.nil_append] at e
          rcases h x (by simp) with hx | ⟨hx, _, _⟩
          · simp only [isP, Bool.or_eq_true, decide_eq_true_eq] at hx
            rcases hx with rfl | rfl
            · cases e; rfl
            · cases e; rfl
          · exact absurd hsx (hne v x hv hx)
        · rw [hsx] at e
          cases e
          have := hs v x b (by rw [hsx]; simp)
          cases hb : isWd b with
          | false => rfl
          | true => rw [bl_wd hb] at this; cases this
def sep0 (w v : List UInt8) : List UInt8 := if w = kOpen ∨ v = kClose then [] else [32]
theorem rnd_nums : ∀ (l : List Int) (w : List UInt8), w ≠ kOpen → (∀ x ∈ l, 0 ≤ x ∧ x < 100) → rnd sep0 w (l.map dec) = numsN l ∧ (l.map dec).getLastD w ≠ kOpen
  | [], w, hw, _ => ⟨rfl, hw⟩
  | x :: l, w, hw, h => by
    have hx := h x (by simp)
    have hd : dec x ≠ kOpen := fun e => by
      have := (dec_num hx.1 hx.2).1
      rw [e] at this
      exact absurd this (by decide)
    obtain ⟨h1, h2⟩ := rnd_nums l (dec x) hd fun y hy => h y (by simp [hy])
    refine ⟨?_, ?_⟩
    · rw [List.map_cons, rnd, h1, sep0, if_neg (by rintro (e | e); exact hw e; exact dec_close hx.1 hx.2 e), numsN, numsN, List.flatMap_cons]; rfl
    · rw [List.map_cons]
      cases l with
      | nil => exact hd
      | cons y l => exact h2
theorem rnd_lst {l : List Int} {w : List UInt8} (hw : w ≠ kOpen) (h : two l) : rnd sep0 w (lstT l) = 32 :: listN l := by
  rw [lstT, rnd, sep0, if_neg (by rintro (e | e); exact hw e; exact absurd e (by decide)), listN]
  show 32 :: 40 :: rnd sep0 kOpen (l.map dec ++ [kClose]) = _
  congr 2
  cases l with
  | nil => rfl
  | cons x l =>
    have hx := h x (by simp)
    have hd : dec x ≠ kOpen := fun e => by
      have := (dec_num hx.1 hx.2).1
      rw [e] at this
      exact absurd this (by decide)
    obtain ⟨h1, h2⟩ := rnd_nums l (dec x) hd fun y hy => h y (by simp [hy])
    rw [List.map_cons, List.cons_append, rnd, rnd_app, h1, sep0, if_pos (.inl rfl), List.nil_append]
    show dec x ++ (numsN l ++ rnd sep0 _ [kClose]) = _
    rw [rnd, sep0, if_pos (.inr rfl)]
    show dec x ++ (numsN l ++ kClose) = _
    simp [numsN]
theorem getLast_app {α : Type} (a b : List α) (w : α) : (a ++ b).getLastD w = b.getLastD (a.getLastD w) := by
  cases b with
  | nil => rw [List.append_nil]; rfl
  | cons x b => simp [List.getLastD_eq_getLast?]
theorem lstT_last (l : List Int) (w : List UInt8) : (lstT l).getLastD w = kClose := by rw [lstT, ← List.cons_append, getLast_app]; rfl
theorem rnd_lsts : ∀ (rs : List (List Int)) (w : List UInt8), w ≠ kOpen → (∀ r ∈ rs, two r) → rnd sep0 w (rs.flatMap lstT) = (rs.flatMap fun r => 32 :: listN r) ∧ (rs.flatMap lstT).getLastD w ≠ kOpen
  | [], w, hw, _ => ⟨rfl, hw⟩
  | r :: rs, w, hw, h => by
    obtain ⟨h1, h2⟩ := rnd_lsts rs kClose (by decide) fun y hy => h y (by simp [hy])
    refine ⟨?_, ?_⟩
    · rw [List.flatMap_cons, rnd_app, rnd_lst hw (h r (by simp)), lstT_last, h1, List.flatMap_cons]
    · rw [List.flatMap_cons, getLast_app, lstT_last]; exact h2
theorem nodeT_last (x : Nd) (w : List UInt8) : (nodeT x).getLastD w = kClose := by
  rw [nodeT, ← List.append_assoc, ← List.cons_append, ← List.cons_append, ← List.cons_append, getLast_app]; rfl
theorem rnd_node {x : Nd} {w : List UInt8} (hw : w ≠ kOpen) (hc : 0 ≤ x.card ∧ x.card < 100) (hp : two x.parents) (hr : ∀ r ∈ x.rows, two r) : rnd sep0 w (nodeT x) = 32 :: nodeNest x := by
  have hd : dec x.card ≠ kOpen := fun e => by
    have := (dec_num hc.1 hc.2).1
    rw [e] at this
    exact absurd this (by decide)
  obtain ⟨h1, h2⟩ := rnd_lsts x.rows kClose (by decide) hr
  rw [nodeT, rnd, sep0, if_neg (by rintro (e | e); exact hw e; exact absurd e (by decide)), rnd, sep0, if_pos (.inl rfl), rnd, sep0, if_neg (by rintro (e | e); exact absurd e (by decide); exact dec_close hc.1 hc.2 e), rnd_app, rnd_lst hd hp, lstT_last, rnd_app, h1, rnd, sep0, if_pos (.inr rfl), nodeNest]
  simp [rnd]
theorem rnd_nodes : ∀ (l : List Nd) (w : List UInt8), w ≠ kOpen → (∀ x ∈ l, (0 ≤ x.card ∧ x.card < 100) ∧ two x.parents ∧ ∀ r ∈ x.rows, two r) → rnd sep0 w (l.flatMap nodeT) = (l.flatMap fun x => 32 :: nodeNest x) ∧ (l.flatMap nodeT).getLastD w ≠ kOpen
  | [], w, hw, _ => ⟨rfl, hw⟩
  | x :: l, w, hw, h => by
    obtain ⟨h1, h2⟩ := rnd_nodes l kClose (by decide) fun y hy => h y (by simp [hy])
    obtain ⟨k1, k2, k3⟩ := h x (by simp)
    refine ⟨?_, ?_⟩
    · rw [List.flatMap_cons, rnd_app, rnd_node hw k1 k2 k3, nodeT_last, h1, List.flatMap_cons]
    · rw [List.flatMap_cons, getLast_app, nodeT_last]; exact h2
/-- The words behind the first parenthesis. -/
def netT1 (n : Nt) : List (List UInt8) := kNet :: dec n.grain :: (n.nodes.flatMap nodeT ++ [kClose])
theorem net_rnd {n : Nt} (h : Tw n) : nested n = 40 :: rnd sep0 kOpen (netT1 n) := by
  obtain ⟨h1, h2⟩ := rnd_nodes n.nodes (dec n.grain) (fun e => by
    have := (dec_num h.g.1 h.g.2).1
    rw [e] at this
    exact absurd this (by decide)) fun x hx => ⟨h.card x hx, h.par x hx, fun r hr => (h.row x hx r hr).1⟩
  rw [netT1, rnd, sep0, if_pos (.inl rfl), rnd, sep0, if_neg (by rintro (e | e); exact absurd e (by decide); exact dec_close h.g.1 h.g.2 e), rnd_app, h1, rnd, sep0, if_pos (.inr rfl), nested]
  simp [rnd]
theorem gt_dec {x : Int} (h0 : 0 ≤ x) (h : x < 100) : Gt (dec x) := by
  have hn := dec_num h0 h
  have hk : isP (dec x) = false := by
    cases e : isP (dec x) with
    | false => rfl
    | true =>
      simp only [isP, Bool.or_eq_true, decide_eq_true_eq] at e
      rcases e with e | e
      · rw [e] at hn; exact absurd hn.1 (by decide)
      · rw [e] at hn; exact absurd hn.1 (by decide)
  refine .inr ⟨hk, dec_ne x, fun b hb => ?_⟩
  have := num_all hn.1 b hb
  rw [isDg, decide_eq_true_eq] at this
  rw [isWd, beq_false_of_ne (by omega), beq_false_of_ne (by omega), beq_false_of_ne (by omega), beq_false_of_ne (by omega)]; rfl
theorem gt_lst {l : List Int} (h : two l) : ∀ w ∈ lstT l, Gt w := by
  intro w hw
  simp only [lstT, List.mem_cons, List.mem_append, List.mem_map, List.not_mem_nil, or_false] at hw
  rcases hw with rfl | ⟨x, hx, rfl⟩ | rfl
  · exact .inl rfl
  · exact gt_dec (h x hx).1 (h x hx).2
  · exact .inl rfl
theorem gt_net {n : Nt} (h : Tw n) : ∀ w ∈ netT1 n, Gt w := by
  intro w hw
  simp only [netT1, nodeT, List.mem_cons, List.mem_append, List.mem_flatMap, List.not_mem_nil, or_false] at hw
  rcases hw with rfl | rfl | ⟨x, hx, rfl | rfl | rfl | hw | ⟨r, hr, hw⟩ | rfl⟩ | rfl
  · exact .inr ⟨rfl, by decide, by decide⟩
  · exact gt_dec h.g.1 h.g.2
  · exact .inl rfl
  · exact .inr ⟨rfl, by decide, by decide⟩
  · exact gt_dec (h.card x hx).1 (h.card x hx).2
  · exact gt_lst (h.par x hx) w hw
  · exact gt_lst (h.row x hx r hr).1 w hw
  · exact .inl rfl
  · exact .inl rfl
/-- Any text of a network's words with blanks between them. -/
theorem rn_net {n : Nt} (h : Tw n) {sep : List UInt8 → List UInt8 → List UInt8} (hs : ∀ w v, ∀ b ∈ sep w v, isBl b = true) (hne : ∀ w v, isP w = false → isP v = false → sep w v ≠ []) {g z : List UInt8} (hg : ∀ b ∈ g, isBl b = true) (hz : ∀ b r, z = b :: r → isWd b = false) : Rn (netT n) (g ++ 40 :: (rnd sep kOpen (netT1 n) ++ z)) z :=
  ⟨g, rnd sep kOpen (netT1 n) ++ z, rfl, hg, .inl rfl, rn_rnd hs hne hz _ _ (gt_net h)⟩
theorem sep0_bl (w v : List UInt8) : ∀ b ∈ sep0 w v, isBl b = true := by
  intro b hb
  rw [sep0] at hb
  split at hb
  · simp at hb
  · simp only [List.mem_singleton] at hb; subst hb; rfl
theorem isP_no {w : List UInt8} (h : isP w = false) : w ≠ kOpen ∧ w ≠ kClose := by
  simp only [isP, Bool.or_eq_false_iff, decide_eq_false_iff_not] at h
  exact h
theorem sep0_ne (w v : List UInt8) (hw : isP w = false) (hv : isP v = false) : sep0 w v ≠ [] := by
  rw [sep0, if_neg (by rintro (e | e); exact (isP_no hw).1 e; exact (isP_no hv).2 e)]; simp
end Go.Proofs.YtphmmoloegjocaaDoor

/- Forms of networks, read back (plain). -/
namespace Go.Proofs.YtphmmoloegjocaaDoor
open Go Y
set_option maxRecDepth 100000
set_option maxHeartbeats 4000000

theorem netW_ok {n : Nt} (h : Tw n) : ∀ w ∈ netW n, (∀ v ∈ w, Gw v) ∧ passW w = false := by
  have hk : ∀ v ∈ [kNet, kNode, kRow, kFrom], Gw v := by
    intro v hv
    simp only [List.mem_cons, List.not_mem_nil, or_false] at hv
    rcases hv with rfl | rfl | rfl | rfl <;> exact ⟨by decide, by decide, by decide⟩
  intro w hw
  simp only [netW, blockW, List.mem_cons, List.mem_flatMap, List.mem_map] at hw
  rcases hw with rfl | ⟨x, hx, rfl | ⟨r, hr, rfl⟩⟩
  · refine ⟨fun v hv => ?_, rfl⟩
    simp only [List.mem_cons, List.not_mem_nil, or_false] at hv
    rcases hv with rfl | rfl
    · exact hk _ (by simp)
    · exact gw_dec h.g.1 h.g.2
  · refine ⟨fun v hv => ?_, ?_⟩
    · simp only [nodeW, List.mem_cons] at hv
      rcases hv with rfl | rfl | hv
      · exact hk _ (by simp)
      · exact gw_dec (h.card x hx).1 (h.card x hx).2
      · split at hv
        · simp at hv
        · simp only [List.mem_cons, List.mem_map] at hv
          rcases hv with rfl | ⟨p, hp, rfl⟩
          · exact hk _ (by simp)
          · exact gw_dec (h.par x hx p hp).1 (h.par x hx p hp).2
    · rfl
  · refine ⟨fun v hv => ?_, ?_⟩
    · simp only [rowW, List.mem_cons, List.mem_map] at hv
      rcases hv with rfl | ⟨p, hp, rfl⟩
      · exact hk _ (by simp)
      · exact gw_dec ((h.row x hx r hr).1 p hp).1 ((h.row x hx r hr).1 p hp).2
    · rfl
/-- Lines with other blanks between the words, behind them, and lines that are passed over. -/
theorem keep_form {n : Nt} (h : Tw n) {sep g B : List UInt8} (hs : ∀ b ∈ sep, b = 32) (hne : sep ≠ []) (hg : ∀ b ∈ g, b = 32) (hB : ∀ r, keep (B ++ r) = keep r) : keep ((netW n).flatMap fun w => (joinL sep w ++ g) ++ 10 :: B) = netW n := by
  have h32 : ∀ l : List UInt8, (∀ b ∈ l, b = 32) → 10 ∉ l := fun l hl hm => absurd (hl 10 hm) (by decide)
  have := keep_flat (A := fun w => joinL sep w ++ g) (B := B) hB (W := netW n) (fun w hw => by
    obtain ⟨h1, h2⟩ := netW_ok h w hw
    refine ⟨fun hm => ?_, words_join hs hne hg h1, h2⟩
    rcases List.mem_append.1 hm with hm | hm
    · exact join_nl (h32 sep hs) h1 hm
    · exact h32 g hg hm) []
  rw [List.append_nil] at this
  rw [this]
  show netW n ++ [] = _
  rw [List.append_nil]
theorem keep_lines {n : Nt} (h : Tw n) : keep (byLines n) = netW n := by
  rw [net_join]
  have := keep_form h (sep := [32]) (g := []) (B := []) (by simp) (by simp) (by simp) (fun r => rfl)
  simp only [List.append_nil] at this
  exact this
theorem rn_nested {n : Nt} (h : Tw n) {g z : List UInt8} (hg : ∀ b ∈ g, isBl b = true) (hz : ∀ b r, z = b :: r → isWd b = false) : Rn (netT n) (g ++ (nested n ++ z)) z := by
  rw [net_rnd h]
  exact rn_net h sep0_bl sep0_ne hg hz
theorem readL_lines {n : Nt} (hv : validP n) (hl : (byLines n).length ≤ 40000) : readLR (byLines n) = .inr n := readL_of hl hv (keep_lines (valid_tw hv))
theorem readN_nested {n : Nt} (hv : validP n) (hl : (nested n).length ≤ 40000) : readNR (nested n) = .inr n := by
  have := rn_nested (valid_tw hv) (g := []) (z := []) (by simp) (by simp)
  rw [List.append_nil] at this
  exact readN_of hl hv this (by simp)
theorem DrB.rows {n : Nt} (h : DrB n) {x : Nd} (hx : x ∈ n.nodes) : x.rows.length ≤ 64 := by
  have hp3 := h.par x hx
  obtain ⟨v, hv, rfl⟩ := mem_getD nd0 hx
  have hp := h.valid.placed _ hx
  have h1 := (h.valid.node v hv).1
  have hok := atN_ok (l := cardsN n) (ps := (n.nodes.getD v nd0).parents) (fun c hc' => by obtain ⟨y, hy, rfl⟩ := List.mem_map.1 hc'; exact h.valid.cards y hy) (by rw [cardsN, List.length_map]; exact list_mem hp)
  have hal : (atN (cardsN n) (n.nodes.getD v nd0).parents).length = (n.nodes.getD v nd0).parents.length := List.length_map ..
  have h3 := prod_take hok _ (Nat.le_refl _)
  rw [take_all (Nat.le_refl _)] at h3
  have h4 : (4 : Int) ^ (atN (cardsN n) (n.nodes.getD v nd0).parents).length ≤ 64 := by
    have : ∀ i ≤ 3, (4 : Int) ^ i ≤ 64 := by decide
    exact this _ (by omega)
  have h5 : prodN (pcardsN n v) = prodN (atN (cardsN n) (n.nodes.getD v nd0).parents) := rfl
  omega
end Go.Proofs.YtphmmoloegjocaaDoor

/- FormatKnown: the examples, words and blanks, numbers, limits (plain). Printed by gen/known41.py. -/
namespace Go.Proofs.YtphmmoloegjocaaDoor
open Go Y
set_option maxRecDepth 100000
set_option maxHeartbeats 4000000

theorem bad_net : ¬ validP ⟨4, [⟨2, [], [[1, 2]]⟩]⟩ := fun h => absurd (h.node 0 (by decide)) (by unfold nodeP rowP; decide)
theorem no_net (g : Int) : ¬ validP ⟨g, []⟩ := fun h => absurd (show 1 ≤ 0 from h.len.1) (by decide)
theorem kn_l0 : readLR [10, 10, 32, 110, 101, 116, 32, 52, 32, 10, 59, 10, 110, 111, 100, 101, 32, 50, 10, 114, 111, 119, 32, 49, 32, 51, 10, 110, 111, 100, 101, 32, 50, 32, 102, 114, 111, 109, 32, 48, 10, 59, 114, 111, 119, 10, 114, 111, 119, 32, 52, 32, 48, 10, 114, 111, 119, 32, 50, 32, 50] = .inr exTwo := line_ok (n := ⟨4, [⟨2, [], [[1, 3]]⟩], some ⟨2, [0], [[4, 0], [2, 2]]⟩⟩) (by decide) (by rfl) valid_two
theorem kn_l1 : readLR [110, 101, 116, 32, 52, 32, 52] = .inl (1, 5) := line_no (by decide) (by rfl)
theorem kn_l2 : readLR [110, 101, 116] = .inl (1, 5) := line_no (by decide) (by rfl)
theorem kn_l3 : readLR [110, 111, 100, 101, 32, 50] = .inl (1, 5) := line_no (by decide) (by rfl)
theorem kn_l4 : readLR [110, 101, 116, 32, 52, 10, 110, 111, 100, 101, 32, 50, 32, 102, 114, 111, 109] = .inl (2, 5) := line_no (by decide) (by rfl)
theorem kn_l5 : readLR [110, 101, 116, 32, 52, 10, 110, 111, 100, 101, 32, 50, 32, 48] = .inl (2, 5) := line_no (by decide) (by rfl)
theorem kn_l6 : readLR [110, 101, 116, 32, 52, 10, 110, 101, 116, 32, 52] = .inl (2, 5) := line_no (by decide) (by rfl)
theorem kn_l7 : readLR [110, 101, 116, 32, 52, 10, 110, 111, 100, 101, 32, 50, 10, 114, 111, 119, 32, 49, 32, 51, 59] = .inl (3, 5) := line_no (by decide) (by rfl)
theorem kn_l8 : readLR [110, 101, 116, 32, 52, 10, 110, 111, 100, 101, 32, 50, 10, 114, 111, 119, 32, 49, 32, 45, 49] = .inl (3, 5) := line_no (by decide) (by rfl)
theorem kn_l9 : readLR [110, 101, 116, 32, 49, 48, 48, 48, 48] = .inl (1, 5) := line_no (by decide) (by rfl)
theorem kn_l10 : readLR [110, 101, 116, 32, 57, 57, 57, 57] = .inl (0, 50) := line_inv (n := ⟨9999, [], none⟩) (by decide) (by rfl) (no_net _)
theorem kn_l11 : readLR [110, 101, 116, 32, 52, 10, 110, 111, 100, 101, 32, 50, 10, 114, 111, 119, 32, 49, 32, 50] = .inl (0, 50) := line_inv (n := ⟨4, [], some ⟨2, [], [[1, 2]]⟩⟩) (by decide) (by rfl) bad_net
theorem kn_l12 : readLR [110, 101, 116, 32, 52, 10, 110, 111, 100, 101, 32, 50, 10, 114, 111, 119, 32, 49, 32, 51, 10, 9, 110, 111, 100, 101, 32, 50] = .inl (4, 5) := line_no (by decide) (by rfl)
theorem kn_l13 : readLR [59, 10, 59] = .inl (0, 5) := line_none (n := ns0) (by decide) (by rfl)
theorem kn_l14 : readLR [110, 101, 116, 32, 52, 13, 10] = .inl (1, 5) := line_no (by decide) (by rfl)
theorem kn_n0 : readNR [] = .inl (0, 5) := nest_no (by decide) (by rfl)
theorem kn_n1 : readNR [32, 10] = .inl (2, 5) := nest_no (by decide) (by rfl)
theorem kn_n2 : readNR [110, 101, 116] = .inl (0, 5) := nest_no (by decide) (by rfl)
theorem kn_n3 : readNR [40, 110, 111, 100, 101] = .inl (1, 5) := nest_no (by decide) (by rfl)
theorem kn_n4 : readNR [40, 110, 101, 116, 41] = .inl (4, 5) := nest_no (by decide) (by rfl)
theorem kn_n5 : readNR [40, 110, 101, 116, 32, 52, 41] = .inl (0, 50) := nest_inv (n := ⟨4, []⟩) (q := 7) (by decide) (by rfl) (no_net _)
theorem kn_n6 : readNR [40, 110, 101, 116, 32, 48, 52, 41] = .inl (5, 5) := nest_no (by decide) (by rfl)
theorem kn_n7 : readNR [40, 110, 101, 116, 32, 52, 32, 40, 50, 41, 41] = .inl (8, 5) := nest_no (by decide) (by rfl)
theorem kn_n8 : readNR [40, 110, 101, 116, 32, 52, 32, 110, 111, 100, 101, 41] = .inl (7, 5) := nest_no (by decide) (by rfl)
theorem kn_n9 : readNR [40, 110, 101, 116, 32, 52, 32, 40, 110, 111, 100, 101, 32, 50, 32, 49, 41, 41] = .inl (15, 5) := nest_no (by decide) (by rfl)
theorem kn_n10 : readNR [40, 110, 101, 116, 32, 52, 32, 40, 110, 111, 100, 101, 32, 50, 32, 40, 48, 32, 120, 41, 41, 41] = .inl (18, 5) := nest_no (by decide) (by rfl)
theorem kn_n11 : readNR [40, 110, 101, 116, 32, 52, 32, 40, 110, 111, 100, 101, 32, 50, 32, 40, 41, 32, 40, 49, 32, 51, 41, 32, 52, 41, 41] = .inl (24, 5) := nest_no (by decide) (by rfl)
theorem kn_n12 : readNR [40, 110, 101, 116, 32, 52, 32, 40, 110, 111, 100, 101, 32, 50, 32, 40, 41, 32, 40, 49, 32, 50, 41, 41, 41] = .inl (0, 50) := nest_inv (n := ⟨4, [⟨2, [], [[1, 2]]⟩]⟩) (q := 25) (by decide) (by rfl) bad_net
theorem kn_n13 : readNR [40, 110, 101, 116, 9, 52, 41] = .inl (1, 5) := nest_no (by decide) (by rfl)
theorem kn_n14 : readNR [40, 110, 101, 116, 32, 52, 41, 41] = .inl (7, 5) := nest_no (by decide) (by rfl)
theorem kn_n15 : readNR [40, 32, 110, 101, 116, 32, 52, 32, 40, 32, 110, 111, 100, 101, 32, 50, 32, 40, 32, 41, 32, 40, 32, 49, 32, 51, 32, 41, 32, 41, 32, 41] = .inr exOne := nest_ok (q := 32) (by decide) (by rfl) valid_one
theorem kn_t0 : turnV [] = [.str [], i64 5] := by
  rw [turnV, if_neg (fun h => absurd h.2 (by decide)), ex_l4]
theorem kn_t1 : turnV [40, 110, 101, 116, 32, 52, 41] = [.str [], i64 50] := by
  rw [turnV, if_pos ⟨by decide, by rfl⟩, kn_n5]

/-! ### Blanks alone -/
theorem blank_mem {n : Nat} : ∀ b ∈ List.replicate n (32 : UInt8), b = 32 := fun _ h => List.eq_of_mem_replicate h
theorem blank_lines {n : Nat} (h : n ≤ 40000) : readLR (List.replicate n 32) = .inl (0, 5) := by
  have h10 : (10 : UInt8) ∉ List.replicate n (32 : UInt8) := fun hm => absurd (blank_mem 10 hm) (by decide)
  have hw : wordsN (List.replicate n 32) = [] := by
    have := words_gap0 (s := []) (blank_mem (n := n))
    rw [List.append_nil] at this
    rw [wordsN, this, wordsA, if_pos rfl]
  have hk : keep (List.replicate n 32) = [] := by
    have := keep_line (r := []) h10
    rw [hw, if_pos (by rfl)] at this
    rw [keep_nl] at this
    exact this
  have hr : runL true ns0 0 (linesN (List.replicate n 32)) = .inr (true, ns0) := runL_keep (by rw [hk]; rfl)
  rw [readLR, List.length_replicate, if_neg (by omega), hr]
theorem blank_nest {n : Nat} (h : n ≤ 40000) : readNR (List.replicate n 32) = .inl (n, 5) := by
  have ht := tok_end (s := List.replicate n 32) (q := 0) (Nat.zero_le _) (fun b hb => by rw [blank_mem b (List.mem_of_mem_drop hb)]; rfl)
  rw [List.length_replicate] at ht
  rw [readNR, List.length_replicate, if_neg (by omega), netP, mustP, ht.1, if_neg (by decide), ht.2]; rfl
theorem long_lines {s : List UInt8} (h : 40000 < s.length) : readLR s = .inl (0, 3) := by rw [readLR, if_pos h]
theorem long_nest {s : List UInt8} (h : 40000 < s.length) : readNR s = .inl (0, 3) := by rw [readNR, if_pos h]
theorem long_turn {s : List UInt8} (h : 40000 < s.length) : turnV s = [.str [], i64 3] := by
  rw [turnV, if_neg (fun g => by omega), long_lines h]

/-! ### The widest network -/
def wideNd (i : Nat) : Nd := ⟨4, (List.range i).map fun k : Nat => (k : Int), List.replicate (4 ^ i) [0, 1, 2, 57]⟩
def wideN (k : Nat) : Nt := ⟨60, (List.range k).map wideNd⟩
theorem wide_get {k v : Nat} (h : v < k) : (wideN k).nodes.getD v nd0 = wideNd v := by
  show ((List.range k).map wideNd).getD v nd0 = _
  rw [List.getD_eq_getElem?_getD, List.getElem?_map, List.getElem?_range h]; rfl
theorem wide_valid : validP (wideN 5) := by
  refine ⟨by decide, by decide, fun x hx => ?_, fun x hx => ?_, by decide +kernel, ⟨fun v => v, ?_⟩, fun v hv => ?_⟩
  · obtain ⟨i, _, rfl⟩ := List.mem_map.1 hx
    show okCard 4
    unfold okCard; decide
  · obtain ⟨i, hi, rfl⟩ := List.mem_map.1 hx
    show listP ((5 : Nat) : Int) ((List.range i).map fun k : Nat => (k : Int))
    have : ∀ i < 5, listP ((5 : Nat) : Int) ((List.range i).map fun k : Nat => (k : Int)) := by unfold listP; decide +kernel
    exact this i (List.mem_range.1 hi)
  · show ∀ v, v < 5 → ∀ p, p < 5 → (parAt (setsN (wideN 5)) v).testBit p = true → p < v
    decide +kernel
  · have hv : v < 5 := hv
    rw [nodeP, wide_get hv]
    refine ⟨?_, fun r hr => ?_⟩
    · show ((List.replicate (4 ^ v) [(0 : Int), 1, 2, 57]).length : Int) = _
      rw [List.length_replicate]
      have : ∀ v < 5, ((4 ^ v : Nat) : Int) = prodN (pcardsN (wideN 5) v) := by decide +kernel
      exact this v hv
    · have : r = [0, 1, 2, 57] := List.eq_of_mem_replicate hr
      subst this
      show rowP 60 4 [0, 1, 2, 57]
      unfold rowP; decide
theorem wide_len : (byLines (wideN 5)).length ≤ 30000 ∧ (nested (wideN 5)).length ≤ 30000 := by
  have hs := valid_sm wide_valid
  have hr : ∀ x ∈ (wideN 5).nodes, x.rows.length ≤ 256 := fun x hx => by
    obtain ⟨i, hi, rfl⟩ := List.mem_map.1 hx
    show (List.replicate (4 ^ i) [(0 : Int), 1, 2, 57]).length ≤ 256
    rw [List.length_replicate]
    have : ∀ i < 5, 4 ^ i ≤ 256 := by decide
    exact this i (List.mem_range.1 hi)
  have hl : (wideN 5).nodes.length = 5 := by decide
  constructor
  · have h1 := flat_len (f := nodeLines) (B := 4200) (l := (wideN 5).nodes) fun x hx => by
      have h2 := hs.head_len hx
      have h3 := flat_len (f := rowLine) (B := 16) (l := x.rows) fun r hr => hs.row_len hx hr
      have h4 := hr x hx
      rw [nodeLines, List.length_append]
      have : 16 * x.rows.length ≤ 16 * 256 := Nat.mul_le_mul_left _ h4
      omega
    have h4 := dec_len (wideN 5).grain
    rw [hl] at h1
    rw [byLines, List.length_append, List.length_append, List.length_append]
    simp only [List.length_cons, List.length_nil]
    omega
  · have h1 := flat_len (f := fun x => 32 :: nodeNest x) (B := 4200) (l := (wideN 5).nodes) fun x hx => by
      have h2 := list_len41 x.parents
      have h3 := flat_len (f := fun r => 32 :: listN r) (B := 15) (l := x.rows) fun r hr => by
        have h2 := list_len41 r
        have h3 := (hs.row x hx r hr).2.2
        simp only [List.length_cons]; omega
      have h4 := hr x hx
      have h5 := (hs.par x hx).2
      have h6 := dec_len x.card
      have : 15 * x.rows.length ≤ 15 * 256 := Nat.mul_le_mul_left _ h4
      simp only [nodeNest, List.length_cons, List.length_append, List.length_nil]
      omega
    have h4 := dec_len (wideN 5).grain
    rw [hl] at h1
    simp only [nested, List.length_cons, List.length_append, List.length_nil]
    omega
end Go.Proofs.YtphmmoloegjocaaDoor

/- The statement on examples and limits. -/
namespace Go.Proofs.YtphmmoloegjocaaDoor
open Go Y RowKit
set_option maxRecDepth 100000
set_option maxHeartbeats 40000000

theorem repeat_c (s : List UInt8) (n : Nat) (hn : n ≤ 100000) (hs : s.length ≤ 100000) : Pure cx 16 [.str s, i64 n] (· = .ret [.str (Lib.repeatL s n)]) := by
  refine pure_below Tryd.func16 rfl rfl rfl fun Γ w args' hR hA => ?_
  simp only [List.map, VRL, VR, VP] at hA
  obtain ⟨a, as', rfl, rfl, b, bs', rfl, rfl, rfl⟩ := hA
  have hm : s.length * n ≤ 100000 * 100000 := Nat.mul_le_mul hs hn
  exact ⟨_, rfl, Tryd.strings_Repeat ⟨⟨s⟩⟩ n w (by omega) (by show s.length * n ≤ _; omega)⟩
theorem repeat_blank (n : Nat) : Lib.repeatL [32] n = List.replicate n 32 := by
  induction n with
  | zero => rfl
  | succ n ih => rw [Lib.repeatL, ih, List.replicate_succ]; rfl
abbrev wrow : List Int := [0, 1, 2, 57]
abbrev wpar (j : Nat) : List Int := (List.range j).map fun k : Nat => (k : Int)
def wdO (i : Nat) : AObj := ⟨TNode, false, .pus ((wideN i).nodes.map Nd.cells)⟩
def xO1 (j : Nat) : AObj := ⟨TNode, false, .bx [.p (i64 4), .sl 4 1 0 j, .p .nils]⟩
def xO2 (i r : Nat) : AObj := ⟨TNode, false, .bx [.p (i64 4), .p (ints (wpar i)), .sl 5 1 0 r]⟩
def wnO (i : Nat) : AObj := ⟨TNet, false, .bx [.p (i64 60), .sl 2 3 0 i]⟩
theorem wpar_snoc (j : Nat) : wpar (j + 1) = wpar j ++ [(j : Int)] := by rw [wpar, wpar, List.range_succ, List.map_append]; rfl
theorem wide_snoc (j : Nat) : (wideN (j + 1)).nodes = (wideN j).nodes ++ [wideNd j] := by
  show (List.range (j + 1)).map wideNd = (List.range j).map wideNd ++ [wideNd j]
  rw [List.range_succ, List.map_append]; rfl
theorem wpar_len (j : Nat) : (wpar j).length = j := by rw [wpar, List.length_map, List.length_range]
theorem wide_lenN (j : Nat) : (wideN j).nodes.length = j := by
  show ((List.range j).map wideNd).length = j
  rw [List.length_map, List.length_range]
theorem pure_nil {f : FuncId} {g : Int} {Q : PEnd → Prop} (h : Pure cx f [(⟨g, []⟩ : Nt).pv] Q) : Pure cx f [.agg [i64 g, .nils]] Q := by
  intro Γ w args' hR hA
  refine h Γ w args' hR ?_
  simp only [List.map, VRL, VR, VP, VPL] at hA ⊢
  obtain ⟨a, as', rfl, ⟨cs', rfl, u, us', e1, rfl, v, vs', e2, rfl, e3⟩, rfl⟩ := hA
  exact ⟨_, _, rfl, ⟨cs', rfl, _, _, e1, rfl, _, _, e2, .inl ⟨trivial, _, _, rfl⟩, e3⟩, rfl⟩
theorem formatKnown_c : Pure cx 4 [] (· = .ret [.bool true]) := by
  have hw1 := lines_c (wideN 5) (valid_big wide_valid)
  rw [linesP, if_pos wide_valid] at hw1
  have hw2 := nestedE_c (wideN 5) (valid_big wide_valid)
  rw [nestedP, if_pos wide_valid] at hw2
  have hw3 := lined_yes (byLines (wideN 5)) (wideN 5) (by have := wide_len; omega) (readL_lines wide_valid (by have := wide_len; omega))
  have hw4 := nested_yes (nested (wideN 5)) (wideN 5) (by have := wide_len; omega) (readN_nested wide_valid (by have := wide_len; omega))
  have hw5 := check_c (wideN 5) (valid_big wide_valid)
  rw [checkN, if_pos wide_valid] at hw5
  have hz1 := lines_c ⟨0, []⟩ ⟨by simp, by simp, by simp, by simp⟩
  rw [linesP, if_neg (no_net 0)] at hz1
  have hz2 := nestedE_c ⟨4, []⟩ ⟨by simp, by simp, by simp, by simp⟩
  rw [nestedP, if_neg (no_net 4)] at hz2
  have hR := repeat_c [32] 40001 (by omega) (by decide)
  rw [repeat_blank] at hR
  obtain ⟨L, hL, hL1, hL2, hL3⟩ : ∃ L : List UInt8, L = List.replicate 40001 32 ∧ L.length = 40001 ∧ readLR (L.drop 1) = .inl (0, 5) ∧ readNR (L.drop 1) = .inl (40000, 5) := by
    refine ⟨_, rfl, List.length_replicate, ?_, ?_⟩
    · rw [List.drop_replicate]; exact blank_lines (by omega)
    · rw [List.drop_replicate]; exact blank_nest (by omega)
  rw [← hL] at hR
  have hb1 := badLine_yes L 0 3 (by omega) (long_lines (by omega))
  have hb2 := badNest_yes L 0 3 (by omega) (long_nest (by omega))
  have hb3 := badLine_yes (L.drop 1) 0 5 (by rw [List.length_drop]; omega) hL2
  have hb4 := badNest_yes (L.drop 1) 40000 5 (by rw [List.length_drop]; omega) hL3
  have ht := turn_p L (by omega)
  rw [long_turn (by omega)] at ht
  have ht0 := turn_p [] (by decide)
  rw [kn_t0] at ht0
  have ht1 := turn_p [40, 110, 101, 116, 32, 52, 41] (by decide)
  rw [kn_t1] at ht1
  refine pure_of_vc Tryd.func4 rfl rfl rfl ?_
  refine works_c.eq rfl ?_
  refine two_c.eq rfl ?_
  refine (lined_yes _ exTwo (by decide) kn_l0).eq rfl ?_
  refine (badLine_yes _ 1 5 (by decide) kn_l1).eq rfl ?_
  refine (badLine_yes _ 1 5 (by decide) kn_l2).eq rfl ?_
  refine (badLine_yes _ 1 5 (by decide) kn_l3).eq rfl ?_
  refine (badLine_yes _ 2 5 (by decide) kn_l4).eq rfl ?_
  refine (badLine_yes _ 2 5 (by decide) kn_l5).eq rfl ?_
  refine (badLine_yes _ 2 5 (by decide) kn_l6).eq rfl ?_
  refine (badLine_yes _ 3 5 (by decide) kn_l7).eq rfl ?_
  refine (badLine_yes _ 3 5 (by decide) kn_l8).eq rfl ?_
  refine (badLine_yes _ 1 5 (by decide) kn_l9).eq rfl ?_
  refine (badLine_yes _ 0 50 (by decide) kn_l10).eq rfl ?_
  refine (badLine_yes _ 0 50 (by decide) kn_l11).eq rfl ?_
  refine (badLine_yes _ 4 5 (by decide) kn_l12).eq rfl ?_
  refine (badLine_yes _ 0 5 (by decide) kn_l13).eq rfl ?_
  refine (badLine_yes _ 1 5 (by decide) kn_l14).eq rfl ?_
  refine (badNest_yes _ 0 5 (by decide) kn_n0).eq rfl ?_
  refine (badNest_yes _ 2 5 (by decide) kn_n1).eq rfl ?_
  refine (badNest_yes _ 0 5 (by decide) kn_n2).eq rfl ?_
  refine (badNest_yes _ 1 5 (by decide) kn_n3).eq rfl ?_
  refine (badNest_yes _ 4 5 (by decide) kn_n4).eq rfl ?_
  refine (badNest_yes _ 0 50 (by decide) kn_n5).eq rfl ?_
  refine (badNest_yes _ 5 5 (by decide) kn_n6).eq rfl ?_
  refine (badNest_yes _ 8 5 (by decide) kn_n7).eq rfl ?_
  refine (badNest_yes _ 7 5 (by decide) kn_n8).eq rfl ?_
  refine (badNest_yes _ 15 5 (by decide) kn_n9).eq rfl ?_
  refine (badNest_yes _ 18 5 (by decide) kn_n10).eq rfl ?_
  refine (badNest_yes _ 24 5 (by decide) kn_n11).eq rfl ?_
  refine (badNest_yes _ 0 50 (by decide) kn_n12).eq rfl ?_
  refine (badNest_yes _ 1 5 (by decide) kn_n13).eq rfl ?_
  refine (badNest_yes _ 7 5 (by decide) kn_n14).eq rfl ?_
  refine one_c.eq rfl ?_
  refine (nested_yes _ exOne (by decide) kn_n15).eq rfl ?_
  refine hR.eq rfl ?_
  clear hL
  refine ⟨Nat, fun i => [(1, .p (.bool true)), (2, .p (.bool true)), (3, .p (.str L)), (4, .ptr 0 0 0), (5, .p (ints wrow)), (121, .p (i64 i))], fun i => ⟨3, [(2, wdO i), (0, wnO i)]⟩, fun i => i ≤ 5, fun i => 5 - i, ?_, ?_⟩
  · exact ⟨0, by omega, ent_of [1] [] [(2, 3)] rfl ⟨rfl, rfl, rfl, ⟨rfl, rfl⟩, ⟨_, rfl, by decide, rfl⟩, rfl, trivial⟩ (by (repeat' first | exact trivial | exact rfl | exact ⟨rfl, rfl⟩ | exact .inl rfl | refine ⟨_, rfl, rfl, rfl, ?_⟩ | refine ⟨_, _, rfl, ?_, ?_⟩ | refine ⟨_, rfl, ?_⟩ | refine And.intro ?_ ?_)) rfl⟩
  intro i hi
  (first | refine brLt (fun h1 => ?_) (fun h1 => ?_) | refine brLe (fun h1 => ?_) (fun h1 => ?_) | refine brEq (fun h1 => ?_) (fun h1 => ?_))
  · have h1 : (i : Int) < 5 := h1
    have hi5 : i < 5 := by omega
    refine ⟨Nat, fun j => [(1, .p (.bool true)), (2, .p (.bool true)), (3, .p (.str L)), (4, .ptr 0 0 0), (5, .p (ints wrow)), (121, .p (i64 i)), (7, .ptr 3 0 0), (8, .p (i64 ((4 ^ j : Nat) : Int))), (125, .p (i64 i)), (126, .p (i64 j))], fun j => ⟨5, [(4, iO (wpar j)), (3, xO1 j), (2, wdO i), (0, wnO i)]⟩, fun j => j ≤ i, fun j => i - j, ?_, ?_⟩
    · exact ⟨0, by omega, ent_of [] [] [(4, 1)] rfl (by (repeat' first | exact trivial | exact rfl | exact ⟨rfl, rfl⟩ | exact .inl rfl | refine ⟨_, rfl, rfl, rfl, ?_⟩ | refine ⟨_, _, rfl, ?_, ?_⟩ | refine ⟨_, rfl, ?_⟩ | refine And.intro ?_ ?_)) (by (repeat' first | exact trivial | exact rfl | exact ⟨rfl, rfl⟩ | exact .inl rfl | refine ⟨_, rfl, rfl, rfl, ?_⟩ | refine ⟨_, _, rfl, ?_, ?_⟩ | refine ⟨_, rfl, ?_⟩ | refine And.intro ?_ ?_)) rfl⟩
    intro j hj
    (first | refine brLt (fun h2 => ?_) (fun h2 => ?_) | refine brLe (fun h2 => ?_) (fun h2 => ?_) | refine brEq (fun h2 => ?_) (fun h2 => ?_))
    · have h2 : (j : Int) < i := h2
      have h4 : 4 ^ j ≤ 256 := by
        have : ∀ j < 5, 4 ^ j ≤ 256 := by decide
        exact this j (by omega)
      refine ⟨by show 0 + 1 ≤ 1; omega, [i64 j], rfl, ?_⟩
      refine ⟨by show 0 + j ≤ ((wpar j).map i64).length; rw [List.length_map, wpar_len]; omega, (wpar j).map i64, takeAll (by rw [List.length_map, wpar_len]), by show (j + 1) * 8 ≤ 140737488355328; omega, (wpar (j + 1)).map i64, by rw [wpar_snoc]; simp, ?_⟩
      have e4 : 4 ^ (j + 1) = 4 ^ j * 4 := Nat.pow_succ ..
      refine ⟨((4 ^ (j + 1) : Nat) : Int), by rw [e4, Int.natCast_mul]; exact wrap_i64 (by omega) (by omega), ?_⟩
      refine ⟨_, wrap_i64 (by omega) (by omega), ?_⟩
      exact ⟨j + 1, by omega, ent_of [] [(4, 6)] [] rfl (by (repeat' first | exact trivial | exact rfl | exact ⟨rfl, rfl⟩ | exact .inl rfl | refine ⟨_, rfl, rfl, rfl, ?_⟩ | refine ⟨_, _, rfl, ?_, ?_⟩ | refine ⟨_, rfl, ?_⟩ | refine And.intro ?_ ?_)) (by (repeat' first | exact trivial | exact rfl | exact ⟨rfl, rfl⟩ | exact .inl rfl | refine ⟨_, rfl, rfl, rfl, ?_⟩ | refine ⟨_, _, rfl, ?_, ?_⟩ | refine ⟨_, rfl, ?_⟩ | refine And.intro ?_ ?_)) rfl, by show i - (j + 1) < i - j; omega⟩
    have h2 : ¬ (j : Int) < i := h2
    have hji : j = i := by omega
    subst hji
    have h4 : 4 ^ j ≤ 256 := by
      have : ∀ j < 5, 4 ^ j ≤ 256 := by decide
      exact this j (by omega)
    obtain ⟨W, hW⟩ : ∃ W, W = 4 ^ j := ⟨_, rfl⟩
    rw [← hW] at h4
    refine ⟨Nat, fun r => [(1, .p (.bool true)), (2, .p (.bool true)), (3, .p (.str L)), (4, .ptr 0 0 0), (5, .p (ints wrow)), (121, .p (i64 j)), (7, .ptr 3 0 0), (138, .p (i64 W)), (139, .p (i64 r))], fun r => ⟨6, [(5, rO (List.replicate r wrow)), (3, xO2 j r), (2, wdO j), (0, wnO j)]⟩, fun r => r ≤ W, fun r => W - r, ?_, ?_⟩
    · refine ⟨0, by omega, ent_of [4] [] [(5, 1)] rfl ⟨rfl, rfl, rfl, ⟨rfl, rfl⟩, rfl, rfl, ⟨rfl, rfl⟩, (by rw [hW]; rfl), rfl, trivial⟩ ⟨⟨rfl, rfl, rfl⟩, ⟨_, rfl, rfl, rfl, _, rfl, ?_⟩, ⟨_, rfl, rfl, rfl, rfl⟩, ⟨_, rfl, rfl, rfl, _, rfl, by (repeat' first | exact trivial | exact rfl | exact ⟨rfl, rfl⟩ | exact .inl rfl | refine ⟨_, rfl, rfl, rfl, ?_⟩ | refine ⟨_, _, rfl, ?_, ?_⟩ | refine ⟨_, rfl, ?_⟩ | refine And.intro ?_ ?_)⟩, trivial⟩ rfl⟩
      refine ⟨_, _, rfl, rfl, _, _, rfl, ⟨_, rfl, by show 0 + j ≤ ((wpar j).map i64).length; rw [List.length_map, wpar_len]; omega, takeAll (by rw [List.length_map, wpar_len])⟩, _, _, rfl, ⟨rfl, rfl, rfl, rfl⟩, rfl⟩
    intro r hr
    (first | refine brLt (fun h3 => ?_) (fun h3 => ?_) | refine brLe (fun h3 => ?_) (fun h3 => ?_) | refine brEq (fun h3 => ?_) (fun h3 => ?_))
    · have h3 : (r : Int) < W := h3
      refine ⟨by show 0 + 1 ≤ 1; omega, [ints wrow], rfl, ?_⟩
      refine ⟨by show 0 + r ≤ ((List.replicate r wrow).map ints).length; simp, (List.replicate r wrow).map ints, takeAll (by simp), by show (r + 1) * 24 ≤ 140737488355328; omega, (List.replicate (r + 1) wrow).map ints, by rw [List.replicate_succ']; simp, ?_⟩
      refine ⟨_, wrap_i64 (by omega) (by omega), ?_⟩
      exact ⟨r + 1, by omega, ent_of [] [(5, 7)] [] rfl (by (repeat' first | exact trivial | exact rfl | exact ⟨rfl, rfl⟩ | exact .inl rfl | refine ⟨_, rfl, rfl, rfl, ?_⟩ | refine ⟨_, _, rfl, ?_, ?_⟩ | refine ⟨_, rfl, ?_⟩ | refine And.intro ?_ ?_)) (by (repeat' first | exact trivial | exact rfl | exact ⟨rfl, rfl⟩ | exact .inl rfl | refine ⟨_, rfl, rfl, rfl, ?_⟩ | refine ⟨_, _, rfl, ?_, ?_⟩ | refine ⟨_, rfl, ?_⟩ | refine And.intro ?_ ?_)) rfl, by show W - (r + 1) < W - r; omega⟩
    have h3 : ¬ (r : Int) < W := h3
    have hrW : r = W := by omega
    subst hrW
    refine ⟨by show 0 + 1 ≤ 1; omega, [[.p (i64 4), .p (ints (wpar j)), .sl 5 1 0 r]], rfl, ?_⟩
    have hwn := wide_lenN j
    have hcell : (wideNd j).cells = [i64 4, ints (wpar j), .lst ((List.replicate (4 ^ j) wrow).map ints)] := rfl
    refine .inl ⟨[5], [(wideNd j).cells], rfl, ⟨_, _, rfl, ⟨_, _, rfl, rfl, _, _, rfl, rfl, _, _, rfl, ⟨_, rfl, by show 0 + r ≤ ((List.replicate r wrow).map ints).length; simp, ?_⟩, rfl⟩, rfl⟩, ?_⟩
    · show (List.replicate (4 ^ j) wrow).map ints = (((List.replicate r wrow).map ints).drop 0).take r
      rw [← hW]; exact takeAll (by simp)
    refine ⟨by show 0 + j ≤ ((wideN j).nodes.map Nd.cells).length; rw [List.length_map, hwn]; omega, (wideN j).nodes.map Nd.cells, takeAll (by rw [List.length_map, hwn]), by show (j + 1) * 56 ≤ 140737488355328; omega, (wideN (j + 1)).nodes.map Nd.cells, by rw [wide_snoc, List.map_append]; rfl, ?_⟩
    refine ⟨_, wrap_i64 (by omega) (by omega), ?_⟩
    exact ⟨j + 1, by omega, ent_of [] [(2, 7)] [] rfl (by (repeat' first | exact trivial | exact rfl | exact ⟨rfl, rfl⟩ | exact .inl rfl | refine ⟨_, rfl, rfl, rfl, ?_⟩ | refine ⟨_, _, rfl, ?_, ?_⟩ | refine ⟨_, rfl, ?_⟩ | refine And.intro ?_ ?_)) (by (repeat' first | exact trivial | exact rfl | exact ⟨rfl, rfl⟩ | exact .inl rfl | refine ⟨_, rfl, rfl, rfl, ?_⟩ | refine ⟨_, _, rfl, ?_, ?_⟩ | refine ⟨_, rfl, ?_⟩ | refine And.intro ?_ ?_)) rfl, by show 5 - (j + 1) < 5 - j; omega⟩
  have h1 : ¬ (i : Int) < 5 := h1
  have hi5 : i = 5 := by omega
  subst hi5
  have hnl : (wideN 5).nodes.length = 5 := wide_lenN 5
  refine hw1.lends [2] rfl ⟨_, _, rfl, ⟨_, rfl, _, _, rfl, rfl, _, _, rfl, ⟨(wideN 5).nodes.map Nd.cells, rfl, by show 0 + 5 ≤ ((wideN 5).nodes.map Nd.cells).length; rw [List.length_map, hnl]; omega, takeAll (by rw [List.length_map, hnl])⟩, rfl⟩, rfl⟩ ?_
  refine hw2.lends [2] rfl ⟨_, _, rfl, ⟨_, rfl, _, _, rfl, rfl, _, _, rfl, ⟨(wideN 5).nodes.map Nd.cells, rfl, by show 0 + 5 ≤ ((wideN 5).nodes.map Nd.cells).length; rw [List.length_map, hnl]; omega, takeAll (by rw [List.length_map, hnl])⟩, rfl⟩, rfl⟩ ?_
  refine (pure_nil hz1).eq rfl ?_
  refine (pure_nil hz2).eq rfl ?_
  refine ht0.eq rfl ?_
  refine ht1.eq rfl ?_
  refine ht.eq rfl ?_
  refine hw5.lends [2] rfl ⟨_, _, rfl, ⟨_, rfl, _, _, rfl, rfl, _, _, rfl, ⟨(wideN 5).nodes.map Nd.cells, rfl, by show 0 + 5 ≤ ((wideN 5).nodes.map Nd.cells).length; rw [List.length_map, hnl]; omega, takeAll (by rw [List.length_map, hnl])⟩, rfl⟩, rfl⟩ ?_
  refine And.intro (fun _ => ?_) (fun h => absurd rfl h)
  refine And.intro (fun _ => ?_) (fun h => absurd rfl h)
  refine And.intro (fun _ => ?_) (fun h => absurd rfl h)
  refine hw3.lends [2] rfl ⟨_, _, rfl, rfl, _, _, rfl, ⟨_, rfl, _, _, rfl, rfl, _, _, rfl, ⟨(wideN 5).nodes.map Nd.cells, rfl, by show 0 + 5 ≤ ((wideN 5).nodes.map Nd.cells).length; rw [List.length_map, hnl]; omega, takeAll (by rw [List.length_map, hnl])⟩, rfl⟩, rfl⟩ ?_
  refine hw4.lends [2] rfl ⟨_, _, rfl, rfl, _, _, rfl, ⟨_, rfl, _, _, rfl, rfl, _, _, rfl, ⟨(wideN 5).nodes.map Nd.cells, rfl, by show 0 + 5 ≤ ((wideN 5).nodes.map Nd.cells).length; rw [List.length_map, hnl]; omega, takeAll (by rw [List.length_map, hnl])⟩, rfl⟩, rfl⟩ ?_
  refine hb1.eq rfl ?_
  refine hb2.eq rfl ?_
  refine ⟨by show (0 : Int) ≤ 1 ∧ (1 : Int) ≤ (L.length : Nat); omega, ?_⟩
  refine hb3.eq rfl ?_
  refine ⟨by show (0 : Int) ≤ 1 ∧ (1 : Int) ≤ (L.length : Nat); omega, ?_⟩
  refine hb4.eq rfl ?_
  refine And.intro (fun _ => ?_) (fun h => absurd rfl h)
  refine And.intro (fun _ => ?_) (fun h => absurd rfl h)
  refine And.intro (fun _ => ?_) (fun h => absurd rfl h)
  refine And.intro (fun _ => ?_) (fun h => absurd rfl h)
  refine And.intro (fun _ => ?_) (fun h => absurd rfl h)
  exact end1 _ rfl rfl rfl
end Go.Proofs.YtphmmoloegjocaaDoor

/- Arguments and listed variables, read as data. -/
namespace Go.Proofs.YtphmmoloegjocaaDoor.Y
open Go

/-- The parts of a struct or an array, with their offsets. -/
def partsOf (P : Program) (t : TypeId) : Option (List (TypeId × Nat)) :=
  match P.underlying t with
  | some (.struct fs) => some (fs.toList.map fun f => (f.type, f.offset))
  | some (.array k e) => some ((List.range k).map fun i => (e, i * P.cellsOf e))
  | _ => none
def tiles (P : Program) : List (TypeId × Nat) → Nat → Option Nat
  | [], o => some o
  | f :: r, o => if f.2 = o then tiles P r (o + P.cellsOf f.1) else none
theorem tiles_le {P : Program} : ∀ {l : List (TypeId × Nat)} {o n : Nat}, tiles P l o = some n → o ≤ n
  | [], o, n, h => by simp only [tiles, Option.some.injEq] at h; omega
  | f :: r, o, n, h => by
    simp only [tiles] at h
    split at h
    · have := tiles_le h; omega
    · cases h

def basic : TypeDesc → Bool
  | .bool => true
  | .int _ => true
  | .string => true
  | _ => false

/-- Types of plain data: what the readings below cover. -/
def supp (P : Program) : Nat → TypeId → Bool
  | 0, _ => false
  | n + 1, t => match partsOf P t with
    | some l => decide (tiles P l 0 = some (P.cellsOf t)) && l.all fun f => supp P n f.1
    | none => match P.underlying t with
      | some (.slice e) => decide (0 < P.cellsOf e) && supp P n e
      | some d => basic d
      | none => false

def Flds (P : Program) (p : TypeId → List PV → Prop) : List (TypeId × Nat) → List PV → Prop
  | [], xs => xs = []
  | f :: r, xs => ∃ ys zs, xs = ys ++ zs ∧ ys.length = P.cellsOf f.1 ∧ p f.1 ys ∧ Flds P p r zs

/-- The cells of a value of a type. -/
def TyT (P : Program) : Nat → TypeId → List PV → Prop
  | 0, _, _ => False
  | m + 1, t, xs => match partsOf P t with
    | some l => Flds P (TyT P m) l xs
    | none => match P.underlying t with
      | some .bool => ∃ b, xs = [.bool b]
      | some (.int k) => ∃ n, xs = [.int k n] ∧ (Lit.int k n).wf = true
      | some .string => ∃ s, xs = [.str s] ∧ s.length ≤ maxLen
      | some (.slice e) => match Nat.beq (P.cellsOf e) 1 with
        | true => ∃ ys, xs = [.lst ys] ∧ ys.length ≤ maxLen ∧ ∀ y ∈ ys, TyT P m e [y]
        | false => ∃ yss, xs = [.lsts (P.cellsOf e) yss] ∧ yss.length ≤ maxLen ∧ ∀ ys ∈ yss, TyT P m e ys
      | _ => False

section
variable {H : Type} {enc : TypeId × Value → H} {P : Program} {W : World} {sp : Nat → Bool} {held : Bool}

/-- Cells of a block, one after the other. -/
theorem cells_take {a : Addr} {n : Nat} {cs : List Value} (hn : 0 < n) (h : W.cells? 0 a n = some cs) :
    ∃ c t z, W.heap[a.block]? = some (.cells c t z) ∧ a.spot = none ∧ cs.length = n ∧ a.off + n ≤ c.toList.length ∧ cs = (c.toList.drop a.off).take n := by
  unfold World.cells? at h
  rw [if_pos (Nat.zero_le _)] at h
  have hl := mapM_some_length h
  rw [List.length_range] at hl
  have hg : ∀ i, i < n → W.cell? (a.add i) = cs[i]? := fun i hi => mapM_some_get h i i (by simp [hi])
  have h0 := hg 0 hn
  have ha : a.add 0 = a := by simp [Addr.add]
  rw [ha, List.getElem?_eq_getElem (by omega)] at h0
  unfold World.cell? at h0
  split at h0
  · rename_i c t z hb
    have hs : a.spot = none := by
      cases hs : a.spot with
      | none => rfl
      | some _ => simp [hs] at h0
    have hcell : ∀ i, i < n → c[a.off + i]? = cs[i]? := by
      intro i hi
      have := hg i hi
      unfold World.cell? at this
      have hblk : (a.add i).block = a.block := by unfold Addr.add; split <;> rfl
      have hsp : (a.add i).spot = none := by unfold Addr.add; split <;> first | exact hs | rfl
      have hoff : (a.add i).off = a.off + i := by unfold Addr.add; split <;> simp_all
      rw [hblk, hb] at this
      simp only [hsp, hoff] at this
      simpa using this
    have hlen : a.off + n ≤ c.toList.length := by
      have := hcell (n - 1) (by omega)
      rw [List.getElem?_eq_getElem (by omega)] at this
      have := (Array.getElem?_eq_some_iff.1 this).1
      simp
      omega
    refine ⟨c, t, z, hb, hs, hl, hlen, ?_⟩
    refine List.ext_getElem? fun i => ?_
    by_cases hi : i < n
    · rw [← hcell i hi, List.getElem?_take_of_lt hi, List.getElem?_drop]
      simp
    · rw [List.getElem?_eq_none (by omega), List.getElem?_eq_none (by simp; omega)]
  · cases h0

def AllCells (fz : Fzn) (W : World) : Prop := ∀ b c t z, W.heap[b]? = some (.cells c t z) → fz b = some c.toList

/-- What a reading says of the cells. -/
def Rd (P : Program) (fz : Fzn) (m : Nat) (t : TypeId) (cs : List Value) : Prop := ∃ xs, VPL fz xs cs ∧ (∀ u ∈ cs, plainV u = true) ∧ TyT P m t xs

theorem flds_of {fz : Fzn} {m : Nat} {cs : List Value} : ∀ (l : List (TypeId × Nat)) (o : Nat), tiles P l o = some cs.length → (∀ f ∈ l, Rd P fz m f.1 ((cs.drop f.2).take (P.cellsOf f.1))) →
    ∃ xs, VPL fz xs (cs.drop o) ∧ (∀ u ∈ cs.drop o, plainV u = true) ∧ Flds P (TyT P m) l xs
  | [], o, ht, _ => by
    simp only [tiles, Option.some.injEq] at ht
    subst ht
    exact ⟨[], by simp [VPL], by simp, rfl⟩
  | f :: r, o, ht, hr => by
    simp only [tiles] at ht
    split at ht
    · rename_i ho
      have hle := tiles_le ht
      obtain ⟨ys, h1, h2, h3⟩ := hr f (by simp)
      obtain ⟨zs, k1, k2, k3⟩ := flds_of r (o + P.cellsOf f.1) ht fun g hg => hr g (by simp [hg])
      rw [ho] at h1 h2
      have e : cs.drop o = (cs.drop o).take (P.cellsOf f.1) ++ cs.drop (o + P.cellsOf f.1) := by
        rw [← List.drop_drop, List.take_append_drop]
      refine ⟨ys ++ zs, ?_, ?_, ys, zs, rfl, ?_, h3, k3⟩
      · rw [e]; exact VPL_append h1 k1
      · rw [e]; intro u hu; rcases List.mem_append.1 hu with hu | hu
        · exact h2 u hu
        · exact k2 u hu
      · rw [← VPL_length h1, List.length_take, List.length_drop]; omega
    · cases ht

theorem parts_trod {t : TypeId} {l : List (TypeId × Nat)} (hp : partsOf P t = some l) {n : Nat} {cs : List Value} {x : DataW H × List MemPlace} (h : DataW.trod enc P W 0 sp held n t cs = some x) :
    ∃ (xs : List (DataW H × List MemPlace)) (k : Nat), n = k + 1 ∧ x = (.agg (xs.map (·.1)), xs.flatMap (·.2)) ∧ cs.length = P.cellsOf t ∧ xs.length = l.length ∧
      ∀ (i : Nat) (f : TypeId × Nat), l[i]? = some f → DataW.trod enc P W 0 sp held k f.1 ((cs.drop f.2).take (P.cellsOf f.1)) = xs[i]? := by
  unfold partsOf at hp
  split at hp
  · rename_i fs hu
    injection hp with hp
    subst hp
    obtain ⟨xs, k, h1, h2, h3, h4, h5⟩ := DataW.trod_struct hu h
    refine ⟨xs, k, h1, h2, h3, by simpa using h4, fun i f hf => ?_⟩
    rw [List.getElem?_map, Option.map_eq_some_iff] at hf
    obtain ⟨g, hg, rfl⟩ := hf
    exact h5 i g (by simpa using hg)
  · rename_i k' e hu
    injection hp with hp
    subst hp
    obtain ⟨xs, k, h1, h2, h3, h4, h5⟩ := DataW.trod_array hu h
    refine ⟨xs, k, h1, h2, h3, by simpa using h4, fun i f hf => ?_⟩
    rw [List.getElem?_map, Option.map_eq_some_iff] at hf
    obtain ⟨j, hj, rfl⟩ := hf
    have hi := (List.getElem?_eq_some_iff.1 hj)
    obtain ⟨hi, hj⟩ := hi
    simp at hi hj
    subst hj
    exact h5 i hi
  · cases hp

theorem flat_singles {l : List (List PV)} (h : ∀ cs ∈ l, cs.length = 1) : l.flatten.length = l.length ∧ ∀ y ∈ l.flatten, [y] ∈ l := by
  induction l with
  | nil => simp
  | cons x r ih =>
    have hx := h x (by simp)
    obtain ⟨y, rfl⟩ : ∃ y, x = [y] := by
      match x, hx with
      | [y], _ => exact ⟨y, rfl⟩
    obtain ⟨h1, h2⟩ := ih fun c hc => h c (by simp [hc])
    refine ⟨by simp [h1], fun z hz => ?_⟩
    simp at hz
    rcases hz with rfl | hz
    · simp
    · have := h2 z (by simpa using hz)
      simp [this]

/-- A READING OF PLAIN DATA is a value of its type. -/
theorem typed_of_trod {fz : Fzn} (hfz : AllCells fz W) : ∀ (m : Nat) (t : TypeId) (n : Nat) (cs : List Value) (x : DataW H × List MemPlace), supp P m t = true → DataW.trod enc P W 0 sp held n t cs = some x → Rd P fz m t cs
  | 0, _, _, _, _, hs, _ => by simp [supp] at hs
  | m + 1, t, n, cs, x, hs, h => by
    have ih := typed_of_trod hfz m
    simp only [supp] at hs
    cases hp : partsOf P t with
    | some l =>
      simp only [hp, Bool.and_eq_true, decide_eq_true_eq, List.all_eq_true] at hs
      obtain ⟨xs, k, h1, h2, h3, h4, h5⟩ := parts_trod hp h
      obtain ⟨ys, g1, g2, g3⟩ := flds_of (fz := fz) (m := m) (cs := cs) l 0 (by rw [h3]; exact hs.1) fun f hf => by
        obtain ⟨i, hi, rfl⟩ := List.getElem_of_mem hf
        have := h5 i _ (List.getElem?_eq_getElem hi)
        rw [List.getElem?_eq_getElem (by omega)] at this
        exact ih _ _ _ _ (hs.2 _ hf) this
      exact ⟨ys, by simpa using g1, by simpa using g2, by simp only [TyT, hp]; exact g3⟩
    | none =>
      simp only [hp] at hs
      cases hu : P.underlying t with
      | none => simp [hu] at hs
      | some d =>
        simp only [hu] at hs
        cases d with
        | bool =>
          obtain ⟨b, rfl, _⟩ := DataW.trod_bool hu h
          exact ⟨[.bool b], by simp [VPL, VP], by simp [plainV], by simp [TyT, hp, hu]⟩
        | int k =>
          obtain ⟨b, rfl, _, hw⟩ := DataW.trod_int hu h
          exact ⟨[.int k b], by simp [VPL, VP], by simp [plainV], by simp [TyT, hp, hu, hw]⟩
        | string =>
          obtain ⟨⟨⟨s⟩⟩, rfl, _, hw⟩ := DataW.trod_string hu h
          exact ⟨[.str s], by simp [VPL, VP], by simp [plainV], by simp only [TyT, hp, hu]; exact ⟨s, rfl, hw⟩⟩
        | slice e =>
          simp only [Bool.and_eq_true, decide_eq_true_eq] at hs
          obtain ⟨hs0, hse⟩ := hs
          have fin : ∀ (v : Value) (len : Nat) (yss : List (List PV)), len ≤ maxLen → yss.length = len → (∀ ys ∈ yss, ys.length = P.cellsOf e ∧ TyT P m e ys) → plainV v = true →
              (yss = [] → ∃ a c, v = .slice a 0 c) → (yss ≠ [] → ∃ b o c arr us, v = .slice (some ⟨b, o, none⟩) len c ∧ len ≤ c ∧ fz b = some arr ∧ VPLL fz (P.cellsOf e) yss us ∧ Seg arr o us) → Rd P fz (m + 1) t [v] := by
            intro v len yss hml hlen hty hpl hnil hcons
            by_cases h1 : P.cellsOf e = 1
            · have hfl := flat_singles (l := yss) fun c hc => by rw [(hty c hc).1, h1]
              refine ⟨[.lst yss.flatten], ?_, by simpa using hpl, ?_⟩
              · simp only [VPL]
                refine ⟨v, [], rfl, ?_, rfl⟩
                simp only [VP]
                by_cases hy : yss = []
                · exact .inl ⟨by simp [hy], hnil hy⟩
                · obtain ⟨b, o, c, arr, us, k1, k2, k3, k4, k5⟩ := hcons hy
                  exact .inr ⟨b, o, c, arr, us, by rw [hfl.1, hlen]; exact k1, by rw [hfl.1, hlen]; exact k2, k3, (VPLL_flat.1 k4).1, k5⟩
              · simp only [TyT, hp, hu, h1]
                exact ⟨_, rfl, by rw [hfl.1, hlen]; exact hml, fun y hy => (hty _ (hfl.2 y hy)).2⟩
            · refine ⟨[.lsts (P.cellsOf e) yss], ?_, by simpa using hpl, ?_⟩
              · simp only [VPL]
                refine ⟨v, [], rfl, ?_, rfl⟩
                simp only [VP]
                by_cases hy : yss = []
                · exact .inl ⟨hy, hnil hy⟩
                · obtain ⟨b, o, c, arr, us, k1, k2, k3, k4, k5⟩ := hcons hy
                  exact .inr ⟨b, o, c, arr, us, by rw [hlen]; exact k1, by rw [hlen]; exact k2, k3, k4, k5⟩
              · have hb : Nat.beq (P.cellsOf e) 1 = false := beq_ne h1
                simp only [TyT, hp, hu, hb]
                exact ⟨_, rfl, by rw [hlen]; exact hml, fun y hy => (hty _ hy).2⟩
          rcases DataW.trod_slice hu h with ⟨rfl, _⟩ | ⟨a, len, cap, elems, rest, n', rfl, rfl, _, _, hlc, hcm, hel, hE, _, _⟩
          · exact fin _ 0 [] (by simp [maxLen]) rfl (by simp) rfl (fun _ => ⟨none, 0, rfl⟩) (by simp)
          · have hcs : ∀ i, i < len → ∃ cs', W.cells? 0 (a.add (i * P.cellsOf e)) (P.cellsOf e) = some cs' ∧ Rd P fz m e cs' := by
              intro i hi
              have := hE i hi
              rw [List.getElem?_eq_getElem (by omega), Option.bind_eq_some_iff] at this
              obtain ⟨cs', h1, h2⟩ := this
              exact ⟨cs', h1, ih _ _ _ _ hse h2⟩
            by_cases hl0 : len = 0
            · subst hl0
              exact fin _ 0 [] (by simp [maxLen]) rfl (by simp) rfl (fun _ => ⟨_, _, rfl⟩) (by simp)
            · obtain ⟨cs0, c1, _⟩ := hcs 0 (by omega)
              have ha : a.add (0 * P.cellsOf e) = a := by simp [Addr.add]
              rw [ha] at c1
              obtain ⟨c, tt, z, hb, hsp, _, _, _⟩ := cells_take hs0 c1
              have key : ∀ k, k ≤ len → ∃ yss us, yss.length = k ∧ VPLL fz (P.cellsOf e) yss us ∧ (∀ u ∈ us, plainV u = true) ∧ (∀ ys ∈ yss, ys.length = P.cellsOf e ∧ TyT P m e ys) ∧ (k ≠ 0 → a.off + k * P.cellsOf e ≤ c.toList.length) ∧ us = (c.toList.drop a.off).take (k * P.cellsOf e) := by
                intro k
                induction k with
                | zero => intro _; exact ⟨[], [], rfl, by simp [VPLL], by simp, by simp, by simp, by simp⟩
                | succ k ihk =>
                  intro hk
                  obtain ⟨yss, us, k1, k2, k3, k4, k5, k6⟩ := ihk (by omega)
                  obtain ⟨cs', d1, ys, d2, d3, d4⟩ := hcs k (by omega)
                  obtain ⟨c', tt', z', e1, e2, e3, e4, e5⟩ := cells_take hs0 d1
                  have hblk : (a.add (k * P.cellsOf e)).block = a.block := by unfold Addr.add; split <;> rfl
                  have hoff : (a.add (k * P.cellsOf e)).off = a.off + k * P.cellsOf e := by unfold Addr.add; split <;> simp_all
                  rw [hblk, hb] at e1
                  simp only [Option.some.injEq, Obj.cells.injEq] at e1
                  obtain ⟨rfl, _, _⟩ := e1
                  rw [hoff] at e4 e5
                  have hys : ys.length = P.cellsOf e := by rw [← VPL_length d2, e3]
                  have hf := VPLL_flat.1 k2
                  refine ⟨yss ++ [ys], us ++ cs', by simp [k1], VPLL_flat.2 ⟨?_, ?_⟩, ?_, ?_, fun _ => by rw [Nat.succ_mul]; omega, ?_⟩
                  · simpa using VPL_append hf.1 d2
                  · intro q hq; rcases List.mem_append.1 hq with hq | hq
                    · exact hf.2 q hq
                    · simp at hq; subst hq; exact hys
                  · intro u hu; rcases List.mem_append.1 hu with hu | hu
                    · exact k3 u hu
                    · exact d3 u hu
                  · intro q hq; rcases List.mem_append.1 hq with hq | hq
                    · exact k4 q hq
                    · simp at hq; subst hq; exact ⟨hys, d4⟩
                  · rw [k6, e5, Nat.succ_mul, List.take_add, List.drop_drop]
              obtain ⟨yss, us, k1, k2, k3, k4, k5, k6⟩ := key len (Nat.le_refl _)
              have k5 := k5 hl0
              have hne : yss ≠ [] := by intro e; subst e; simp at k1; omega
              refine fin _ len yss (by omega) k1 k4 rfl (fun e => absurd e hne) fun _ => ⟨a.block, a.off, cap, c.toList, us, ?_, hlc, hfz _ _ _ _ hb, k2, ?_⟩
              · obtain ⟨ab, ao, asp⟩ := a; simp only [] at hsp; subst hsp; rfl
              · refine ⟨c.toList.take a.off, c.toList.drop (a.off + len * P.cellsOf e), ?_, ?_, k3⟩
                · rw [k6, List.append_assoc, ← List.drop_drop, List.take_append_drop, List.take_append_drop]
                · rw [List.length_take]; omega
        | _ => simp [basic] at hs

/-! ### Listed variables -/
mutual
def flatD : DataW H → Option (List PV)
  | .lit (.bool b) => some [.bool b]
  | .lit (.int k n) => some [.int k n]
  | .lit (.string s) => some [.str s]
  | .agg ps => flatDL ps
  | _ => none
def flatDL : List (DataW H) → Option (List PV)
  | [] => some []
  | d :: r => match flatD d, flatDL r with
    | some xs, some ys => some (xs ++ ys)
    | _, _ => none
end

end
end Go.Proofs.YtphmmoloegjocaaDoor.Y

/- From contracts on data to the statements of rows. -/
namespace Go.Proofs.YtphmmoloegjocaaDoor.Y
open Go

theorem mapM_mono {α β : Type} {f g : α → Option β} : ∀ {l : List α} {r : List β}, (∀ x ∈ l, ∀ y, f x = some y → g x = some y) → l.mapM f = some r → l.mapM g = some r
  | [], r, _, h => by simpa using h
  | x :: l, r, hfg, h => by
    simp only [List.mapM_cons, Option.bind_eq_bind, Option.bind_eq_some_iff, Option.pure_def, Option.some.injEq] at h ⊢
    obtain ⟨y, h1, ys, h2, h3⟩ := h
    exact ⟨y, hfg x (by simp) y h1, ys, mapM_mono (fun z hz => hfg z (by simp [hz])) h2, h3⟩

/-- All that was there is there as it was. -/
def Kept (W W' : World) : Prop := ∀ (b : Nat) (o : Obj), W.heap[b]? = some o → W'.heap[b]? = some o

section
variable {H : Type} {enc : TypeId × Value → H} {P : Program} {W W' : World} {sp' : Nat → Bool} {held : Bool}

theorem Kept.cell (hk : Kept W W') {a : Addr} {v : Value} (h : W.cell? a = some v) : W'.cell? a = some v := by
  unfold World.cell? at h ⊢
  split at h
  · rename_i c t z hb
    rw [hk _ _ hb]
    exact h
  · cases h
theorem Kept.cells (hk : Kept W W') {a : Addr} {n : Nat} {cs : List Value} (h : W.cells? 0 a n = some cs) : W'.cells? 0 a n = some cs := by
  unfold World.cells? at h ⊢
  rw [if_pos (Nat.zero_le _)] at h ⊢
  exact mapM_mono (fun _ _ _ hx => hk.cell hx) h

theorem trod_kept (hk : Kept W W') (hsp : ∀ b, b < W.heap.size → sp' b = true) : ∀ (m : Nat) (t : TypeId) (n : Nat) (cs : List Value) (x : DataW H × List MemPlace), supp P m t = true → DataW.trod enc P W 0 (fun _ => true) held n t cs = some x → DataW.trod enc P W' 0 sp' held n t cs = some x
  | 0, _, _, _, _, hs, _ => by simp [supp] at hs
  | m + 1, t, 0, cs, x, hs, h => by simp [DataW.trod] at h
  | m + 1, t, n + 1, cs, x, hs, h => by
    have ih := trod_kept hk hsp m
    simp only [supp] at hs
    cases hu : P.underlying t with
    | none =>
      have hp : partsOf P t = none := by simp [partsOf, hu]
      simp [hp, hu] at hs
    | some d =>
      cases d with
      | struct fs =>
        have hp : partsOf P t = some (fs.toList.map fun f => (f.type, f.offset)) := by simp [partsOf, hu]
        simp only [hp, Bool.and_eq_true, List.all_eq_true] at hs
        unfold DataW.trod at h ⊢
        rw [hu] at h ⊢
        simp only [] at h ⊢
        split at h
        · rename_i hl
          rw [if_pos hl]
          rw [Option.map_eq_some_iff] at h ⊢
          obtain ⟨xs, h1, h2⟩ := h
          exact ⟨xs, mapM_mono (fun f hf y hy => ih _ _ _ _ (hs.2 (f.type, f.offset) (List.mem_map_of_mem hf)) hy) h1, h2⟩
        · cases h
      | array k e =>
        have hp : partsOf P t = some ((List.range k).map fun i => (e, i * P.cellsOf e)) := by simp [partsOf, hu]
        simp only [hp, Bool.and_eq_true, List.all_eq_true] at hs
        unfold DataW.trod at h ⊢
        rw [hu] at h ⊢
        simp only [] at h ⊢
        split at h
        · rename_i hl
          rw [if_pos hl]
          rw [Option.map_eq_some_iff] at h ⊢
          obtain ⟨xs, h1, h2⟩ := h
          exact ⟨xs, mapM_mono (fun i hi y hy => ih _ _ _ _ (hs.2 (e, i * P.cellsOf e) (List.mem_map_of_mem hi)) hy) h1, h2⟩
        · cases h
      | bool =>
        obtain ⟨b, rfl, rfl⟩ := DataW.trod_bool hu h
        unfold DataW.trod; rw [hu]
      | int k =>
        obtain ⟨b, rfl, rfl, hw⟩ := DataW.trod_int hu h
        unfold DataW.trod; rw [hu]; simp [hw]
      | string =>
        obtain ⟨s, rfl, rfl, hw⟩ := DataW.trod_string hu h
        unfold DataW.trod; rw [hu]; simp [hw]
      | slice e =>
        have hp : partsOf P t = none := by simp [partsOf, hu]
        simp only [hp, hu, Bool.and_eq_true, decide_eq_true_eq] at hs
        rcases DataW.trod_slice hu h with ⟨rfl, rfl⟩ | ⟨a, len, cap, _, _, _, _, rfl, _⟩
        · unfold DataW.trod; rw [hu]; rfl
        unfold DataW.trod at h ⊢
        rw [hu] at h ⊢
        simp only [if_true] at h ⊢
        split at h
        rotate_left
        · cases h
        rename_i hc
        rw [if_pos hc]
        rw [Option.bind_eq_some_iff] at h ⊢
        obtain ⟨elems, h1, h2⟩ := h
        rw [Option.map_eq_some_iff] at h2
        obtain ⟨rest, h2, h3⟩ := h2
        have el : ∀ i y, (W.cells? 0 (a.add (i * P.cellsOf e)) (P.cellsOf e)).bind (DataW.trod enc P W 0 (fun _ => true) held n e) = some y → (W'.cells? 0 (a.add (i * P.cellsOf e)) (P.cellsOf e)).bind (DataW.trod enc P W' 0 sp' held n e) = some y := by
          intro i y hy
          rw [Option.bind_eq_some_iff] at hy ⊢
          obtain ⟨cs', g1, g2⟩ := hy
          exact ⟨cs', hk.cells g1, ih _ _ _ _ hs.2 g2⟩
        refine ⟨elems, mapM_mono (fun i _ y hy => el i y hy) h1, ?_⟩
        rw [Option.map_eq_some_iff]
        refine ⟨rest, ?_, h3⟩
        by_cases hd : cap - len = 0
        · rw [hd] at h2 ⊢
          simp at h2
          subst h2
          cases sp' a.block <;> simp
        · have hb : a.block < W.heap.size := by
            have hl := mapM_some_length h2
            rw [List.length_range] at hl
            have := mapM_some_get h2 0 0 (by rw [List.getElem?_eq_getElem (by simp; omega)]; simp)
            rw [List.getElem?_eq_getElem (by omega), Option.bind_eq_some_iff] at this
            obtain ⟨cs', g1, _⟩ := this
            obtain ⟨c, t', z, g3, _⟩ := cells_take hs.1 g1
            have hblk : (a.add ((len + 0) * P.cellsOf e)).block = a.block := by unfold Addr.add; split <;> rfl
            rw [hblk] at g3
            exact (Array.getElem?_eq_some_iff.1 g3).1
          rw [if_pos (hsp _ hb)]
          exact mapM_mono (fun i _ y hy => el (len + i) y hy) h2
      | _ =>
        have hp : partsOf P t = none := by simp [partsOf, hu]
        simp [hp, hu, basic] at hs

theorem trodAll_kept (hk : Kept W W') (hsp : ∀ b, b < W.heap.size → sp' b = true) (m : Nat) : ∀ {ts : List TypeId} {vs : List Value} {ds : List (DataW H)} {ps : List MemPlace}, ts.all (supp P m) = true → DataW.TrodAll enc P W 0 (fun _ => true) held ts vs ds ps → DataW.TrodAll enc P W' 0 sp' held ts vs ds ps
  | [], [], [], ps, _, h => h
  | t :: ts, v :: vs, d :: ds, ps, hs, h => by
    simp only [List.all_cons, Bool.and_eq_true] at hs
    obtain ⟨p, q, ⟨fuel, h1⟩, h2, h3⟩ := h
    exact ⟨p, q, ⟨fuel, trod_kept hk hsp m _ _ _ _ hs.1 h1⟩, trodAll_kept hk hsp m hs.2 h2, h3⟩
  | [], [], _ :: _, ps, _, h => by simp [DataW.TrodAll] at h
  | [], _ :: _, _, ps, _, h => by simp [DataW.TrodAll] at h
  | _ :: _, [], _, ps, _, h => by simp [DataW.TrodAll] at h
  | _ :: _, _ :: _, [], ps, _, h => by simp [DataW.TrodAll] at h

/-- An argument of a type. -/
def ArgT (P : Program) (m : Nat) (t : TypeId) (x : PV) : Prop := match partsOf P t with
  | some _ => ∃ xs, x = .agg xs ∧ TyT P m t xs
  | none => TyT P m t [x]
def ArgsT (P : Program) (m : Nat) : List TypeId → List PV → Prop
  | [], xs => xs = []
  | t :: ts, xs => ∃ x r, xs = x :: r ∧ ArgT P m t x ∧ ArgsT P m ts r

def fzOf (W : World) : Fzn := fun b => match W.heap[b]? with
  | some (.cells c _ _) => some c.toList
  | _ => none
theorem fzOf_all (W : World) : AllCells (fzOf W) W := fun b c t z h => by simp [fzOf, h]
theorem fzOf_some {b : Nat} {arr : List Value} (h : fzOf W b = some arr) : ∃ c t z, W.heap[b]? = some (.cells c t z) ∧ arr = c.toList := by
  unfold fzOf at h
  split at h
  · rename_i c t z hb
    injection h with h
    exact ⟨c, t, z, hb, h.symm⟩
  · cases h

theorem arg_of {m : Nat} {base : Nat} {t : TypeId} {v : Value} {d : DataW H} {ps : List MemPlace} (hs : supp P m t = true) (hval : Value.okWide P W .any base t v) (h : DataW.Trod enc P W 0 (fun _ => true) true t v d ps) : ∃ x, VP (fzOf W) x v ∧ ArgT P m t x := by
  obtain ⟨fuel, h⟩ := h
  obtain ⟨xs, h1, h2, h3⟩ := typed_of_trod (fzOf_all W) m t fuel _ _ hs h
  unfold Value.okWide at hval
  cases hp : partsOf P t with
  | some l =>
    have : ∃ cs, v = .agg cs := by
      unfold partsOf at hp
      split at hp
      · rename_i fs hu; simp only [hu] at hval; obtain ⟨cs, h, _⟩ := hval; exact ⟨cs, h⟩
      · rename_i k e hu; simp only [hu] at hval; obtain ⟨cs, h, _⟩ := hval; exact ⟨cs, h⟩
      · cases hp
    obtain ⟨cs, rfl⟩ := this
    exact ⟨.agg xs, by simp only [VP]; exact ⟨cs, rfl, h1⟩, by simp only [ArgT, hp]; exact ⟨xs, rfl, h3⟩⟩
  | none =>
    have hv : v.cells = #[v] := by
      cases m with
      | zero => simp [supp] at hs
      | succ m =>
        simp only [supp, hp] at hs
        cases hu : P.underlying t with
        | none => simp [hu] at hs
        | some d =>
          simp only [hu] at hs hval
          cases d with
          | struct fs => simp [partsOf, hu] at hp
          | array k e => simp [partsOf, hu] at hp
          | bool => cases v <;> simp_all [Cell.okWide, Cell.ok, Value.cells]
          | int k => cases v <;> simp_all [Cell.okWide, Cell.ok, Value.cells]
          | string => cases v <;> simp_all [Cell.okWide, Cell.ok, Value.cells]
          | slice e => cases v <;> simp_all [Cell.okWide, Cell.ok, Value.cells]
          | _ => simp [basic] at hs
    rw [hv] at h1
    obtain ⟨x, rfl, h4⟩ : ∃ x, xs = [x] ∧ VP (fzOf W) x v := by
      match xs, h1 with
      | [], h1 => simp [VPL] at h1
      | x :: r, h1 =>
        simp only [VPL] at h1
        obtain ⟨u, us, e, g1, g2⟩ := h1
        simp only [List.cons.injEq] at e
        obtain ⟨rfl, rfl⟩ := e
        match r, g2 with
        | [], _ => exact ⟨x, rfl, g1⟩
        | y :: r, g2 => simp [VPL] at g2
    exact ⟨x, h4, by simp only [ArgT, hp]; exact h3⟩

theorem args_of {m base : Nat} : ∀ {ts : List TypeId} {vs : List Value} {ds : List (DataW H)} {ps : List MemPlace}, ts.all (supp P m) = true → (∀ (j : Nat) t v, ts[j]? = some t → vs[j]? = some v → Value.okWide P W .any base t v) → DataW.TrodAll enc P W 0 (fun _ => true) true ts vs ds ps →
    ∃ xs, VPL (fzOf W) xs vs ∧ ArgsT P m ts xs ∧ ds.length = ts.length
  | [], [], [], ps, _, _, _ => ⟨[], by simp [VPL], rfl, rfl⟩
  | t :: ts, v :: vs, d :: ds, ps, hs, hv, h => by
    simp only [List.all_cons, Bool.and_eq_true] at hs
    obtain ⟨p, q, h1, h2, h3⟩ := h
    obtain ⟨x, g1, g2⟩ := arg_of hs.1 (hv 0 t v rfl rfl) h1
    obtain ⟨xs, k1, k2, k3⟩ := args_of hs.2 (fun j t v ht hv' => hv (j + 1) t v ht hv') h2
    exact ⟨x :: xs, by simp only [VPL]; exact ⟨v, vs, rfl, g1, k1⟩, ⟨x, xs, rfl, g2, k2⟩, by simp [k3]⟩
  | [], [], _ :: _, ps, _, _, h => by simp [DataW.TrodAll] at h
  | [], _ :: _, _, ps, _, _, h => by simp [DataW.TrodAll] at h
  | _ :: _, [], _, ps, _, _, h => by simp [DataW.TrodAll] at h
  | _ :: _, _ :: _, [], ps, _, _, h => by simp [DataW.TrodAll] at h
end

section
variable {cx : Cx}

/-- A law on data, called in a world. -/
theorem calls_of_pure {H : Type} {enc : TypeId × Value → H} {W : World} {f : FuncId} {fn : Func} {c : Code} {m base : Nat} {args : Array Value} {ds : List (DataW H)} {ps : List MemPlace}
    (hf : cx.P.funcs[f]? = some fn) (hname : (fn.name == "runtime.NumGoroutine") = false) (hb : fn.body = some c) (hs : fn.params.toList.all (supp cx.P m) = true)
    (hpure : ∀ xs, ArgsT cx.P m fn.params.toList xs → Pure cx f xs (· = .ret [.bool true]))
    (hval : ∀ (j : Nat) t v, fn.params[j]? = some t → args[j]? = some v → Value.okWide cx.P W .any base t v)
    (hA : DataW.TrodAll enc cx.P W 0 (fun _ => true) true fn.params.toList args.toList ds ps)
    (hglob : ∀ g cs, gget cx.gt g = some cs → VP (fzOf W) (.fp cs) (.pointer (some ⟨g, 0, none⟩))) :
    Calls cx.P f args W fun e W' => e = .returned (.bool true) ∧ W'.os = W.os ∧ W'.output = W.output ∧ ∀ k, k < W.heap.size → W'.heap[k]? = W.heap[k]? := by
  obtain ⟨xs, h1, h2, _⟩ := args_of hs (fun j t v ht hv => hval j t v (by simpa using ht) (by simpa using hv)) hA
  have hR : R cx ⟨fun _ => none, fzOf W⟩ ⟨0, []⟩ W := by
    refine ⟨hglob, fun _ _ => rfl, fun b arr hb => ?_, fun n o hn => by simp [lget] at hn, fun n o q hn => by simp [lget] at hn, fun n o m p q q' hn => by simp [lget] at hn⟩
    obtain ⟨c, t, z, g1, rfl⟩ := fzOf_some hb
    exact ⟨t, z, g1⟩
  have key : ∀ e w', Post cx ⟨fun _ => none, fzOf W⟩ ⟨0, []⟩ W (EndP (· = .ret [.bool true])) e w' → e = .returned (.bool true) ∧ w'.os = W.os ∧ w'.output = W.output ∧ ∀ k, k < W.heap.size → w'.heap[k]? = W.heap[k]? := by
    intro e w' hP
    obtain ⟨r, Γ', hq, _, hE, _, hT, _⟩ := pure_post hR hP
    subst hq
    obtain ⟨v', rfl, hv⟩ := hE
    simp only [VR, VP] at hv
    subst hv
    exact ⟨rfl, hT.os, hT.output, fun k hk => hT.kept k hk own_nil⟩
  have hrun := run_enter hf hname hb args W
  rcases hpure xs h2 ⟨fun _ => none, fzOf W⟩ W args.toList hR (VRL_p.2 h1) with ⟨_, h4⟩ | ⟨v', w', h4, _⟩
  · exact h4.mono key
  · rw [hrun] at h4
    injection h4 with h4
    cases h4

/-- What a law's row asks behind the call. -/
theorem post_of_kept {H : Type} {enc : TypeId × Value → H} {W W' : World} {fn : Func} {s : ChangeSpec} {m : Nat} {bt : TypeId} {apart fresh handsOn : Bool} {args : Array Value} {ds gs : List (DataW H)} {before : List MemPlace}
    (hs : fn.params.toList.all (supp cx.P m) = true) (hvars : s.vars = []) (hres : fn.resultTypes = #[bt]) (hbt : cx.P.underlying bt = some .bool)
    (hfn : ∀ ds : List (DataW H), ds.length = fn.params.toList.length → s.fn H ds = { results := [.lit (.bool true)], args := ds })
    (hW : DataW.Whole enc cx.P fn.params.toList s.vars apart W args.toList ds gs before) (hlen : ds.length = fn.params.toList.length)
    (hos : W'.os = W.os) (hout : W'.output = W.output) (hkept : ∀ k, k < W.heap.size → W'.heap[k]? = W.heap[k]?) :
    s.post enc cx.P fn apart fresh handsOn false W args (.bool true) W' := by
  have hk : Kept W W' := fun b o hb => by rw [hkept b (Array.getElem?_eq_some_iff.1 hb).1]; exact hb
  have hW' := hW
  obtain ⟨p, q, h1, h2, _, _, _⟩ := hW'
  rw [hvars] at h2
  obtain ⟨rfl, rfl⟩ := Go.ChangeShapes.trodVars_none h2
  have e : s.fn H (ds ++ []) = { results := [.lit (.bool true)], args := ds } := by rw [List.append_nil]; exact hfn ds hlen
  refine ⟨ds, [], before, [], p, [], hW, ?_, ?_, ?_, ?_, fun h => by cases h⟩
  · rw [e, hres]
    exact Go.ChangeShapes.trodAll_mk1 (Go.RowKit.shut_bool hbt true)
  · rw [e]
    exact trodAll_kept hk (fun b hb => by simpa using hb) m hs h1
  · rw [e, hvars]
    rfl
  · refine ⟨hos, hout, fun i hi => ?_⟩
    rw [hkept i hi]
    have := Array.getElem?_eq_getElem hi
    rw [this]
    cases W.heap[i] <;> simp
end
end Go.Proofs.YtphmmoloegjocaaDoor.Y

/- Arguments of the statements: drafts. -/
namespace Go.Proofs.YtphmmoloegjocaaDoor
open Go Y
set_option maxRecDepth 100000
set_option maxHeartbeats 4000000

end Go.Proofs.YtphmmoloegjocaaDoor

/- The listed tables, as the rows of format ask. -/
namespace Go.Proofs.YtphmmoloegjocaaDoor
open Go Y
set_option maxRecDepth 100000

theorem own : ownKnob Tryd.prog.godebug = none := by kernel_rfl
abbrev laidD : List (String × DataW Unit) := [("math/bits.deBruijn32tab", Rows.laid_math_bits_deBruijn32tab), ("math/bits.deBruijn64tab", Rows.laid_math_bits_deBruijn64tab), ("internal/strconv.uint64pow10", Rows.laid_internal_strconv_uint64pow10), ("unicode/utf8.acceptRanges", Rows.laid_unicode_utf8_acceptRanges), ("unicode/utf8.first", Rows.laid_unicode_utf8_first)]
theorem door_metD (os : Os) (args : Array Value) : laidMetH Tryd.prog laidD ((World.laidAll Tryd.prog os laidD).forCall (fun _ _ => 0) ⟨#[], args, []⟩).memory := by
  rw [MakeChecks.laidMetH_plain _ _ _ (by kernel_rfl)]
  exact laidMet_laidAll _ (by kernel_rfl) (by kernel_rfl)
theorem glob_okD {W : World} (_ : laidMetH Tryd.prog laidD W) : ∀ g cs, gget cx.gt g = some cs → VP (fzOf W) (.fp cs) (.pointer (some ⟨g, 0, none⟩)) := fun _ _ h => by cases h
end Go.Proofs.YtphmmoloegjocaaDoor

/- FormatKnown: the row and the card. The examples, words and blanks, numbers, and limits. Conditions: those of the card. -/
namespace Go.Proofs.YtphmmoloegjocaaDoor
open Go Y
set_option maxRecDepth 100000

theorem formatKnown_pure : ∀ xs, ArgsT Tryd.prog 8 Tryd.f4.params.toList xs → Pure cx 4 xs (· = .ret [.bool true]) := by
  intro xs h
  rw [Tryd.params4] at h
  obtain rfl := h
  exact formatKnown_c 
theorem formatKnown_lifted (os : Os) (started : os.Started) (H : Type) (enc : TypeId × Value → H) :
    ReturnsInHanded {} Tryd.checked os 4 .any (fun w args => (Rows.formatKnownSpec.pre enc Tryd.prog Tryd.f4 [] false w args ∧ laidMetH Tryd.prog laidD w) ∧ sizedMet enc Tryd.prog Tryd.f4 (OpenSpec.ofChange Rows.formatKnownSpec) false w args)
      (Rows.formatKnownSpec.post enc Tryd.prog Tryd.f4 false true false false) := by
  refine returnsInHanded_of_change_and (C := Tryd.checked) (X := fun w _ => laidMetH Tryd.prog laidD w) (fun _ _ _ hh h => h.of_heap hh) own started (by kernel_rfl) Tryd.func4
    (ChangeSpec.witness_shaped (enc := enc) (C := Tryd.checked) (os := os) (X := fun w _ => laidMetH Tryd.prog laidD w) false (World.laidAll Tryd.prog os laidD) #[] 8 (World.laidAll_os _ _ _) (World.shaped_of_ZipB (by kernel_rfl) (by kernel_rfl)) (by kernel_rfl) (by kernel_rfl) (by kernel_rfl) (door_metD os _)) ?_
  intro W base args ds gs before hval hW _ _ hL _
  obtain ⟨p, q, hA, hV, _⟩ := id hW
  have hs : Tryd.f4.params.toList.all (supp Tryd.prog 8) = true := by kernel_rfl
  obtain ⟨_, _, _, hlen⟩ := args_of (base := base) hs (fun j t v ht _ => by simp at ht) hA
  refine (calls_of_pure (cx := cx) Tryd.func4 (by kernel_rfl) rfl hs formatKnown_pure hval hA (glob_okD hL)).mono fun e W' ⟨he, h1, h2, h3⟩ => ?_
  subst he
  exact ⟨_, rfl, post_of_kept (cx := cx) (m := 8) hs rfl (by kernel_rfl) Tryd.underlying4 (fun ds h => by
    rw [Tryd.params4] at h
    match ds, h with
    | [], _ => rfl) hW hlen h1 h2 h3⟩

theorem formatKnown_holds : Rows.FormatKnownSaid :=
  OpenClaim.holds_of_wide 4 Tryd.f4 rfl rfl rfl rfl rfl rfl rfl ⟨rfl, rfl, rfl, rfl, rfl⟩ rfl rfl rfl rfl rfl (by kernel_rfl) Tryd.func4 (by kernel_rfl)
    (of_decide_eq_true (by kernel_rfl)) (by unfold Func.isWrapper; first | (rw [if_pos (by decide +kernel)]; kernel_rfl) | (rw [if_neg (by decide +kernel)]; exact ⟨rfl, rfl⟩))
    (fun os started H enc _ => formatKnown_lifted os started H enc)

theorem formatKnown_card : Rows.FormatKnownCardSaid :=
  Claim7.holds_tied_plain_at .later [] [.data, .data, .data, .data, .pinned] true (true, "76287dd29b3369f2ec6c009232b851bb19cb6bfec78e149d8180913282343bc5") true
    formatKnown_holds (fun _ h => by cases h) (by kernel_rfl) (fun _ h => by cases h) formatKnown_row_tie rfl ⟨rfl, rfl⟩ (by kernel_rfl) rfl
    (fun f fn hf hfn => by
      obtain rfl : f = 4 := Option.some.inj ((show Tryd.prog.funcNamed "haruspex/haruspexlaw41.FormatKnown" = some 4 by kernel_rfl).symm.trans hf) |>.symm
      obtain rfl : fn = Tryd.f4 := (Option.some.inj (Tryd.func4.symm.trans hfn)).symm
      exact ⟨by kernel_rfl, fun j t ht => by
        have hall : (Tryd.f4.params.toList.all fun u => !Tryd.prog.wantsStandIn u) = true := by kernel_rfl
        exact (show Tryd.prog.wantsStandIn t = false by simpa using List.all_eq_true.1 hall t (by simpa using Array.mem_of_getElem? ht))⟩)
    (by kernel_rfl)
#print axioms formatKnown_card
end Go.Proofs.YtphmmoloegjocaaDoor
