/- Part 4 of the proof: Tk Ba Ua Ub Uc Ud Ue Va Vb Vc Vd Ve Vf -/
import Derived.Lib.MakeNoZero
import Derived.Laws.Externs
import Derived.Test.YtphmmoloegjocaaGreatDoorQ3
/- Drafted networks: the walk. -/
namespace Go.Proofs.YtphmmoloegjocaaGreatDoor
open Go Y
set_option maxRecDepth 100000
set_option maxHeartbeats 40000000

theorem net_c (D : D5) (hD : OkD5 D) : Pure cx 7 [D.pv] fun r => ∃ n : Nt, DrB n ∧ r = .ret [n.pv] := by
  refine pure_of_vc Tryz.func7 rfl rfl rfl ?_
  obtain ⟨N, hN⟩ : ∃ N : Nat, N = (cntX ((D.nodes.map Pc.cells).length : Nat)).toNat := ⟨_, rfl⟩
  have hNb : 1 ≤ N ∧ N ≤ 5 ∧ cntX ((D.nodes.map Pc.cells).length : Nat) = N := by
    rw [hN]
    unfold cntX
    split <;> split <;> omega
  obtain ⟨hN1, hN5, hX⟩ := hNb
  clear hN
  have hDl := hD.nodes
  obtain ⟨g, hg⟩ : ∃ g : Nat, g = 1 + D.grain.toNat % 60 := ⟨_, rfl⟩
  have hgb := D.grain.toNat_lt
  have hg60 : 1 ≤ g ∧ g ≤ 60 := by omega
  refine VDraw.altTo [(1, .ptr 0 0 0), (2, .ptr 1 0 0), (3, .p (i64 N)), (4, .ptr 3 0 0)] ⟨4, [(3, nbO g N), (2, cO (List.replicate N 0)), (1, znO), (0, d5O D)]⟩ rfl ?_ ?_
  · refine ⟨by decide, ?_⟩
    have hconv : ((D.grain.toNat % 60 : Nat) : Int) = IntKind.i64.wrap (((D.grain.toNat : Nat) : Int).tmod 60) := by rw [show ((D.grain.toNat : Nat) : Int).tmod 60 = ((D.grain.toNat % 60 : Nat) : Int) from rfl]; exact wrap_i64 (by omega) (by omega)
    refine ⟨((D.grain.toNat % 60 : Nat) : Int), hconv, ?_⟩
    refine ⟨(g : Int), by rw [hg]; exact wrap_i64 (by omega) (by omega), ?_⟩
    refine And.intro ?_ ?_
    · refine ⟨by show (0 : Int) ≤ cntX ((D.nodes.map Pc.cells).length : Nat) ∧ cntX ((D.nodes.map Pc.cells).length : Nat) ≤ cntX ((D.nodes.map Pc.cells).length : Nat) ∧ cntX ((D.nodes.map Pc.cells).length : Nat) * 56 ≤ 281474976710656 ∧ cntX ((D.nodes.map Pc.cells).length : Nat) ≤ 281474976710656; rw [hX]; omega, ?_⟩
      refine ⟨by (repeat' first | exact trivial | exact rfl | exact congrArg (fun n => AV.p (.int .i64 n)) hconv | refine And.intro ?_ ?_), ?_⟩
      refine ⟨by (repeat' first | exact trivial | exact rfl | exact congrArg (fun n => AV.p (.int .i64 n)) hconv | refine And.intro ?_ ?_), ?_⟩
      refine ent_of [] [] [] rfl ⟨⟨rfl, rfl⟩, ⟨rfl, rfl⟩, congrArg i64 hX.symm, ⟨rfl, rfl⟩, trivial⟩ ⟨⟨_, rfl, rfl, rfl, _, rfl, _, _, rfl, rfl, _, _, rfl, congrArg (fun m : Int => AV.sl 2 3 0 m.toNat) hX, rfl⟩, ⟨_, rfl, rfl, rfl, ?_⟩, ⟨_, rfl, rfl, rfl, _, rfl, by (repeat' first | exact trivial | exact rfl | exact ⟨rfl, rfl⟩ | exact .inl rfl | refine ⟨_, rfl, rfl, rfl, ?_⟩ | refine ⟨_, _, rfl, ?_, ?_⟩ | refine ⟨_, rfl, ?_⟩ | refine And.intro ?_ ?_)⟩, ⟨_, rfl, rfl, rfl, _, rfl, by (repeat' first | exact trivial | exact rfl | exact ⟨rfl, rfl⟩ | exact .inl rfl | refine ⟨_, rfl, rfl, rfl, ?_⟩ | refine ⟨_, _, rfl, ?_, ?_⟩ | refine ⟨_, rfl, ?_⟩ | refine And.intro ?_ ?_)⟩, trivial⟩ rfl
      show List.replicate (cntX ((D.nodes.map Pc.cells).length : Nat)).toNat [i64 0, .nils, .nils] = _
      rw [hX, Int.toNat_natCast, List.map_replicate]
    · refine ⟨by (repeat' first | exact trivial | exact rfl | exact congrArg (fun n => AV.p (.int .i64 n)) hconv | refine And.intro ?_ ?_), ?_⟩
      refine ⟨by show (0 : Int) ≤ cntX ((D.nodes.map Pc.cells).length : Nat) ∧ cntX ((D.nodes.map Pc.cells).length : Nat) ≤ cntX ((D.nodes.map Pc.cells).length : Nat) ∧ cntX ((D.nodes.map Pc.cells).length : Nat) * 56 ≤ 281474976710656 ∧ cntX ((D.nodes.map Pc.cells).length : Nat) ≤ 281474976710656; rw [hX]; omega, ?_⟩
      refine ⟨by (repeat' first | exact trivial | exact rfl | exact congrArg (fun n => AV.p (.int .i64 n)) hconv | refine And.intro ?_ ?_), ?_⟩
      refine ent_of [] [(2, 3), (3, 2)] [] rfl ⟨⟨rfl, rfl⟩, ⟨rfl, rfl⟩, congrArg i64 hX.symm, ⟨rfl, rfl⟩, trivial⟩ ⟨⟨_, rfl, rfl, rfl, _, rfl, _, _, rfl, rfl, _, _, rfl, congrArg (fun m : Int => AV.sl 3 3 0 m.toNat) hX, rfl⟩, ⟨_, rfl, rfl, rfl, ?_⟩, ⟨_, rfl, rfl, rfl, _, rfl, by (repeat' first | exact trivial | exact rfl | exact ⟨rfl, rfl⟩ | exact .inl rfl | refine ⟨_, rfl, rfl, rfl, ?_⟩ | refine ⟨_, _, rfl, ?_, ?_⟩ | refine ⟨_, rfl, ?_⟩ | refine And.intro ?_ ?_)⟩, ⟨_, rfl, rfl, rfl, _, rfl, by (repeat' first | exact trivial | exact rfl | exact ⟨rfl, rfl⟩ | exact .inl rfl | refine ⟨_, rfl, rfl, rfl, ?_⟩ | refine ⟨_, _, rfl, ?_, ?_⟩ | refine ⟨_, rfl, ?_⟩ | refine And.intro ?_ ?_)⟩, trivial⟩ rfl
      show List.replicate (cntX ((D.nodes.map Pc.cells).length : Nat)).toNat [i64 0, .nils, .nils] = _
      rw [hX, Int.toNat_natCast, List.map_replicate]
  refine VDraw.seq rfl ?_
  refine ⟨by show (0 : Int) ≤ (N : Nat) ∧ (N : Int) ≤ (N : Nat) ∧ (N : Int) * 1 ≤ 281474976710656 ∧ (N : Int) ≤ 281474976710656; omega, ?_⟩
  refine ⟨by (repeat' first | exact trivial | exact rfl | exact ⟨rfl, rfl⟩ | exact .inl rfl | refine ⟨_, rfl, rfl, rfl, ?_⟩ | refine ⟨_, _, rfl, ?_, ?_⟩ | refine ⟨_, rfl, ?_⟩ | refine And.intro ?_ ?_), ?_⟩
  refine (perm_c (List.replicate N 0) D.order 0 hD.order).use [4] rfl ?_ fun r hr => ?_
  · refine ⟨_, _, rfl, ⟨_, rfl, _, _, rfl, ⟨_, rfl, ?_, ?_⟩, _, _, rfl, rfl, _, _, rfl, rfl, rfl⟩, rfl⟩
    · show 0 + ((N : Int)).toNat ≤ (List.replicate ((N : Int)).toNat (PV.int .u8 0)).length
      simp
    · show (List.replicate N (0 : UInt8)).map u8 = ((List.replicate ((N : Int)).toNat (PV.int .u8 0)).drop 0).take ((N : Int)).toNat
      rw [Int.toNat_natCast, List.map_replicate]
      exact takeAll (by simp)
  obtain ⟨num, hp, rfl⟩ := hr
  rw [List.length_replicate, Nat.min_eq_left hN5] at hp
  have hnl : num.length = N := by rw [hp.length_eq, List.length_range]
  refine ⟨Nat × List Int × List Int, fun x => [(1, .ptr 0 0 0), (2, .ptr 1 0 0), (3, .p (i64 N)), (4, .ptr 3 0 0), (5, .p (ints (ofN num))), (6, .p (i64 (prodN x.2.2))), (7, .p (i64 x.1))], fun x => ⟨4, [(3, nbO g N), (2, cO x.2.1), (1, znO), (0, d5O D)]⟩, fun x => I1 N num x.1 x.2.1 x.2.2, fun x => N - x.1, ?_, ?_⟩
  · refine ⟨(0, List.replicate N 0, []), ⟨by simp, by simp, rfl, fun j hj => by simp at hj, by simp, ?_⟩, ent_of [] [] [] rfl (by (repeat' first | exact trivial | exact rfl | exact ⟨rfl, rfl⟩ | exact .inl rfl | refine ⟨_, rfl, rfl, rfl, ?_⟩ | refine ⟨_, _, rfl, ?_, ?_⟩ | refine ⟨_, rfl, ?_⟩ | refine And.intro ?_ ?_)) (by (repeat' first | exact trivial | exact rfl | exact ⟨rfl, rfl⟩ | exact .inl rfl | refine ⟨_, rfl, rfl, rfl, ?_⟩ | refine ⟨_, _, rfl, ?_, ?_⟩ | refine ⟨_, rfl, ?_⟩ | refine And.intro ?_ ?_)) rfl⟩
    show prodN [] * ((2 ^ (N - 0) : Nat) : Int) ≤ 100
    have : N = 1 ∨ N = 2 ∨ N = 3 ∨ N = 4 ∨ N = 5 := by omega
    rcases this with h | h | h | h | h <;> subst h <;> decide
  rintro ⟨i, cs, ws⟩ h
  simp only [] at h
  have hil := h.le
  have hw1 := h.pos
  have hpr := h.pr
  (first | refine brLt (fun h5 => ?_) (fun h5 => ?_) | refine brLe (fun h5 => ?_) (fun h5 => ?_) | refine brEq (fun h5 => ?_) (fun h5 => ?_))
  · have h5 : (i : Int) < N := h5
    have hi : i < N := by omega
    obtain ⟨E, hE⟩ : ∃ E : Int, E = ((2 ^ (N - 1 - i) : Nat) : Int) := ⟨_, rfl⟩
    have hE1 : 1 ≤ E := by
      rw [hE]
      have : 1 ≤ 2 ^ (N - 1 - i) := Nat.one_le_two_pow
      omega
    have hw2 : prodN ws * E ≤ 50 := by
      rw [show N - i = (N - 1 - i) + 1 by omega, Nat.pow_succ, Int.natCast_mul, ← hE, ← Int.mul_assoc] at hpr
      have : prodN ws * E * 2 ≤ 100 := hpr
      omega
    have hw0 : prodN ws * 1 ≤ prodN ws * E := Int.mul_le_mul_of_nonneg_left hE1 (by omega)
    obtain ⟨v, hvv⟩ : ∃ v, v = num.getD i 0 := ⟨_, rfl⟩
    have hv := nat_getD hp hi
    rw [← hvv] at hv
    have hnum : ((ofN num).map i64)[i]? = some (i64 (v : Int)) := by
      rw [hvv, ofN, List.map_map]
      exact map_at 0 (by omega)
    (first | refine brLt (fun h6 => ?_) (fun h6 => ?_) | refine brLe (fun h6 => ?_) (fun h6 => ?_) | refine brEq (fun h6 => ?_) (fun h6 => ?_))
    · have h6 : (i : Int) < ((D.nodes.map Pc.cells).length : Nat) := h6
      rw [List.length_map] at h6
      refine ⟨_, ⟨by omega, (D.nodes.getD i pc0).cells, pcell (by omega), rfl⟩, ?_⟩
      refine ⟨by decide, ?_⟩
      refine ⟨((((D.nodes.getD i pc0).card).toNat % 2 : Nat) : Int), by show _ = IntKind.i64.wrap (((((D.nodes.getD i pc0).card).toNat : Nat) : Int).tmod 2); rw [show ((((D.nodes.getD i pc0).card).toNat : Nat) : Int).tmod 2 = ((((D.nodes.getD i pc0).card).toNat % 2 : Nat) : Int) from rfl]; exact wrap_i64 (by omega) (by omega), ?_⟩
      obtain ⟨c, hc⟩ : ∃ c : Int, c = 2 + ((((D.nodes.getD i pc0).card).toNat % 2 : Nat) : Int) := ⟨_, rfl⟩
      have hc23 : 2 ≤ c ∧ c ≤ 3 := by omega
      have hwc : prodN ws * c ≤ 150 := by have := Int.mul_le_mul_of_nonneg_left hc23.2 (show 0 ≤ prodN ws by omega); omega
      have hwc0 : 0 ≤ prodN ws * c := Int.mul_nonneg (by omega) (by omega)
      have hwcE : 0 ≤ prodN ws * c * E := Int.mul_nonneg hwc0 (by omega)
      have hwcE2 : prodN ws * c * E ≤ 150 := by
        rw [Int.mul_assoc, Int.mul_comm c E, ← Int.mul_assoc]
        have := Int.mul_le_mul_of_nonneg_left hc23.2 (show 0 ≤ prodN ws * E by omega)
        omega
      refine ⟨c, by rw [hc]; exact wrap_i64 (by omega) (by omega), ?_⟩
      refine ⟨prodN ws * c, wrap_i64 (by omega) (by omega), ?_⟩
      refine ⟨((N - 1 : Nat) : Int), by show _ = IntKind.i64.wrap ((N : Int) - 1); rw [show (N : Int) - 1 = ((N - 1 : Nat) : Int) by omega]; exact wrap_i64 (by omega) (by omega), ?_⟩
      refine ⟨((N - 1 - i : Nat) : Int), by show _ = IntKind.i64.wrap (((N - 1 : Nat) : Int) - (i : Int)); rw [show ((N - 1 : Nat) : Int) - (i : Int) = ((N - 1 - i : Nat) : Int) by omega]; exact wrap_i64 (by omega) (by omega), ?_⟩
      refine ⟨((N - 1 - i : Nat) : Int), wrap_u64 (by omega), ?_⟩
      refine ⟨by show (0 : Int) ≤ ((N - 1 - i : Nat) : Int); omega, prodN ws * c * E, ?_, ?_⟩
      · show _ = IntKind.i64.wrap (prodN ws * c * 2 ^ (min (((N - 1 - i : Nat) : Int)).toNat 64))
        rw [Int.toNat_natCast, Nat.min_eq_left (by omega), show ((2 : Int) ^ (N - 1 - i)) = E by rw [hE]; norm_cast]
        exact wrap_i64 (by omega) (by omega)
      (first | refine brLt (fun h9 => ?_) (fun h9 => ?_) | refine brLe (fun h9 => ?_) (fun h9 => ?_) | refine brEq (fun h9 => ?_) (fun h9 => ?_))
      · refine ⟨prodN ws * 2, wrap_i64 (by omega) (by omega), ?_⟩
        refine VDraw.seq rfl ?_
        refine ⟨_, ⟨by omega, i64 (v : Int), hnum, rfl⟩, ?_⟩
        refine ⟨by show (0 : Int) ≤ (v : Nat) ∧ (v : Int) < (N : Nat); omega, ?_⟩
        refine ⟨[i64 (cs.getD v 0), .nils, .nils], by show (cs.map fun c => [i64 c, PV.nils, PV.nils])[0 + ((v : Nat) : Int).toNat]? = _; rw [Nat.zero_add, Int.toNat_natCast]; exact map_at 0 (by rw [h.cl]; omega), by show 0 + 1 ≤ 3; omega, ?_⟩
        refine ⟨_, wrap_i64 (by omega) (by omega), ?_⟩
        refine ⟨(i + 1, cs.set v (2), ws ++ [2]), by rw [hvv]; exact h.next hp (by omega) (by omega) (by rw [show N - (i + 1) = N - 1 - i by omega, ← hE, Int.mul_assoc, Int.mul_comm 2 E, ← Int.mul_assoc]; omega), ent_of [] [] [] rfl ⟨⟨rfl, rfl⟩, ⟨rfl, rfl⟩, rfl, ⟨rfl, rfl⟩, rfl, congrArg i64 (prod_snoc ws _), rfl, trivial⟩ ⟨⟨_, rfl, rfl, rfl, _, rfl, by (repeat' first | exact trivial | exact rfl | exact ⟨rfl, rfl⟩ | exact .inl rfl | refine ⟨_, rfl, rfl, rfl, ?_⟩ | refine ⟨_, _, rfl, ?_, ?_⟩ | refine ⟨_, rfl, ?_⟩ | refine And.intro ?_ ?_)⟩, ⟨_, rfl, rfl, rfl, ?_⟩, ⟨_, rfl, rfl, rfl, _, rfl, by (repeat' first | exact trivial | exact rfl | exact ⟨rfl, rfl⟩ | exact .inl rfl | refine ⟨_, rfl, rfl, rfl, ?_⟩ | refine ⟨_, _, rfl, ?_, ?_⟩ | refine ⟨_, rfl, ?_⟩ | refine And.intro ?_ ?_)⟩, ⟨_, rfl, rfl, rfl, _, rfl, by (repeat' first | exact trivial | exact rfl | exact ⟨rfl, rfl⟩ | exact .inl rfl | refine ⟨_, rfl, rfl, rfl, ?_⟩ | refine ⟨_, _, rfl, ?_, ?_⟩ | refine ⟨_, rfl, ?_⟩ | refine And.intro ?_ ?_)⟩, trivial⟩ rfl, by show N - (i + 1) < N - i; omega⟩
        show (cs.map fun c => [i64 c, PV.nils, PV.nils]).set (0 + ((v : Nat) : Int).toNat) [i64 (2), .nils, .nils] = _
        rw [Nat.zero_add, Int.toNat_natCast, List.map_set]
      · have h9 : ¬ (100 : Int) < prodN ws * c * E := h9
        refine ⟨prodN ws * c, wrap_i64 (by omega) (by omega), ?_⟩
        refine VDraw.seq rfl ?_
        refine ⟨_, ⟨by omega, i64 (v : Int), hnum, rfl⟩, ?_⟩
        refine ⟨by show (0 : Int) ≤ (v : Nat) ∧ (v : Int) < (N : Nat); omega, ?_⟩
        refine ⟨[i64 (cs.getD v 0), .nils, .nils], by show (cs.map fun c => [i64 c, PV.nils, PV.nils])[0 + ((v : Nat) : Int).toNat]? = _; rw [Nat.zero_add, Int.toNat_natCast]; exact map_at 0 (by rw [h.cl]; omega), by show 0 + 1 ≤ 3; omega, ?_⟩
        refine ⟨_, wrap_i64 (by omega) (by omega), ?_⟩
        refine ⟨(i + 1, cs.set v (c), ws ++ [c]), by rw [hvv]; exact h.next hp (by omega) (by omega) (by rw [show N - (i + 1) = N - 1 - i by omega, ← hE]; omega), ent_of [] [] [] rfl ⟨⟨rfl, rfl⟩, ⟨rfl, rfl⟩, rfl, ⟨rfl, rfl⟩, rfl, congrArg i64 (prod_snoc ws _), rfl, trivial⟩ ⟨⟨_, rfl, rfl, rfl, _, rfl, by (repeat' first | exact trivial | exact rfl | exact ⟨rfl, rfl⟩ | exact .inl rfl | refine ⟨_, rfl, rfl, rfl, ?_⟩ | refine ⟨_, _, rfl, ?_, ?_⟩ | refine ⟨_, rfl, ?_⟩ | refine And.intro ?_ ?_)⟩, ⟨_, rfl, rfl, rfl, ?_⟩, ⟨_, rfl, rfl, rfl, _, rfl, by (repeat' first | exact trivial | exact rfl | exact ⟨rfl, rfl⟩ | exact .inl rfl | refine ⟨_, rfl, rfl, rfl, ?_⟩ | refine ⟨_, _, rfl, ?_, ?_⟩ | refine ⟨_, rfl, ?_⟩ | refine And.intro ?_ ?_)⟩, ⟨_, rfl, rfl, rfl, _, rfl, by (repeat' first | exact trivial | exact rfl | exact ⟨rfl, rfl⟩ | exact .inl rfl | refine ⟨_, rfl, rfl, rfl, ?_⟩ | refine ⟨_, _, rfl, ?_, ?_⟩ | refine ⟨_, rfl, ?_⟩ | refine And.intro ?_ ?_)⟩, trivial⟩ rfl, by show N - (i + 1) < N - i; omega⟩
        show (cs.map fun c => [i64 c, PV.nils, PV.nils]).set (0 + ((v : Nat) : Int).toNat) [i64 (c), .nils, .nils] = _
        rw [Nat.zero_add, Int.toNat_natCast, List.map_set]
    · refine ⟨by decide, ?_⟩
      refine ⟨((((0 : UInt8)).toNat % 2 : Nat) : Int), by show _ = IntKind.i64.wrap (((((0 : UInt8)).toNat : Nat) : Int).tmod 2); rw [show ((((0 : UInt8)).toNat : Nat) : Int).tmod 2 = ((((0 : UInt8)).toNat % 2 : Nat) : Int) from rfl]; exact wrap_i64 (by omega) (by omega), ?_⟩
      obtain ⟨c, hc⟩ : ∃ c : Int, c = 2 + ((((0 : UInt8)).toNat % 2 : Nat) : Int) := ⟨_, rfl⟩
      have hc23 : 2 ≤ c ∧ c ≤ 3 := by omega
      have hwc : prodN ws * c ≤ 150 := by have := Int.mul_le_mul_of_nonneg_left hc23.2 (show 0 ≤ prodN ws by omega); omega
      have hwc0 : 0 ≤ prodN ws * c := Int.mul_nonneg (by omega) (by omega)
      have hwcE : 0 ≤ prodN ws * c * E := Int.mul_nonneg hwc0 (by omega)
      have hwcE2 : prodN ws * c * E ≤ 150 := by
        rw [Int.mul_assoc, Int.mul_comm c E, ← Int.mul_assoc]
        have := Int.mul_le_mul_of_nonneg_left hc23.2 (show 0 ≤ prodN ws * E by omega)
        omega
      refine ⟨c, by rw [hc]; exact wrap_i64 (by omega) (by omega), ?_⟩
      refine ⟨prodN ws * c, wrap_i64 (by omega) (by omega), ?_⟩
      refine ⟨((N - 1 : Nat) : Int), by show _ = IntKind.i64.wrap ((N : Int) - 1); rw [show (N : Int) - 1 = ((N - 1 : Nat) : Int) by omega]; exact wrap_i64 (by omega) (by omega), ?_⟩
      refine ⟨((N - 1 - i : Nat) : Int), by show _ = IntKind.i64.wrap (((N - 1 : Nat) : Int) - (i : Int)); rw [show ((N - 1 : Nat) : Int) - (i : Int) = ((N - 1 - i : Nat) : Int) by omega]; exact wrap_i64 (by omega) (by omega), ?_⟩
      refine ⟨((N - 1 - i : Nat) : Int), wrap_u64 (by omega), ?_⟩
      refine ⟨by show (0 : Int) ≤ ((N - 1 - i : Nat) : Int); omega, prodN ws * c * E, ?_, ?_⟩
      · show _ = IntKind.i64.wrap (prodN ws * c * 2 ^ (min (((N - 1 - i : Nat) : Int)).toNat 64))
        rw [Int.toNat_natCast, Nat.min_eq_left (by omega), show ((2 : Int) ^ (N - 1 - i)) = E by rw [hE]; norm_cast]
        exact wrap_i64 (by omega) (by omega)
      (first | refine brLt (fun h9 => ?_) (fun h9 => ?_) | refine brLe (fun h9 => ?_) (fun h9 => ?_) | refine brEq (fun h9 => ?_) (fun h9 => ?_))
      · refine ⟨prodN ws * 2, wrap_i64 (by omega) (by omega), ?_⟩
        refine VDraw.seq rfl ?_
        refine ⟨_, ⟨by omega, i64 (v : Int), hnum, rfl⟩, ?_⟩
        refine ⟨by show (0 : Int) ≤ (v : Nat) ∧ (v : Int) < (N : Nat); omega, ?_⟩
        refine ⟨[i64 (cs.getD v 0), .nils, .nils], by show (cs.map fun c => [i64 c, PV.nils, PV.nils])[0 + ((v : Nat) : Int).toNat]? = _; rw [Nat.zero_add, Int.toNat_natCast]; exact map_at 0 (by rw [h.cl]; omega), by show 0 + 1 ≤ 3; omega, ?_⟩
        refine ⟨_, wrap_i64 (by omega) (by omega), ?_⟩
        refine ⟨(i + 1, cs.set v (2), ws ++ [2]), by rw [hvv]; exact h.next hp (by omega) (by omega) (by rw [show N - (i + 1) = N - 1 - i by omega, ← hE, Int.mul_assoc, Int.mul_comm 2 E, ← Int.mul_assoc]; omega), ent_of [] [] [] rfl ⟨⟨rfl, rfl⟩, ⟨rfl, rfl⟩, rfl, ⟨rfl, rfl⟩, rfl, congrArg i64 (prod_snoc ws _), rfl, trivial⟩ ⟨⟨_, rfl, rfl, rfl, _, rfl, by (repeat' first | exact trivial | exact rfl | exact ⟨rfl, rfl⟩ | exact .inl rfl | refine ⟨_, rfl, rfl, rfl, ?_⟩ | refine ⟨_, _, rfl, ?_, ?_⟩ | refine ⟨_, rfl, ?_⟩ | refine And.intro ?_ ?_)⟩, ⟨_, rfl, rfl, rfl, ?_⟩, ⟨_, rfl, rfl, rfl, _, rfl, by (repeat' first | exact trivial | exact rfl | exact ⟨rfl, rfl⟩ | exact .inl rfl | refine ⟨_, rfl, rfl, rfl, ?_⟩ | refine ⟨_, _, rfl, ?_, ?_⟩ | refine ⟨_, rfl, ?_⟩ | refine And.intro ?_ ?_)⟩, ⟨_, rfl, rfl, rfl, _, rfl, by (repeat' first | exact trivial | exact rfl | exact ⟨rfl, rfl⟩ | exact .inl rfl | refine ⟨_, rfl, rfl, rfl, ?_⟩ | refine ⟨_, _, rfl, ?_, ?_⟩ | refine ⟨_, rfl, ?_⟩ | refine And.intro ?_ ?_)⟩, trivial⟩ rfl, by show N - (i + 1) < N - i; omega⟩
        show (cs.map fun c => [i64 c, PV.nils, PV.nils]).set (0 + ((v : Nat) : Int).toNat) [i64 (2), .nils, .nils] = _
        rw [Nat.zero_add, Int.toNat_natCast, List.map_set]
      · have h9 : ¬ (100 : Int) < prodN ws * c * E := h9
        refine ⟨prodN ws * c, wrap_i64 (by omega) (by omega), ?_⟩
        refine VDraw.seq rfl ?_
        refine ⟨_, ⟨by omega, i64 (v : Int), hnum, rfl⟩, ?_⟩
        refine ⟨by show (0 : Int) ≤ (v : Nat) ∧ (v : Int) < (N : Nat); omega, ?_⟩
        refine ⟨[i64 (cs.getD v 0), .nils, .nils], by show (cs.map fun c => [i64 c, PV.nils, PV.nils])[0 + ((v : Nat) : Int).toNat]? = _; rw [Nat.zero_add, Int.toNat_natCast]; exact map_at 0 (by rw [h.cl]; omega), by show 0 + 1 ≤ 3; omega, ?_⟩
        refine ⟨_, wrap_i64 (by omega) (by omega), ?_⟩
        refine ⟨(i + 1, cs.set v (c), ws ++ [c]), by rw [hvv]; exact h.next hp (by omega) (by omega) (by rw [show N - (i + 1) = N - 1 - i by omega, ← hE]; omega), ent_of [] [] [] rfl ⟨⟨rfl, rfl⟩, ⟨rfl, rfl⟩, rfl, ⟨rfl, rfl⟩, rfl, congrArg i64 (prod_snoc ws _), rfl, trivial⟩ ⟨⟨_, rfl, rfl, rfl, _, rfl, by (repeat' first | exact trivial | exact rfl | exact ⟨rfl, rfl⟩ | exact .inl rfl | refine ⟨_, rfl, rfl, rfl, ?_⟩ | refine ⟨_, _, rfl, ?_, ?_⟩ | refine ⟨_, rfl, ?_⟩ | refine And.intro ?_ ?_)⟩, ⟨_, rfl, rfl, rfl, ?_⟩, ⟨_, rfl, rfl, rfl, _, rfl, by (repeat' first | exact trivial | exact rfl | exact ⟨rfl, rfl⟩ | exact .inl rfl | refine ⟨_, rfl, rfl, rfl, ?_⟩ | refine ⟨_, _, rfl, ?_, ?_⟩ | refine ⟨_, rfl, ?_⟩ | refine And.intro ?_ ?_)⟩, ⟨_, rfl, rfl, rfl, _, rfl, by (repeat' first | exact trivial | exact rfl | exact ⟨rfl, rfl⟩ | exact .inl rfl | refine ⟨_, rfl, rfl, rfl, ?_⟩ | refine ⟨_, _, rfl, ?_, ?_⟩ | refine ⟨_, rfl, ?_⟩ | refine And.intro ?_ ?_)⟩, trivial⟩ rfl, by show N - (i + 1) < N - i; omega⟩
        show (cs.map fun c => [i64 c, PV.nils, PV.nils]).set (0 + ((v : Nat) : Int).toNat) [i64 (c), .nils, .nils] = _
        rw [Nat.zero_add, Int.toNat_natCast, List.map_set]
  have h5 : ¬ (i : Int) < N := h5
  have hi : i = N := by omega
  subst hi
  obtain ⟨hpe, hc23⟩ := h.cs_eq hp
  have hcl := h.cl
  have hp100 : prodN cs ≤ 100 := by rw [hpe]; rw [Nat.sub_self] at hpr; simpa using hpr
  clear hpr hpe
  refine ⟨Nat × List (Nd × Bool), fun x => [(1, .ptr 0 0 0), (2, .ptr 1 0 0), (3, .p (i64 i)), (4, .ptr 3 0 0), (5, .p (ints (ofN num))), (10, .p (i64 x.1))], fun x => ⟨4, [(3, nbO g i), (2, mO (rowsAV x.2)), (1, znO), (0, d5O D)]⟩, fun x => I2 i g cs num x.1 x.2, fun x => i - x.1, ?_, ?_⟩
  · refine ⟨(0, cs.map fun c => ((⟨c, [], []⟩ : Nd), false)), ⟨by simp, by rw [List.length_map]; exact hcl, by rw [List.map_map]; exact (List.map_congr_left fun c _ => rfl).trans (List.map_id cs), fun p hpm _ => ?_, fun j _ hj => ?_, fun j hj => by simp at hj⟩, ent_of [] [] [] rfl (by (repeat' first | exact trivial | exact rfl | exact ⟨rfl, rfl⟩ | exact .inl rfl | refine ⟨_, rfl, rfl, rfl, ?_⟩ | refine ⟨_, _, rfl, ?_, ?_⟩ | refine ⟨_, rfl, ?_⟩ | refine And.intro ?_ ?_)) ⟨⟨_, rfl, rfl, rfl, _, rfl, by (repeat' first | exact trivial | exact rfl | exact ⟨rfl, rfl⟩ | exact .inl rfl | refine ⟨_, rfl, rfl, rfl, ?_⟩ | refine ⟨_, _, rfl, ?_, ?_⟩ | refine ⟨_, rfl, ?_⟩ | refine And.intro ?_ ?_)⟩, ⟨_, rfl, rfl, rfl, _, rfl, ?_⟩, ⟨_, rfl, rfl, rfl, _, rfl, by (repeat' first | exact trivial | exact rfl | exact ⟨rfl, rfl⟩ | exact .inl rfl | refine ⟨_, rfl, rfl, rfl, ?_⟩ | refine ⟨_, _, rfl, ?_, ?_⟩ | refine ⟨_, rfl, ?_⟩ | refine And.intro ?_ ?_)⟩, ⟨_, rfl, rfl, rfl, _, rfl, by (repeat' first | exact trivial | exact rfl | exact ⟨rfl, rfl⟩ | exact .inl rfl | refine ⟨_, rfl, rfl, rfl, ?_⟩ | refine ⟨_, _, rfl, ?_, ?_⟩ | refine ⟨_, rfl, ?_⟩ | refine And.intro ?_ ?_)⟩, trivial⟩ rfl⟩
    · obtain ⟨c, _, rfl⟩ := List.mem_map.1 hpm
      exact ⟨rfl, rfl⟩
    · show ((cs.map fun c => ((⟨c, [], []⟩ : Nd), false)).getD (num.getD j 0) d0).2 = false
      rw [getD_map 0 d0 (by rw [hcl]; exact nat_getD hp hj)]
    · rw [rowsAV_eq, List.map_map]
      exact seeLL_p _
  rintro ⟨j, L⟩ h2
  simp only [] at h2
  have hLl := h2.len
  (first | refine brLt (fun h7 => ?_) (fun h7 => ?_) | refine brLe (fun h7 => ?_) (fun h7 => ?_) | refine brEq (fun h7 => ?_) (fun h7 => ?_))
  rotate_left
  · have h7 : ¬ (j : Int) < i := h7
    have hj : j = i := by have := h2.le; omega
    subst hj
    have hB := h2.fin hp ⟨hN1, hN5⟩ hg60 hc23 hp100
    refine end1 (Nt.pv ⟨g, L.map fun p => p.1⟩) rfl ⟨_, rfl, _, _, rfl, rfl, _, _, rfl, ⟨_, rfl, ?_, ?_⟩, rfl⟩ ⟨_, hB, rfl⟩
    · show 0 + j ≤ (rowsAV L).length
      rw [rows_len]; omega
    · show ResLL _ (((rowsAV L).drop 0).take j) _
      rw [List.drop_zero, List.take_of_length_le (by rw [rows_len]; omega), List.map_map]
      exact rows_res h2.raw
  have h7 : (j : Int) < i := h7
  have hj : j < i := by omega
  obtain ⟨v, hvv⟩ : ∃ v, v = num.getD j 0 := ⟨_, rfl⟩
  have hv := nat_getD hp hj
  rw [← hvv] at hv
  have hnum : ∀ k, k < i → ((ofN num).map i64)[k]? = some (i64 ((num.getD k 0 : Nat) : Int)) := fun k hk => by
    rw [ofN, List.map_map]
    exact map_at 0 (by omega)
  obtain ⟨c, hc⟩ : ∃ c : Nat, cs.getD v 0 = c := ⟨(cs.getD v 0).toNat, by have := hc23 _ (getD_memL 0 (show v < cs.length by omega)); omega⟩
  have hc3 : 2 ≤ c ∧ c ≤ 3 := by have := hc23 _ (getD_memL 0 (show v < cs.length by omega)); omega
  obtain ⟨p, hpp⟩ : ∃ p, p = D.nodes.getD j pc0 := ⟨_, rfl⟩
  have hpw : p.w.length ≤ 9223372036854775807 := by
    rw [hpp]
    by_cases hjl : j < D.nodes.length
    · exact hD.w _ (getD_memL pc0 hjl)
    · rw [List.getD_eq_getElem?_getD, List.getElem?_eq_none (by omega)]; simp [pc0]
  have hLv : (rowsAV L)[v]? = some [.p (i64 c), .p .nils, .p .nils] := by
    have h3 := h2.todo j (Nat.le_refl _) hj
    rw [← hvv] at h3
    have h4 : (L.getD v d0).1.card = c := by
      have := h2.card
      rw [← hc, ← this, getD_map d0 0 (by omega)]
    rw [rowsAV, map_at d0 (by omega), h3]
    show some [AV.p (i64 (L.getD v d0).1.card), .p .nils, .p .nils] = _
    rw [h4]
  have hLs : rowsAV L = (rowsAV L).set v [.p (i64 c), .p .nils, .p .nils] := by
    refine List.ext_getElem? fun k => ?_
    rw [List.getElem?_set]
    split
    · rename_i e
      subst e
      rw [if_pos (by rw [rows_len]; omega)]; exact hLv
    · rfl
  apply cut
  case h =>
    intro key
    (first | refine brLt (fun h8 => ?_) (fun h8 => ?_) | refine brLe (fun h8 => ?_) (fun h8 => ?_) | refine brEq (fun h8 => ?_) (fun h8 => ?_))
    · have h8 : (j : Int) < ((D.nodes.map Pc.cells).length : Nat) := h8
      rw [List.length_map] at h8
      refine ⟨_, ⟨by omega, p.cells, by rw [hpp]; exact pcell (by omega), rfl⟩, ?_⟩
      refine ⟨_, ⟨by omega, i64 (v : Int), by rw [hvv]; exact hnum j hj, rfl⟩, ?_⟩
      refine ⟨Nat × List Int, fun x => [(1, .ptr 0 0 0), (2, .ptr 1 0 0), (3, .p (i64 i)), (4, .ptr 3 0 0), (5, .p (ints (ofN num))), (10, .p (i64 j)), (11, .ptr 4 0 0), (12, .p (i64 v)), (13, .p (i64 x.1))], fun x => ⟨6, [(5, iO x.2), (4, pcO p), (3, nbO g i), (2, mO ((rowsAV L).set v [.p (i64 c), .sl 5 1 0 x.2.length, .p .nils])), (1, znO), (0, d5O D)]⟩,
        fun x => x.1 ≤ i ∧ listP x.1 x.2 ∧ x.2.length ≤ 3 ∧ ∀ q ∈ x.2, ∃ k, k < j ∧ ((num.getD k 0 : Nat) : Int) = q, fun x => i - x.1, ?_, key.get⟩
      refine ⟨(0, []), ⟨by simp, fun a ha => by simp at ha, by simp, by simp⟩, ent_of [] [] [(5, 1)] rfl ⟨⟨rfl, rfl⟩, ⟨rfl, rfl⟩, rfl, ⟨rfl, rfl⟩, rfl, rfl, ⟨rfl, rfl⟩, rfl, rfl, trivial⟩ ⟨⟨rfl, rfl, rfl⟩, ⟨_, rfl, rfl, rfl, _, rfl, by (repeat' first | exact trivial | exact rfl | exact ⟨rfl, rfl⟩ | exact .inl rfl | refine ⟨_, rfl, rfl, rfl, ?_⟩ | refine ⟨_, _, rfl, ?_, ?_⟩ | refine ⟨_, rfl, ?_⟩ | refine And.intro ?_ ?_)⟩, ⟨_, rfl, rfl, rfl, _, rfl, by (repeat' first | exact trivial | exact rfl | exact ⟨rfl, rfl⟩ | exact .inl rfl | refine ⟨_, rfl, rfl, rfl, ?_⟩ | refine ⟨_, _, rfl, ?_, ?_⟩ | refine ⟨_, rfl, ?_⟩ | refine And.intro ?_ ?_)⟩, ⟨_, rfl, rfl, rfl, _, rfl, ?_⟩, ⟨_, rfl, rfl, rfl, _, rfl, by (repeat' first | exact trivial | exact rfl | exact ⟨rfl, rfl⟩ | exact .inl rfl | refine ⟨_, rfl, rfl, rfl, ?_⟩ | refine ⟨_, _, rfl, ?_, ?_⟩ | refine ⟨_, rfl, ?_⟩ | refine And.intro ?_ ?_)⟩, ⟨_, rfl, rfl, rfl, _, rfl, by (repeat' first | exact trivial | exact rfl | exact ⟨rfl, rfl⟩ | exact .inl rfl | refine ⟨_, rfl, rfl, rfl, ?_⟩ | refine ⟨_, _, rfl, ?_, ?_⟩ | refine ⟨_, rfl, ?_⟩ | refine And.intro ?_ ?_)⟩, trivial⟩ rfl⟩
      rw [hLs, List.set_set]
      exact seeLL_set (rows_see L) ⟨_, _, rfl, rfl, _, _, rfl, ⟨rfl, rfl, rfl, rfl⟩, _, _, rfl, .inl rfl, rfl⟩
    · have h8 : ¬ (j : Int) < ((D.nodes.map Pc.cells).length : Nat) := h8
      rw [List.length_map] at h8
      have hp0 : p = pc0 := by rw [hpp, List.getD_eq_getElem?_getD, List.getElem?_eq_none (by omega)]; rfl
      refine ⟨_, ⟨by omega, i64 (v : Int), by rw [hvv]; exact hnum j hj, rfl⟩, ?_⟩
      refine ⟨Nat × List Int, fun x => [(1, .ptr 0 0 0), (2, .ptr 1 0 0), (3, .p (i64 i)), (4, .ptr 3 0 0), (5, .p (ints (ofN num))), (10, .p (i64 j)), (11, .ptr 4 0 0), (12, .p (i64 v)), (13, .p (i64 x.1))], fun x => ⟨6, [(5, iO x.2), (4, pcO p), (3, nbO g i), (2, mO ((rowsAV L).set v [.p (i64 c), .sl 5 1 0 x.2.length, .p .nils])), (1, znO), (0, d5O D)]⟩,
        fun x => x.1 ≤ i ∧ listP x.1 x.2 ∧ x.2.length ≤ 3 ∧ ∀ q ∈ x.2, ∃ k, k < j ∧ ((num.getD k 0 : Nat) : Int) = q, fun x => i - x.1, ?_, key.get⟩
      refine ⟨(0, []), ⟨by simp, fun a ha => by simp at ha, by simp, by simp⟩, ent_of [] [] [(5, 1)] rfl ⟨⟨rfl, rfl⟩, ⟨rfl, rfl⟩, rfl, ⟨rfl, rfl⟩, rfl, rfl, ⟨rfl, rfl⟩, rfl, rfl, trivial⟩ ⟨⟨rfl, rfl, rfl⟩, ⟨_, rfl, rfl, rfl, _, rfl, ?_⟩, ⟨_, rfl, rfl, rfl, _, rfl, by (repeat' first | exact trivial | exact rfl | exact ⟨rfl, rfl⟩ | exact .inl rfl | refine ⟨_, rfl, rfl, rfl, ?_⟩ | refine ⟨_, _, rfl, ?_, ?_⟩ | refine ⟨_, rfl, ?_⟩ | refine And.intro ?_ ?_)⟩, ⟨_, rfl, rfl, rfl, _, rfl, ?_⟩, ⟨_, rfl, rfl, rfl, _, rfl, by (repeat' first | exact trivial | exact rfl | exact ⟨rfl, rfl⟩ | exact .inl rfl | refine ⟨_, rfl, rfl, rfl, ?_⟩ | refine ⟨_, _, rfl, ?_, ?_⟩ | refine ⟨_, rfl, ?_⟩ | refine And.intro ?_ ?_)⟩, ⟨_, rfl, rfl, rfl, _, rfl, by (repeat' first | exact trivial | exact rfl | exact ⟨rfl, rfl⟩ | exact .inl rfl | refine ⟨_, rfl, rfl, rfl, ?_⟩ | refine ⟨_, _, rfl, ?_, ?_⟩ | refine ⟨_, rfl, ?_⟩ | refine And.intro ?_ ?_)⟩, trivial⟩ rfl⟩
      · rw [hp0]
        exact ⟨_, _, rfl, rfl, _, _, rfl, rfl, _, _, rfl, .inr (.inl rfl), rfl⟩
      · rw [hLs, List.set_set]
        exact seeLL_set (rows_see L) ⟨_, _, rfl, rfl, _, _, rfl, ⟨rfl, rfl, rfl, rfl⟩, _, _, rfl, .inl rfl, rfl⟩
  case k =>
    rintro ⟨u, ps⟩ ⟨u1, u2, u3, u4⟩
    simp only [] at u1 u2 u3 u4
    (first | refine brLt (fun h8 => ?_) (fun h8 => ?_) | refine brLe (fun h8 => ?_) (fun h8 => ?_) | refine brEq (fun h8 => ?_) (fun h8 => ?_))
    · have h8 : (u : Int) < i := h8
      have hu : u < i := by omega
      refine ⟨Nat × List Int, fun x => [(1, .ptr 0 0 0), (2, .ptr 1 0 0), (3, .p (i64 i)), (4, .ptr 3 0 0), (5, .p (ints (ofN num))), (10, .p (i64 j)), (11, .ptr 4 0 0), (12, .p (i64 v)), (13, .p (i64 u)), (14, .p (i64 x.1))], fun x => ⟨6, [(5, iO x.2), (4, pcO p), (3, nbO g i), (2, mO ((rowsAV L).set v [.p (i64 c), .sl 5 1 0 x.2.length, .p .nils])), (1, znO), (0, d5O D)]⟩,
        fun x => x.1 ≤ j ∧ (listP u x.2 ∨ (listP ((u + 1 : Nat) : Int) x.2 ∧ ∃ a, a < x.1 ∧ num.getD a 0 = u)) ∧ x.2.length ≤ 3 ∧ ∀ q ∈ x.2, ∃ k, k < j ∧ ((num.getD k 0 : Nat) : Int) = q, fun x => j - x.1, ?_, ?_⟩
      · exact ⟨(0, ps), ⟨by simp, .inl u2, u3, u4⟩, ent_of [] [] [] rfl ⟨⟨rfl, rfl⟩, ⟨rfl, rfl⟩, rfl, ⟨rfl, rfl⟩, rfl, rfl, ⟨rfl, rfl⟩, rfl, rfl, rfl, trivial⟩ ⟨⟨_, rfl, rfl, rfl, rfl⟩, ⟨_, rfl, rfl, rfl, _, rfl, by (repeat' first | exact trivial | exact rfl | exact ⟨rfl, rfl⟩ | exact .inl rfl | refine ⟨_, rfl, rfl, rfl, ?_⟩ | refine ⟨_, _, rfl, ?_, ?_⟩ | refine ⟨_, rfl, ?_⟩ | refine And.intro ?_ ?_)⟩, ⟨_, rfl, rfl, rfl, _, rfl, by (repeat' first | exact trivial | exact rfl | exact ⟨rfl, rfl⟩ | exact .inl rfl | refine ⟨_, rfl, rfl, rfl, ?_⟩ | refine ⟨_, _, rfl, ?_, ?_⟩ | refine ⟨_, rfl, ?_⟩ | refine And.intro ?_ ?_)⟩, ⟨_, rfl, rfl, rfl, _, rfl, seeLL_set (rows_see L) ⟨_, _, rfl, rfl, _, _, rfl, rfl, _, _, rfl, .inl rfl, rfl⟩⟩, ⟨_, rfl, rfl, rfl, _, rfl, by (repeat' first | exact trivial | exact rfl | exact ⟨rfl, rfl⟩ | exact .inl rfl | refine ⟨_, rfl, rfl, rfl, ?_⟩ | refine ⟨_, _, rfl, ?_, ?_⟩ | refine ⟨_, rfl, ?_⟩ | refine And.intro ?_ ?_)⟩, ⟨_, rfl, rfl, rfl, _, rfl, by (repeat' first | exact trivial | exact rfl | exact ⟨rfl, rfl⟩ | exact .inl rfl | refine ⟨_, rfl, rfl, rfl, ?_⟩ | refine ⟨_, _, rfl, ?_, ?_⟩ | refine ⟨_, rfl, ?_⟩ | refine And.intro ?_ ?_)⟩, trivial⟩ rfl⟩
      rintro ⟨k, ps⟩ ⟨k1, k2, k3, k4⟩
      clear u2 u3 u4
      simp only [] at k1 k2 k3 k4
      have hXl : v < (rowsAV L).length := by rw [rows_len]; omega
      have hX : ((rowsAV L).set v [.p (i64 c), .sl 5 1 0 ps.length, .p .nils])[0 + ((v : Nat) : Int).toNat]? = some [.p (i64 c), .sl 5 1 0 ps.length, .p .nils] := by
        rw [Nat.zero_add, Int.toNat_natCast]; exact set_at hXl
      (first | refine brLt (fun h9 => ?_) (fun h9 => ?_) | refine brLe (fun h9 => ?_) (fun h9 => ?_) | refine brEq (fun h9 => ?_) (fun h9 => ?_))
      · have h9 : (k : Int) < j := h9
        have hk : k < j := by omega
        have stay : (∃ x : Nat × List Int, (x.1 ≤ j ∧ (listP u x.2 ∨ (listP ((u + 1 : Nat) : Int) x.2 ∧ ∃ a, a < x.1 ∧ num.getD a 0 = u)) ∧ x.2.length ≤ 3 ∧ ∀ q ∈ x.2, ∃ k, k < j ∧ ((num.getD k 0 : Nat) : Int) = q) ∧ x = (k + 1, ps)) := ⟨_, ⟨by simp only []; omega, k2.imp id fun ⟨h, a, ha, e⟩ => ⟨h, a, by simp only []; omega, e⟩, k3, k4⟩, rfl⟩
        refine ⟨_, ⟨by omega, i64 ((num.getD k 0 : Nat) : Int), hnum k (by omega), rfl⟩, ?_⟩
        (first | refine brLt (fun ha => ?_) (fun ha => ?_) | refine brLe (fun ha => ?_) (fun ha => ?_) | refine brEq (fun ha => ?_) (fun ha => ?_))
        rotate_left
        · refine ⟨_, wrap_i64 (by omega) (by omega), ?_⟩
          obtain ⟨x, hx, he⟩ := stay
          subst he
          exact ⟨_, hx, ent_of [] [] [] rfl ⟨⟨rfl, rfl⟩, ⟨rfl, rfl⟩, rfl, ⟨rfl, rfl⟩, rfl, rfl, ⟨rfl, rfl⟩, rfl, rfl, rfl, trivial⟩ ⟨⟨_, rfl, rfl, rfl, rfl⟩, ⟨_, rfl, rfl, rfl, _, rfl, by (repeat' first | exact trivial | exact rfl | exact ⟨rfl, rfl⟩ | exact .inl rfl | refine ⟨_, rfl, rfl, rfl, ?_⟩ | refine ⟨_, _, rfl, ?_, ?_⟩ | refine ⟨_, rfl, ?_⟩ | refine And.intro ?_ ?_)⟩, ⟨_, rfl, rfl, rfl, _, rfl, by (repeat' first | exact trivial | exact rfl | exact ⟨rfl, rfl⟩ | exact .inl rfl | refine ⟨_, rfl, rfl, rfl, ?_⟩ | refine ⟨_, _, rfl, ?_, ?_⟩ | refine ⟨_, rfl, ?_⟩ | refine And.intro ?_ ?_)⟩, ⟨_, rfl, rfl, rfl, _, rfl, seeLL_set (rows_see L) ⟨_, _, rfl, rfl, _, _, rfl, rfl, _, _, rfl, .inl rfl, rfl⟩⟩, ⟨_, rfl, rfl, rfl, _, rfl, by (repeat' first | exact trivial | exact rfl | exact ⟨rfl, rfl⟩ | exact .inl rfl | refine ⟨_, rfl, rfl, rfl, ?_⟩ | refine ⟨_, _, rfl, ?_, ?_⟩ | refine ⟨_, rfl, ?_⟩ | refine And.intro ?_ ?_)⟩, ⟨_, rfl, rfl, rfl, _, rfl, by (repeat' first | exact trivial | exact rfl | exact ⟨rfl, rfl⟩ | exact .inl rfl | refine ⟨_, rfl, rfl, rfl, ?_⟩ | refine ⟨_, _, rfl, ?_, ?_⟩ | refine ⟨_, rfl, ?_⟩ | refine And.intro ?_ ?_)⟩, trivial⟩ rfl, by show j - (k + 1) < j - k; omega⟩
        have ha : ((num.getD k 0 : Nat) : Int) = (u : Nat) := ha
        have ha' : num.getD k 0 = u := by omega
        refine ⟨(k : Int), wrap_u64 (by omega), ?_⟩
        refine ⟨by show (0 : Int) ≤ k; omega, ?_⟩
        refine ⟨_, rfl, ?_⟩
        (first | refine brLt (fun hb => ?_) (fun hb => ?_) | refine brLe (fun hb => ?_) (fun hb => ?_) | refine brEq (fun hb => ?_) (fun hb => ?_))
        rotate_left
        · refine ⟨_, wrap_i64 (by omega) (by omega), ?_⟩
          obtain ⟨x, hx, he⟩ := stay
          subst he
          exact ⟨_, hx, ent_of [] [] [] rfl ⟨⟨rfl, rfl⟩, ⟨rfl, rfl⟩, rfl, ⟨rfl, rfl⟩, rfl, rfl, ⟨rfl, rfl⟩, rfl, rfl, rfl, trivial⟩ ⟨⟨_, rfl, rfl, rfl, rfl⟩, ⟨_, rfl, rfl, rfl, _, rfl, by (repeat' first | exact trivial | exact rfl | exact ⟨rfl, rfl⟩ | exact .inl rfl | refine ⟨_, rfl, rfl, rfl, ?_⟩ | refine ⟨_, _, rfl, ?_, ?_⟩ | refine ⟨_, rfl, ?_⟩ | refine And.intro ?_ ?_)⟩, ⟨_, rfl, rfl, rfl, _, rfl, by (repeat' first | exact trivial | exact rfl | exact ⟨rfl, rfl⟩ | exact .inl rfl | refine ⟨_, rfl, rfl, rfl, ?_⟩ | refine ⟨_, _, rfl, ?_, ?_⟩ | refine ⟨_, rfl, ?_⟩ | refine And.intro ?_ ?_)⟩, ⟨_, rfl, rfl, rfl, _, rfl, seeLL_set (rows_see L) ⟨_, _, rfl, rfl, _, _, rfl, rfl, _, _, rfl, .inl rfl, rfl⟩⟩, ⟨_, rfl, rfl, rfl, _, rfl, by (repeat' first | exact trivial | exact rfl | exact ⟨rfl, rfl⟩ | exact .inl rfl | refine ⟨_, rfl, rfl, rfl, ?_⟩ | refine ⟨_, _, rfl, ?_, ?_⟩ | refine ⟨_, rfl, ?_⟩ | refine And.intro ?_ ?_)⟩, ⟨_, rfl, rfl, rfl, _, rfl, by (repeat' first | exact trivial | exact rfl | exact ⟨rfl, rfl⟩ | exact .inl rfl | refine ⟨_, rfl, rfl, rfl, ?_⟩ | refine ⟨_, _, rfl, ?_, ?_⟩ | refine ⟨_, rfl, ?_⟩ | refine And.intro ?_ ?_)⟩, trivial⟩ rfl, by show j - (k + 1) < j - k; omega⟩
        refine ⟨by show (0 : Int) ≤ (v : Nat) ∧ (v : Int) < (i : Nat); omega, ?_⟩
        refine ⟨_, ⟨_, hX, rfl⟩, ?_⟩
        (first | refine brLt (fun hd => ?_) (fun hd => ?_) | refine brLe (fun hd => ?_) (fun hd => ?_) | refine brEq (fun hd => ?_) (fun hd => ?_))
        rotate_left
        · refine ⟨_, wrap_i64 (by omega) (by omega), ?_⟩
          obtain ⟨x, hx, he⟩ := stay
          subst he
          exact ⟨_, hx, ent_of [] [] [] rfl ⟨⟨rfl, rfl⟩, ⟨rfl, rfl⟩, rfl, ⟨rfl, rfl⟩, rfl, rfl, ⟨rfl, rfl⟩, rfl, rfl, rfl, trivial⟩ ⟨⟨_, rfl, rfl, rfl, rfl⟩, ⟨_, rfl, rfl, rfl, _, rfl, by (repeat' first | exact trivial | exact rfl | exact ⟨rfl, rfl⟩ | exact .inl rfl | refine ⟨_, rfl, rfl, rfl, ?_⟩ | refine ⟨_, _, rfl, ?_, ?_⟩ | refine ⟨_, rfl, ?_⟩ | refine And.intro ?_ ?_)⟩, ⟨_, rfl, rfl, rfl, _, rfl, by (repeat' first | exact trivial | exact rfl | exact ⟨rfl, rfl⟩ | exact .inl rfl | refine ⟨_, rfl, rfl, rfl, ?_⟩ | refine ⟨_, _, rfl, ?_, ?_⟩ | refine ⟨_, rfl, ?_⟩ | refine And.intro ?_ ?_)⟩, ⟨_, rfl, rfl, rfl, _, rfl, seeLL_set (rows_see L) ⟨_, _, rfl, rfl, _, _, rfl, rfl, _, _, rfl, .inl rfl, rfl⟩⟩, ⟨_, rfl, rfl, rfl, _, rfl, by (repeat' first | exact trivial | exact rfl | exact ⟨rfl, rfl⟩ | exact .inl rfl | refine ⟨_, rfl, rfl, rfl, ?_⟩ | refine ⟨_, _, rfl, ?_, ?_⟩ | refine ⟨_, rfl, ?_⟩ | refine And.intro ?_ ?_)⟩, ⟨_, rfl, rfl, rfl, _, rfl, by (repeat' first | exact trivial | exact rfl | exact ⟨rfl, rfl⟩ | exact .inl rfl | refine ⟨_, rfl, rfl, rfl, ?_⟩ | refine ⟨_, _, rfl, ?_, ?_⟩ | refine ⟨_, rfl, ?_⟩ | refine And.intro ?_ ?_)⟩, trivial⟩ rfl, by show j - (k + 1) < j - k; omega⟩
        have hd : (ps.length : Int) < 3 := hd
        have hps : listP u ps := by
          rcases k2 with h | ⟨_, a, h1, h2'⟩
          · exact h
          · have := nat_inj hp (show a < i by omega) (show k < i by omega) (by rw [h2', ha'])
            omega
        have hsn := list_snoc (m := u + 1) hps (by omega)
        refine VDraw.seq rfl ?_
        refine ⟨by show (0 : Int) ≤ (v : Nat) ∧ (v : Int) < (i : Nat); omega, ?_⟩
        refine ⟨_, ⟨_, hX, rfl⟩, ?_⟩
        refine ⟨by (repeat' first | exact trivial | exact ⟨_, hX, rfl⟩ | exact rfl | refine And.intro ?_ ?_), ?_⟩
        refine ⟨by show 0 + 1 ≤ 1; omega, [i64 (u : Int)], rfl, ?_⟩
        refine ⟨by show 0 + ps.length ≤ (ps.map i64).length; simp, ps.map i64, takeAll (by simp), by show (ps.length + 1) * 8 ≤ 140737488355328; omega, (ps ++ [(u : Int)]).map i64, by simp, ?_⟩
        refine ⟨by (repeat' first | exact trivial | exact ⟨_, hX, rfl⟩ | exact rfl | refine And.intro ?_ ?_), ?_⟩
        refine ⟨by show (0 : Int) ≤ (v : Nat) ∧ (v : Int) < (i : Nat); omega, ?_⟩
        refine ⟨_, hX, by show 1 + 1 ≤ 3; omega, ?_⟩
        refine ⟨_, wrap_i64 (by omega) (by omega), ?_⟩
        refine ⟨(k + 1, ps ++ [(u : Int)]), ⟨by simp only []; omega, .inr ⟨hsn.1, k, by simp only []; omega, ha'⟩, by simp only [snoc_len]; omega, fun q hq => ?_⟩, ent_of [] [(5, 7)] [] rfl ⟨⟨rfl, rfl⟩, ⟨rfl, rfl⟩, rfl, ⟨rfl, rfl⟩, rfl, rfl, ⟨rfl, rfl⟩, rfl, rfl, rfl, trivial⟩ ⟨⟨_, rfl, rfl, rfl, rfl⟩, ⟨_, rfl, rfl, rfl, _, rfl, by (repeat' first | exact trivial | exact rfl | exact ⟨rfl, rfl⟩ | exact .inl rfl | refine ⟨_, rfl, rfl, rfl, ?_⟩ | refine ⟨_, _, rfl, ?_, ?_⟩ | refine ⟨_, rfl, ?_⟩ | refine And.intro ?_ ?_)⟩, ⟨_, rfl, rfl, rfl, _, rfl, by (repeat' first | exact trivial | exact rfl | exact ⟨rfl, rfl⟩ | exact .inl rfl | refine ⟨_, rfl, rfl, rfl, ?_⟩ | refine ⟨_, _, rfl, ?_, ?_⟩ | refine ⟨_, rfl, ?_⟩ | refine And.intro ?_ ?_)⟩, ⟨_, rfl, rfl, rfl, _, rfl, ?_⟩, ⟨_, rfl, rfl, rfl, _, rfl, by (repeat' first | exact trivial | exact rfl | exact ⟨rfl, rfl⟩ | exact .inl rfl | refine ⟨_, rfl, rfl, rfl, ?_⟩ | refine ⟨_, _, rfl, ?_, ?_⟩ | refine ⟨_, rfl, ?_⟩ | refine And.intro ?_ ?_)⟩, ⟨_, rfl, rfl, rfl, _, rfl, by (repeat' first | exact trivial | exact rfl | exact ⟨rfl, rfl⟩ | exact .inl rfl | refine ⟨_, rfl, rfl, rfl, ?_⟩ | refine ⟨_, _, rfl, ?_, ?_⟩ | refine ⟨_, rfl, ?_⟩ | refine And.intro ?_ ?_)⟩, trivial⟩ rfl, by show j - (k + 1) < j - k; omega⟩
        · rcases List.mem_append.1 hq with hq | hq
          · exact k4 q hq
          · simp only [List.mem_singleton] at hq
            exact ⟨k, hk, by rw [ha', hq]⟩
        · show SeeLL _ _ _ (((rowsAV L).set v _).set (0 + ((v : Nat) : Int).toNat) _) _
          rw [Nat.zero_add, Int.toNat_natCast, List.set_set]
          exact seeLL_set (rows_see L) ⟨_, _, rfl, rfl, _, _, rfl, congrArg (fun m => AV.sl 7 1 0 m) (snoc_len ps _).symm, _, _, rfl, .inl rfl, rfl⟩
      · have h9 : ¬ (k : Int) < j := h9
        refine ⟨_, wrap_i64 (by omega) (by omega), ?_⟩
        refine ⟨(u + 1, ps), ⟨by simp only []; omega, ?_, k3, k4⟩, ent_of [] [] [] rfl ⟨⟨rfl, rfl⟩, ⟨rfl, rfl⟩, rfl, ⟨rfl, rfl⟩, rfl, rfl, ⟨rfl, rfl⟩, rfl, rfl, trivial⟩ ⟨⟨_, rfl, rfl, rfl, rfl⟩, ⟨_, rfl, rfl, rfl, _, rfl, by (repeat' first | exact trivial | exact rfl | exact ⟨rfl, rfl⟩ | exact .inl rfl | refine ⟨_, rfl, rfl, rfl, ?_⟩ | refine ⟨_, _, rfl, ?_, ?_⟩ | refine ⟨_, rfl, ?_⟩ | refine And.intro ?_ ?_)⟩, ⟨_, rfl, rfl, rfl, _, rfl, by (repeat' first | exact trivial | exact rfl | exact ⟨rfl, rfl⟩ | exact .inl rfl | refine ⟨_, rfl, rfl, rfl, ?_⟩ | refine ⟨_, _, rfl, ?_, ?_⟩ | refine ⟨_, rfl, ?_⟩ | refine And.intro ?_ ?_)⟩, ⟨_, rfl, rfl, rfl, _, rfl, seeLL_set (rows_see L) ⟨_, _, rfl, rfl, _, _, rfl, rfl, _, _, rfl, .inl rfl, rfl⟩⟩, ⟨_, rfl, rfl, rfl, _, rfl, by (repeat' first | exact trivial | exact rfl | exact ⟨rfl, rfl⟩ | exact .inl rfl | refine ⟨_, rfl, rfl, rfl, ?_⟩ | refine ⟨_, _, rfl, ?_, ?_⟩ | refine ⟨_, rfl, ?_⟩ | refine And.intro ?_ ?_)⟩, ⟨_, rfl, rfl, rfl, _, rfl, by (repeat' first | exact trivial | exact rfl | exact ⟨rfl, rfl⟩ | exact .inl rfl | refine ⟨_, rfl, rfl, rfl, ?_⟩ | refine ⟨_, _, rfl, ?_, ?_⟩ | refine ⟨_, rfl, ?_⟩ | refine And.intro ?_ ?_)⟩, trivial⟩ rfl, by show i - (u + 1) < i - u; omega⟩
        rcases k2 with h | ⟨h, _⟩
        · exact (list_snoc (m := u + 1) h (by omega)).2
        · exact h
    have h8 : ¬ (u : Int) < i := h8
    have hu : u = i := by omega
    subst hu
    have hvL : v < (rowsAV L).length := by rw [rows_len]; omega
    have hpm := list_mem u2
    have hcs4 : ∀ a ∈ cs, okCard a := fun a ha => by have := hc23 a ha; exact ⟨by omega, by omega⟩
    have hok := atN_ok (ps := ps) hcs4 (by rw [hcl]; exact hpm)
    have hal : (atN cs ps).length = ps.length := List.length_map ..
    have hpr := prod_take hok ps.length (by omega)
    rw [take_all (by omega)] at hpr
    have hpr4 := pow4 ps.length (by omega)
    refine ⟨List (List Int), fun rs => [(1, .ptr 0 0 0), (2, .ptr 1 0 0), (3, .p (i64 u)), (4, .ptr 3 0 0), (5, .p (ints (ofN num))), (10, .p (i64 j)), (11, .ptr 4 0 0), (12, .p (i64 v)), (15, .p (i64 rs.length))], fun rs => ⟨7, [(6, rO rs), (4, pcO p), (3, nbO g u), (2, mO ((rowsAV L).set v [.p (i64 c), .p (ints ps), .sl 6 1 0 rs.length])), (1, znO), (0, d5O D)]⟩,
      fun rs => (rs.length : Int) ≤ prodN (atN cs ps) ∧ ∀ r ∈ rs, rowP g c r, fun rs => (prodN (atN cs ps)).toNat - rs.length, ?_, ?_⟩
    · exact ⟨[], ⟨by simp; omega, by simp⟩, ent_of [5] [] [(6, 1)] rfl ⟨⟨rfl, rfl⟩, ⟨rfl, rfl⟩, rfl, ⟨rfl, rfl⟩, rfl, rfl, ⟨rfl, rfl⟩, rfl, rfl, trivial⟩ ⟨⟨rfl, rfl, rfl⟩, ⟨_, rfl, rfl, rfl, _, rfl, by (repeat' first | exact trivial | exact rfl | exact ⟨rfl, rfl⟩ | exact .inl rfl | refine ⟨_, rfl, rfl, rfl, ?_⟩ | refine ⟨_, _, rfl, ?_, ?_⟩ | refine ⟨_, rfl, ?_⟩ | refine And.intro ?_ ?_)⟩, ⟨_, rfl, rfl, rfl, _, rfl, by (repeat' first | exact trivial | exact rfl | exact ⟨rfl, rfl⟩ | exact .inl rfl | refine ⟨_, rfl, rfl, rfl, ?_⟩ | refine ⟨_, _, rfl, ?_, ?_⟩ | refine ⟨_, rfl, ?_⟩ | refine And.intro ?_ ?_)⟩, ⟨_, rfl, rfl, rfl, _, rfl, seeLL_set (rows_see L) ⟨_, _, rfl, rfl, _, _, rfl, ⟨_, rfl, by show 0 + ps.length ≤ (ps.map i64).length; simp, takeAll (by simp)⟩, _, _, rfl, ⟨rfl, rfl, rfl, rfl⟩, rfl⟩⟩, ⟨_, rfl, rfl, rfl, _, rfl, by (repeat' first | exact trivial | exact rfl | exact ⟨rfl, rfl⟩ | exact .inl rfl | refine ⟨_, rfl, rfl, rfl, ?_⟩ | refine ⟨_, _, rfl, ?_, ?_⟩ | refine ⟨_, rfl, ?_⟩ | refine And.intro ?_ ?_)⟩, ⟨_, rfl, rfl, rfl, _, rfl, by (repeat' first | exact trivial | exact rfl | exact ⟨rfl, rfl⟩ | exact .inl rfl | refine ⟨_, rfl, rfl, rfl, ?_⟩ | refine ⟨_, _, rfl, ?_, ?_⟩ | refine ⟨_, rfl, ?_⟩ | refine And.intro ?_ ?_)⟩, trivial⟩ rfl⟩
    rintro rs ⟨r1, r2⟩
    obtain ⟨x, hx⟩ : ∃ x : Nd, x = ⟨c, ps, rs⟩ := ⟨_, rfl⟩
    obtain ⟨n', hn'⟩ : ∃ n' : Nt, n' = ⟨g, (L.set v (x, true)).map fun p => p.1⟩ := ⟨_, rfl⟩
    have hnl' : n'.nodes.length = u := by rw [hn', List.length_map, List.length_set]; exact hLl
    have hnv : n'.nodes.getD v nd0 = x := by rw [hn', getD_map d0 nd0 (by rw [List.length_set]; omega), set_getD' (by omega), if_pos rfl]
    have hnc : cardsN n' = cs := by
      rw [hn', cardsN, List.map_map]
      show (L.set v (x, true)).map (fun p => p.1.card) = cs
      rw [List.map_set, h2.card, hx]
      show cs.set v (c : Int) = cs
      rw [← hc]
      refine List.ext_getElem (by rw [List.length_set]) fun k i1 i2 => ?_
      rw [List.getElem_set]
      split
      · rename_i e
        subst e
        rw [List.getD_eq_getElem?_getD, List.getElem?_eq_getElem i2]; rfl
      · rfl
    have hP : pcardsN n' v = atN cs ps := by rw [pcardsN, hnc, hnv, hx]
    have hncells : n'.nodes.map Nd.cells = (L.map fun p => p.1.cells).set v x.cells := by rw [hn', List.map_map, List.map_set]; rfl
    have hX : ((rowsAV L).set v [.p (i64 c), .p (ints ps), .sl 6 1 0 rs.length])[0 + ((v : Nat) : Int).toNat]? = some [.p (i64 c), .p (ints ps), .sl 6 1 0 rs.length] := by
      rw [Nat.zero_add, Int.toNat_natCast]; exact set_at hvL
    have hpcl : (pcardsN n' v).length = ps.length := by rw [hP, hal]
    have hPC := pcards_h n' v (by omega) (by omega) (by rw [hnv, hx]; show ps.length ≤ 1000; omega) (by rw [hnv, hx, hnl']; exact hpm)
    have hsz := size_c (pcardsN n' v) (by omega) (by rw [hP]; exact hok)
    rw [hP] at hsz
    have hPe : ints (pcardsN n' v) = ints (atN cs ps) := by rw [hP]
    refine hPC.holds.lendN [2, 6] rfl ?_ fun e0 H0 hq => ?_
    · refine ⟨_, _, rfl, ⟨_, ?_, _, _, rfl, rfl, _, _, rfl, ⟨n'.nodes.map Nd.cells, rfl, ?_, ?_⟩, rfl⟩, _, _, rfl, rfl, rfl⟩
      · rw [hn']
      · show 0 + u ≤ ((rowsAV L).set v _).length
        rw [List.length_set, rows_len]; omega
      · show ResLL _ ((((rowsAV L).set v _).drop 0).take u) _
        rw [List.drop_zero, List.take_of_length_le (by rw [List.length_set, rows_len]; omega), hncells]
        refine resLL_set (rows_res h2.raw) ?_
        rw [hx]
        exact ⟨_, _, rfl, rfl, _, _, rfl, rfl, _, _, rfl, ⟨_, rfl, by show 0 + rs.length ≤ (rs.map ints).length; simp, takeAll (by simp)⟩, rfl⟩
    obtain ⟨rfl, rfl⟩ := hq
    refine ⟨rfl, ⟨flat_iO _, trivial⟩, ?_⟩
    refine hsz.lends [7] rfl ⟨_, _, rfl, ⟨_, rfl, ?_, ?_⟩, rfl⟩ ?_
    · show 0 + (pcardsN n' v).length ≤ ((pcardsN n' v).map i64).length
      simp
    · show (atN cs ps).map i64 = (((pcardsN n' v).map i64).drop 0).take (pcardsN n' v).length
      rw [hP]
      exact takeAll (by simp)
    (first | refine brLt (fun h9 => ?_) (fun h9 => ?_) | refine brLe (fun h9 => ?_) (fun h9 => ?_) | refine brEq (fun h9 => ?_) (fun h9 => ?_))
    · have h9 : (rs.length : Int) < prodN (atN cs ps) := h9
      have hpr3 : (4 : Int) ^ ps.length ≤ 64 := by
        have : ps.length = 0 ∨ ps.length = 1 ∨ ps.length = 2 ∨ ps.length = 3 := by omega
        rcases this with h | h | h | h <;> rw [h] <;> decide
      have hkc : rs.length * (c + 1) ≤ 64 * 4 := Nat.mul_le_mul (by omega) (by omega)
      refine VDraw.seq rfl ?_
      refine ⟨by show (0 : Int) ≤ (v : Nat) ∧ (v : Int) < (u : Nat); omega, ?_⟩
      refine ⟨_, ⟨_, hX, rfl⟩, ?_⟩
      refine ⟨by show (0 : Int) ≤ (v : Nat) ∧ (v : Int) < (u : Nat); omega, ?_⟩
      refine ⟨_, ⟨_, hX, rfl⟩, ?_⟩
      refine ⟨by show (0 : Int) ≤ (v : Nat) ∧ (v : Int) < (u : Nat); omega, ?_⟩
      refine ⟨_, ⟨_, hX, rfl⟩, ?_⟩
      refine ⟨((c + 1 : Nat) : Int), by show _ = IntKind.i64.wrap ((c : Int) + 1); rw [← Int.natCast_succ]; exact wrap_i64 (by omega) (by omega), ?_⟩
      refine ⟨((rs.length * (c + 1) : Nat) : Int), by show _ = IntKind.i64.wrap ((rs.length : Int) * ((c + 1 : Nat) : Int)); rw [← Int.natCast_mul]; exact wrap_i64 (by omega) (by omega), ?_⟩
      refine (row_c g c (rs.length * (c + 1)) p.w hg60 ⟨by omega, by omega⟩ (by omega) hpw).at fun r hr => ?_
      obtain ⟨rw', hrow, rfl⟩ := hr
      refine ⟨by (repeat' first | exact trivial | exact ⟨_, hX, rfl⟩ | exact rfl | refine And.intro ?_ ?_), ?_⟩
      refine ⟨by (repeat' first | exact trivial | exact ⟨_, hX, rfl⟩ | exact rfl | refine And.intro ?_ ?_), ?_⟩
      refine ⟨by show 0 + 1 ≤ 1; omega, [ints rw'], rfl, ?_⟩
      refine ⟨by show 0 + rs.length ≤ (rs.map ints).length; simp, rs.map ints, takeAll (by simp), by show (rs.length + 1) * 24 ≤ 140737488355328; omega, (rs ++ [rw']).map ints, by simp, ?_⟩
      refine ⟨by (repeat' first | exact trivial | exact ⟨_, hX, rfl⟩ | exact rfl | refine And.intro ?_ ?_), ?_⟩
      refine ⟨by show (0 : Int) ≤ (v : Nat) ∧ (v : Int) < (u : Nat); omega, ?_⟩
      refine ⟨_, hX, by show 2 + 1 ≤ 3; omega, ?_⟩
      refine ⟨_, wrap_i64 (by omega) (by omega), ?_⟩
      refine ⟨rs ++ [rw'], ⟨by rw [snoc_len]; omega, fun r hr => ?_⟩, ent_of [] [(6, 9)] [] rfl ⟨⟨rfl, rfl⟩, ⟨rfl, rfl⟩, rfl, ⟨rfl, rfl⟩, rfl, rfl, ⟨rfl, rfl⟩, rfl, congrArg (fun m : Nat => i64 m) (snoc_len rs rw'), trivial⟩ ⟨⟨_, rfl, rfl, rfl, rfl⟩, ⟨_, rfl, rfl, rfl, _, rfl, by (repeat' first | exact trivial | exact rfl | exact ⟨rfl, rfl⟩ | exact .inl rfl | refine ⟨_, rfl, rfl, rfl, ?_⟩ | refine ⟨_, _, rfl, ?_, ?_⟩ | refine ⟨_, rfl, ?_⟩ | refine And.intro ?_ ?_)⟩, ⟨_, rfl, rfl, rfl, _, rfl, by (repeat' first | exact trivial | exact rfl | exact ⟨rfl, rfl⟩ | exact .inl rfl | refine ⟨_, rfl, rfl, rfl, ?_⟩ | refine ⟨_, _, rfl, ?_, ?_⟩ | refine ⟨_, rfl, ?_⟩ | refine And.intro ?_ ?_)⟩, ⟨_, rfl, rfl, rfl, _, rfl, ?_⟩, ⟨_, rfl, rfl, rfl, _, rfl, by (repeat' first | exact trivial | exact rfl | exact ⟨rfl, rfl⟩ | exact .inl rfl | refine ⟨_, rfl, rfl, rfl, ?_⟩ | refine ⟨_, _, rfl, ?_, ?_⟩ | refine ⟨_, rfl, ?_⟩ | refine And.intro ?_ ?_)⟩, ⟨_, rfl, rfl, rfl, _, rfl, by (repeat' first | exact trivial | exact rfl | exact ⟨rfl, rfl⟩ | exact .inl rfl | refine ⟨_, rfl, rfl, rfl, ?_⟩ | refine ⟨_, _, rfl, ?_, ?_⟩ | refine ⟨_, rfl, ?_⟩ | refine And.intro ?_ ?_)⟩, trivial⟩ rfl, by show (prodN (atN cs ps)).toNat - (rs ++ [rw']).length < (prodN (atN cs ps)).toNat - rs.length; rw [snoc_len]; omega⟩
      · rcases List.mem_append.1 hr with hr | hr
        · exact r2 r hr
        · simp only [List.mem_singleton] at hr; rw [hr]; exact hrow
      · show SeeLL _ _ _ (((rowsAV L).set v _).set (0 + ((v : Nat) : Int).toNat) _) _
        rw [Nat.zero_add, Int.toNat_natCast, List.set_set]
        exact seeLL_set (rows_see L) ⟨_, _, rfl, rfl, _, _, rfl, rfl, _, _, rfl, congrArg (fun m => AV.sl 9 1 0 m) (snoc_len rs rw').symm, rfl⟩
    · have h9 : ¬ (rs.length : Int) < prodN (atN cs ps) := h9
      refine ⟨_, wrap_i64 (by omega) (by omega), ?_⟩
      have hG : GoodN u g cs num j x := ⟨by rw [hx]; exact u2, by rw [hx]; exact u3, by rw [hx]; exact u4, by rw [hx]; show (rs.length : Int) = prodN (atN cs ps); omega, by rw [hx]; exact r2⟩
      have hnx := h2.next hp hj (x := x) (by rw [hx, ← hvv, hc]) hG
      rw [← hvv] at hnx
      refine ⟨(j + 1, L.set v (x, true)), hnx, ent_of [6] [] [] rfl ⟨⟨rfl, rfl⟩, ⟨rfl, rfl⟩, rfl, ⟨rfl, rfl⟩, rfl, rfl, trivial⟩ ⟨⟨_, rfl, rfl, rfl, _, rfl, by (repeat' first | exact trivial | exact rfl | exact ⟨rfl, rfl⟩ | exact .inl rfl | refine ⟨_, rfl, rfl, rfl, ?_⟩ | refine ⟨_, _, rfl, ?_, ?_⟩ | refine ⟨_, rfl, ?_⟩ | refine And.intro ?_ ?_)⟩, ⟨_, rfl, rfl, rfl, _, rfl, ?_⟩, ⟨_, rfl, rfl, rfl, _, rfl, by (repeat' first | exact trivial | exact rfl | exact ⟨rfl, rfl⟩ | exact .inl rfl | refine ⟨_, rfl, rfl, rfl, ?_⟩ | refine ⟨_, _, rfl, ?_, ?_⟩ | refine ⟨_, rfl, ?_⟩ | refine And.intro ?_ ?_)⟩, ⟨_, rfl, rfl, rfl, _, rfl, by (repeat' first | exact trivial | exact rfl | exact ⟨rfl, rfl⟩ | exact .inl rfl | refine ⟨_, rfl, rfl, rfl, ?_⟩ | refine ⟨_, _, rfl, ?_, ?_⟩ | refine ⟨_, rfl, ?_⟩ | refine And.intro ?_ ?_)⟩, trivial⟩ rfl, by show u - (j + 1) < u - j; omega⟩
      rw [rows_set, hx]
      exact seeLL_set (rows_see L) ⟨_, _, rfl, rfl, _, _, rfl, rfl, _, _, rfl, ⟨_, rfl, by show 0 + rs.length ≤ (rs.map ints).length; simp, takeAll (by simp)⟩, rfl⟩
end Go.Proofs.YtphmmoloegjocaaGreatDoor

/- strings.Builder. -/
namespace Go.Proofs.YtphmmoloegjocaaGreatDoor
open Go Y
set_option maxRecDepth 100000
set_option maxHeartbeats 4000000

abbrev TB : TypeId := 79
/-- The builder's own address, once it has been used. -/
def au : Bool → AV
  | true => .ptr 0 0 0
  | false => .p .nilp

theorem noEscape_c {v : AV} {H : Hp} {Q : AE → Hp → Prop} (hQ : Q (.returned v) H) : Holds cx 86 [v] H Q := by
  intro Γ w args' hR hA
  simp only [VRL] at hA
  obtain ⟨u, us, rfl, hu, rfl⟩ := hA
  refine .inr ⟨u, w, ?_, _, _, Γ, hQ, ⟨u, rfl, hu⟩, Later.refl hR _ (Nat.le_refl _)⟩
  show (callFunc 86 #[u]).run Tryz.prog w = _
  rw [run_callFunc_extern Tryz.func86 (by kernel_rfl) (by kernel_rfl) (by kernel_rfl) (e := Extern.AbiNoEscape.same) (by kernel_rfl)]
  rfl

theorem makeNoZero_c {n : Nat} {H : Hp} {Q : AE → Hp → Prop} (hn : n ≤ 281474976710656) (hQ : Q (.returned (.sl H.next 1 0 n)) (H.push ⟨5, false, .pu []⟩)) : Holds cx 101 [.p (i64 n)] H Q := by
  intro Γ w args' hR hA
  simp only [VRL, VR, VP] at hA
  obtain ⟨u, us, rfl, rfl, rfl⟩ := hA
  obtain ⟨cs, hrun, hle, _⟩ := Lib.run_makeNoZero (P := Tryz.prog) w #[3] 26 5 Tryz.underlying26 n hn
  have hd := (Later.drew hR H.next (Nat.le_refl _)).trans (Later.drew (Later.drew hR H.next (Nat.le_refl _)).1 H.next (Nat.le_refl _))
  have hR2 : R cx Γ H w.drew.drew := hd.1
  have hp := push_cells (t := 5) (s := 1) (tc := cs.size) (c := .pu []) (us := []) (rest := cs.toList) hR2 rfl (by rfl) Nat.one_pos rfl (by simp) (by simp) rfl
  refine .inr ⟨.slice (some ⟨w.heap.size, 0, none⟩) n cs.size, w.drew.drew.alloc (.cells cs 5), ?_, _, _, _, hQ, ⟨_, rfl, VR_slNext (Γ := Γ) ⟨w.heap.size, 1, cs.size, false⟩ H.next n rfl hle⟩, hd.trans hp⟩
  show (callFunc 101 #[.int .i64 n]).run Tryz.prog w = _
  rw [run_callFunc_extern Tryz.func101 (by kernel_rfl) (by kernel_rfl) (by kernel_rfl) (e := Extern.BytealgMakeNoZero.makeNoZero #[3] #[26]) (by kernel_rfl), hrun]
  rfl

theorem copyCheck_c (u : Bool) (v : AV) : HoldsG cx 63 [.ptr 0 0 0] ⟨2, [(0, ⟨TB, false, .bx [au u, v]⟩)]⟩ fun e H' => e = .returned und ∧ H' = ⟨2, [(0, ⟨TB, false, .bx [.ptr 0 0 0, v]⟩)]⟩ := by
  refine holds_of_vc Tryz.func63 rfl rfl rfl ?_
  cases u
  · refine noEscape_c ?_
    exact ⟨rfl, rfl⟩
  · exact ⟨rfl, rfl⟩

/-- A builder that holds some bytes. -/
def bldH (u : Bool) (xs : List UInt8) : Hp := ⟨2, [(1, ⟨5, false, .pu (xs.map ub)⟩), (0, ⟨TB, false, .bx [au u, .sl 1 1 0 xs.length]⟩)]⟩
def bldH' (xs : List UInt8) : Hp := ⟨3, [(2, ⟨5, false, .pu (xs.map ub)⟩), (0, ⟨TB, false, .bx [.ptr 0 0 0, .sl 2 1 0 xs.length]⟩)]⟩

theorem takeUb (xs : List UInt8) : xs.map ub = ((xs.map ub).drop 0).take xs.length := by rw [List.drop_zero, List.take_of_length_le (by simp)]

theorem writeByte_c (u : Bool) (xs : List UInt8) (b : UInt8) (hx : xs.length ≤ 100000000) :
    HoldsG cx 36 [.ptr 0 0 0, .p (u8 b)] (bldH u xs) fun e H' => e = .returned (.p .nilIface) ∧ H' = bldH' (xs ++ [b]) := by
  refine holdsN_of_vc Tryz.func36 rfl rfl rfl ?_
  refine (copyCheck_c u (.sl 1 1 0 xs.length)).useE [] [] rfl ?_ ?_ ?_
  · cases u <;> (repeat' first | exact trivial | exact rfl | exact ⟨rfl, rfl⟩ | exact .inl rfl | refine ⟨_, rfl, rfl, rfl, ?_⟩ | refine ⟨_, _, rfl, ?_, ?_⟩ | refine ⟨_, rfl, ?_⟩ | refine And.intro ?_ ?_)
  · (repeat' first | exact trivial | exact rfl | exact ⟨rfl, rfl⟩ | exact .inl rfl | refine ⟨_, rfl, rfl, rfl, ?_⟩ | refine ⟨_, _, rfl, ?_, ?_⟩ | refine ⟨_, rfl, ?_⟩ | refine And.intro ?_ ?_)
  · refine ⟨by show 0 + 1 ≤ _; simp, [ub b], rfl, ?_⟩
    refine ⟨by show 0 + xs.length ≤ (xs.map ub).length; simp, xs.map ub, takeUb xs, by show (xs.length + 1) * 1 ≤ _; omega, (xs ++ [b]).map ub, by simp, ?_⟩
    exact ⟨[], [(2, 3)], [], .returned (.p .nilIface), ⟨3, [(2, ⟨5, false, .pu ((xs ++ [b]).map ub)⟩), (0, ⟨TB, false, .bx [.ptr 0 0 0, .sl 2 1 0 (xs.length + 1)]⟩)]⟩, rfl, ⟨_, rfl, rfl⟩, ⟨⟨_, rfl, rfl, rfl, rfl⟩, ⟨_, rfl, rfl, rfl, _, rfl, _, _, rfl, ⟨rfl, rfl⟩, _, _, rfl, rfl, rfl⟩, trivial⟩, rfl, by simp [bldH']⟩

theorem writeString_c (u : Bool) (xs s : List UInt8) (hx : xs.length ≤ 100000000) (hs : s.length ≤ 100000000) :
    HoldsG cx 33 [.ptr 0 0 0, vS s] (bldH u xs) fun e H' => e = .returned (.tup [.p (i64 s.length), .p .nilIface]) ∧ H' = bldH' (xs ++ s) := by
  refine holdsN_of_vc Tryz.func33 rfl rfl rfl ?_
  refine (copyCheck_c u (.sl 1 1 0 xs.length)).useE [] [] rfl ?_ ?_ ?_
  · cases u <;> (repeat' first | exact trivial | exact rfl | exact ⟨rfl, rfl⟩ | exact .inl rfl | refine ⟨_, rfl, rfl, rfl, ?_⟩ | refine ⟨_, _, rfl, ?_, ?_⟩ | refine ⟨_, rfl, ?_⟩ | refine And.intro ?_ ?_)
  · (repeat' first | exact trivial | exact rfl | exact ⟨rfl, rfl⟩ | exact .inl rfl | refine ⟨_, rfl, rfl, rfl, ?_⟩ | refine ⟨_, _, rfl, ?_, ?_⟩ | refine ⟨_, rfl, ?_⟩ | refine And.intro ?_ ?_)
  · refine ⟨by show 0 + xs.length ≤ (xs.map ub).length; simp, xs.map ub, takeUb xs, by show (xs.length + s.length) * 1 ≤ _; omega, (xs ++ s).map ub, by simp, ?_⟩
    exact ⟨[], [(2, 2)], [], .returned (.tup [.p (i64 s.length), .p .nilIface]), ⟨3, [(2, ⟨5, false, .pu ((xs ++ s).map ub)⟩), (0, ⟨TB, false, .bx [.ptr 0 0 0, .sl 2 1 0 (xs.length + s.length)]⟩)]⟩, rfl, ⟨_, rfl, _, rfl, by (repeat' first | exact trivial | exact rfl | exact ⟨rfl, rfl⟩ | exact .inl rfl | refine ⟨_, rfl, rfl, rfl, ?_⟩ | refine ⟨_, _, rfl, ?_, ?_⟩ | refine ⟨_, rfl, ?_⟩ | refine And.intro ?_ ?_)⟩, ⟨⟨_, rfl, rfl, rfl, rfl⟩, ⟨_, rfl, rfl, rfl, _, rfl, _, _, rfl, ⟨rfl, rfl⟩, _, _, rfl, rfl, rfl⟩, trivial⟩, rfl, by simp [bldH']⟩

/-- The same at a builder in which nothing has been written. -/
theorem grow_c (n : Nat) (hn : n ≤ 100000000) : HoldsG cx 80 [.ptr 0 0 0, .p (i64 n)] ⟨1, [(0, ⟨TB, false, .bx [.ptr 0 0 0, .p .nils]⟩)]⟩ fun e H' => e = .returned und ∧ H' = ⟨2, [(1, ⟨5, false, .pu []⟩), (0, ⟨TB, false, .bx [.ptr 0 0 0, .sl 1 1 0 0]⟩)]⟩ := by
  refine holdsN_of_vc Tryz.func80 rfl rfl rfl ?_
  refine VDraw.seq rfl ?_
  refine ⟨0, wrap_i64 (by omega) (by omega), ?_⟩
  refine ⟨(n : Int), by rw [Int.zero_add]; exact wrap_i64 (by omega) (by omega), ?_⟩
  refine makeNoZero_c (by omega) ?_
  refine ⟨by (repeat' first | exact trivial | exact rfl | exact ⟨rfl, rfl⟩ | exact .inl rfl | refine ⟨_, rfl, rfl, rfl, ?_⟩ | refine ⟨_, _, rfl, ?_, ?_⟩ | refine ⟨_, rfl, ?_⟩ | refine And.intro ?_ ?_), ?_⟩
  refine ⟨by show (0 : Int) ≤ 0 ∧ (0 : Int) ≤ (n : Nat); omega, ?_⟩
  refine ⟨⟨Nat.le_refl _, Nat.le_refl _⟩, [], rfl, ?_⟩
  exact ⟨[], [(1, 1)], [], .returned und, ⟨2, [(1, ⟨5, false, .pu []⟩), (0, ⟨TB, false, .bx [.ptr 0 0 0, .sl 1 1 0 0]⟩)]⟩, rfl, by (repeat' first | exact trivial | exact rfl | exact ⟨rfl, rfl⟩ | exact .inl rfl | refine ⟨_, rfl, rfl, rfl, ?_⟩ | refine ⟨_, _, rfl, ?_, ?_⟩ | refine ⟨_, rfl, ?_⟩ | refine And.intro ?_ ?_), ⟨⟨_, rfl, rfl, rfl, rfl⟩, ⟨_, rfl, rfl, rfl, _, rfl, _, _, rfl, ⟨rfl, rfl⟩, _, _, rfl, rfl, rfl⟩, trivial⟩, rfl, rfl⟩

theorem growN_c (u : Bool) (n : Nat) (h0 : 0 < n) (hn : n ≤ 100000000) : HoldsG cx 54 [.ptr 0 0 0, .p (i64 n)] ⟨1, [(0, ⟨TB, false, .bx [au u, .p .nils]⟩)]⟩ fun e H' => e = .returned und ∧ H' = ⟨2, [(1, ⟨5, false, .pu []⟩), (0, ⟨TB, false, .bx [.ptr 0 0 0, .sl 1 1 0 0]⟩)]⟩ := by
  refine holdsN_of_vc Tryz.func54 rfl rfl rfl ?_
  refine (copyCheck_c u (.p .nils)).useE [] [(1, 0)] rfl ?_ ?_ ?_
  · cases u <;> (repeat' first | exact trivial | exact rfl | exact ⟨rfl, rfl⟩ | exact .inl rfl | refine ⟨_, rfl, rfl, rfl, ?_⟩ | refine ⟨_, _, rfl, ?_, ?_⟩ | refine ⟨_, rfl, ?_⟩ | refine And.intro ?_ ?_)
  · (repeat' first | exact trivial | exact rfl | exact ⟨rfl, rfl⟩ | exact .inl rfl | refine ⟨_, rfl, rfl, rfl, ?_⟩ | refine ⟨_, _, rfl, ?_, ?_⟩ | refine ⟨_, rfl, ?_⟩ | refine And.intro ?_ ?_)
  · refine And.intro (fun h1 => ?_) (fun h1 => ?_)
    · have h1 : (n : Int) < 0 := h1
      omega
    · refine VDraw.seq rfl ?_
      refine ⟨0, wrap_i64 (by omega) (by omega), ?_⟩
      refine And.intro (fun h2 => ?_) (fun h2 => ?_)
      · refine (grow_c n hn).useE [] [] rfl ?_ ?_ ?_
        · (repeat' first | exact trivial | exact rfl | exact ⟨rfl, rfl⟩ | exact .inl rfl | refine ⟨_, rfl, rfl, rfl, ?_⟩ | refine ⟨_, _, rfl, ?_, ?_⟩ | refine ⟨_, rfl, ?_⟩ | refine And.intro ?_ ?_)
        · (repeat' first | exact trivial | exact rfl | exact ⟨rfl, rfl⟩ | exact .inl rfl | refine ⟨_, rfl, rfl, rfl, ?_⟩ | refine ⟨_, _, rfl, ?_, ?_⟩ | refine ⟨_, rfl, ?_⟩ | refine And.intro ?_ ?_)
        · exact ⟨[], [(1, 1)], [], .returned und, ⟨2, [(1, ⟨5, false, .pu []⟩), (0, ⟨TB, false, .bx [.ptr 0 0 0, .sl 1 1 0 0]⟩)]⟩, rfl, by (repeat' first | exact trivial | exact rfl | exact ⟨rfl, rfl⟩ | exact .inl rfl | refine ⟨_, rfl, rfl, rfl, ?_⟩ | refine ⟨_, _, rfl, ?_, ?_⟩ | refine ⟨_, rfl, ?_⟩ | refine And.intro ?_ ?_), ⟨⟨_, rfl, rfl, rfl, rfl⟩, ⟨_, rfl, rfl, rfl, _, rfl, _, _, rfl, ⟨rfl, rfl⟩, _, _, rfl, rfl, rfl⟩, trivial⟩, rfl, rfl⟩
      · have h2 : ¬ (0 : Int) < (n : Nat) := h2
        omega
theorem growZ_c (u : Bool) : HoldsG cx 54 [.ptr 0 0 0, .p (i64 0)] ⟨1, [(0, ⟨TB, false, .bx [au u, .p .nils]⟩)]⟩ fun e H' => e = .returned und ∧ H' = ⟨1, [(0, ⟨TB, false, .bx [.ptr 0 0 0, .p .nils]⟩)]⟩ := by
  refine holdsN_of_vc Tryz.func54 rfl rfl rfl ?_
  refine (copyCheck_c u (.p .nils)).useE [] [(1, 0)] rfl ?_ ?_ ?_
  · cases u <;> (repeat' first | exact trivial | exact rfl | exact ⟨rfl, rfl⟩ | exact .inl rfl | refine ⟨_, rfl, rfl, rfl, ?_⟩ | refine ⟨_, _, rfl, ?_, ?_⟩ | refine ⟨_, rfl, ?_⟩ | refine And.intro ?_ ?_)
  · (repeat' first | exact trivial | exact rfl | exact ⟨rfl, rfl⟩ | exact .inl rfl | refine ⟨_, rfl, rfl, rfl, ?_⟩ | refine ⟨_, _, rfl, ?_, ?_⟩ | refine ⟨_, rfl, ?_⟩ | refine And.intro ?_ ?_)
  · refine And.intro (fun h1 => ?_) (fun h1 => ?_)
    · have h1 : (0 : Int) < 0 := h1
      omega
    · refine VDraw.seq rfl ?_
      refine ⟨0, wrap_i64 (by omega) (by omega), ?_⟩
      refine And.intro (fun h2 => ?_) (fun h2 => ?_)
      · have h2 : (0 : Int) < 0 := h2
        omega
      · exact ⟨[], [], [], .returned und, ⟨1, [(0, ⟨TB, false, .bx [.ptr 0 0 0, .p .nils]⟩)]⟩, rfl, by (repeat' first | exact trivial | exact rfl | exact ⟨rfl, rfl⟩ | exact .inl rfl | refine ⟨_, rfl, rfl, rfl, ?_⟩ | refine ⟨_, _, rfl, ?_, ?_⟩ | refine ⟨_, rfl, ?_⟩ | refine And.intro ?_ ?_), ⟨⟨_, rfl, rfl, rfl, _, rfl, _, _, rfl, ⟨rfl, rfl⟩, _, _, rfl, (.inl rfl), rfl⟩, trivial⟩, rfl, rfl⟩

theorem string_c (u : Bool) (xs : List UInt8) (h0 : xs ≠ []) (hx : xs.length ≤ 100000000) : HoldsG cx 37 [.ptr 0 0 0] (bldH u xs) fun e H' => e = .returned (vS xs) ∧ H' = ⟨2, [(0, ⟨TB, false, .bx [au u, .sl 1 1 0 xs.length]⟩)]⟩ := by
  refine holdsN_of_vc Tryz.func37 rfl rfl rfl ?_
  refine VDraw.seq rfl ?_
  refine And.intro (fun h1 => ?_) (fun h1 => ?_)
  · refine ⟨by (repeat' first | exact trivial | exact rfl | exact ⟨rfl, rfl⟩ | exact .inl rfl | refine ⟨_, rfl, rfl, rfl, ?_⟩ | refine ⟨_, _, rfl, ?_, ?_⟩ | refine ⟨_, rfl, ?_⟩ | refine And.intro ?_ ?_), ?_⟩
    refine ⟨xs, h0, rfl, by omega, by simp, by rw [List.take_of_length_le (by simp)], ?_⟩
    exact ⟨[], [], [], .returned (vS xs), ⟨2, [(0, ⟨TB, false, .bx [au u, .sl 1 1 0 xs.length]⟩)]⟩, rfl, ⟨_, rfl, rfl⟩, by cases u <;> (repeat' first | exact trivial | exact rfl | exact ⟨rfl, rfl⟩ | exact .inl rfl | refine ⟨_, rfl, rfl, rfl, ?_⟩ | refine ⟨_, _, rfl, ?_, ?_⟩ | refine ⟨_, rfl, ?_⟩ | refine And.intro ?_ ?_), rfl, rfl⟩
  · exact absurd (List.eq_nil_of_length_eq_zero h1) h0
theorem stringE_c (u : Bool) : HoldsG cx 37 [.ptr 0 0 0] (bldH u []) fun e H' => e = .returned (vS []) ∧ H' = bldH u [] := by
  refine holdsN_of_vc Tryz.func37 rfl rfl rfl ?_
  refine VDraw.seq rfl ?_
  refine And.intro (fun h1 => ?_) (fun h1 => ?_)
  · cases h1
  · refine ⟨by (repeat' first | exact trivial | exact rfl | exact ⟨rfl, rfl⟩ | exact .inl rfl | refine ⟨_, rfl, rfl, rfl, ?_⟩ | refine ⟨_, _, rfl, ?_, ?_⟩ | refine ⟨_, rfl, ?_⟩ | refine And.intro ?_ ?_), ?_⟩
    refine ⟨rfl, ?_⟩
    exact ⟨[], [], [], .returned (vS []), bldH u [], rfl, ⟨_, rfl, rfl⟩, by cases u <;> (repeat' first | exact trivial | exact rfl | exact ⟨rfl, rfl⟩ | exact .inl rfl | refine ⟨_, rfl, rfl, rfl, ?_⟩ | refine ⟨_, _, rfl, ?_, ?_⟩ | refine ⟨_, rfl, ?_⟩ | refine And.intro ?_ ?_), rfl, rfl⟩
theorem stringN_c (u : Bool) : HoldsG cx 37 [.ptr 0 0 0] ⟨1, [(0, ⟨TB, false, .bx [au u, .p .nils]⟩)]⟩ fun e H' => e = .returned (vS []) ∧ H' = ⟨1, [(0, ⟨TB, false, .bx [au u, .p .nils]⟩)]⟩ := by
  refine holdsN_of_vc Tryz.func37 rfl rfl rfl ?_
  refine VDraw.seq rfl ?_
  refine ⟨by (repeat' first | exact trivial | exact rfl | exact ⟨rfl, rfl⟩ | exact .inl rfl | refine ⟨_, rfl, rfl, rfl, ?_⟩ | refine ⟨_, _, rfl, ?_, ?_⟩ | refine ⟨_, rfl, ?_⟩ | refine And.intro ?_ ?_), ?_⟩
  refine ⟨rfl, ?_⟩
  exact ⟨[], [], [], .returned (vS []), ⟨1, [(0, ⟨TB, false, .bx [au u, .p .nils]⟩)]⟩, rfl, ⟨_, rfl, rfl⟩, by cases u <;> (repeat' first | exact trivial | exact rfl | exact ⟨rfl, rfl⟩ | exact .inl rfl | refine ⟨_, rfl, rfl, rfl, ?_⟩ | refine ⟨_, _, rfl, ?_, ?_⟩ | refine ⟨_, rfl, ?_⟩ | refine And.intro ?_ ?_), rfl, rfl⟩
end Go.Proofs.YtphmmoloegjocaaGreatDoor

/- Forms of networks: numbers; the reference's writers. -/
namespace Go.Proofs.YtphmmoloegjocaaGreatDoor
open Go Y
set_option maxRecDepth 100000
set_option maxHeartbeats 40000000

def dg (x : Int) : UInt8 := (48 + x.toNat).toUInt8
/-- A number below 100. -/
def dec (n : Int) : List UInt8 := if n < 10 then [dg n] else [dg (n / 10), dg (n % 10)]
theorem dec_len (n : Int) : 1 ≤ (dec n).length ∧ (dec n).length ≤ 2 := by
  unfold dec
  split <;> simp
def tenL : List UInt8 := [48, 49, 50, 51, 52, 53, 54, 55, 56, 57]
theorem ten_at : ∀ n < 10, sub [48, 49, 50, 51, 52, 53, 54, 55, 56, 57] (some ((n : Nat) : Int)) (some ((n : Int) + 1)) = [dg n] := by decide
theorem digit1_c (n : Nat) (h : n < 10) : Pure cx 46 [i64 n] (· = .ret [.str [dg n]]) := by
  refine pure_of_vc Tryz.func46 rfl rfl rfl ?_
  (first | refine brLt (fun h1 => ?_) (fun h1 => ?_) | refine brLe (fun h1 => ?_) (fun h1 => ?_) | refine brEq (fun h1 => ?_) (fun h1 => ?_))
  · refine ⟨_, wrap_i64 (by omega) (by omega), ?_⟩
    refine ⟨by show (0 : Int) ≤ n ∧ (n : Int) ≤ (n : Int) + 1 ∧ (n : Int) + 1 ≤ 10; omega, ?_⟩
    exact end1 _ rfl rfl (congrArg (fun z => PEnd.ret [.str z]) (ten_at n h))
  · have h1 : ¬ (n : Int) < 10 := h1
    omega
theorem digits_c (n : Int) (h0 : 0 ≤ n) (h9 : n < 100) : Pure cx 46 [i64 n] (· = .ret [.str (dec n)]) := by
  obtain ⟨m, rfl⟩ : ∃ m : Nat, n = m := ⟨n.toNat, by omega⟩
  by_cases hs : m < 10
  · have := digit1_c m hs
    rw [dec, if_pos (by omega)]
    exact this
  refine pure_of_vc Tryz.func46 rfl rfl rfl ?_
  (first | refine brLt (fun h1 => ?_) (fun h1 => ?_) | refine brLe (fun h1 => ?_) (fun h1 => ?_) | refine brEq (fun h1 => ?_) (fun h1 => ?_))
  · have h1 : (m : Int) < 10 := h1
    omega
  · refine VDraw.seq rfl ?_
    refine ⟨by decide, ((m / 10 : Nat) : Int), by show ((m / 10 : Nat) : Int) = IntKind.i64.wrap ((m / 10 : Nat) : Int); exact wrap_i64 (by omega) (by omega), ?_⟩
    refine ⟨by decide, ?_⟩
    refine ⟨by decide, ?_⟩
    refine ⟨((m % 10 : Nat) : Int) + 1, by show _ = IntKind.i64.wrap (((m % 10 : Nat) : Int) + 1); exact wrap_i64 (by omega) (by omega), ?_⟩
    refine ⟨by show (0 : Int) ≤ (m % 10 : Nat) ∧ ((m % 10 : Nat) : Int) ≤ ((m % 10 : Nat) : Int) + 1 ∧ ((m % 10 : Nat) : Int) + 1 ≤ 10; omega, ?_⟩
    refine (digit1_c (m / 10) (by omega)).eq rfl ?_
    refine ⟨by show 1 + (sub tenL (some ((m % 10 : Nat) : Int)) (some (((m % 10 : Nat) : Int) + 1))).length ≤ 9223372036854775807; rw [tenL, ten_at _ (by omega)]; show 1 + 1 ≤ 9223372036854775807; omega, ?_⟩
    refine end1 _ rfl rfl ?_
    rw [dec, if_neg (by omega)]
    show PEnd.ret [.str ([dg ((m / 10 : Nat) : Int)] ++ sub tenL (some ((m % 10 : Nat) : Int)) (some (((m % 10 : Nat) : Int) + 1)))] = _
    rw [tenL, ten_at _ (by omega)]
    rfl

/-- Numbers with an octet 32 in front of each. -/
def numsN (l : List Int) : List UInt8 := l.flatMap fun n => 32 :: dec n
theorem nums_snoc (l : List Int) (x : Int) : numsN (l ++ [x]) = numsN l ++ 32 :: dec x := by simp [numsN]
theorem nums_len (l : List Int) : (numsN l).length ≤ 3 * l.length := by
  induction l with
  | nil => simp [numsN]
  | cons x l ih =>
    have := (dec_len x).2
    have e : numsN (x :: l) = (32 :: dec x) ++ numsN l := rfl
    rw [e, List.length_append, List.length_cons, List.length_cons]; omega
def two (l : List Int) : Prop := ∀ x ∈ l, 0 ≤ x ∧ x < 100
theorem numbers_c (l : List Int) (hl : l.length ≤ 100000) (h : two l) : Pure cx 47 [ints l] (· = .ret [.str (numsN l)]) := by
  refine pure_of_vc Tryz.func47 rfl rfl rfl ?_
  refine ⟨Nat, fun k => [(0, .p (ints l)), (3, .p (.str (numsN (l.take k)))), (4, .p (i64 k))], fun _ => ⟨0, []⟩, fun k => k ≤ l.length, fun k => l.length - k, ?_, ?_⟩
  · exact ⟨0, by omega, ent0 rfl ⟨rfl, rfl, rfl, trivial⟩ trivial rfl⟩
  intro k hk
  have hnl := nums_len (l.take k)
  rw [List.length_take] at hnl
  (first | refine brLt (fun h1 => ?_) (fun h1 => ?_) | refine brLe (fun h1 => ?_) (fun h1 => ?_) | refine brEq (fun h1 => ?_) (fun h1 => ?_))
  · have h1 : (k : Int) < ((l.map i64).length : Nat) := h1
    rw [List.length_map] at h1
    have hkl : k < l.length := by omega
    obtain ⟨x, hx⟩ : ∃ x, x = l.getD k 0 := ⟨_, rfl⟩
    have hx2 := h _ (getD_memL 0 hkl)
    rw [← hx] at hx2
    have hdl := dec_len x
    refine ⟨by show (numsN (l.take k)).length + 1 ≤ 9223372036854775807; omega, ?_⟩
    refine ⟨_, ⟨by omega, i64 x, by rw [hx]; exact icell hkl, rfl⟩, ?_⟩
    refine (digits_c x hx2.1 hx2.2).eq rfl ?_
    refine ⟨by show (numsN (l.take k) ++ [32]).length + (dec x).length ≤ 9223372036854775807; rw [snoc_len]; omega, ?_⟩
    refine ⟨_, wrap_i64 (by omega) (by omega), ?_⟩
    exact ⟨k + 1, by omega, ent0 rfl ⟨rfl, by rw [take_succ_getD 0 hkl, ← hx, nums_snoc]; show PV.str _ = PV.str ((numsN (l.take k) ++ [32]) ++ dec x); rw [List.append_assoc]; rfl, rfl, trivial⟩ trivial rfl, by show l.length - (k + 1) < l.length - k; omega⟩
  · have h1 : ¬ (k : Int) < ((l.map i64).length : Nat) := h1
    rw [List.length_map] at h1
    exact end1 _ rfl rfl (by rw [take_all (by omega)])
/-- Numbers in parentheses. -/
def listN (l : List Int) : List UInt8 := 40 :: ((numsN l).drop 1 ++ [41])
theorem list_len41 (l : List Int) : (listN l).length ≤ 3 * l.length + 2 := by
  have := nums_len l
  rw [listN, List.length_cons, List.length_append, List.length_drop]
  simp; omega
theorem rList_c (l : List Int) (hl : l.length ≤ 100000) (h : two l) : Pure cx 48 [ints l] (· = .ret [.str (listN l)]) := by
  refine pure_of_vc Tryz.func48 rfl rfl rfl ?_
  have hnl := nums_len l
  refine (numbers_c l hl h).eq rfl ?_
  (first | refine brLt (fun h1 => ?_) (fun h1 => ?_) | refine brLe (fun h1 => ?_) (fun h1 => ?_) | refine brEq (fun h1 => ?_) (fun h1 => ?_))
  · have h1 : numsN l = [] := h1
    refine ⟨by show 1 + (numsN l).length ≤ 9223372036854775807; omega, ?_⟩
    refine ⟨by show ([40] ++ numsN l).length + 1 ≤ 9223372036854775807; rw [List.length_append]; simp; omega, ?_⟩
    exact end1 _ rfl rfl (by show PEnd.ret [.str (([40] ++ numsN l) ++ [41])] = _; rw [listN, h1]; rfl)
  · have h1 : ¬ numsN l = [] := h1
    have hpos : 0 < (numsN l).length := List.length_pos_iff.2 h1
    refine ⟨by show (0 : Int) ≤ 1 ∧ (1 : Int) ≤ ((numsN l).length : Nat); omega, ?_⟩
    refine ⟨by show 1 + ((numsN l).drop 1).length ≤ 9223372036854775807; rw [List.length_drop]; omega, ?_⟩
    refine ⟨by show ([40] ++ (numsN l).drop 1).length + 1 ≤ 9223372036854775807; rw [List.length_append, List.length_drop]; simp; omega, ?_⟩
    exact end1 _ rfl rfl rfl

/-! ### Whole forms -/
def rowLine (r : List Int) : List UInt8 := [114, 111, 119] ++ (numsN r ++ [10])
def nodeHead (x : Nd) : List UInt8 := [110, 111, 100, 101, 32] ++ (dec x.card ++ ((if x.parents = [] then [] else [32, 102, 114, 111, 109] ++ numsN x.parents) ++ [10]))
def nodeLines (x : Nd) : List UInt8 := nodeHead x ++ x.rows.flatMap rowLine
def byLines (n : Nt) : List UInt8 := ([110, 101, 116, 32] ++ (dec n.grain ++ [10])) ++ n.nodes.flatMap nodeLines
def nodeNest (x : Nd) : List UInt8 := [40, 110, 111, 100, 101, 32] ++ (dec x.card ++ (32 :: (listN x.parents ++ ((x.rows.flatMap fun r => 32 :: listN r) ++ [41]))))
def nested (n : Nt) : List UInt8 := [40, 110, 101, 116, 32] ++ (dec n.grain ++ ((n.nodes.flatMap fun x => 32 :: nodeNest x) ++ [41]))
/-- Networks whose numbers are below 100. -/
structure SmT (n : Nt) : Prop where
  grain : 0 ≤ n.grain ∧ n.grain < 100
  len : n.nodes.length ≤ 8
  card : ∀ x ∈ n.nodes, 1 ≤ x.card ∧ x.card < 100
  par : ∀ x ∈ n.nodes, two x.parents ∧ x.parents.length ≤ 8
  rows : ∀ x ∈ n.nodes, 1 ≤ x.rows.length ∧ x.rows.length ≤ 65536
  row : ∀ x ∈ n.nodes, ∀ r ∈ x.rows, two r ∧ 1 ≤ r.length ∧ r.length ≤ 4
theorem valid_sm {n : Nt} (h : validP n) : SmT n := by
  have hl := h.len
  have hc := h.cards
  refine ⟨by have := h.grain; omega, by omega, fun x hx => by have := hc x hx; exact ⟨this.1, by have := this.2; omega⟩, fun x hx => ?_, fun x hx => ?_, fun x hx r hr => ?_⟩
  · have hp := h.placed x hx
    exact ⟨fun q hq => by have := list_mem hp q hq; omega, by have := list_len hp; omega⟩
  · obtain ⟨v, hv, rfl⟩ := mem_getD nd0 hx
    have hp := h.placed _ hx
    have h1 := (h.node v hv).1
    have h2 := list_len hp
    have hok := atN_ok (l := cardsN n) (ps := (n.nodes.getD v nd0).parents) (fun c hc' => by obtain ⟨y, hy, rfl⟩ := List.mem_map.1 hc'; exact hc y hy) (by rw [cardsN, List.length_map]; exact list_mem hp)
    have hal : (atN (cardsN n) (n.nodes.getD v nd0).parents).length = (n.nodes.getD v nd0).parents.length := List.length_map ..
    have h3 := prod_take hok _ (Nat.le_refl _)
    rw [take_all (Nat.le_refl _)] at h3
    have h4 : (4 : Int) ^ (atN (cardsN n) (n.nodes.getD v nd0).parents).length ≤ 65536 := by
      have : ∀ i ≤ 8, (4 : Int) ^ i ≤ 65536 := by decide
      exact this _ (by omega)
    have h5 : prodN (pcardsN n v) = prodN (atN (cardsN n) (n.nodes.getD v nd0).parents) := rfl
    omega
  · obtain ⟨v, hv, rfl⟩ := mem_getD nd0 hx
    have h1 := (h.node v hv).2 r hr
    have h2 := hc _ hx
    have h3 := h1.1
    have h4 := h.grain
    have h5 := h2.1
    have h6 := h2.2
    exact ⟨fun w hw => by have := h1.2.1 w hw; omega, by omega, by omega⟩
theorem flat_len {α : Type} {f : α → List UInt8} {B : Nat} : ∀ {l : List α}, (∀ x ∈ l, (f x).length ≤ B) → (l.flatMap f).length ≤ B * l.length
  | [], _ => by simp
  | x :: l, h => by
    have h1 := h x (by simp)
    have h2 := flat_len (l := l) fun y hy => h y (by simp [hy])
    rw [List.flatMap_cons, List.length_append, List.length_cons, Nat.mul_succ]; omega
theorem flat_snoc {α β : Type} {f : α → List β} (l : List α) (x : α) : (l ++ [x]).flatMap f = l.flatMap f ++ f x := by simp
theorem SmT.head_len {n : Nt} (h : SmT n) {x : Nd} (hx : x ∈ n.nodes) : (nodeHead x).length ≤ 50 := by
  have h1 := nums_len x.parents
  have h2 := (h.par x hx).2
  have h3 := dec_len x.card
  rw [nodeHead]
  split <;> simp <;> omega
theorem SmT.row_len {n : Nt} (h : SmT n) {x : Nd} (hx : x ∈ n.nodes) {r : List Int} (hr : r ∈ x.rows) : (rowLine r).length ≤ 16 := by
  have h1 := nums_len r
  have h2 := (h.row x hx r hr).2.2
  rw [rowLine]
  simp; omega
theorem SmT.rows_len {n : Nt} (h : SmT n) {x : Nd} (hx : x ∈ n.nodes) (k : Nat) : ((x.rows.take k).flatMap rowLine).length ≤ 16 * 65536 := by
  have h1 := flat_len (f := rowLine) (B := 16) (l := x.rows.take k) fun r hr => h.row_len hx (List.mem_of_mem_take hr)
  have h2 := (h.rows x hx).2
  rw [List.length_take] at h1
  have : 16 * min k x.rows.length ≤ 16 * 65536 := Nat.mul_le_mul_left _ (by omega)
  omega
theorem SmT.lines_len {n : Nt} (h : SmT n) (k : Nat) : ((n.nodes.take k).flatMap nodeLines).length ≤ 8 * 1100000 := by
  have h1 := flat_len (f := nodeLines) (B := 1100000) (l := n.nodes.take k) fun x hx => by
    have hx := List.mem_of_mem_take hx
    have h2 := h.head_len hx
    have h3 := h.rows_len hx x.rows.length
    rw [take_all (Nat.le_refl _)] at h3
    rw [nodeLines, List.length_append]; omega
  have h2 := h.len
  rw [List.length_take] at h1
  have : 1100000 * min k n.nodes.length ≤ 1100000 * 8 := Nat.mul_le_mul_left _ (by omega)
  omega

theorem rByLines_c (n : Nt) (h : SmT n) : Pure cx 14 [n.pv] (· = .ret [.str (byLines n)]) := by
  refine pure_of_vc Tryz.func14 rfl rfl rfl ?_
  have hgl := dec_len n.grain
  obtain ⟨A, hA⟩ : ∃ A, A = [110, 101, 116, 32] ++ (dec n.grain ++ [10]) := ⟨_, rfl⟩
  have hAl : A.length ≤ 10 := by rw [hA]; simp; omega
  refine (digits_c n.grain h.grain.1 h.grain.2).eq rfl ?_
  refine ⟨by show 4 + (dec n.grain).length ≤ 9223372036854775807; omega, ?_⟩
  refine ⟨by show ([110, 101, 116, 32] ++ dec n.grain).length + 1 ≤ 9223372036854775807; rw [List.length_append]; simp; omega, ?_⟩
  refine ⟨Nat, fun k => [(1, .ptr 0 0 0), (3, .p (.str (A ++ (n.nodes.take k).flatMap nodeLines))), (4, .p (i64 k))], fun _ => ⟨1, [(0, ntO n)]⟩, fun k => k ≤ n.nodes.length, fun k => n.nodes.length - k, ?_, ?_⟩
  · exact ⟨0, by omega, ent_of [] [] [] rfl ⟨⟨rfl, rfl⟩, by rw [hA]; show PV.str _ = PV.str (([110, 101, 116, 32] ++ dec n.grain) ++ [10]); simp, rfl, trivial⟩ (by (repeat' first | exact trivial | exact rfl | exact ⟨rfl, rfl⟩ | exact .inl rfl | refine ⟨_, rfl, rfl, rfl, ?_⟩ | refine ⟨_, _, rfl, ?_, ?_⟩ | refine ⟨_, rfl, ?_⟩ | refine And.intro ?_ ?_)) rfl⟩
  intro k hk
  have hll := h.lines_len k
  (first | refine brLt (fun h1 => ?_) (fun h1 => ?_) | refine brLe (fun h1 => ?_) (fun h1 => ?_) | refine brEq (fun h1 => ?_) (fun h1 => ?_))
  rotate_left
  · have h1 : ¬ (k : Int) < ((n.nodes.map Nd.cells).length : Nat) := h1
    rw [List.length_map] at h1
    exact end1 _ rfl rfl (by rw [take_all (by omega), byLines, hA])
  have h1 : (k : Int) < ((n.nodes.map Nd.cells).length : Nat) := h1
  rw [List.length_map] at h1
  have hkl : k < n.nodes.length := by omega
  obtain ⟨x, hx⟩ : ∃ x, x = n.nodes.getD k nd0 := ⟨_, rfl⟩
  have hxm : x ∈ n.nodes := by rw [hx]; exact getD_memL nd0 hkl
  have hcell : (n.nodes.map Nd.cells)[k]? = some x.cells := by rw [hx]; exact ncell hkl
  have hxc := h.card x hxm
  have hcl := dec_len x.card
  have hhl := h.head_len hxm
  have hpl := nums_len x.parents
  have hp8 := h.par x hxm
  obtain ⟨B, hB⟩ : ∃ B, B = A ++ (n.nodes.take k).flatMap nodeLines := ⟨_, rfl⟩
  have hBl : B.length ≤ 9000000 := by rw [hB, List.length_append]; omega
  have hrest : ∀ T : List UInt8, T = B ++ nodeHead x → T.length ≤ 9000100 := fun T hT => by rw [hT, List.length_append]; omega
  refine ⟨_, ⟨by omega, x.cells, hcell, rfl⟩, ?_⟩
  refine ⟨by show (A ++ (n.nodes.take k).flatMap nodeLines).length + 5 ≤ 9223372036854775807; rw [← hB]; omega, ?_⟩
  refine (digits_c x.card (by omega) hxc.2).eq rfl ?_
  refine ⟨by show ((A ++ (n.nodes.take k).flatMap nodeLines) ++ [110, 111, 100, 101, 32]).length + (dec x.card).length ≤ 9223372036854775807; rw [← hB, List.length_append]; simp; omega, ?_⟩
  apply cut
  case h =>
    intro key
    (first | refine brLt (fun h2 => ?_) (fun h2 => ?_) | refine brLe (fun h2 => ?_) (fun h2 => ?_) | refine brEq (fun h2 => ?_) (fun h2 => ?_))
    · have h2 : (0 : Int) < ((x.parents.map i64).length : Nat) := h2
      rw [List.length_map] at h2
      have hpn : x.parents ≠ [] := fun e => by rw [e] at h2; simp at h2
      refine ⟨by show (((A ++ (n.nodes.take k).flatMap nodeLines) ++ [110, 111, 100, 101, 32]) ++ dec x.card).length + 5 ≤ 9223372036854775807; rw [← hB, List.length_append, List.length_append]; simp; omega, ?_⟩
      refine (numbers_c x.parents (by omega) hp8.1).eq rfl ?_
      refine ⟨by show ((((A ++ (n.nodes.take k).flatMap nodeLines) ++ [110, 111, 100, 101, 32]) ++ dec x.card) ++ [32, 102, 114, 111, 109]).length + (numsN x.parents).length ≤ 9223372036854775807; rw [← hB, List.length_append, List.length_append, List.length_append]; simp; omega, ?_⟩
      refine ⟨by show (((((A ++ (n.nodes.take k).flatMap nodeLines) ++ [110, 111, 100, 101, 32]) ++ dec x.card) ++ [32, 102, 114, 111, 109]) ++ numsN x.parents).length + 1 ≤ 9223372036854775807; rw [← hB, List.length_append, List.length_append, List.length_append, List.length_append]; simp; omega, ?_⟩
      refine ⟨Nat, fun j => [(1, .ptr 0 0 0), (3, .p (.str ((B ++ nodeHead x) ++ (x.rows.take j).flatMap rowLine))), (4, .p (i64 k)), (5, .ptr 1 0 0), (6, .p (i64 j))], fun _ => ⟨2, [(1, ndO x), (0, ntO n)]⟩, fun j => j ≤ x.rows.length, fun j => x.rows.length - j, ?_, key.get⟩
      refine ⟨0, by omega, ent_of [] [] [] rfl ⟨⟨rfl, rfl⟩, congrArg PV.str ?_, rfl, ⟨rfl, rfl⟩, rfl, trivial⟩ (by (repeat' first | exact trivial | exact rfl | exact ⟨rfl, rfl⟩ | exact .inl rfl | refine ⟨_, rfl, rfl, rfl, ?_⟩ | refine ⟨_, _, rfl, ?_, ?_⟩ | refine ⟨_, rfl, ?_⟩ | refine And.intro ?_ ?_)) rfl⟩
      rw [nodeHead, if_neg hpn, hB]
      show _ = (((((A ++ (n.nodes.take k).flatMap nodeLines) ++ [110, 111, 100, 101, 32]) ++ dec x.card) ++ [32, 102, 114, 111, 109]) ++ numsN x.parents) ++ [10]
      simp
    · have h2 : ¬ (0 : Int) < ((x.parents.map i64).length : Nat) := h2
      rw [List.length_map] at h2
      have hpn : x.parents = [] := List.eq_nil_of_length_eq_zero (by omega)
      refine ⟨by show (((A ++ (n.nodes.take k).flatMap nodeLines) ++ [110, 111, 100, 101, 32]) ++ dec x.card).length + 1 ≤ 9223372036854775807; rw [← hB, List.length_append, List.length_append]; simp; omega, ?_⟩
      refine ⟨Nat, fun j => [(1, .ptr 0 0 0), (3, .p (.str ((B ++ nodeHead x) ++ (x.rows.take j).flatMap rowLine))), (4, .p (i64 k)), (5, .ptr 1 0 0), (6, .p (i64 j))], fun _ => ⟨2, [(1, ndO x), (0, ntO n)]⟩, fun j => j ≤ x.rows.length, fun j => x.rows.length - j, ?_, key.get⟩
      refine ⟨0, by omega, ent_of [] [] [] rfl ⟨⟨rfl, rfl⟩, congrArg PV.str ?_, rfl, ⟨rfl, rfl⟩, rfl, trivial⟩ (by (repeat' first | exact trivial | exact rfl | exact ⟨rfl, rfl⟩ | exact .inl rfl | refine ⟨_, rfl, rfl, rfl, ?_⟩ | refine ⟨_, _, rfl, ?_, ?_⟩ | refine ⟨_, rfl, ?_⟩ | refine And.intro ?_ ?_)) rfl⟩
      rw [nodeHead, if_pos hpn, hB]
      show _ = (((A ++ (n.nodes.take k).flatMap nodeLines) ++ [110, 111, 100, 101, 32]) ++ dec x.card) ++ [10]
      simp
  case k =>
    intro j hj
    have hBh := hrest _ rfl
    have hrw := (h.rows x hxm).2
    have hnlen := h.len
    have hrl := h.rows_len hxm j
    (first | refine brLt (fun h3 => ?_) (fun h3 => ?_) | refine brLe (fun h3 => ?_) (fun h3 => ?_) | refine brEq (fun h3 => ?_) (fun h3 => ?_))
    · have h3 : (j : Int) < ((x.rows.map ints).length : Nat) := h3
      rw [List.length_map] at h3
      have hjl : j < x.rows.length := by omega
      obtain ⟨r, hr⟩ : ∃ r, r = x.rows.getD j [] := ⟨_, rfl⟩
      have hrm : r ∈ x.rows := by rw [hr]; exact getD_memL [] hjl
      have hr4 := h.row x hxm r hrm
      have hnr := nums_len r
      obtain ⟨T, hT⟩ : ∃ T, T = (B ++ nodeHead x) ++ (x.rows.take j).flatMap rowLine := ⟨_, rfl⟩
      have hTl : T.length ≤ 20000000 := by rw [hT, List.length_append]; omega
      refine ⟨by show ((B ++ nodeHead x) ++ (x.rows.take j).flatMap rowLine).length + 3 ≤ 9223372036854775807; rw [← hT]; omega, ?_⟩
      refine ⟨_, ⟨by omega, ints r, by rw [hr]; exact ccell hjl, rfl⟩, ?_⟩
      refine (numbers_c r (by omega) hr4.1).eq rfl ?_
      refine ⟨by show (((B ++ nodeHead x) ++ (x.rows.take j).flatMap rowLine) ++ [114, 111, 119]).length + (numsN r).length ≤ 9223372036854775807; rw [← hT, List.length_append]; simp; omega, ?_⟩
      refine ⟨by show ((((B ++ nodeHead x) ++ (x.rows.take j).flatMap rowLine) ++ [114, 111, 119]) ++ numsN r).length + 1 ≤ 9223372036854775807; rw [← hT, List.length_append, List.length_append]; simp; omega, ?_⟩
      refine ⟨_, wrap_i64 (by omega) (by omega), ?_⟩
      refine ⟨j + 1, by omega, ent_of [] [] [] rfl ⟨⟨rfl, rfl⟩, congrArg PV.str ?_, rfl, ⟨rfl, rfl⟩, rfl, trivial⟩ (by (repeat' first | exact trivial | exact rfl | exact ⟨rfl, rfl⟩ | exact .inl rfl | refine ⟨_, rfl, rfl, rfl, ?_⟩ | refine ⟨_, _, rfl, ?_, ?_⟩ | refine ⟨_, rfl, ?_⟩ | refine And.intro ?_ ?_)) rfl, by show x.rows.length - (j + 1) < x.rows.length - j; omega⟩
      rw [take_succ_getD [] hjl, ← hr, flat_snoc, rowLine]
      show _ = ((((B ++ nodeHead x) ++ (x.rows.take j).flatMap rowLine) ++ [114, 111, 119]) ++ numsN r) ++ [10]
      simp
    · have h3 : ¬ (j : Int) < ((x.rows.map ints).length : Nat) := h3
      rw [List.length_map] at h3
      refine ⟨_, wrap_i64 (by omega) (by omega), ?_⟩
      refine ⟨k + 1, by omega, ent_of [] [] [] rfl ⟨⟨rfl, rfl⟩, congrArg PV.str ?_, rfl, trivial⟩ (by (repeat' first | exact trivial | exact rfl | exact ⟨rfl, rfl⟩ | exact .inl rfl | refine ⟨_, rfl, rfl, rfl, ?_⟩ | refine ⟨_, _, rfl, ?_, ?_⟩ | refine ⟨_, rfl, ?_⟩ | refine And.intro ?_ ?_)) rfl, by show n.nodes.length - (k + 1) < n.nodes.length - k; omega⟩
      rw [take_succ_getD nd0 hkl, ← hx, flat_snoc, nodeLines]
      show _ = (B ++ nodeHead x) ++ (x.rows.take j).flatMap rowLine
      rw [hB, show x.rows.take j = x.rows from take_all (by omega)]
      simp
end Go.Proofs.YtphmmoloegjocaaGreatDoor

/- The reference's nested form; its Lines and Nested. -/
namespace Go.Proofs.YtphmmoloegjocaaGreatDoor
open Go Y
set_option maxRecDepth 100000
set_option maxHeartbeats 40000000

theorem SmT.lists_len {n : Nt} (h : SmT n) {x : Nd} (hx : x ∈ n.nodes) (k : Nat) : ((x.rows.take k).flatMap fun r => 32 :: listN r).length ≤ 15 * 65536 := by
  have h1 := flat_len (f := fun r => 32 :: listN r) (B := 15) (l := x.rows.take k) fun r hr => by
    have h2 := list_len41 r
    have h3 := (h.row x hx r (List.mem_of_mem_take hr)).2.2
    simp only [List.length_cons]; omega
  have h2 := (h.rows x hx).2
  rw [List.length_take] at h1
  have : 15 * min k x.rows.length ≤ 15 * 65536 := Nat.mul_le_mul_left _ (by omega)
  omega
theorem SmT.nest_len {n : Nt} (h : SmT n) (k : Nat) : ((n.nodes.take k).flatMap fun x => 32 :: nodeNest x).length ≤ 8 * 1100000 := by
  have h1 := flat_len (f := fun x => 32 :: nodeNest x) (B := 1100000) (l := n.nodes.take k) fun x hx => by
    have hx := List.mem_of_mem_take hx
    have h2 := h.lists_len hx x.rows.length
    rw [take_all (Nat.le_refl _)] at h2
    have h3 := list_len41 x.parents
    have h4 := (h.par x hx).2
    have h5 := dec_len x.card
    simp only [List.length_cons, nodeNest, List.length_append, List.length_nil]; omega
  have h2 := h.len
  rw [List.length_take] at h1
  have : 1100000 * min k n.nodes.length ≤ 1100000 * 8 := Nat.mul_le_mul_left _ (by omega)
  omega
theorem rNested_c (n : Nt) (h : SmT n) : Pure cx 15 [n.pv] (· = .ret [.str (nested n)]) := by
  refine pure_of_vc Tryz.func15 rfl rfl rfl ?_
  have hgl := dec_len n.grain
  have hnlen := h.len
  obtain ⟨A, hA⟩ : ∃ A, A = [40, 110, 101, 116, 32] ++ dec n.grain := ⟨_, rfl⟩
  have hAl : A.length ≤ 10 := by rw [hA]; simp; omega
  refine (digits_c n.grain h.grain.1 h.grain.2).eq rfl ?_
  refine ⟨by show 5 + (dec n.grain).length ≤ 9223372036854775807; omega, ?_⟩
  refine ⟨Nat, fun k => [(1, .ptr 0 0 0), (3, .p (.str (A ++ (n.nodes.take k).flatMap fun x => 32 :: nodeNest x))), (4, .p (i64 k))], fun _ => ⟨1, [(0, ntO n)]⟩, fun k => k ≤ n.nodes.length, fun k => n.nodes.length - k, ?_, ?_⟩
  · exact ⟨0, by omega, ent_of [] [] [] rfl ⟨⟨rfl, rfl⟩, by rw [hA]; show PV.str _ = PV.str ([40, 110, 101, 116, 32] ++ dec n.grain); simp, rfl, trivial⟩ (by (repeat' first | exact trivial | exact rfl | exact ⟨rfl, rfl⟩ | exact .inl rfl | refine ⟨_, rfl, rfl, rfl, ?_⟩ | refine ⟨_, _, rfl, ?_, ?_⟩ | refine ⟨_, rfl, ?_⟩ | refine And.intro ?_ ?_)) rfl⟩
  intro k hk
  have hll := h.nest_len k
  obtain ⟨B, hB⟩ : ∃ B, B = A ++ (n.nodes.take k).flatMap fun x => 32 :: nodeNest x := ⟨_, rfl⟩
  have hBl : B.length ≤ 9000000 := by rw [hB, List.length_append]; omega
  (first | refine brLt (fun h1 => ?_) (fun h1 => ?_) | refine brLe (fun h1 => ?_) (fun h1 => ?_) | refine brEq (fun h1 => ?_) (fun h1 => ?_))
  rotate_left
  · have h1 : ¬ (k : Int) < ((n.nodes.map Nd.cells).length : Nat) := h1
    rw [List.length_map] at h1
    refine ⟨by show (A ++ (n.nodes.take k).flatMap fun x => 32 :: nodeNest x).length + 1 ≤ 9223372036854775807; rw [← hB]; omega, ?_⟩
    exact end1 _ rfl rfl (by show PEnd.ret [.str ((A ++ (n.nodes.take k).flatMap fun x => 32 :: nodeNest x) ++ [41])] = _; rw [take_all (by omega), nested, hA]; simp)
  have h1 : (k : Int) < ((n.nodes.map Nd.cells).length : Nat) := h1
  rw [List.length_map] at h1
  have hkl : k < n.nodes.length := by omega
  obtain ⟨x, hx⟩ : ∃ x, x = n.nodes.getD k nd0 := ⟨_, rfl⟩
  have hxm : x ∈ n.nodes := by rw [hx]; exact getD_memL nd0 hkl
  have hcell : (n.nodes.map Nd.cells)[k]? = some x.cells := by rw [hx]; exact ncell hkl
  have hxc := h.card x hxm
  have hcl := dec_len x.card
  have hp8 := h.par x hxm
  have hpl := list_len41 x.parents
  have hrw := (h.rows x hxm).2
  obtain ⟨F, hF⟩ : ∃ F, F = [32, 40, 110, 111, 100, 101, 32] ++ (dec x.card ++ (32 :: listN x.parents)) := ⟨_, rfl⟩
  have hFl : F.length ≤ 60 := by rw [hF]; simp; omega
  refine ⟨_, ⟨by omega, x.cells, hcell, rfl⟩, ?_⟩
  refine VDraw.seq rfl ?_
  refine ⟨by show (A ++ (n.nodes.take k).flatMap fun x => 32 :: nodeNest x).length + 7 ≤ 9223372036854775807; rw [← hB]; omega, ?_⟩
  refine (digits_c x.card (by omega) hxc.2).eq rfl ?_
  refine ⟨by (repeat' first | exact trivial | exact rfl | exact ⟨rfl, rfl⟩ | exact .inl rfl | refine ⟨_, rfl, rfl, rfl, ?_⟩ | refine ⟨_, _, rfl, ?_, ?_⟩ | refine ⟨_, rfl, ?_⟩ | refine And.intro ?_ ?_), ?_⟩
  refine ⟨by show ((A ++ (n.nodes.take k).flatMap fun x => 32 :: nodeNest x) ++ [32, 40, 110, 111, 100, 101, 32]).length + (dec x.card).length ≤ 9223372036854775807; rw [← hB, List.length_append]; simp; omega, ?_⟩
  refine ⟨by show (((A ++ (n.nodes.take k).flatMap fun x => 32 :: nodeNest x) ++ [32, 40, 110, 111, 100, 101, 32]) ++ dec x.card).length + 1 ≤ 9223372036854775807; rw [← hB, List.length_append, List.length_append]; simp; omega, ?_⟩
  refine (rList_c x.parents (by omega) hp8.1).eq rfl ?_
  refine ⟨by show ((((A ++ (n.nodes.take k).flatMap fun x => 32 :: nodeNest x) ++ [32, 40, 110, 111, 100, 101, 32]) ++ dec x.card) ++ [32]).length + (listN x.parents).length ≤ 9223372036854775807; rw [← hB, List.length_append, List.length_append, List.length_append]; simp; omega, ?_⟩
  refine ⟨Nat, fun j => [(1, .ptr 0 0 0), (3, .p (.str ((B ++ F) ++ (x.rows.take j).flatMap fun r => 32 :: listN r))), (4, .p (i64 k)), (5, .ptr 1 0 0), (6, .p (i64 j))], fun _ => ⟨2, [(1, ndO x), (0, ntO n)]⟩, fun j => j ≤ x.rows.length, fun j => x.rows.length - j, ?_, ?_⟩
  · refine ⟨0, by omega, ent_of [] [] [] rfl ⟨⟨rfl, rfl⟩, congrArg PV.str ?_, rfl, ⟨rfl, rfl⟩, rfl, trivial⟩ (by (repeat' first | exact trivial | exact rfl | exact ⟨rfl, rfl⟩ | exact .inl rfl | refine ⟨_, rfl, rfl, rfl, ?_⟩ | refine ⟨_, _, rfl, ?_, ?_⟩ | refine ⟨_, rfl, ?_⟩ | refine And.intro ?_ ?_)) rfl⟩
    show _ = ((((A ++ (n.nodes.take k).flatMap fun x => 32 :: nodeNest x) ++ [32, 40, 110, 111, 100, 101, 32]) ++ dec x.card) ++ [32]) ++ listN x.parents
    rw [hF, hB]
    simp
  intro j hj
  have hrl := h.lists_len hxm j
  obtain ⟨T, hT⟩ : ∃ T, T = (B ++ F) ++ (x.rows.take j).flatMap fun r => 32 :: listN r := ⟨_, rfl⟩
  have hTl : T.length ≤ 20000000 := by rw [hT, List.length_append, List.length_append]; omega
  (first | refine brLt (fun h3 => ?_) (fun h3 => ?_) | refine brLe (fun h3 => ?_) (fun h3 => ?_) | refine brEq (fun h3 => ?_) (fun h3 => ?_))
  · have h3 : (j : Int) < ((x.rows.map ints).length : Nat) := h3
    rw [List.length_map] at h3
    have hjl : j < x.rows.length := by omega
    obtain ⟨r, hr⟩ : ∃ r, r = x.rows.getD j [] := ⟨_, rfl⟩
    have hrm : r ∈ x.rows := by rw [hr]; exact getD_memL [] hjl
    have hr4 := h.row x hxm r hrm
    have hnr := list_len41 r
    refine ⟨by show ((B ++ F) ++ (x.rows.take j).flatMap fun r => 32 :: listN r).length + 1 ≤ 9223372036854775807; rw [← hT]; omega, ?_⟩
    refine ⟨_, ⟨by omega, ints r, by rw [hr]; exact ccell hjl, rfl⟩, ?_⟩
    refine (rList_c r (by omega) hr4.1).eq rfl ?_
    refine ⟨by show (((B ++ F) ++ (x.rows.take j).flatMap fun r => 32 :: listN r) ++ [32]).length + (listN r).length ≤ 9223372036854775807; rw [← hT, List.length_append]; simp; omega, ?_⟩
    refine ⟨_, wrap_i64 (by omega) (by omega), ?_⟩
    refine ⟨j + 1, by omega, ent_of [] [] [] rfl ⟨⟨rfl, rfl⟩, congrArg PV.str ?_, rfl, ⟨rfl, rfl⟩, rfl, trivial⟩ (by (repeat' first | exact trivial | exact rfl | exact ⟨rfl, rfl⟩ | exact .inl rfl | refine ⟨_, rfl, rfl, rfl, ?_⟩ | refine ⟨_, _, rfl, ?_, ?_⟩ | refine ⟨_, rfl, ?_⟩ | refine And.intro ?_ ?_)) rfl, by show x.rows.length - (j + 1) < x.rows.length - j; omega⟩
    rw [take_succ_getD [] hjl, ← hr, flat_snoc]
    show _ = (((B ++ F) ++ (x.rows.take j).flatMap fun r => 32 :: listN r) ++ [32]) ++ listN r
    simp
  · have h3 : ¬ (j : Int) < ((x.rows.map ints).length : Nat) := h3
    rw [List.length_map] at h3
    refine ⟨by show ((B ++ F) ++ (x.rows.take j).flatMap fun r => 32 :: listN r).length + 1 ≤ 9223372036854775807; rw [← hT]; omega, ?_⟩
    refine ⟨_, wrap_i64 (by omega) (by omega), ?_⟩
    refine ⟨k + 1, by omega, ent_of [] [] [] rfl ⟨⟨rfl, rfl⟩, congrArg PV.str ?_, rfl, trivial⟩ (by (repeat' first | exact trivial | exact rfl | exact ⟨rfl, rfl⟩ | exact .inl rfl | refine ⟨_, rfl, rfl, rfl, ?_⟩ | refine ⟨_, _, rfl, ?_, ?_⟩ | refine ⟨_, rfl, ?_⟩ | refine And.intro ?_ ?_)) rfl, by show n.nodes.length - (k + 1) < n.nodes.length - k; omega⟩
    rw [take_succ_getD nd0 hkl, ← hx, flat_snoc, nodeNest]
    show _ = ((B ++ F) ++ (x.rows.take j).flatMap fun r => 32 :: listN r) ++ [41]
    rw [hB, hF, show x.rows.take j = x.rows from take_all (by omega)]
    simp

noncomputable def linesP (n : Nt) : List PV := if validP n then [.str (byLines n), i64 0] else [.str [], i64 50]
noncomputable def nestedP (n : Nt) : List PV := if validP n then [.str (nested n), i64 0] else [.str [], i64 50]
theorem rLines_c (n : Nt) (hb : BigN n) : Pure cx 10 [n.pv] (· = .ret (linesP n)) := by
  refine pure_of_vc Tryz.func10 rfl rfl rfl ?_
  have hR := right_c n hb
  by_cases h : validP n
  · rw [decide_eq_true h] at hR
    refine hR.eq rfl ?_
    refine (rByLines_c n (valid_sm h)).eq rfl ?_
    exact end2 (.str (byLines n)) (i64 0) rfl rfl rfl (by rw [linesP, if_pos h])
  · rw [decide_eq_false h] at hR
    refine hR.eq rfl ?_
    exact end2 (.str []) (i64 50) rfl rfl rfl (by rw [linesP, if_neg h])
theorem rNestedE_c (n : Nt) (hb : BigN n) : Pure cx 12 [n.pv] (· = .ret (nestedP n)) := by
  refine pure_of_vc Tryz.func12 rfl rfl rfl ?_
  have hR := right_c n hb
  by_cases h : validP n
  · rw [decide_eq_true h] at hR
    refine hR.eq rfl ?_
    refine (rNested_c n (valid_sm h)).eq rfl ?_
    exact end2 (.str (nested n)) (i64 0) rfl rfl rfl (by rw [nestedP, if_pos h])
  · rw [decide_eq_false h] at hR
    refine hR.eq rfl ?_
    exact end2 (.str []) (i64 50) rfl rfl rfl (by rw [nestedP, if_neg h])
end Go.Proofs.YtphmmoloegjocaaGreatDoor

/- Package format: Itoa of small numbers, Join, lists. -/
namespace Go.Proofs.YtphmmoloegjocaaGreatDoor
open Go Y
set_option maxRecDepth 100000
set_option maxHeartbeats 40000000

theorem small1_at : ∀ n < 10, sub [48, 49, 50, 51, 52, 53, 54, 55, 56, 57, 97, 98, 99, 100, 101, 102, 103, 104, 105, 106, 107, 108, 109, 110, 111, 112, 113, 114, 115, 116, 117, 118, 119, 120, 121, 122] (some ((n : Nat) : Int)) (some ((n : Int) + 1)) = [dg n] := by decide
def smallT : List UInt8 := [48, 48, 48, 49, 48, 50, 48, 51, 48, 52, 48, 53, 48, 54, 48, 55, 48, 56, 48, 57, 49, 48, 49, 49, 49, 50, 49, 51, 49, 52, 49, 53, 49, 54, 49, 55, 49, 56, 49, 57, 50, 48, 50, 49, 50, 50, 50, 51, 50, 52, 50, 53, 50, 54, 50, 55, 50, 56, 50, 57, 51, 48, 51, 49, 51, 50, 51, 51, 51, 52, 51, 53, 51, 54, 51, 55, 51, 56, 51, 57, 52, 48, 52, 49, 52, 50, 52, 51, 52, 52, 52, 53, 52, 54, 52, 55, 52, 56, 52, 57, 53, 48, 53, 49, 53, 50, 53, 51, 53, 52, 53, 53, 53, 54, 53, 55, 53, 56, 53, 57, 54, 48, 54, 49, 54, 50, 54, 51, 54, 52, 54, 53, 54, 54, 54, 55, 54, 56, 54, 57, 55, 48, 55, 49, 55, 50, 55, 51, 55, 52, 55, 53, 55, 54, 55, 55, 55, 56, 55, 57, 56, 48, 56, 49, 56, 50, 56, 51, 56, 52, 56, 53, 56, 54, 56, 55, 56, 56, 56, 57, 57, 48, 57, 49, 57, 50, 57, 51, 57, 52, 57, 53, 57, 54, 57, 55, 57, 56, 57, 57]
theorem small2_at : ∀ n < 100, 10 ≤ n → sub smallT (some ((n : Nat) * 2 : Int)) (some ((n : Int) * 2 + 2)) = dec n := by decide +kernel
theorem small_c (x : Int) (h0 : 0 ≤ x) (h9 : x < 100) : Pure cx 104 [i64 x] (· = .ret [.str (dec x)]) := by
  refine pure_of_vc Tryz.func104 rfl rfl rfl ?_
  obtain ⟨n, rfl⟩ : ∃ n : Nat, x = n := ⟨x.toNat, by omega⟩
  (first | refine brLt (fun h1 => ?_) (fun h1 => ?_) | refine brLe (fun h1 => ?_) (fun h1 => ?_) | refine brEq (fun h1 => ?_) (fun h1 => ?_))
  · have h1 : (n : Int) < 10 := h1
    refine ⟨_, wrap_i64 (by omega) (by omega), ?_⟩
    refine ⟨by show (0 : Int) ≤ n ∧ (n : Int) ≤ (n : Int) + 1 ∧ (n : Int) + 1 ≤ 36; omega, ?_⟩
    refine end1 _ rfl rfl ?_
    rw [dec, if_pos h1]
    exact congrArg (fun z => PEnd.ret [.str z]) (small1_at n (by omega))
  · have h1 : ¬ (n : Int) < 10 := h1
    refine ⟨(n : Int) * 2, wrap_i64 (by omega) (by omega), ?_⟩
    refine ⟨(n : Int) * 2, wrap_i64 (by omega) (by omega), ?_⟩
    refine ⟨(n : Int) * 2 + 2, wrap_i64 (by omega) (by omega), ?_⟩
    refine ⟨by show (0 : Int) ≤ (n : Int) * 2 ∧ (n : Int) * 2 ≤ (n : Int) * 2 + 2 ∧ (n : Int) * 2 + 2 ≤ 200; omega, ?_⟩
    exact end1 _ rfl rfl (congrArg (fun z => PEnd.ret [.str z]) (small2_at n (by omega) (by omega)))
theorem fmt_c (x : Int) (h0 : 0 ≤ x) (h9 : x < 100) : Pure cx 87 [i64 x, i64 10] (· = .ret [.str (dec x)]) := by
  refine pure_of_vc Tryz.func87 rfl rfl rfl ?_
  refine And.intro (fun _ => ?_) (fun h => absurd rfl h)
  (first | refine brLt (fun h1 => ?_) (fun h1 => ?_) | refine brLe (fun h1 => ?_) (fun h1 => ?_) | refine brEq (fun h1 => ?_) (fun h1 => ?_))
  · (first | refine brLt (fun h2 => ?_) (fun h2 => ?_) | refine brLe (fun h2 => ?_) (fun h2 => ?_) | refine brEq (fun h2 => ?_) (fun h2 => ?_))
    · exact (small_c x h0 h9).eq rfl (end1 _ rfl rfl rfl)
    · omega
  · omega
theorem itoaI_c (x : Int) (h0 : 0 ≤ x) (h9 : x < 100) : Pure cx 64 [i64 x] (· = .ret [.str (dec x)]) := by
  refine pure_of_vc Tryz.func64 rfl rfl rfl ?_
  exact (fmt_c x h0 h9).eq rfl (end1 _ rfl rfl rfl)
theorem itoa_c (x : Int) (h0 : 0 ≤ x) (h9 : x < 100) : Pure cx 34 [i64 x] (· = .ret [.str (dec x)]) := by
  refine pure_of_vc Tryz.func34 rfl rfl rfl ?_
  exact (itoaI_c x h0 h9).eq rfl (end1 _ rfl rfl rfl)

/-! ### Join with single octets 32 -/
def preN (l : List (List UInt8)) : List UInt8 := l.flatMap fun x => 32 :: x
def joinS (l : List (List UInt8)) : List UInt8 := (preN l).drop 1
theorem pre_snoc (l : List (List UInt8)) (x : List UInt8) : preN (l ++ [x]) = preN l ++ 32 :: x := by simp [preN]
theorem pre_join {l : List (List UInt8)} (h : l ≠ []) : 32 :: joinS l = preN l := by
  cases l with
  | nil => exact absurd rfl h
  | cons x l => rfl
theorem join_snoc {l : List (List UInt8)} (h : l ≠ []) (x : List UInt8) : joinS (l ++ [x]) = joinS l ++ 32 :: x := by
  have h1 := pre_join (l := l ++ [x]) (by simp)
  rw [pre_snoc, ← pre_join h] at h1
  exact List.cons.inj h1 |>.2
theorem take_ne {α : Type} {l : List α} {k : Nat} (h : 0 < k) (hl : 0 < l.length) : l.take k ≠ [] := fun e => by
  have := congrArg List.length e
  rw [List.length_take, List.length_nil] at this; omega
theorem join_one (x : List UInt8) : joinS [x] = x := by simp [joinS, preN]
theorem pre_len_le {l : List (List UInt8)} (k : Nat) : (preN (l.take k)).length ≤ (preN l).length := by
  conv => rhs; rw [← List.take_append_drop k l]
  rw [preN, preN, List.flatMap_append, List.length_append]; omega
theorem join_len_le {l : List (List UInt8)} (k : Nat) : (joinS (l.take k)).length ≤ (preN l).length := by
  have := pre_len_le (l := l) k
  rw [joinS, List.length_drop]; omega
def lensN (l : List (List UInt8)) : Nat := l.foldl (fun n x => n + x.length) 0
theorem lens_snoc (l : List (List UInt8)) (x : List UInt8) : lensN (l ++ [x]) = lensN l + x.length := by rw [lensN, List.foldl_append]; rfl
theorem lens_le (l : List (List UInt8)) : lensN l ≤ (preN l).length := by
  have key : ∀ (l : List (List UInt8)) (n : Nat), l.foldl (fun n x => n + x.length) n ≤ n + (preN l).length := by
    intro l
    induction l with
    | nil => intro n; simp [preN]
    | cons x l ih =>
      intro n
      have := ih (n + x.length)
      have e : preN (x :: l) = (32 :: x) ++ preN l := rfl
      rw [List.foldl_cons, e, List.length_append, List.length_cons]; omega
  have := key l 0
  rw [lensN]; omega
abbrev strs (l : List (List UInt8)) : PV := .lst (l.map .str)
theorem tcell {l : List (List UInt8)} {k : Nat} (h : k < l.length) : (l.map PV.str)[k]? = some (.str (l.getD k [])) := map_at [] h

theorem strJoin_c (l : List (List UInt8)) (hl : l.length ≤ 70000) (hp : (preN l).length ≤ 50000000) : Pure cx 20 [strs l, .str [32]] (· = .ret [.str (joinS l)]) := by
  refine pure_of_vc Tryz.func20 rfl rfl rfl ?_
  (first | refine brLt (fun h1 => ?_) (fun h1 => ?_) | refine brLe (fun h1 => ?_) (fun h1 => ?_) | refine brEq (fun h1 => ?_) (fun h1 => ?_))
  · have h1 : (((l.map PV.str).length : Nat) : Int) = 0 := h1
    rw [List.length_map] at h1
    have : l = [] := List.eq_nil_of_length_eq_zero (by omega)
    subst this
    exact end1 _ rfl rfl rfl
  have h1 : ¬ (((l.map PV.str).length : Nat) : Int) = 0 := h1
  rw [List.length_map] at h1
  (first | refine brLt (fun h2 => ?_) (fun h2 => ?_) | refine brLe (fun h2 => ?_) (fun h2 => ?_) | refine brEq (fun h2 => ?_) (fun h2 => ?_))
  · have h2 : (((l.map PV.str).length : Nat) : Int) = 1 := h2
    rw [List.length_map] at h2
    match l, h2 with
    | [x], _ =>
      refine ⟨_, ⟨by omega, .str x, rfl, rfl⟩, ?_⟩
      exact end1 _ rfl rfl (by rw [join_one])
    | [], h2 => simp at h2
    | _ :: _ :: _, h2 => simp at h2; omega
  have h2 : ¬ (((l.map PV.str).length : Nat) : Int) = 1 := h2
  rw [List.length_map] at h2
  have hl2 : 2 ≤ l.length := by omega
  refine And.intro (fun _ => ?_) (fun h => absurd (show (0 : Int) < 1 by decide) h)
  have hm : (((l.map PV.str).length : Nat) : Int) - 1 = ((l.length - 1 : Nat) : Int) := by rw [List.length_map]; omega
  obtain ⟨q, hq⟩ : ∃ q : Int, q = Int.tdiv 9223372036854775807 ((l.length - 1 : Nat) : Int) := ⟨_, rfl⟩
  have hq2 : 2 ≤ q ∧ q ≤ 9223372036854775807 := by
    rw [hq, Int.tdiv_eq_ediv_of_nonneg (by decide)]
    refine ⟨?_, Int.ediv_le_self _ (by decide)⟩
    exact Int.le_ediv_of_mul_le (by omega) (by omega)
  refine ⟨((l.length - 1 : Nat) : Int), by show _ = IntKind.i64.wrap ((((l.map PV.str).length : Nat) : Int) - 1); rw [hm]; exact wrap_i64 (by omega) (by omega), ?_⟩
  refine ⟨by show ((l.length - 1 : Nat) : Int) ≠ 0; omega, q, by rw [hq] at hq2 ⊢; exact wrap_i64 (by omega) (by omega), ?_⟩
  (first | refine brLt (fun h3 => ?_) (fun h3 => ?_) | refine brLe (fun h3 => ?_) (fun h3 => ?_) | refine brEq (fun h3 => ?_) (fun h3 => ?_))
  · have h3 : q ≤ 1 := h3
    omega
  refine ⟨((l.length - 1 : Nat) : Int), by show _ = IntKind.i64.wrap ((((l.map PV.str).length : Nat) : Int) - 1); rw [hm]; exact wrap_i64 (by omega) (by omega), ?_⟩
  refine ⟨((l.length - 1 : Nat) : Int), by show _ = IntKind.i64.wrap (1 * ((l.length - 1 : Nat) : Int)); rw [Int.one_mul]; exact wrap_i64 (by omega) (by omega), ?_⟩
  refine ⟨((l.length - 1 : Nat) : Int), by show _ = IntKind.i64.wrap (0 + ((l.length - 1 : Nat) : Int)); rw [Int.zero_add]; exact wrap_i64 (by omega) (by omega), ?_⟩
  have hll : ∀ k, lensN (l.take k) ≤ 50000000 := fun k => by
    have h4 := lens_le (l.take k)
    have h5 := pre_len_le (l := l) k
    omega
  refine ⟨Nat, fun k => [(0, .p (strs l)), (1, .p (.str [32])), (5, .p (i64 ((l.length - 1 + lensN (l.take k) : Nat) : Int))), (39, .p (strs l)), (40, .p (i64 l.length)), (41, .p (i64 k))], fun _ => ⟨0, []⟩, fun k => k ≤ l.length, fun k => l.length - k, ?_, ?_⟩
  · exact ⟨0, by omega, ent0 rfl ⟨rfl, rfl, rfl, rfl, lenM PV.str l, rfl, trivial⟩ trivial rfl⟩
  intro k hk
  have hk5 := hll k
  (first | refine brLt (fun h4 => ?_) (fun h4 => ?_) | refine brLe (fun h4 => ?_) (fun h4 => ?_) | refine brEq (fun h4 => ?_) (fun h4 => ?_))
  · have h4 : (k : Int) < (l.length : Nat) := h4
    have hkl : k < l.length := by omega
    obtain ⟨x, hx⟩ : ∃ x, x = l.getD k [] := ⟨_, rfl⟩
    have hk6 := hll (k + 1)
    have hsn : lensN (l.take (k + 1)) = lensN (l.take k) + x.length := by rw [take_succ_getD [] hkl, ← hx, lens_snoc]
    refine ⟨_, ⟨by omega, .str x, by rw [hx]; exact tcell hkl, rfl⟩, ?_⟩
    refine ⟨9223372036854775807 - ((l.length - 1 + lensN (l.take k) : Nat) : Int), wrap_i64 (by omega) (by omega), ?_⟩
    (first | refine brLt (fun h5 => ?_) (fun h5 => ?_) | refine brLe (fun h5 => ?_) (fun h5 => ?_) | refine brEq (fun h5 => ?_) (fun h5 => ?_))
    · have h5 : 9223372036854775807 - ((l.length - 1 + lensN (l.take k) : Nat) : Int) < (x.length : Nat) := h5
      omega
    refine ⟨((l.length - 1 + lensN (l.take (k + 1)) : Nat) : Int), by show _ = IntKind.i64.wrap (((l.length - 1 + lensN (l.take k) : Nat) : Int) + (x.length : Nat)); rw [hsn, show ((l.length - 1 + lensN (l.take k) : Nat) : Int) + (x.length : Nat) = ((l.length - 1 + (lensN (l.take k) + x.length) : Nat) : Int) by omega]; exact wrap_i64 (by omega) (by omega), ?_⟩
    refine ⟨_, wrap_i64 (by omega) (by omega), ?_⟩
    exact ⟨k + 1, by omega, ent0 rfl ⟨rfl, rfl, rfl, rfl, rfl, rfl, trivial⟩ trivial rfl, by show l.length - (k + 1) < l.length - k; omega⟩
  have h4 : ¬ (k : Int) < (l.length : Nat) := h4
  obtain ⟨G, hG⟩ : ∃ G, G = l.length - 1 + lensN (l.take k) := ⟨_, rfl⟩
  have hx0 := tcell (l := l) (k := 0) (by omega)
  obtain ⟨x0, hx0'⟩ : ∃ x, x = l.getD 0 [] := ⟨_, rfl⟩
  rw [← hx0'] at hx0
  have hj1 : joinS (l.take 1) = x0 := by
    rw [take_succ_getD [] (show 0 < l.length by omega), ← hx0']
    exact join_one x0
  have hjl := fun k => join_len_le (l := l) k
  have hx0l := hjl 1
  rw [hj1] at hx0l
  refine (growN_c false (l.length - 1 + lensN (l.take k)) (by omega) (by omega)).useE [] [] rfl (by (repeat' first | exact trivial | exact rfl | exact ⟨rfl, rfl⟩ | exact .inl rfl | refine ⟨_, rfl, rfl, rfl, ?_⟩ | refine ⟨_, _, rfl, ?_, ?_⟩ | refine ⟨_, rfl, ?_⟩ | refine And.intro ?_ ?_)) (by (repeat' first | exact trivial | exact rfl | exact ⟨rfl, rfl⟩ | exact .inl rfl | refine ⟨_, rfl, rfl, rfl, ?_⟩ | refine ⟨_, _, rfl, ?_, ?_⟩ | refine ⟨_, rfl, ?_⟩ | refine And.intro ?_ ?_)) ?_
  refine ⟨_, ⟨by omega, .str x0, hx0, rfl⟩, ?_⟩
  refine (writeString_c true [] x0 (by simp) (by omega)).useE [] [] rfl (by (repeat' first | exact trivial | exact rfl | exact ⟨rfl, rfl⟩ | exact .inl rfl | refine ⟨_, rfl, rfl, rfl, ?_⟩ | refine ⟨_, _, rfl, ?_, ?_⟩ | refine ⟨_, rfl, ?_⟩ | refine And.intro ?_ ?_)) (by (repeat' first | exact trivial | exact rfl | exact ⟨rfl, rfl⟩ | exact .inl rfl | refine ⟨_, rfl, rfl, rfl, ?_⟩ | refine ⟨_, _, rfl, ?_, ?_⟩ | refine ⟨_, rfl, ?_⟩ | refine And.intro ?_ ?_)) ?_
  refine ⟨by show (0 : Int) ≤ 1 ∧ (1 : Int) ≤ ((l.map PV.str).length : Nat); rw [List.length_map]; omega, ?_⟩
  refine ⟨Nat × List UInt8, fun y => [(1, .p (.str [32])), (8, .ptr 0 0 0), (63, .p (strs (l.drop 1))), (64, .p (i64 (l.drop 1).length)), (65, .p (i64 y.1))], fun y => bldH true y.2, fun y => y.1 ≤ (l.drop 1).length ∧ y.2 = joinS (l.take (y.1 + 1)), fun y => (l.drop 1).length - y.1, ?_, ?_⟩
  · refine ⟨(0, x0), ⟨by simp, hj1.symm⟩, ent_of [] [(1, 2)] [] rfl ⟨rfl, ⟨rfl, rfl⟩, ?_, ?_, rfl, trivial⟩ (by (repeat' first | exact trivial | exact rfl | exact ⟨rfl, rfl⟩ | exact .inl rfl | refine ⟨_, rfl, rfl, rfl, ?_⟩ | refine ⟨_, _, rfl, ?_, ?_⟩ | refine ⟨_, rfl, ?_⟩ | refine And.intro ?_ ?_)) rfl⟩
    · show PV.lst ((l.drop 1).map PV.str) = .lst ((l.map PV.str).drop 1)
      rw [List.map_drop]
    · show i64 ((l.drop 1).length : Nat) = i64 (((l.map PV.str).drop 1).length : Nat)
      rw [List.length_drop, List.length_drop, List.length_map]
  rintro ⟨j, ys⟩ ⟨j1, j2⟩
  simp only [] at j1 j2
  have hdl : (l.drop 1).length = l.length - 1 := List.length_drop ..
  have hyl : ys.length ≤ 50000000 := by rw [j2]; have := hjl (j + 1); omega
  (first | refine brLt (fun h5 => ?_) (fun h5 => ?_) | refine brLe (fun h5 => ?_) (fun h5 => ?_) | refine brEq (fun h5 => ?_) (fun h5 => ?_))
  · have h5 : (j : Int) < ((l.drop 1).length : Nat) := h5
    have hj : j + 1 < l.length := by omega
    obtain ⟨x, hx⟩ : ∃ x, x = l.getD (j + 1) [] := ⟨_, rfl⟩
    have hxc : ((l.drop 1).map PV.str)[j]? = some (.str x) := by
      rw [List.map_drop, List.getElem?_drop, Nat.add_comm, hx]; exact tcell hj
    have hsn : joinS (l.take (j + 1 + 1)) = ys ++ 32 :: x := by
      rw [take_succ_getD [] hj, ← hx, join_snoc (take_ne (by omega) (by omega)), j2]
    have hxl : x.length ≤ 50000000 := by
      have h6 := congrArg List.length hsn
      have h7 := hjl (j + 1 + 1)
      rw [List.length_append, List.length_cons] at h6
      omega
    refine ⟨_, ⟨by omega, .str x, hxc, rfl⟩, ?_⟩
    refine (writeString_c true ys [32] (by omega) (by simp)).useE [] [] rfl (by (repeat' first | exact trivial | exact rfl | exact ⟨rfl, rfl⟩ | exact .inl rfl | refine ⟨_, rfl, rfl, rfl, ?_⟩ | refine ⟨_, _, rfl, ?_, ?_⟩ | refine ⟨_, rfl, ?_⟩ | refine And.intro ?_ ?_)) (by (repeat' first | exact trivial | exact rfl | exact ⟨rfl, rfl⟩ | exact .inl rfl | refine ⟨_, rfl, rfl, rfl, ?_⟩ | refine ⟨_, _, rfl, ?_, ?_⟩ | refine ⟨_, rfl, ?_⟩ | refine And.intro ?_ ?_)) ?_
    refine (writeString_c true (ys ++ [32]) x (by rw [snoc_len]; omega) (by omega)).useE [] [(1, 2)] rfl (by (repeat' first | exact trivial | exact rfl | exact ⟨rfl, rfl⟩ | exact .inl rfl | refine ⟨_, rfl, rfl, rfl, ?_⟩ | refine ⟨_, _, rfl, ?_, ?_⟩ | refine ⟨_, rfl, ?_⟩ | refine And.intro ?_ ?_)) (by (repeat' first | exact trivial | exact rfl | exact ⟨rfl, rfl⟩ | exact .inl rfl | refine ⟨_, rfl, rfl, rfl, ?_⟩ | refine ⟨_, _, rfl, ?_, ?_⟩ | refine ⟨_, rfl, ?_⟩ | refine And.intro ?_ ?_)) ?_
    refine ⟨_, wrap_i64 (by omega) (by omega), ?_⟩
    refine ⟨(j + 1, (ys ++ [32]) ++ x), ⟨by simp only []; omega, by simp only []; rw [hsn]; simp⟩, ent_of [] [(1, 3)] [] rfl (by (repeat' first | exact trivial | exact rfl | exact ⟨rfl, rfl⟩ | exact .inl rfl | refine ⟨_, rfl, rfl, rfl, ?_⟩ | refine ⟨_, _, rfl, ?_, ?_⟩ | refine ⟨_, rfl, ?_⟩ | refine And.intro ?_ ?_)) (by (repeat' first | exact trivial | exact rfl | exact ⟨rfl, rfl⟩ | exact .inl rfl | refine ⟨_, rfl, rfl, rfl, ?_⟩ | refine ⟨_, _, rfl, ?_, ?_⟩ | refine ⟨_, rfl, ?_⟩ | refine And.intro ?_ ?_)) rfl, by simp only []; omega⟩
  · have h5 : ¬ (j : Int) < ((l.drop 1).length : Nat) := h5
    have hyj : ys = joinS l := by rw [j2, take_all (by omega)]
    have hne : ys ≠ [] := fun e => by
      have h6 : joinS (l.take (j + 1)) = [] := by rw [← j2]; exact e
      obtain ⟨i, hi⟩ : ∃ i, j = i + 1 := ⟨j - 1, by omega⟩
      rw [hi, take_succ_getD [] (show i + 1 < l.length by omega), join_snoc (take_ne (by omega) (by omega))] at h6
      simp at h6
    refine (string_c true ys hne (by omega)).useE [] [] rfl (by (repeat' first | exact trivial | exact rfl | exact ⟨rfl, rfl⟩ | exact .inl rfl | refine ⟨_, rfl, rfl, rfl, ?_⟩ | refine ⟨_, _, rfl, ?_, ?_⟩ | refine ⟨_, rfl, ?_⟩ | refine And.intro ?_ ?_)) (by (repeat' first | exact trivial | exact rfl | exact ⟨rfl, rfl⟩ | exact .inl rfl | refine ⟨_, rfl, rfl, rfl, ?_⟩ | refine ⟨_, _, rfl, ?_, ?_⟩ | refine ⟨_, rfl, ?_⟩ | refine And.intro ?_ ?_)) ?_
    exact end1 _ rfl rfl (by rw [← hyj])
end Go.Proofs.YtphmmoloegjocaaGreatDoor

/- Package format: Nested. -/
namespace Go.Proofs.YtphmmoloegjocaaGreatDoor
open Go Y
set_option maxRecDepth 100000
set_option maxHeartbeats 40000000

abbrev TS : TypeId := 9
def sO (l : List (List UInt8)) : AObj := ⟨TS, false, .pu (l.map .str)⟩
theorem pre_nums (l : List Int) : preN (l.map dec) = numsN l := by rw [preN, List.flatMap_map]; rfl
theorem join_nums (l : List Int) : joinS (l.map dec) = (numsN l).drop 1 := by rw [joinS, pre_nums]

theorem listI_c (l : List Int) (hl : l.length ≤ 1000) (h : two l) : Pure cx 35 [ints l, .fn (.func 34) [] []] (· = .ret [.str ((numsN l).drop 1)]) := by
  refine pure_of_vc Tryz.func35 rfl rfl rfl ?_
  refine ⟨by show (0 : Int) ≤ 0 ∧ (0 : Int) ≤ ((l.map i64).length : Nat) ∧ (((l.map i64).length : Nat) : Int) * 16 ≤ 281474976710656 ∧ (((l.map i64).length : Nat) : Int) ≤ 281474976710656; rw [List.length_map]; omega, ?_⟩
  refine ⟨Nat, fun k => [(1, .p (.fn (.func 34) [] [])), (5, .sl 0 1 0 ((l.take k).map dec).length), (11, .p (ints l)), (12, .p (i64 l.length)), (13, .p (i64 k))], fun k => ⟨1, [(0, sO ((l.take k).map dec))]⟩, fun k => k ≤ l.length, fun k => l.length - k, ?_, ?_⟩
  · exact ⟨0, by omega, ent_of [] [] [] rfl ⟨rfl, rfl, rfl, lenM i64 l, rfl, trivial⟩ ⟨⟨_, rfl, rfl, rfl, rfl⟩, trivial⟩ rfl⟩
  intro k hk
  have hkm : ((l.take k).map dec).length ≤ l.length := by rw [List.length_map, List.length_take]; omega
  (first | refine brLt (fun h1 => ?_) (fun h1 => ?_) | refine brLe (fun h1 => ?_) (fun h1 => ?_) | refine brEq (fun h1 => ?_) (fun h1 => ?_))
  · have h1 : (k : Int) < (l.length : Nat) := h1
    have hkl : k < l.length := by omega
    obtain ⟨x, hx⟩ : ∃ x, x = l.getD k 0 := ⟨_, rfl⟩
    have hx2 := h _ (getD_memL 0 hkl)
    rw [← hx] at hx2
    have e : (l.take (k + 1)).map dec = (l.take k).map dec ++ [dec x] := by rw [take_succ_getD 0 hkl, ← hx, List.map_append]; rfl
    refine ⟨_, ⟨by omega, i64 x, by rw [hx]; exact icell hkl, rfl⟩, ?_⟩
    refine (itoa_c x hx2.1 hx2.2).eq rfl ?_
    refine ⟨by show 0 + 1 ≤ 1; omega, [.str (dec x)], rfl, ?_⟩
    refine ⟨by show 0 + ((l.take k).map dec).length ≤ (((l.take k).map dec).map PV.str).length; simp, ((l.take k).map dec).map .str, takeAll (by simp), by show (((l.take k).map dec).length + 1) * 16 ≤ 140737488355328; omega, ((l.take k).map dec ++ [dec x]).map .str, by simp, ?_⟩
    refine ⟨_, wrap_i64 (by omega) (by omega), ?_⟩
    refine ⟨k + 1, by omega, ent_of [] [(0, 2)] [] rfl ⟨rfl, ?_, rfl, rfl, rfl, trivial⟩ ⟨⟨_, rfl, rfl, rfl, congrArg (List.map PV.str) e.symm⟩, trivial⟩ rfl, by show l.length - (k + 1) < l.length - k; omega⟩
    exact congrArg (fun m => AV.sl 2 1 0 m) (by rw [e, snoc_len])
  · have h1 : ¬ (k : Int) < (l.length : Nat) := h1
    have hn := nums_len l
    refine (strJoin_c (l.map dec) (by rw [List.length_map]; omega) (by rw [pre_nums]; omega)).lends [0] rfl ⟨_, _, rfl, ⟨_, rfl, ?_, ?_⟩, _, _, rfl, rfl, rfl⟩ ?_
    · show 0 + ((l.take k).map dec).length ≤ (((l.take k).map dec).map PV.str).length
      simp
    · rw [show l.take k = l from take_all (by omega)]
      exact takeAll (by simp)
    · exact end1 _ rfl rfl (by rw [← join_nums])

theorem nest11_c (r : List Int) (hl : r.length ≤ 1000) (h : two r) : Pure cx 42 [ints r] (· = .ret [.str (listN r)]) := by
  refine pure_of_vc Tryz.func42 rfl rfl rfl ?_
  have hn := nums_len r
  refine (listI_c r hl h).eq rfl ?_
  refine ⟨by show 1 + ((numsN r).drop 1).length ≤ 9223372036854775807; rw [List.length_drop]; omega, ?_⟩
  refine ⟨by show ([40] ++ (numsN r).drop 1).length + 1 ≤ 9223372036854775807; rw [List.length_append, List.length_drop]; simp <;> omega, ?_⟩
  exact end1 _ rfl rfl rfl

theorem listR_c (l : List (List Int)) (hl : l.length ≤ 65536) (h : ∀ r ∈ l, two r ∧ r.length ≤ 4) : Pure cx 41 [.lst (l.map ints), .fn (.func 42) [] []] (· = .ret [.str (joinS (l.map listN))]) := by
  refine pure_of_vc Tryz.func41 rfl rfl rfl ?_
  refine ⟨by show (0 : Int) ≤ 0 ∧ (0 : Int) ≤ ((l.map ints).length : Nat) ∧ (((l.map ints).length : Nat) : Int) * 16 ≤ 281474976710656 ∧ (((l.map ints).length : Nat) : Int) ≤ 281474976710656; rw [List.length_map]; omega, ?_⟩
  refine ⟨Nat, fun k => [(1, .p (.fn (.func 42) [] [])), (5, .sl 0 1 0 ((l.take k).map listN).length), (11, .p (.lst (l.map ints))), (12, .p (i64 l.length)), (13, .p (i64 k))], fun k => ⟨1, [(0, sO ((l.take k).map listN))]⟩, fun k => k ≤ l.length, fun k => l.length - k, ?_, ?_⟩
  · exact ⟨0, by omega, ent_of [] [] [] rfl ⟨rfl, rfl, rfl, lenM ints l, rfl, trivial⟩ ⟨⟨_, rfl, rfl, rfl, rfl⟩, trivial⟩ rfl⟩
  intro k hk
  have hkm : ((l.take k).map listN).length ≤ l.length := by rw [List.length_map, List.length_take]; omega
  (first | refine brLt (fun h1 => ?_) (fun h1 => ?_) | refine brLe (fun h1 => ?_) (fun h1 => ?_) | refine brEq (fun h1 => ?_) (fun h1 => ?_))
  · have h1 : (k : Int) < (l.length : Nat) := h1
    have hkl : k < l.length := by omega
    obtain ⟨x, hx⟩ : ∃ x, x = l.getD k [] := ⟨_, rfl⟩
    have hx2 := h _ (getD_memL [] hkl)
    rw [← hx] at hx2
    have e : (l.take (k + 1)).map listN = (l.take k).map listN ++ [listN x] := by rw [take_succ_getD [] hkl, ← hx, List.map_append]; rfl
    refine ⟨_, ⟨by omega, ints x, by rw [hx]; exact ccell hkl, rfl⟩, ?_⟩
    refine (nest11_c x (by omega) hx2.1).eq rfl ?_
    refine ⟨by show 0 + 1 ≤ 1; omega, [.str (listN x)], rfl, ?_⟩
    refine ⟨by show 0 + ((l.take k).map listN).length ≤ (((l.take k).map listN).map PV.str).length; simp, ((l.take k).map listN).map .str, takeAll (by simp), by show (((l.take k).map listN).length + 1) * 16 ≤ 140737488355328; omega, ((l.take k).map listN ++ [listN x]).map .str, by simp, ?_⟩
    refine ⟨_, wrap_i64 (by omega) (by omega), ?_⟩
    refine ⟨k + 1, by omega, ent_of [] [(0, 2)] [] rfl ⟨rfl, ?_, rfl, rfl, rfl, trivial⟩ ⟨⟨_, rfl, rfl, rfl, congrArg (List.map PV.str) e.symm⟩, trivial⟩ rfl, by show l.length - (k + 1) < l.length - k; omega⟩
    exact congrArg (fun m => AV.sl 2 1 0 m) (by rw [e, snoc_len])
  · have h1 : ¬ (k : Int) < (l.length : Nat) := h1
    have hn : (preN (l.map listN)).length ≤ 15 * l.length := by
      rw [preN, List.flatMap_map]
      refine flat_len fun r hr => ?_
      have h3 := list_len41 r
      have h4 := (h r hr).2
      simp only [List.length_cons]; omega
    refine (strJoin_c (l.map listN) (by rw [List.length_map]; omega) (by omega)).lends [0] rfl ⟨_, _, rfl, ⟨_, rfl, ?_, ?_⟩, _, _, rfl, rfl, rfl⟩ ?_
    · show 0 + ((l.take k).map listN).length ≤ (((l.take k).map listN).map PV.str).length
      simp
    · rw [show l.take k = l from take_all (by omega)]
      exact takeAll (by simp)
    · exact end1 _ rfl rfl rfl

theorem nest_eq {x : Nd} (h : x.rows ≠ []) : nodeNest x = ((((([40, 110, 111, 100, 101, 32] ++ dec x.card) ++ [32, 40]) ++ (numsN x.parents).drop 1) ++ [41, 32]) ++ joinS (x.rows.map listN)) ++ [41] := by
  have h1 : (x.rows.flatMap fun r => 32 :: listN r) = 32 :: joinS (x.rows.map listN) := by
    rw [pre_join (by simpa using h), preN, List.flatMap_map]
  rw [nodeNest, h1, listN]
  simp
theorem nest1_c (n : Nt) (h : SmT n) (x : Nd) (hx : x ∈ n.nodes) : Pure cx 40 [x.pv] (· = .ret [.str (nodeNest x)]) := by
  refine pure_of_vc Tryz.func40 rfl rfl rfl ?_
  have hc := h.card x hx
  have hdl := dec_len x.card
  have hp := h.par x hx
  have hpl := nums_len x.parents
  have hrw := h.rows x hx
  have hrn : x.rows ≠ [] := fun e => by rw [e] at hrw; simp at hrw
  have hjl : (joinS (x.rows.map listN)).length ≤ 15 * 65536 := by
    have h1 := h.lists_len hx x.rows.length
    rw [take_all (Nat.le_refl _)] at h1
    have h2 : (preN (x.rows.map listN)).length ≤ 15 * 65536 := by rw [preN, List.flatMap_map]; exact h1
    rw [joinS, List.length_drop]; omega
  obtain ⟨J, hJ⟩ : ∃ J, J = joinS (x.rows.map listN) := ⟨_, rfl⟩
  have hR := listR_c x.rows hrw.2 fun r hr => ⟨(h.row x hx r hr).1, (h.row x hx r hr).2.2⟩
  rw [← hJ] at hR hjl
  refine VDraw.seq rfl ?_
  refine (itoa_c x.card (by omega) hc.2).eq rfl ?_
  refine ⟨by (repeat' first | exact trivial | exact rfl | exact ⟨rfl, rfl⟩ | exact .inl rfl | refine ⟨_, rfl, rfl, rfl, ?_⟩ | refine ⟨_, _, rfl, ?_, ?_⟩ | refine ⟨_, rfl, ?_⟩ | refine And.intro ?_ ?_), ?_⟩
  refine ⟨by show 6 + (dec x.card).length ≤ 9223372036854775807; omega, ?_⟩
  refine ⟨by show ([40, 110, 111, 100, 101, 32] ++ dec x.card).length + 2 ≤ 9223372036854775807; rw [List.length_append]; simp <;> omega, ?_⟩
  refine (listI_c x.parents (by omega) hp.1).eq rfl ?_
  refine ⟨by show (([40, 110, 111, 100, 101, 32] ++ dec x.card) ++ [32, 40]).length + ((numsN x.parents).drop 1).length ≤ 9223372036854775807; rw [List.length_append, List.length_append, List.length_drop]; simp <;> omega, ?_⟩
  refine ⟨by show ((([40, 110, 111, 100, 101, 32] ++ dec x.card) ++ [32, 40]) ++ (numsN x.parents).drop 1).length + 2 ≤ 9223372036854775807; rw [List.length_append, List.length_append, List.length_append, List.length_drop]; simp <;> omega, ?_⟩
  refine hR.eq rfl ?_
  refine ⟨by show (((([40, 110, 111, 100, 101, 32] ++ dec x.card) ++ [32, 40]) ++ (numsN x.parents).drop 1) ++ [41, 32]).length + J.length ≤ 9223372036854775807; rw [List.length_append, List.length_append, List.length_append, List.length_append, List.length_drop]; simp <;> omega, ?_⟩
  refine ⟨by show ((((([40, 110, 111, 100, 101, 32] ++ dec x.card) ++ [32, 40]) ++ (numsN x.parents).drop 1) ++ [41, 32]) ++ J).length + 1 ≤ 9223372036854775807; rw [List.length_append, List.length_append, List.length_append, List.length_append, List.length_append, List.length_drop]; simp <;> omega, ?_⟩
  exact end1 _ rfl rfl (by rw [nest_eq hrn, ← hJ])

theorem listNd_c (n : Nt) (h : SmT n) : Pure cx 39 [.lsts 3 (n.nodes.map Nd.cells), .fn (.func 40) [] []] (· = .ret [.str (joinS (n.nodes.map nodeNest))]) := by
  refine pure_of_vc Tryz.func39 rfl rfl rfl ?_
  have hnl := h.len
  refine ⟨by show (0 : Int) ≤ 0 ∧ (0 : Int) ≤ ((n.nodes.map Nd.cells).length : Nat) ∧ (((n.nodes.map Nd.cells).length : Nat) : Int) * 16 ≤ 281474976710656 ∧ (((n.nodes.map Nd.cells).length : Nat) : Int) ≤ 281474976710656; rw [List.length_map]; omega, ?_⟩
  refine ⟨Nat, fun k => [(1, .p (.fn (.func 40) [] [])), (5, .sl 0 1 0 ((n.nodes.take k).map nodeNest).length), (11, .p (.lsts 3 (n.nodes.map Nd.cells))), (12, .p (i64 n.nodes.length)), (13, .p (i64 k))], fun k => ⟨1, [(0, sO ((n.nodes.take k).map nodeNest))]⟩, fun k => k ≤ n.nodes.length, fun k => n.nodes.length - k, ?_, ?_⟩
  · exact ⟨0, by omega, ent_of [] [] [] rfl ⟨rfl, rfl, rfl, lenM Nd.cells n.nodes, rfl, trivial⟩ ⟨⟨_, rfl, rfl, rfl, rfl⟩, trivial⟩ rfl⟩
  intro k hk
  have hkm : ((n.nodes.take k).map nodeNest).length ≤ n.nodes.length := by rw [List.length_map, List.length_take]; omega
  (first | refine brLt (fun h1 => ?_) (fun h1 => ?_) | refine brLe (fun h1 => ?_) (fun h1 => ?_) | refine brEq (fun h1 => ?_) (fun h1 => ?_))
  · have h1 : (k : Int) < (n.nodes.length : Nat) := h1
    have hkl : k < n.nodes.length := by omega
    obtain ⟨x, hx⟩ : ∃ x, x = n.nodes.getD k nd0 := ⟨_, rfl⟩
    have hxm : x ∈ n.nodes := by rw [hx]; exact getD_memL nd0 hkl
    have e : (n.nodes.take (k + 1)).map nodeNest = (n.nodes.take k).map nodeNest ++ [nodeNest x] := by rw [take_succ_getD nd0 hkl, ← hx, List.map_append]; rfl
    refine ⟨_, ⟨by omega, x.cells, by rw [hx]; exact ncell hkl, rfl⟩, ?_⟩
    refine (nest1_c n h x hxm).eq rfl ?_
    refine ⟨by show 0 + 1 ≤ 1; omega, [.str (nodeNest x)], rfl, ?_⟩
    refine ⟨by show 0 + ((n.nodes.take k).map nodeNest).length ≤ (((n.nodes.take k).map nodeNest).map PV.str).length; simp, ((n.nodes.take k).map nodeNest).map .str, takeAll (by simp), by show (((n.nodes.take k).map nodeNest).length + 1) * 16 ≤ 140737488355328; omega, ((n.nodes.take k).map nodeNest ++ [nodeNest x]).map .str, by simp, ?_⟩
    refine ⟨_, wrap_i64 (by omega) (by omega), ?_⟩
    refine ⟨k + 1, by omega, ent_of [] [(0, 3)] [] rfl ⟨rfl, ?_, rfl, rfl, rfl, trivial⟩ ⟨⟨_, rfl, rfl, rfl, congrArg (List.map PV.str) e.symm⟩, trivial⟩ rfl, by show n.nodes.length - (k + 1) < n.nodes.length - k; omega⟩
    exact congrArg (fun m => AV.sl 3 1 0 m) (by rw [e, snoc_len])
  · have h1 : ¬ (k : Int) < (n.nodes.length : Nat) := h1
    have hn : (preN (n.nodes.map nodeNest)).length ≤ 8 * 1100000 := by
      have h2 := h.nest_len n.nodes.length
      rw [take_all (Nat.le_refl _)] at h2
      rw [preN, List.flatMap_map]; exact h2
    refine (strJoin_c (n.nodes.map nodeNest) (by rw [List.length_map]; omega) (by omega)).lends [0] rfl ⟨_, _, rfl, ⟨_, rfl, ?_, ?_⟩, _, _, rfl, rfl, rfl⟩ ?_
    · show 0 + ((n.nodes.take k).map nodeNest).length ≤ (((n.nodes.take k).map nodeNest).map PV.str).length
      simp
    · rw [show n.nodes.take k = n.nodes from take_all (by omega)]
      exact takeAll (by simp)
    · exact end1 _ rfl rfl rfl

theorem nestedE_c (n : Nt) (hb : BigN n) : Pure cx 11 [n.pv] (· = .ret (nestedP n)) := by
  refine pure_of_vc Tryz.func11 rfl rfl rfl ?_
  have hC := check_c n hb
  by_cases hv : validP n
  rotate_left
  · rw [checkN, if_neg hv] at hC
    refine hC.eq rfl ?_
    refine And.intro (fun h => absurd (show (50 : Int) = 0 from h) (by decide)) (fun _ => ?_)
    exact end2 (.str []) (i64 50) rfl rfl rfl (by rw [nestedP, if_neg hv])
  rw [checkN, if_pos hv] at hC
  have h := valid_sm hv
  have hgl := dec_len n.grain
  have hnn : n.nodes ≠ [] := fun e => by have := hv.len.1; rw [e] at this; simp at this
  have hjl : (joinS (n.nodes.map nodeNest)).length ≤ 8 * 1100000 := by
    have h2 := h.nest_len n.nodes.length
    rw [take_all (Nat.le_refl _)] at h2
    have h3 : (preN (n.nodes.map nodeNest)).length ≤ 8 * 1100000 := by rw [preN, List.flatMap_map]; exact h2
    rw [joinS, List.length_drop]; omega
  have heq : nested n = (([40, 110, 101, 116, 32] ++ dec n.grain) ++ [32]) ++ joinS (n.nodes.map nodeNest) ++ [41] := by
    have h1 : (n.nodes.flatMap fun x => 32 :: nodeNest x) = 32 :: joinS (n.nodes.map nodeNest) := by
      rw [pre_join (by simpa using hnn), preN, List.flatMap_map]
    rw [nested, h1]
    simp
  obtain ⟨J, hJ⟩ : ∃ J, J = joinS (n.nodes.map nodeNest) := ⟨_, rfl⟩
  have hL := listNd_c n h
  rw [← hJ] at hL hjl heq
  refine hC.eq rfl ?_
  refine And.intro (fun _ => ?_) (fun h => absurd rfl h)
  refine hL.eq rfl ?_
  refine (itoa_c n.grain h.grain.1 h.grain.2).eq rfl ?_
  refine ⟨by show 5 + (dec n.grain).length ≤ 9223372036854775807; omega, ?_⟩
  refine ⟨by show ([40, 110, 101, 116, 32] ++ dec n.grain).length + 1 ≤ 9223372036854775807; rw [List.length_append]; simp <;> omega, ?_⟩
  refine ⟨by show (([40, 110, 101, 116, 32] ++ dec n.grain) ++ [32]).length + J.length ≤ 9223372036854775807; rw [List.length_append, List.length_append]; simp <;> omega, ?_⟩
  refine ⟨by show ((([40, 110, 101, 116, 32] ++ dec n.grain) ++ [32]) ++ J).length + 1 ≤ 9223372036854775807; rw [List.length_append, List.length_append, List.length_append]; simp <;> omega, ?_⟩
  exact end2 (.str (nested n)) (i64 0) rfl (by rw [heq]; rfl) rfl (by rw [nestedP, if_pos hv])
end Go.Proofs.YtphmmoloegjocaaGreatDoor

/- Package format: Lines. -/
namespace Go.Proofs.YtphmmoloegjocaaGreatDoor
open Go Y
set_option maxRecDepth 100000
set_option maxHeartbeats 40000000

def bufO (ys : List UInt8) : AObj := ⟨5, false, .pu (ys.map ub)⟩
def bdO (a b m : Nat) : AObj := ⟨TB, false, .bx [.ptr a 0 0, .sl b 1 0 m]⟩
theorem writeString0_c (s : List UInt8) (hs : s.length ≤ 100000000) :
    HoldsG cx 33 [.ptr 0 0 0, vS s] ⟨1, [(0, ⟨TB, false, .bx [.p .nilp, .p .nils]⟩)]⟩ fun e H' => e = .returned (.tup [.p (i64 s.length), .p .nilIface]) ∧ H' = ⟨2, [(1, bufO s), (0, bdO 0 1 s.length)]⟩ := by
  refine holdsN_of_vc Tryz.func33 rfl rfl rfl ?_
  refine (copyCheck_c false (.p .nils)).useE [] [(1, 0)] rfl (by (repeat' first | exact trivial | exact rfl | exact ⟨rfl, rfl⟩ | exact .inl rfl | refine ⟨_, rfl, rfl, rfl, ?_⟩ | refine ⟨_, _, rfl, ?_, ?_⟩ | refine ⟨_, rfl, ?_⟩ | refine And.intro ?_ ?_)) (by (repeat' first | exact trivial | exact rfl | exact ⟨rfl, rfl⟩ | exact .inl rfl | refine ⟨_, rfl, rfl, rfl, ?_⟩ | refine ⟨_, _, rfl, ?_, ?_⟩ | refine ⟨_, rfl, ?_⟩ | refine And.intro ?_ ?_)) ?_
  refine ⟨by show s.length * 1 ≤ 140737488355328; omega, ?_⟩
  exact ⟨[], [], [], .returned (.tup [.p (i64 s.length), .p .nilIface]), ⟨2, [(1, bufO s), (0, bdO 0 1 s.length)]⟩, rfl, ⟨_, rfl, _, rfl, by (repeat' first | exact trivial | exact rfl | exact ⟨rfl, rfl⟩ | exact .inl rfl | refine ⟨_, rfl, rfl, rfl, ?_⟩ | refine ⟨_, _, rfl, ?_, ?_⟩ | refine ⟨_, rfl, ?_⟩ | refine And.intro ?_ ?_)⟩, by (repeat' first | exact trivial | exact rfl | exact ⟨rfl, rfl⟩ | exact .inl rfl | refine ⟨_, rfl, rfl, rfl, ?_⟩ | refine ⟨_, _, rfl, ?_, ?_⟩ | refine ⟨_, rfl, ?_⟩ | refine And.intro ?_ ?_), rfl, rfl⟩

theorem nums_cons {p : List Int} (h : p ≠ []) : 32 :: (numsN p).drop 1 = numsN p := by
  cases p with
  | nil => exact absurd rfl h
  | cons x p => rfl
def lnH (n : Nt) (ys : List UInt8) : Hp := ⟨3, [(2, bufO ys), (1, bdO 1 2 ys.length), (0, ntO n)]⟩
def lnX (n : Nt) (x : Nd) (ys : List UInt8) : Hp := ⟨4, [(3, ndO x), (2, bufO ys), (1, bdO 1 2 ys.length), (0, ntO n)]⟩

theorem lines_c (n : Nt) (hb : BigN n) : Pure cx 9 [n.pv] (· = .ret (linesP n)) := by
  refine pure_of_vc Tryz.func9 rfl rfl rfl ?_
  have hC := check_c n hb
  by_cases hv : validP n
  rotate_left
  · rw [checkN, if_neg hv] at hC
    refine hC.eq rfl ?_
    refine And.intro (fun h => absurd (show (50 : Int) = 0 from h) (by decide)) (fun _ => ?_)
    exact end2 (.str []) (i64 50) rfl rfl rfl (by rw [linesP, if_neg hv])
  rw [checkN, if_pos hv] at hC
  have h := valid_sm hv
  have hgl := dec_len n.grain
  have hnl := h.len
  obtain ⟨A, hA⟩ : ∃ A, A = ([110, 101, 116, 32] ++ dec n.grain) ++ [10] := ⟨_, rfl⟩
  have hAl : A.length ≤ 10 := by rw [hA]; simp; omega
  refine hC.eq rfl ?_
  refine And.intro (fun _ => ?_) (fun h => absurd rfl h)
  refine (itoa_c n.grain h.grain.1 h.grain.2).eq rfl ?_
  refine ⟨by show 4 + (dec n.grain).length ≤ 9223372036854775807; omega, ?_⟩
  refine ⟨by show ([110, 101, 116, 32] ++ dec n.grain).length + 1 ≤ 9223372036854775807; rw [List.length_append]; simp; omega, ?_⟩
  refine (writeString0_c (([110, 101, 116, 32] ++ dec n.grain) ++ [10]) (by rw [← hA]; omega)).useE [] [(0, 1)] rfl (by (repeat' first | exact trivial | exact rfl | exact ⟨rfl, rfl⟩ | exact .inl rfl | refine ⟨_, rfl, rfl, rfl, ?_⟩ | refine ⟨_, _, rfl, ?_, ?_⟩ | refine ⟨_, rfl, ?_⟩ | refine And.intro ?_ ?_)) (by (repeat' first | exact trivial | exact rfl | exact ⟨rfl, rfl⟩ | exact .inl rfl | refine ⟨_, rfl, rfl, rfl, ?_⟩ | refine ⟨_, _, rfl, ?_, ?_⟩ | refine ⟨_, rfl, ?_⟩ | refine And.intro ?_ ?_)) ?_
  refine ⟨Nat × List UInt8, fun y => [(5, .ptr 1 0 0), (21, .p (.lsts 3 (n.nodes.map Nd.cells))), (22, .p (i64 n.nodes.length)), (23, .p (i64 y.1))], fun y => lnH n y.2, fun y => y.1 ≤ n.nodes.length ∧ y.2 = A ++ (n.nodes.take y.1).flatMap nodeLines, fun y => n.nodes.length - y.1, ?_, ?_⟩
  · exact ⟨(0, ([110, 101, 116, 32] ++ dec n.grain) ++ [10]), ⟨by simp, by rw [hA]; simp⟩, ent_of [] [] [] rfl ⟨⟨rfl, rfl⟩, rfl, lenM Nd.cells n.nodes, rfl, trivial⟩ (by (repeat' first | exact trivial | exact rfl | exact ⟨rfl, rfl⟩ | exact .inl rfl | refine ⟨_, rfl, rfl, rfl, ?_⟩ | refine ⟨_, _, rfl, ?_, ?_⟩ | refine ⟨_, rfl, ?_⟩ | refine And.intro ?_ ?_)) rfl⟩
  rintro ⟨k, ys⟩ ⟨k1, k2⟩
  simp only [] at k1 k2
  have hll := h.lines_len k
  have hyl : ys.length ≤ 9000000 := by rw [k2, List.length_append]; omega
  (first | refine brLt (fun h1 => ?_) (fun h1 => ?_) | refine brLe (fun h1 => ?_) (fun h1 => ?_) | refine brEq (fun h1 => ?_) (fun h1 => ?_))
  rotate_left
  · have h1 : ¬ (k : Int) < (n.nodes.length : Nat) := h1
    have hne : ys ≠ [] := fun e => by rw [e, hA] at k2; simp at k2
    refine (string_c true ys hne (by omega)).useE [] [(0, 1), (1, 2)] rfl (by (repeat' first | exact trivial | exact rfl | exact ⟨rfl, rfl⟩ | exact .inl rfl | refine ⟨_, rfl, rfl, rfl, ?_⟩ | refine ⟨_, _, rfl, ?_, ?_⟩ | refine ⟨_, rfl, ?_⟩ | refine And.intro ?_ ?_)) (by (repeat' first | exact trivial | exact rfl | exact ⟨rfl, rfl⟩ | exact .inl rfl | refine ⟨_, rfl, rfl, rfl, ?_⟩ | refine ⟨_, _, rfl, ?_, ?_⟩ | refine ⟨_, rfl, ?_⟩ | refine And.intro ?_ ?_)) ?_
    refine end2 (.str ys) (i64 0) rfl rfl rfl ?_
    rw [linesP, if_pos hv, k2, show n.nodes.take k = n.nodes from take_all (by omega), byLines, hA]
    simp
  have h1 : (k : Int) < (n.nodes.length : Nat) := h1
  have hkl : k < n.nodes.length := by omega
  obtain ⟨x, hx⟩ : ∃ x, x = n.nodes.getD k nd0 := ⟨_, rfl⟩
  have hxm : x ∈ n.nodes := by rw [hx]; exact getD_memL nd0 hkl
  have hxc := h.card x hxm
  have hcl := dec_len x.card
  have hhl := h.head_len hxm
  have hpl := nums_len x.parents
  have hp8 := h.par x hxm
  have hrw := (h.rows x hxm).2
  refine ⟨_, ⟨by omega, x.cells, by rw [hx]; exact ncell hkl, rfl⟩, ?_⟩
  refine (itoa_c x.card (by omega) hxc.2).eq rfl ?_
  refine ⟨by show 5 + (dec x.card).length ≤ 9223372036854775807; omega, ?_⟩
  refine (writeString_c true ys ([110, 111, 100, 101, 32] ++ dec x.card) (by omega) (by simp; omega)).useE [] [(0, 1), (1, 2)] rfl (by (repeat' first | exact trivial | exact rfl | exact ⟨rfl, rfl⟩ | exact .inl rfl | refine ⟨_, rfl, rfl, rfl, ?_⟩ | refine ⟨_, _, rfl, ?_, ?_⟩ | refine ⟨_, rfl, ?_⟩ | refine And.intro ?_ ?_)) (by (repeat' first | exact trivial | exact rfl | exact ⟨rfl, rfl⟩ | exact .inl rfl | refine ⟨_, rfl, rfl, rfl, ?_⟩ | refine ⟨_, _, rfl, ?_, ?_⟩ | refine ⟨_, rfl, ?_⟩ | refine And.intro ?_ ?_)) ?_
  apply cut
  case h =>
    intro key
    (first | refine brLt (fun h2 => ?_) (fun h2 => ?_) | refine brLe (fun h2 => ?_) (fun h2 => ?_) | refine brEq (fun h2 => ?_) (fun h2 => ?_))
    · have h2 : (0 : Int) < ((x.parents.map i64).length : Nat) := h2
      rw [List.length_map] at h2
      have hpn : x.parents ≠ [] := fun e => by rw [e] at h2; simp at h2
      refine (listI_c x.parents (by omega) hp8.1).eq rfl ?_
      refine ⟨by show 6 + ((numsN x.parents).drop 1).length ≤ 9223372036854775807; rw [List.length_drop]; omega, ?_⟩
      refine (writeString_c true (ys ++ ([110, 111, 100, 101, 32] ++ dec x.card)) ([32, 102, 114, 111, 109, 32] ++ (numsN x.parents).drop 1) (by simp <;> omega) (by simp <;> omega)).useE [] [(0, 1), (1, 4)] rfl (by (repeat' first | exact trivial | exact rfl | exact ⟨rfl, rfl⟩ | exact .inl rfl | refine ⟨_, rfl, rfl, rfl, ?_⟩ | refine ⟨_, _, rfl, ?_, ?_⟩ | refine ⟨_, rfl, ?_⟩ | refine And.intro ?_ ?_)) (by (repeat' first | exact trivial | exact rfl | exact ⟨rfl, rfl⟩ | exact .inl rfl | refine ⟨_, rfl, rfl, rfl, ?_⟩ | refine ⟨_, _, rfl, ?_, ?_⟩ | refine ⟨_, rfl, ?_⟩ | refine And.intro ?_ ?_)) ?_
      refine (writeByte_c true ((ys ++ ([110, 111, 100, 101, 32] ++ dec x.card)) ++ ([32, 102, 114, 111, 109, 32] ++ (numsN x.parents).drop 1)) 10 (by simp <;> omega)).useE [] [(0, 1), (1, 5)] rfl (by (repeat' first | exact trivial | exact rfl | exact ⟨rfl, rfl⟩ | exact .inl rfl | refine ⟨_, rfl, rfl, rfl, ?_⟩ | refine ⟨_, _, rfl, ?_, ?_⟩ | refine ⟨_, rfl, ?_⟩ | refine And.intro ?_ ?_)) (by (repeat' first | exact trivial | exact rfl | exact ⟨rfl, rfl⟩ | exact .inl rfl | refine ⟨_, rfl, rfl, rfl, ?_⟩ | refine ⟨_, _, rfl, ?_, ?_⟩ | refine ⟨_, rfl, ?_⟩ | refine And.intro ?_ ?_)) ?_
      refine ⟨Nat × List UInt8, fun y => [(5, .ptr 1 0 0), (21, .p (.lsts 3 (n.nodes.map Nd.cells))), (22, .p (i64 n.nodes.length)), (23, .p (i64 k)), (43, .p (.lst (x.rows.map ints))), (44, .p (i64 x.rows.length)), (45, .p (i64 y.1))], fun y => lnX n x y.2, fun y => y.1 ≤ x.rows.length ∧ y.2 = (ys ++ nodeHead x) ++ (x.rows.take y.1).flatMap rowLine, fun y => x.rows.length - y.1, ?_, key.get⟩
      refine ⟨(0, ((ys ++ ([110, 111, 100, 101, 32] ++ dec x.card)) ++ ([32, 102, 114, 111, 109, 32] ++ (numsN x.parents).drop 1)) ++ [10]), ⟨by simp, ?_⟩, ent_of [] [(2, 6)] [] rfl ⟨⟨rfl, rfl⟩, rfl, rfl, rfl, rfl, lenM ints x.rows, rfl, trivial⟩ (by (repeat' first | exact trivial | exact rfl | exact ⟨rfl, rfl⟩ | exact .inl rfl | refine ⟨_, rfl, rfl, rfl, ?_⟩ | refine ⟨_, _, rfl, ?_, ?_⟩ | refine ⟨_, rfl, ?_⟩ | refine And.intro ?_ ?_)) rfl⟩
      have e : ([32, 102, 114, 111, 109, 32] : List UInt8) ++ (numsN x.parents).drop 1 = [32, 102, 114, 111, 109] ++ numsN x.parents := by
        rw [← nums_cons hpn]; rfl
      rw [e, nodeHead, if_neg hpn]
      simp
    · have h2 : ¬ (0 : Int) < ((x.parents.map i64).length : Nat) := h2
      rw [List.length_map] at h2
      have hpn : x.parents = [] := List.eq_nil_of_length_eq_zero (by omega)
      refine (writeByte_c true (ys ++ ([110, 111, 100, 101, 32] ++ dec x.card)) 10 (by simp <;> omega)).useE [] [(0, 1), (1, 4)] rfl (by (repeat' first | exact trivial | exact rfl | exact ⟨rfl, rfl⟩ | exact .inl rfl | refine ⟨_, rfl, rfl, rfl, ?_⟩ | refine ⟨_, _, rfl, ?_, ?_⟩ | refine ⟨_, rfl, ?_⟩ | refine And.intro ?_ ?_)) (by (repeat' first | exact trivial | exact rfl | exact ⟨rfl, rfl⟩ | exact .inl rfl | refine ⟨_, rfl, rfl, rfl, ?_⟩ | refine ⟨_, _, rfl, ?_, ?_⟩ | refine ⟨_, rfl, ?_⟩ | refine And.intro ?_ ?_)) ?_
      refine ⟨Nat × List UInt8, fun y => [(5, .ptr 1 0 0), (21, .p (.lsts 3 (n.nodes.map Nd.cells))), (22, .p (i64 n.nodes.length)), (23, .p (i64 k)), (43, .p (.lst (x.rows.map ints))), (44, .p (i64 x.rows.length)), (45, .p (i64 y.1))], fun y => lnX n x y.2, fun y => y.1 ≤ x.rows.length ∧ y.2 = (ys ++ nodeHead x) ++ (x.rows.take y.1).flatMap rowLine, fun y => x.rows.length - y.1, ?_, key.get⟩
      refine ⟨(0, (ys ++ ([110, 111, 100, 101, 32] ++ dec x.card)) ++ [10]), ⟨by simp, ?_⟩, ent_of [] [(2, 5)] [] rfl ⟨⟨rfl, rfl⟩, rfl, rfl, rfl, rfl, lenM ints x.rows, rfl, trivial⟩ (by (repeat' first | exact trivial | exact rfl | exact ⟨rfl, rfl⟩ | exact .inl rfl | refine ⟨_, rfl, rfl, rfl, ?_⟩ | refine ⟨_, _, rfl, ?_, ?_⟩ | refine ⟨_, rfl, ?_⟩ | refine And.intro ?_ ?_)) rfl⟩
      rw [nodeHead, if_pos hpn]
      simp
  case k =>
    rintro ⟨j, zs⟩ ⟨j1, j2⟩
    simp only [] at j1 j2
    have hrl := h.rows_len hxm j
    have hzl : zs.length ≤ 20000000 := by rw [j2, List.length_append, List.length_append]; omega
    (first | refine brLt (fun h3 => ?_) (fun h3 => ?_) | refine brLe (fun h3 => ?_) (fun h3 => ?_) | refine brEq (fun h3 => ?_) (fun h3 => ?_))
    · have h3 : (j : Int) < (x.rows.length : Nat) := h3
      have hjl : j < x.rows.length := by omega
      obtain ⟨r, hr⟩ : ∃ r, r = x.rows.getD j [] := ⟨_, rfl⟩
      have hrm : r ∈ x.rows := by rw [hr]; exact getD_memL [] hjl
      have hr4 := h.row x hxm r hrm
      have hrn : r ≠ [] := fun e => by have := hr4.2.1; rw [e] at this; simp at this
      have hnr := nums_len r
      refine ⟨_, ⟨by omega, ints r, by rw [hr]; exact ccell hjl, rfl⟩, ?_⟩
      refine (listI_c r (by omega) hr4.1).eq rfl ?_
      refine ⟨by show 4 + ((numsN r).drop 1).length ≤ 9223372036854775807; rw [List.length_drop]; omega, ?_⟩
      refine ⟨by show ([114, 111, 119, 32] ++ (numsN r).drop 1).length + 1 ≤ 9223372036854775807; rw [List.length_append, List.length_drop]; simp <;> omega, ?_⟩
      refine (writeString_c true zs (([114, 111, 119, 32] ++ (numsN r).drop 1) ++ [10]) (by omega) (by simp <;> omega)).useE [] [(0, 1), (1, 2)] rfl (by (repeat' first | exact trivial | exact rfl | exact ⟨rfl, rfl⟩ | exact .inl rfl | refine ⟨_, rfl, rfl, rfl, ?_⟩ | refine ⟨_, _, rfl, ?_, ?_⟩ | refine ⟨_, rfl, ?_⟩ | refine And.intro ?_ ?_)) (by (repeat' first | exact trivial | exact rfl | exact ⟨rfl, rfl⟩ | exact .inl rfl | refine ⟨_, rfl, rfl, rfl, ?_⟩ | refine ⟨_, _, rfl, ?_, ?_⟩ | refine ⟨_, rfl, ?_⟩ | refine And.intro ?_ ?_)) ?_
      refine ⟨_, wrap_i64 (by omega) (by omega), ?_⟩
      refine ⟨(j + 1, zs ++ (([114, 111, 119, 32] ++ (numsN r).drop 1) ++ [10])), ⟨by simp only []; omega, ?_⟩, ent_of [] [(2, 4)] [] rfl (by (repeat' first | exact trivial | exact rfl | exact ⟨rfl, rfl⟩ | exact .inl rfl | refine ⟨_, rfl, rfl, rfl, ?_⟩ | refine ⟨_, _, rfl, ?_, ?_⟩ | refine ⟨_, rfl, ?_⟩ | refine And.intro ?_ ?_)) (by (repeat' first | exact trivial | exact rfl | exact ⟨rfl, rfl⟩ | exact .inl rfl | refine ⟨_, rfl, rfl, rfl, ?_⟩ | refine ⟨_, _, rfl, ?_, ?_⟩ | refine ⟨_, rfl, ?_⟩ | refine And.intro ?_ ?_)) rfl, by show x.rows.length - (j + 1) < x.rows.length - j; omega⟩
      have e : ([114, 111, 119, 32] : List UInt8) ++ (numsN r).drop 1 = [114, 111, 119] ++ numsN r := by
        rw [← nums_cons hrn]; rfl
      simp only []
      rw [e, take_succ_getD [] hjl, ← hr, flat_snoc, rowLine, j2]
      simp
    · have h3 : ¬ (j : Int) < (x.rows.length : Nat) := h3
      refine ⟨_, wrap_i64 (by omega) (by omega), ?_⟩
      refine ⟨(k + 1, zs), ⟨by simp only []; omega, ?_⟩, ent_of [] [] [] rfl (by (repeat' first | exact trivial | exact rfl | exact ⟨rfl, rfl⟩ | exact .inl rfl | refine ⟨_, rfl, rfl, rfl, ?_⟩ | refine ⟨_, _, rfl, ?_, ?_⟩ | refine ⟨_, rfl, ?_⟩ | refine And.intro ?_ ?_)) (by (repeat' first | exact trivial | exact rfl | exact ⟨rfl, rfl⟩ | exact .inl rfl | refine ⟨_, rfl, rfl, rfl, ?_⟩ | refine ⟨_, _, rfl, ?_, ?_⟩ | refine ⟨_, rfl, ?_⟩ | refine And.intro ?_ ?_)) rfl, by show n.nodes.length - (k + 1) < n.nodes.length - k; omega⟩
      simp only []
      rw [j2, show x.rows.take j = x.rows from take_all (by omega), take_succ_getD nd0 hkl, ← hx, flat_snoc, nodeLines, k2]
      simp
end Go.Proofs.YtphmmoloegjocaaGreatDoor

/- Reading: numbers, words, lines; the reference's functions. -/
namespace Go.Proofs.YtphmmoloegjocaaGreatDoor
open Go Y
set_option maxRecDepth 100000
set_option maxHeartbeats 40000000

def isDg (b : UInt8) : Bool := decide (48 ≤ b.toNat ∧ b.toNat ≤ 57)
/-- Is a text a number? -/
def numB (w : List UInt8) : Bool := w.all isDg && (decide (w = [48]) || (decide (w ≠ []) && decide (w.getD 0 0 ≠ 48) && decide (w.length ≤ 4)))
def valN (w : List UInt8) : Int := w.foldl (fun n b => 10 * n + ((b.toNat : Int) - 48)) 0
theorem val_snoc (w : List UInt8) (b : UInt8) : valN (w ++ [b]) = 10 * valN w + ((b.toNat : Int) - 48) := by rw [valN, List.foldl_append]; rfl
theorem num_all {w : List UInt8} (h : numB w = true) : ∀ b ∈ w, isDg b = true := by
  rw [numB, Bool.and_eq_true] at h
  exact List.all_eq_true.1 h.1
theorem num_len {w : List UInt8} (h : numB w = true) : 1 ≤ w.length ∧ w.length ≤ 4 := by
  rw [numB, Bool.and_eq_true, Bool.or_eq_true, Bool.and_eq_true, Bool.and_eq_true] at h
  rcases h.2 with h1 | ⟨⟨h1, _⟩, h2⟩
  · rw [of_decide_eq_true h1]; simp
  · have h1 := of_decide_eq_true h1
    have h2 := of_decide_eq_true h2
    have := List.length_pos_iff.2 h1
    omega
theorem ten_pow : ∀ i ≤ 4, (10 : Int) ^ i ≤ 10000 := by decide
theorem val_take {w : List UInt8} (h : ∀ b ∈ w, isDg b = true) : ∀ k, k ≤ w.length → 0 ≤ valN (w.take k) ∧ valN (w.take k) < 10 ^ k
  | 0, _ => by simp [valN]
  | k + 1, hk => by
    obtain ⟨h1, h2⟩ := val_take h k (by omega)
    have hd := h _ (getD_memL 0 (show k < w.length by omega))
    have hd := of_decide_eq_true hd
    rw [take_succ_getD 0 (by omega), val_snoc, Int.pow_succ]
    omega
theorem val_range {w : List UInt8} (h : numB w = true) : 0 ≤ valN w ∧ valN w ≤ 9999 := by
  have h1 := val_take (num_all h) w.length (Nat.le_refl _)
  rw [take_all (Nat.le_refl _)] at h1
  have h2 := ten_pow w.length (num_len h).2
  omega
theorem scan_at {s : List UInt8} {k : Nat} (h : k < s.length) : s[k]? = some (s.getD k 0) := by
  rw [List.getD_eq_getElem?_getD, List.getElem?_eq_getElem h]; rfl

theorem digit_c (b : UInt8) : Pure cx 122 [u8 b] (· = .ret [.bool (isDg b)]) := by
  refine pure_of_vc Tryz.func122 rfl rfl rfl ?_
  (first | refine brLt (fun h1 => ?_) (fun h1 => ?_) | refine brLe (fun h1 => ?_) (fun h1 => ?_) | refine brEq (fun h1 => ?_) (fun h1 => ?_))
  · have h1 : (48 : Int) ≤ (b.toNat : Int) := h1
    (first | refine brLt (fun h2 => ?_) (fun h2 => ?_) | refine brLe (fun h2 => ?_) (fun h2 => ?_) | refine brEq (fun h2 => ?_) (fun h2 => ?_))
    · have h2 : (b.toNat : Int) ≤ 57 := h2
      exact end1 _ rfl rfl (retB (by rw [isDg, decide_eq_true ⟨by omega, by omega⟩]))
    · have h2 : ¬ (b.toNat : Int) ≤ 57 := h2
      exact end1 _ rfl rfl (retB (by rw [isDg, decide_eq_false (by omega)]))
  · have h1 : ¬ (48 : Int) ≤ (b.toNat : Int) := h1
    exact end1 _ rfl rfl (retB (by rw [isDg, decide_eq_false (by omega)]))

theorem number37_c (w : List UInt8) (hl : w.length ≤ 1000000) : Pure cx 110 [.str w] (· = .ret [.bool (numB w)]) := by
  refine pure_of_vc Tryz.func110 rfl rfl rfl ?_
  refine ⟨Nat, fun k => [(0, .p (.str w)), (3, .p (i64 k))], fun _ => ⟨0, []⟩, fun k => k ≤ w.length ∧ ∀ b ∈ w.take k, isDg b = true, fun k => w.length - k, ?_, ?_⟩
  · exact ⟨0, ⟨by omega, by simp⟩, ent0 rfl ⟨rfl, rfl, trivial⟩ trivial rfl⟩
  rintro k ⟨k1, k2⟩
  (first | refine brLt (fun h1 => ?_) (fun h1 => ?_) | refine brLe (fun h1 => ?_) (fun h1 => ?_) | refine brEq (fun h1 => ?_) (fun h1 => ?_))
  · have h1 : (k : Int) < (w.length : Nat) := h1
    have hk : k < w.length := by omega
    obtain ⟨b, hb⟩ : ∃ b, b = w.getD k 0 := ⟨_, rfl⟩
    refine ⟨_, ⟨by omega, b, by rw [hb]; exact scan_at hk, rfl⟩, ?_⟩
    have hD := digit_c b
    by_cases hd : isDg b = true
    · rw [hd] at hD
      refine hD.eq rfl ?_
      refine ⟨_, wrap_i64 (by omega) (by omega), ?_⟩
      exact ⟨k + 1, ⟨by omega, mem_take 0 hk k2 (by rw [← hb]; exact hd)⟩, ent0 rfl ⟨rfl, rfl, trivial⟩ trivial rfl, by show w.length - (k + 1) < w.length - k; omega⟩
    · have hd := Bool.eq_false_iff.2 hd
      rw [hd] at hD
      refine hD.eq rfl ?_
      refine end1 _ rfl rfl (retB ?_)
      have : w.all isDg = false := by
        rw [Bool.eq_false_iff]
        intro h
        have := List.all_eq_true.1 h _ (getD_memL 0 hk)
        rw [← hb, hd] at this; cases this
      rw [numB, this]; rfl
  · have h1 : ¬ (k : Int) < (w.length : Nat) := h1
    rw [take_all (by omega)] at k2
    have ha : w.all isDg = true := List.all_eq_true.2 k2
    (first | refine brLt (fun h2 => ?_) (fun h2 => ?_) | refine brLe (fun h2 => ?_) (fun h2 => ?_) | refine brEq (fun h2 => ?_) (fun h2 => ?_))
    · have h2 : w = [48] := h2
      exact end1 _ rfl rfl (retB (by rw [numB, ha, decide_eq_true h2]; rfl))
    have h2 : ¬ w = [48] := h2
    (first | refine brLt (fun h3 => ?_) (fun h3 => ?_) | refine brLe (fun h3 => ?_) (fun h3 => ?_) | refine brEq (fun h3 => ?_) (fun h3 => ?_))
    · have h3 : w = [] := h3
      exact end1 _ rfl rfl (retB (by rw [numB, ha, decide_eq_false h2, decide_eq_false (show ¬ w ≠ [] from fun h => h h3)]; rfl))
    have h3 : ¬ w = [] := h3
    have hpos := List.length_pos_iff.2 h3
    refine ⟨_, ⟨by omega, w.getD 0 0, scan_at hpos, rfl⟩, ?_⟩
    (first | refine brLt (fun h4 => ?_) (fun h4 => ?_) | refine brLe (fun h4 => ?_) (fun h4 => ?_) | refine brEq (fun h4 => ?_) (fun h4 => ?_))
    · have h4 : ((w.getD 0 0).toNat : Int) = 48 := h4
      have h5 : w.getD 0 0 = 48 := UInt8.toNat_inj.1 (by rw [show (48 : UInt8).toNat = 48 from rfl]; omega)
      exact end1 _ rfl rfl (retB (by rw [numB, ha, decide_eq_false h2, decide_eq_true (show w ≠ [] from h3), decide_eq_false (show ¬ w.getD 0 0 ≠ 48 from fun h => h h5)]; rfl))
    have h4 : ¬ ((w.getD 0 0).toNat : Int) = 48 := h4
    have h5 : w.getD 0 0 ≠ 48 := fun e => h4 (by rw [e]; rfl)
    (first | refine brLt (fun h6 => ?_) (fun h6 => ?_) | refine brLe (fun h6 => ?_) (fun h6 => ?_) | refine brEq (fun h6 => ?_) (fun h6 => ?_))
    · have h6 : (w.length : Int) ≤ 4 := h6
      exact end1 _ rfl rfl (retB (by rw [numB, ha, decide_eq_true (show w ≠ [] from h3), decide_eq_true h5, decide_eq_true (show w.length ≤ 4 by omega)]; simp))
    · have h6 : ¬ (w.length : Int) ≤ 4 := h6
      exact end1 _ rfl rfl (retB (by rw [numB, ha, decide_eq_false h2, decide_eq_false (show ¬ w.length ≤ 4 by omega)]; simp))

def numV (w : List UInt8) : Int := if numB w = true then valN w else 0
theorem number_c (w : List UInt8) (hl : w.length ≤ 1000000) : Pure cx 95 [.str w] (· = .ret [i64 (numV w), .bool (numB w)]) := by
  refine pure_of_vc Tryz.func95 rfl rfl rfl ?_
  have hN := number37_c w hl
  by_cases hn : numB w = true
  rotate_left
  · have hn' := Bool.eq_false_iff.2 hn
    rw [hn'] at hN
    refine hN.eq rfl ?_
    exact end2 (i64 0) (.bool false) rfl rfl rfl (by rw [numV, if_neg hn, hn'])
  rw [hn] at hN
  refine hN.eq rfl ?_
  have hd := num_all hn
  have h4 := num_len hn
  refine ⟨Nat, fun k => [(0, .p (.str w)), (4, .p (i64 (valN (w.take k)))), (5, .p (i64 k))], fun _ => ⟨0, []⟩, fun k => k ≤ w.length, fun k => w.length - k, ?_, ?_⟩
  · exact ⟨0, by omega, ent0 rfl ⟨rfl, rfl, rfl, trivial⟩ trivial rfl⟩
  intro k hk
  have hv := val_take hd k hk
  have hp := ten_pow k (by omega)
  (first | refine brLt (fun h1 => ?_) (fun h1 => ?_) | refine brLe (fun h1 => ?_) (fun h1 => ?_) | refine brEq (fun h1 => ?_) (fun h1 => ?_))
  · have h1 : (k : Int) < (w.length : Nat) := h1
    have hkl : k < w.length := by omega
    obtain ⟨b, hb⟩ : ∃ b, b = w.getD k 0 := ⟨_, rfl⟩
    have hbd := of_decide_eq_true (hd _ (getD_memL 0 hkl))
    rw [← hb] at hbd
    refine ⟨10 * valN (w.take k), wrap_i64 (by omega) (by omega), ?_⟩
    refine ⟨_, ⟨by omega, b, by rw [hb]; exact scan_at hkl, rfl⟩, ?_⟩
    refine ⟨(b.toNat : Int) - 48, wrap8 (by omega) (by omega), ?_⟩
    refine ⟨(b.toNat : Int) - 48, wrap_i64 (by omega) (by omega), ?_⟩
    refine ⟨10 * valN (w.take k) + ((b.toNat : Int) - 48), wrap_i64 (by omega) (by omega), ?_⟩
    refine ⟨_, wrap_i64 (by omega) (by omega), ?_⟩
    exact ⟨k + 1, by omega, ent0 rfl ⟨rfl, congrArg i64 (by rw [take_succ_getD 0 hkl, ← hb, val_snoc]), rfl, trivial⟩ trivial rfl, by show w.length - (k + 1) < w.length - k; omega⟩
  · have h1 : ¬ (k : Int) < (w.length : Nat) := h1
    exact end2 (i64 (valN w)) (.bool true) rfl (congrArg i64 (by rw [take_all (by omega)])) rfl (by rw [numV, if_pos hn, hn])

/-- Numbers of texts. -/
def allB (l : List (List UInt8)) : Bool := l.all numB
def allV (l : List (List UInt8)) : List PV := if allB l = true then [ints (l.map valN), .bool (decide (0 < l.length))] else [.nils, .bool false]
theorem all_c (l : List (List UInt8)) (hl : l.length ≤ 1000000) (hw : ∀ w ∈ l, w.length ≤ 1000000) : Pure cx 96 [strs l] (· = .ret (allV l)) := by
  refine pure_of_vc Tryz.func96 rfl rfl rfl ?_
  refine ⟨Nat, fun k => [(0, .p (strs l)), (4, .sl 0 1 0 ((l.take k).map valN).length), (5, .p (i64 k))], fun k => ⟨1, [(0, iO ((l.take k).map valN))]⟩, fun k => k ≤ l.length ∧ ∀ w ∈ l.take k, numB w = true, fun k => l.length - k, ?_, ?_⟩
  · exact ⟨0, ⟨by omega, by simp⟩, ent_of [] [] [(0, 1)] rfl (by (repeat' first | exact trivial | exact rfl | exact ⟨rfl, rfl⟩ | exact .inl rfl | refine ⟨_, rfl, rfl, rfl, ?_⟩ | refine ⟨_, _, rfl, ?_, ?_⟩ | refine ⟨_, rfl, ?_⟩ | refine And.intro ?_ ?_)) (by (repeat' first | exact trivial | exact rfl | exact ⟨rfl, rfl⟩ | exact .inl rfl | refine ⟨_, rfl, rfl, rfl, ?_⟩ | refine ⟨_, _, rfl, ?_, ?_⟩ | refine ⟨_, rfl, ?_⟩ | refine And.intro ?_ ?_)) rfl⟩
  rintro k ⟨k1, k2⟩
  have hkm : ((l.take k).map valN).length ≤ l.length := by rw [List.length_map, List.length_take]; omega
  (first | refine brLt (fun h1 => ?_) (fun h1 => ?_) | refine brLe (fun h1 => ?_) (fun h1 => ?_) | refine brEq (fun h1 => ?_) (fun h1 => ?_))
  · have h1 : (k : Int) < ((l.map PV.str).length : Nat) := h1
    rw [List.length_map] at h1
    have hkl : k < l.length := by omega
    obtain ⟨w, hw'⟩ : ∃ w, w = l.getD k [] := ⟨_, rfl⟩
    have hwl := hw _ (getD_memL [] hkl)
    rw [← hw'] at hwl
    have hN := number_c w hwl
    refine ⟨_, ⟨by omega, .str w, by rw [hw']; exact tcell hkl, rfl⟩, ?_⟩
    by_cases hn : numB w = true
    · rw [numV, if_pos hn, hn] at hN
      refine hN.eq rfl ?_
      have e : (l.take (k + 1)).map valN = (l.take k).map valN ++ [valN w] := by rw [take_succ_getD [] hkl, ← hw', List.map_append]; rfl
      refine ⟨by show 0 + 1 ≤ 1; omega, [i64 (valN w)], rfl, ?_⟩
      refine ⟨by show 0 + ((l.take k).map valN).length ≤ (((l.take k).map valN).map i64).length; simp, ((l.take k).map valN).map i64, takeAll (by simp), by show (((l.take k).map valN).length + 1) * 8 ≤ 140737488355328; omega, ((l.take k).map valN ++ [valN w]).map i64, by simp, ?_⟩
      refine ⟨_, wrap_i64 (by omega) (by omega), ?_⟩
      refine ⟨k + 1, ⟨by omega, mem_take [] hkl k2 (by rw [← hw']; exact hn)⟩, ent_of [] [(0, 2)] [] rfl ⟨rfl, ?_, rfl, trivial⟩ ⟨⟨_, rfl, rfl, rfl, congrArg (List.map i64) e.symm⟩, trivial⟩ rfl, by show l.length - (k + 1) < l.length - k; omega⟩
      exact congrArg (fun m => AV.sl 2 1 0 m) (by rw [e, snoc_len])
    · have hn' := Bool.eq_false_iff.2 hn
      rw [hn'] at hN
      refine hN.eq rfl ?_
      have ha : allB l = false := by
        rw [Bool.eq_false_iff]
        intro h
        have := List.all_eq_true.1 h _ (getD_memL [] hkl)
        rw [← hw', hn'] at this; cases this
      exact end2 .nils (.bool false) rfl (.inl rfl) rfl (by rw [allV, ha]; rfl)
  · have h1 : ¬ (k : Int) < ((l.map PV.str).length : Nat) := h1
    rw [List.length_map] at h1
    have hlk : l.take k = l := take_all (by omega)
    rw [hlk] at k2
    have ha : allB l = true := List.all_eq_true.2 k2
    have fin : ∀ b, b = decide (0 < l.length) → PEnd.ret [ints (l.map valN), .bool b] = .ret (allV l) := fun b hb => by rw [allV, if_pos ha, hb]
    have hres : Res (marks [(0, iO ((l.take k).map valN))] [0]) 5 (.sl 0 1 0 ((l.take k).map valN).length) (ints (l.map valN)) := by
      refine ⟨_, rfl, ?_, ?_⟩
      · show 0 + ((l.take k).map valN).length ≤ (((l.take k).map valN).map i64).length
        simp
      · rw [hlk]; exact takeAll (by simp)
    (first | refine brLt (fun h2 => ?_) (fun h2 => ?_) | refine brLe (fun h2 => ?_) (fun h2 => ?_) | refine brEq (fun h2 => ?_) (fun h2 => ?_))
    · have h2 : (0 : Int) < ((l.map PV.str).length : Nat) := h2
      rw [List.length_map] at h2
      exact end2 (ints (l.map valN)) (.bool true) rfl hres rfl (fin true (by rw [decide_eq_true]; omega))
    · have h2 : ¬ (0 : Int) < ((l.map PV.str).length : Nat) := h2
      rw [List.length_map] at h2
      exact end2 (ints (l.map valN)) (.bool false) rfl hres rfl (fin false (by rw [decide_eq_false]; omega))
end Go.Proofs.YtphmmoloegjocaaGreatDoor

/- The reference's words and lines. -/
namespace Go.Proofs.YtphmmoloegjocaaGreatDoor
open Go Y
set_option maxRecDepth 100000
set_option maxHeartbeats 40000000

/-- The words of a line; a word under way. -/
def wordsA : List UInt8 → List UInt8 → List (List UInt8)
  | w, [] => if w = [] then [] else [w]
  | w, b :: r => if b = 32 then (if w = [] then wordsA [] r else w :: wordsA [] r) else wordsA (w ++ [b]) r
def wordsN (s : List UInt8) : List (List UInt8) := wordsA [] s
/-- The lines of a text; a line under way. -/
def linesA : List UInt8 → List UInt8 → List (List UInt8)
  | w, [] => if w = [] then [] else [w]
  | w, b :: r => if b = 10 then w :: linesA [] r else linesA (w ++ [b]) r
def linesN (s : List UInt8) : List (List UInt8) := linesA [] s
theorem words_mem : ∀ {s w : List UInt8} {v : List UInt8}, v ∈ wordsA w s → v.length ≤ w.length + s.length ∧ v ≠ []
  | [], w, v, h => by
    rw [wordsA] at h
    split at h
    · simp at h
    · simp only [List.mem_singleton] at h; subst h; exact ⟨by simp, ‹_›⟩
  | b :: r, w, v, h => by
    rw [wordsA] at h
    split at h
    · split at h
      · obtain ⟨h1, h2⟩ := words_mem h
        refine ⟨?_, h2⟩
        simp only [List.length_nil, List.length_cons] at h1 ⊢; omega
      · rcases List.mem_cons.1 h with rfl | h
        · exact ⟨by omega, ‹_›⟩
        · obtain ⟨h1, h2⟩ := words_mem h
          refine ⟨?_, h2⟩
          simp only [List.length_nil, List.length_cons] at h1 ⊢; omega
    · obtain ⟨h1, h2⟩ := words_mem h
      refine ⟨?_, h2⟩
      simp only [List.length_append, List.length_cons, List.length_nil] at h1 ⊢; omega
theorem words_count : ∀ (s w : List UInt8), (wordsA w s).length ≤ s.length + (if w = [] then 0 else 1)
  | [], w => by rw [wordsA]; split <;> simp
  | b :: r, w => by
    rw [wordsA]
    split
    · split
      · have := words_count r []
        simp only [if_true, List.length_cons] at this ⊢; omega
      · have := words_count r []
        simp only [if_true, List.length_cons] at this ⊢; omega
    · have := words_count r (w ++ [b])
      simp only [List.append_eq_nil_iff, List.cons_ne_nil, and_false, if_false, List.length_cons] at this ⊢
      omega
theorem lines_mem : ∀ {s w : List UInt8} {v : List UInt8}, v ∈ linesA w s → v.length ≤ w.length + s.length
  | [], w, v, h => by
    rw [linesA] at h
    split at h
    · simp at h
    · simp only [List.mem_singleton] at h; subst h; simp
  | b :: r, w, v, h => by
    rw [linesA] at h
    split at h
    · rcases List.mem_cons.1 h with rfl | h
      · omega
      · have h1 := lines_mem h
        simp only [List.length_nil, List.length_cons] at h1 ⊢; omega
    · have h1 := lines_mem h
      simp only [List.length_append, List.length_cons, List.length_nil] at h1 ⊢; omega
theorem lines_count : ∀ (s w : List UInt8), (linesA w s).length ≤ s.length + (if w = [] then 0 else 1)
  | [], w => by rw [linesA]; split <;> simp
  | b :: r, w => by
    rw [linesA]
    split
    · have := lines_count r []
      simp only [if_true, List.length_cons] at this ⊢; omega
    · have := lines_count r (w ++ [b])
      simp only [List.append_eq_nil_iff, List.cons_ne_nil, and_false, if_false, List.length_cons] at this ⊢
      omega
theorem drop_cons {α : Type} {s : List α} {k : Nat} (d : α) (h : k < s.length) : s.drop k = s.getD k d :: s.drop (k + 1) := by
  rw [List.drop_eq_getElem_cons h, List.getD_eq_getElem?_getD, List.getElem?_eq_getElem h]; rfl

theorem words_c (s : List UInt8) (hs : s.length ≤ 100000) : Pure cx 71 [.str s] (· = .ret [strs (wordsN s)]) := by
  refine pure_of_vc Tryz.func71 rfl rfl rfl ?_
  refine ⟨Nat × List (List UInt8) × List UInt8, fun x => [(0, .p (.str s)), (3, .sl 0 1 0 x.2.1.length), (4, .p (.str x.2.2)), (5, .p (i64 x.1))], fun x => ⟨1, [(0, sO x.2.1)]⟩,
    fun x => x.2.1.length ≤ x.1 ∧ x.2.2.length ≤ x.1 ∧ ((x.1 ≤ s.length ∧ x.2.1 ++ wordsA x.2.2 (s.drop x.1) = wordsN s) ∨ (x.1 = s.length + 1 ∧ x.2.1 = wordsN s)), fun x => s.length + 1 - x.1, ?_, ?_⟩
  · exact ⟨(0, [], []), ⟨by simp, by simp, .inl ⟨by simp, rfl⟩⟩, ent_of [] [] [(0, 1)] rfl (by (repeat' first | exact trivial | exact rfl | exact ⟨rfl, rfl⟩ | exact .inl rfl | refine ⟨_, rfl, rfl, rfl, ?_⟩ | refine ⟨_, _, rfl, ?_, ?_⟩ | refine ⟨_, rfl, ?_⟩ | refine And.intro ?_ ?_)) (by (repeat' first | exact trivial | exact rfl | exact ⟨rfl, rfl⟩ | exact .inl rfl | refine ⟨_, rfl, rfl, rfl, ?_⟩ | refine ⟨_, _, rfl, ?_, ?_⟩ | refine ⟨_, rfl, ?_⟩ | refine And.intro ?_ ?_)) rfl⟩
  rintro ⟨k, out, w⟩ ⟨g1, g2, g3⟩
  simp only [] at g1 g2 g3
  (first | refine brLt (fun h1 => ?_) (fun h1 => ?_) | refine brLe (fun h1 => ?_) (fun h1 => ?_) | refine brEq (fun h1 => ?_) (fun h1 => ?_))
  rotate_left
  · have h1 : ¬ (k : Int) ≤ (s.length : Nat) := h1
    rcases g3 with ⟨g3, _⟩ | ⟨_, g4⟩
    · omega
    · subst g4
      exact end1 _ rfl ⟨_, rfl, by show 0 + (wordsN s).length ≤ ((wordsN s).map PV.str).length; simp, takeAll (by simp)⟩ rfl
  have h1 : (k : Int) ≤ (s.length : Nat) := h1
  have g4 : out ++ wordsA w (s.drop k) = wordsN s := by
    rcases g3 with ⟨_, g4⟩ | ⟨g3, _⟩
    · exact g4
    · omega
  have flush : ∀ r, wordsA w r = (if w = [] then [] else [w]) ++ wordsA [] r → out ++ wordsA w r = (out ++ (if w = [] then [] else [w])) ++ wordsA [] r := fun r h => by rw [h, List.append_assoc]
  (first | refine brLt (fun h2 => ?_) (fun h2 => ?_) | refine brLe (fun h2 => ?_) (fun h2 => ?_) | refine brEq (fun h2 => ?_) (fun h2 => ?_))
  · have h2 : (k : Int) < (s.length : Nat) := h2
    have hk : k < s.length := by omega
    obtain ⟨b, hb⟩ : ∃ b, b = s.getD k 0 := ⟨_, rfl⟩
    have hdr : s.drop k = b :: s.drop (k + 1) := by rw [hb]; exact drop_cons 0 hk
    rw [hdr, wordsA] at g4
    refine ⟨_, ⟨by omega, b, by rw [hb]; exact scan_at hk, rfl⟩, ?_⟩
    (first | refine brLt (fun h3 => ?_) (fun h3 => ?_) | refine brLe (fun h3 => ?_) (fun h3 => ?_) | refine brEq (fun h3 => ?_) (fun h3 => ?_))
    · have h3 : (b.toNat : Int) = 32 := h3
      have h3 : b = 32 := UInt8.toNat_inj.1 (by rw [show (32 : UInt8).toNat = 32 from rfl]; omega)
      rw [if_pos h3] at g4
      (first | refine brLt (fun h5 => ?_) (fun h5 => ?_) | refine brLe (fun h5 => ?_) (fun h5 => ?_) | refine brEq (fun h5 => ?_) (fun h5 => ?_))
      · have h5 : w = [] := h5
        refine ⟨_, wrap_i64 (by omega) (by omega), ?_⟩
        exact ⟨(k + 1, out, []), ⟨by simp only []; omega, by simp, .inl ⟨by simp only []; omega, by simp only []; rw [← g4]; simp [h5]⟩⟩, ent_of [] [] [] rfl (by (repeat' first | exact trivial | exact rfl | exact ⟨rfl, rfl⟩ | exact .inl rfl | refine ⟨_, rfl, rfl, rfl, ?_⟩ | refine ⟨_, _, rfl, ?_, ?_⟩ | refine ⟨_, rfl, ?_⟩ | refine And.intro ?_ ?_)) (by (repeat' first | exact trivial | exact rfl | exact ⟨rfl, rfl⟩ | exact .inl rfl | refine ⟨_, rfl, rfl, rfl, ?_⟩ | refine ⟨_, _, rfl, ?_, ?_⟩ | refine ⟨_, rfl, ?_⟩ | refine And.intro ?_ ?_)) rfl, by simp only []; omega⟩
      · have h5 : ¬ w = [] := h5
        refine ⟨by show 0 + 1 ≤ 1; omega, [.str w], rfl, ?_⟩
        refine ⟨by show 0 + out.length ≤ (out.map PV.str).length; simp, out.map .str, takeAll (by simp), by show (out.length + 1) * 16 ≤ 140737488355328; omega, (out ++ [w]).map .str, by simp, ?_⟩
        refine ⟨_, wrap_i64 (by omega) (by omega), ?_⟩
        exact ⟨(k + 1, out ++ [w], []), ⟨by simp only [snoc_len]; omega, by simp, .inl ⟨by simp only []; omega, by simp only []; rw [← g4]; simp [h5]⟩⟩, ent_of [] [(0, 2)] [] rfl ⟨rfl, congrArg (fun m => AV.sl 2 1 0 m) (snoc_len out w).symm, rfl, rfl, trivial⟩ ⟨⟨_, rfl, rfl, rfl, rfl⟩, trivial⟩ rfl, by simp only []; omega⟩
    · have h3 : ¬ (b.toNat : Int) = 32 := h3
      have h3 : ¬ b = 32 := fun e => h3 (by rw [e]; rfl)
      rw [if_neg h3] at g4
      refine ⟨(k : Int) + 1, wrap_i64 (by omega) (by omega), ?_⟩
      refine ⟨by show (0 : Int) ≤ k ∧ (k : Int) ≤ (k : Int) + 1 ∧ (k : Int) + 1 ≤ (s.length : Nat); omega, ?_⟩
      have hsub : (s.drop k).take (((k : Int) + 1).toNat - ((k : Nat) : Int).toNat) = [b] := by
        rw [hdr, show ((k : Int) + 1).toNat - ((k : Nat) : Int).toNat = 1 by omega]; rfl
      refine ⟨by show w.length + ((s.drop k).take (((k : Int) + 1).toNat - ((k : Nat) : Int).toNat)).length ≤ 9223372036854775807; rw [hsub]; simp; omega, ?_⟩
      refine ⟨_, wrap_i64 (by omega) (by omega), ?_⟩
      exact ⟨(k + 1, out, w ++ [b]), ⟨by simp only []; omega, by simp only [snoc_len]; omega, .inl ⟨by simp only []; omega, g4⟩⟩, ent_of [] [] [] rfl ⟨rfl, rfl, congrArg (fun t => PV.str (w ++ t)) hsub.symm, rfl, trivial⟩ (by (repeat' first | exact trivial | exact rfl | exact ⟨rfl, rfl⟩ | exact .inl rfl | refine ⟨_, rfl, rfl, rfl, ?_⟩ | refine ⟨_, _, rfl, ?_, ?_⟩ | refine ⟨_, rfl, ?_⟩ | refine And.intro ?_ ?_)) rfl, by simp only []; omega⟩
  · have h2 : ¬ (k : Int) < (s.length : Nat) := h2
    rw [List.drop_eq_nil_of_le (by omega), wordsA] at g4
    (first | refine brLt (fun h5 => ?_) (fun h5 => ?_) | refine brLe (fun h5 => ?_) (fun h5 => ?_) | refine brEq (fun h5 => ?_) (fun h5 => ?_))
    · have h5 : w = [] := h5
      refine ⟨_, wrap_i64 (by omega) (by omega), ?_⟩
      exact ⟨(k + 1, out, []), ⟨by simp only []; omega, by simp, .inr ⟨by simp only []; omega, by simp only []; rw [← g4]; simp [h5]⟩⟩, ent_of [] [] [] rfl (by (repeat' first | exact trivial | exact rfl | exact ⟨rfl, rfl⟩ | exact .inl rfl | refine ⟨_, rfl, rfl, rfl, ?_⟩ | refine ⟨_, _, rfl, ?_, ?_⟩ | refine ⟨_, rfl, ?_⟩ | refine And.intro ?_ ?_)) (by (repeat' first | exact trivial | exact rfl | exact ⟨rfl, rfl⟩ | exact .inl rfl | refine ⟨_, rfl, rfl, rfl, ?_⟩ | refine ⟨_, _, rfl, ?_, ?_⟩ | refine ⟨_, rfl, ?_⟩ | refine And.intro ?_ ?_)) rfl, by simp only []; omega⟩
    · have h5 : ¬ w = [] := h5
      refine ⟨by show 0 + 1 ≤ 1; omega, [.str w], rfl, ?_⟩
      refine ⟨by show 0 + out.length ≤ (out.map PV.str).length; simp, out.map .str, takeAll (by simp), by show (out.length + 1) * 16 ≤ 140737488355328; omega, (out ++ [w]).map .str, by simp, ?_⟩
      refine ⟨_, wrap_i64 (by omega) (by omega), ?_⟩
      exact ⟨(k + 1, out ++ [w], []), ⟨by simp only [snoc_len]; omega, by simp, .inr ⟨by simp only []; omega, by simp only []; rw [← g4]; simp [h5]⟩⟩, ent_of [] [(0, 2)] [] rfl ⟨rfl, congrArg (fun m => AV.sl 2 1 0 m) (snoc_len out w).symm, rfl, rfl, trivial⟩ ⟨⟨_, rfl, rfl, rfl, rfl⟩, trivial⟩ rfl, by simp only []; omega⟩

theorem lines_c41 (s : List UInt8) (hs : s.length ≤ 100000) : Pure cx 70 [.str s] (· = .ret [strs (linesN s)]) := by
  refine pure_of_vc Tryz.func70 rfl rfl rfl ?_
  refine ⟨Nat × List (List UInt8) × Nat, fun x => [(0, .p (.str s)), (3, .sl 0 1 0 x.2.1.length), (4, .p (i64 x.2.2)), (5, .p (i64 x.1))], fun x => ⟨1, [(0, sO x.2.1)]⟩,
    fun x => x.2.1.length ≤ x.1 ∧ x.2.2 ≤ x.1 ∧ x.1 ≤ s.length ∧ x.2.1 ++ linesA ((s.drop x.2.2).take (x.1 - x.2.2)) (s.drop x.1) = linesN s, fun x => s.length - x.1, ?_, ?_⟩
  · exact ⟨(0, [], 0), ⟨by simp, by simp, by simp, rfl⟩, ent_of [] [] [(0, 1)] rfl (by (repeat' first | exact trivial | exact rfl | exact ⟨rfl, rfl⟩ | exact .inl rfl | refine ⟨_, rfl, rfl, rfl, ?_⟩ | refine ⟨_, _, rfl, ?_, ?_⟩ | refine ⟨_, rfl, ?_⟩ | refine And.intro ?_ ?_)) (by (repeat' first | exact trivial | exact rfl | exact ⟨rfl, rfl⟩ | exact .inl rfl | refine ⟨_, rfl, rfl, rfl, ?_⟩ | refine ⟨_, _, rfl, ?_, ?_⟩ | refine ⟨_, rfl, ?_⟩ | refine And.intro ?_ ?_)) rfl⟩
  rintro ⟨k, out, f⟩ ⟨g1, g2, g3, g4⟩
  simp only [] at g1 g2 g3 g4
  (first | refine brLt (fun h1 => ?_) (fun h1 => ?_) | refine brLe (fun h1 => ?_) (fun h1 => ?_) | refine brEq (fun h1 => ?_) (fun h1 => ?_))
  · have h1 : (k : Int) < (s.length : Nat) := h1
    have hk : k < s.length := by omega
    obtain ⟨b, hb⟩ : ∃ b, b = s.getD k 0 := ⟨_, rfl⟩
    have hdr : s.drop k = b :: s.drop (k + 1) := by rw [hb]; exact drop_cons 0 hk
    rw [hdr, linesA] at g4
    refine ⟨_, ⟨by omega, b, by rw [hb]; exact scan_at hk, rfl⟩, ?_⟩
    (first | refine brLt (fun h3 => ?_) (fun h3 => ?_) | refine brLe (fun h3 => ?_) (fun h3 => ?_) | refine brEq (fun h3 => ?_) (fun h3 => ?_))
    · have h3 : (b.toNat : Int) = 10 := h3
      have h3 : b = 10 := UInt8.toNat_inj.1 (by rw [show (10 : UInt8).toNat = 10 from rfl]; omega)
      rw [if_pos h3] at g4
      obtain ⟨c, hc⟩ : ∃ c, c = (s.drop f).take (k - f) := ⟨_, rfl⟩
      have hsub : (s.drop ((f : Nat) : Int).toNat).take (((k : Nat) : Int).toNat - ((f : Nat) : Int).toNat) = c := by rw [Int.toNat_natCast, Int.toNat_natCast, hc]
      refine ⟨by show (0 : Int) ≤ f ∧ (f : Int) ≤ k ∧ (k : Int) ≤ (s.length : Nat); omega, ?_⟩
      refine ⟨by show 0 + 1 ≤ 1; omega, [.str c], by show [PV.str c] = [PV.str ((s.drop ((f : Nat) : Int).toNat).take (((k : Nat) : Int).toNat - ((f : Nat) : Int).toNat))]; rw [hsub], ?_⟩
      refine ⟨by show 0 + out.length ≤ (out.map PV.str).length; simp, out.map .str, takeAll (by simp), by show (out.length + 1) * 16 ≤ 140737488355328; omega, (out ++ [c]).map .str, by simp, ?_⟩
      refine ⟨_, wrap_i64 (by omega) (by omega), ?_⟩
      refine ⟨_, wrap_i64 (by omega) (by omega), ?_⟩
      refine ⟨(k + 1, out ++ [c], k + 1), ⟨by simp only [snoc_len]; omega, by simp, by simp only []; omega, ?_⟩, ent_of [] [(0, 2)] [] rfl ⟨rfl, congrArg (fun m => AV.sl 2 1 0 m) (snoc_len out c).symm, rfl, rfl, trivial⟩ ⟨⟨_, rfl, rfl, rfl, rfl⟩, trivial⟩ rfl, by simp only []; omega⟩
      simp only [Nat.sub_self, List.take_zero]
      rw [← g4, hc]
      simp
    · have h3 : ¬ (b.toNat : Int) = 10 := h3
      have h3 : ¬ b = 10 := fun e => h3 (by rw [e]; rfl)
      rw [if_neg h3] at g4
      refine ⟨_, wrap_i64 (by omega) (by omega), ?_⟩
      refine ⟨(k + 1, out, f), ⟨by simp only []; omega, by simp only []; omega, by simp only []; omega, ?_⟩, ent_of [] [] [] rfl (by (repeat' first | exact trivial | exact rfl | exact ⟨rfl, rfl⟩ | exact .inl rfl | refine ⟨_, rfl, rfl, rfl, ?_⟩ | refine ⟨_, _, rfl, ?_, ?_⟩ | refine ⟨_, rfl, ?_⟩ | refine And.intro ?_ ?_)) (by (repeat' first | exact trivial | exact rfl | exact ⟨rfl, rfl⟩ | exact .inl rfl | refine ⟨_, rfl, rfl, rfl, ?_⟩ | refine ⟨_, _, rfl, ?_, ?_⟩ | refine ⟨_, rfl, ?_⟩ | refine And.intro ?_ ?_)) rfl, by simp only []; omega⟩
      simp only []
      rw [← g4, show k + 1 - f = (k - f) + 1 by omega, List.take_add_one, List.getElem?_drop, show f + (k - f) = k by omega, scan_at hk, ← hb]
      rfl
  · have h1 : ¬ (k : Int) < (s.length : Nat) := h1
    have hk : k = s.length := by omega
    subst hk
    rw [List.drop_length, linesA] at g4
    (first | refine brLt (fun h2 => ?_) (fun h2 => ?_) | refine brLe (fun h2 => ?_) (fun h2 => ?_) | refine brEq (fun h2 => ?_) (fun h2 => ?_))
    · have h2 : (f : Int) < (s.length : Nat) := h2
      obtain ⟨c, hc⟩ : ∃ c, c = s.drop f := ⟨_, rfl⟩
      have hne : (s.drop f).take (s.length - f) ≠ [] := fun e => by have := congrArg List.length e; simp at this; omega
      have hct : (s.drop f).take (s.length - f) = c := by rw [hc]; exact List.take_of_length_le (by simp)
      rw [if_neg hne, hct] at g4
      refine ⟨by show (0 : Int) ≤ f ∧ (f : Int) ≤ (s.length : Nat); omega, ?_⟩
      refine ⟨by show 0 + 1 ≤ 1; omega, [.str c], by show [PV.str c] = [PV.str (s.drop ((f : Nat) : Int).toNat)]; rw [Int.toNat_natCast, hc], ?_⟩
      refine ⟨by show 0 + out.length ≤ (out.map PV.str).length; simp, out.map .str, takeAll (by simp), by show (out.length + 1) * 16 ≤ 140737488355328; omega, (out ++ [c]).map .str, by simp, ?_⟩
      exact end1 _ rfl ⟨_, rfl, by show 0 + (out.length + 1) ≤ ((out ++ [c]).map PV.str).length; simp, by rw [← g4]; exact takeAll (by simp)⟩ rfl
    · have h2 : ¬ (f : Int) < (s.length : Nat) := h2
      have hem : (s.drop f).take (s.length - f) = [] := by rw [show s.length - f = 0 by omega]; rfl
      rw [if_pos hem, List.append_nil] at g4
      exact end1 _ rfl ⟨_, rfl, by show 0 + out.length ≤ (out.map PV.str).length; simp, by rw [← g4]; exact takeAll (by simp)⟩ rfl
end Go.Proofs.YtphmmoloegjocaaGreatDoor

/- The reference's `add`: a line's words. -/
namespace Go.Proofs.YtphmmoloegjocaaGreatDoor
open Go Y
set_option maxRecDepth 100000
set_option maxHeartbeats 40000000

abbrev kNet : List UInt8 := [110, 101, 116]
abbrev kNode : List UInt8 := [110, 111, 100, 101]
abbrev kRow : List UInt8 := [114, 111, 119]
abbrev kFrom : List UInt8 := [102, 114, 111, 109]
/-- A network under way: its grain, its nodes but the last one, the last one. -/
structure Ns where
  g : Int
  init : List Nd
  last : Option Nd
def Ns.len (n : Ns) : Nat := match n.last with
  | none => n.init.length
  | some _ => n.init.length + 1
def Ns.net (n : Ns) : Nt := ⟨n.g, n.init ++ n.last.toList⟩
def lastC (r : Nat) : Option Nd → List (List AV)
  | none => []
  | some x => [[.p (i64 x.card), .p (ints x.parents), .sl r 1 0 x.rows.length]]
def nbS (s : Nat) (g : Int) (N : Nat) : AObj := ⟨TNet, false, .bx [.p (i64 g), .sl s 3 0 N]⟩
def lastR : Option Nd → List (List Int)
  | none => []
  | some x => x.rows
def Ns.rows (n : Ns) (r : Nat) : List (List AV) := mapsP (n.init.map Nd.cells) ++ lastC r n.last
abbrev Ns.heap (n : Ns) (s r : Nat) : Hp := ⟨r + 1, [(r, rO (lastR n.last)), (s, mO (n.rows r)), (1, nbS s n.g n.len), (0, znO)]⟩

def stepN (first : Bool) (n : Ns) (w : List (List UInt8)) : Option Ns :=
  if first = true then
    if w.length = 2 ∧ numB (w.getD 1 []) = true ∧ w.getD 0 [] = kNet then some { n with g := valN (w.getD 1 []) } else none
  else if w.getD 0 [] = kNode then
    if 2 ≤ w.length ∧ numB (w.getD 1 []) = true then
      if w.length = 2 then some ⟨n.g, n.init ++ n.last.toList, some ⟨valN (w.getD 1 []), [], []⟩⟩
      else if allB (w.drop 3) = true ∧ 3 < w.length ∧ w.getD 2 [] = kFrom then some ⟨n.g, n.init ++ n.last.toList, some ⟨valN (w.getD 1 []), (w.drop 3).map valN, []⟩⟩
      else none
    else none
  else if w.getD 0 [] = kRow then
    match n.last with
    | none => none
    | some x => if allB (w.drop 1) = true ∧ 1 < w.length then some ⟨n.g, n.init, some { x with rows := x.rows ++ [(w.drop 1).map valN] }⟩ else none
  else none
def addQ (r : Option Ns) (e : AE) (H' : Hp) : Prop := match r with
  | none => e = .returned (.p (.bool false)) ∧ H' = ⟨4, [(0, znO)]⟩
  | some n => e = .returned (.p (.bool true)) ∧ H' = n.heap 4 5

theorem seeLL_app {ρ : Nat → Nat} {ni : List (Nat × Nat)} {L : List (Nat × AObj)} : ∀ {a c b d : List (List AV)}, SeeLL ρ ni L a b → SeeLL ρ ni L c d → SeeLL ρ ni L (a ++ c) (b ++ d)
  | a, c, [], d, h, k => by simp only [SeeLL] at h; subst h; exact k
  | a, c, v :: b, d, h, k => by
    simp only [SeeLL] at h
    obtain ⟨u, us, rfl, h1, h2⟩ := h
    exact ⟨u, us ++ c, rfl, h1, seeLL_app h2 k⟩
theorem rows_at (n : Ns) (r : Nat) {x : Nd} (hx : n.last = some x) : (n.rows r)[n.init.length]? = some [.p (i64 x.card), .p (ints x.parents), .sl r 1 0 x.rows.length] := by
  have hl : (mapsP (n.init.map Nd.cells)).length = n.init.length := by rw [mapsP_length, List.length_map]
  rw [Ns.rows, hx, List.getElem?_append_right (by omega), hl, Nat.sub_self]; rfl
theorem rows_put (n : Ns) (r : Nat) {x : Nd} (hx : n.last = some x) (v : List AV) : (n.rows r).set n.init.length v = mapsP (n.init.map Nd.cells) ++ [v] := by
  have hl : (mapsP (n.init.map Nd.cells)).length = n.init.length := by rw [mapsP_length, List.length_map]
  rw [Ns.rows, hx, List.set_append_right _ _ (by omega), hl, Nat.sub_self]; rfl
theorem rows_len' (n : Ns) (r : Nat) : (n.rows r).length = n.len := by
  have hl : (mapsP (n.init.map Nd.cells)).length = n.init.length := by rw [mapsP_length, List.length_map]
  obtain ⟨g, i, l⟩ := n
  cases l <;> simp [Ns.rows, Ns.len, lastC, hl] <;> exact hl

/-- The rows, the last one's frozen. -/
theorem rows_freeze {ρ : Nat → Nat} {ni : List (Nat × Nat)} {L : List (Nat × AObj)} (n : Ns) (r : Nat) (h : lget L r = some { rO (lastR n.last) with fr := true }) : SeeLL ρ ni L (n.rows r) (mapsP ((n.init ++ n.last.toList).map Nd.cells)) := by
  rw [List.map_append, mapsP_eq, List.map_append, ← mapsP_eq, ← mapsP_eq, Ns.rows]
  refine seeLL_app (seeLL_p _) ?_
  obtain ⟨g, i, l⟩ := n
  cases l with
  | none => rfl
  | some x =>
    refine ⟨_, _, rfl, ⟨_, _, rfl, rfl, _, _, rfl, rfl, _, _, rfl, ?_, rfl⟩, rfl⟩
    show Res L 5 (.sl r 1 0 x.rows.length) (.lst (x.rows.map ints))
    simp only [Res]
    rw [h]
    exact ⟨_, rfl, by show 0 + x.rows.length ≤ (x.rows.map ints).length; simp, takeAll (by simp)⟩
end Go.Proofs.YtphmmoloegjocaaGreatDoor

/- The reference's `add`: the walk. -/
namespace Go.Proofs.YtphmmoloegjocaaGreatDoor
open Go Y
set_option maxRecDepth 100000
set_option maxHeartbeats 40000000

theorem seeLL_self {ρ : Nat → Nat} {ni : List (Nat × Nat)} {L : List (Nat × AObj)} (n : Ns) (r r' : Nat) (h : See ρ ni L (.sl r 1 0 (lastR n.last).length) (.sl r' 1 0 (lastR n.last).length)) : SeeLL ρ ni L (n.rows r) (n.rows r') := by
  rw [Ns.rows]
  refine seeLL_app (seeLL_p _) ?_
  obtain ⟨g, i, l⟩ := n
  cases l with
  | none => rfl
  | some x => exact ⟨_, _, rfl, ⟨_, _, rfl, rfl, _, _, rfl, rfl, _, _, rfl, h, rfl⟩, rfl⟩
theorem all_x (l : List (List UInt8)) (hl : l.length ≤ 1000000) (hw : ∀ w ∈ l, w.length ≤ 1000000) : ∃ P b, Pure cx 96 [strs l] (· = .ret [P, .bool b]) ∧ ((b = true ∧ allB l = true ∧ 0 < l.length ∧ P = ints (l.map valN)) ∨ (b = false ∧ (P = .nils ∨ P = ints (l.map valN)) ∧ ¬ (allB l = true ∧ 0 < l.length))) := by
  have h := all_c l hl hw
  rw [allV] at h
  by_cases ha : allB l = true
  · rw [if_pos ha] at h
    by_cases h0 : 0 < l.length
    · rw [decide_eq_true h0] at h
      exact ⟨_, _, h, .inl ⟨rfl, ha, h0, rfl⟩⟩
    · rw [decide_eq_false h0] at h
      exact ⟨_, _, h, .inr ⟨rfl, .inr rfl, fun k => h0 k.2⟩⟩
  · rw [if_neg ha] at h
    exact ⟨_, _, h, .inr ⟨rfl, .inl rfl, fun k => ha k.1⟩⟩
theorem add_h (first : Bool) (n : Ns) (w : List (List UInt8)) (hi : n.last = none → n.init = []) (hn : n.len ≤ 100000) (hr : (lastR n.last).length ≤ 100000) (h0 : 0 < w.length) (hl : w.length ≤ 100000) (hw : ∀ v ∈ w, v.length ≤ 100000) :
    HoldsG cx 72 [.ptr 1 0 0, .p (strs w), .p (.bool first)] (n.heap 2 3) fun e H' => addQ (stepN first n w) e H' := by
  refine holdsN_of_vc Tryz.func72 rfl rfl rfl ?_
  have hw0 := hw _ (getD_memL [] h0)
  refine ⟨((n.len : Nat) : Int) - 1, wrap_i64 (by omega) (by omega), ?_⟩
  cases first
  rotate_left
  · (first | refine brLt (fun h1 => ?_) (fun h1 => ?_) | refine brLe (fun h1 => ?_) (fun h1 => ?_) | refine brEq (fun h1 => ?_) (fun h1 => ?_))
    · have h1 : ((w.map PV.str).length : Int) = 2 := h1
      rw [List.length_map] at h1
      have hw1 := hw _ (getD_memL [] (show 1 < w.length by omega))
      have hN := number_c (w.getD 1 []) (by omega)
      refine ⟨_, ⟨by omega, .str (w.getD 1 []), tcell (by omega), rfl⟩, ?_⟩
      by_cases hn1 : numB (w.getD 1 []) = true
      · rw [numV, if_pos hn1, hn1] at hN
        refine hN.eq rfl ?_
        refine ⟨_, ⟨by omega, .str (w.getD 0 []), tcell h0, rfl⟩, ?_⟩
        (first | refine brLt (fun h3 => ?_) (fun h3 => ?_) | refine brLe (fun h3 => ?_) (fun h3 => ?_) | refine brEq (fun h3 => ?_) (fun h3 => ?_))
        · have h3 : w.getD 0 [] = kNet := h3
          refine ⟨[], [(4, 2), (5, 3)], [], .returned (.p (.bool true)), Ns.heap { n with g := valN (w.getD 1 []) } 4 5, rfl, ⟨_, rfl, rfl⟩, ⟨⟨_, rfl, rfl, rfl, rfl⟩, ⟨_, rfl, rfl, rfl, _, rfl, seeLL_self n 3 5 rfl⟩, ⟨_, rfl, rfl, rfl, _, rfl, by (repeat' first | exact trivial | exact rfl | exact ⟨rfl, rfl⟩ | exact .inl rfl | refine ⟨_, rfl, rfl, rfl, ?_⟩ | refine ⟨_, _, rfl, ?_, ?_⟩ | refine ⟨_, rfl, ?_⟩ | refine And.intro ?_ ?_)⟩, ⟨_, rfl, rfl, rfl, _, rfl, by (repeat' first | exact trivial | exact rfl | exact ⟨rfl, rfl⟩ | exact .inl rfl | refine ⟨_, rfl, rfl, rfl, ?_⟩ | refine ⟨_, _, rfl, ?_, ?_⟩ | refine ⟨_, rfl, ?_⟩ | refine And.intro ?_ ?_)⟩, trivial⟩, ?_⟩
          rw [show stepN _ n w = some { n with g := valN (w.getD 1 []) } by rw [stepN, if_pos rfl, if_pos ⟨by omega, hn1, h3⟩]]
          exact ⟨rfl, rfl⟩
        · have h3 : ¬ w.getD 0 [] = kNet := h3
          exact ⟨[], [], [], .returned (.p (.bool false)), ⟨4, [(0, znO)]⟩, rfl, ⟨_, rfl, rfl⟩, ⟨⟨_, rfl, rfl, rfl, _, rfl, by (repeat' first | exact trivial | exact rfl | exact ⟨rfl, rfl⟩ | exact .inl rfl | refine ⟨_, rfl, rfl, rfl, ?_⟩ | refine ⟨_, _, rfl, ?_, ?_⟩ | refine ⟨_, rfl, ?_⟩ | refine And.intro ?_ ?_)⟩, trivial⟩, by rw [show stepN _ n w = none from (by rw [stepN, if_pos rfl, if_neg (by rintro ⟨-, -, h⟩; exact h3 h)])]; exact ⟨rfl, rfl⟩⟩
      · have hn1' := Bool.eq_false_iff.2 hn1
        rw [numV, if_neg hn1, hn1'] at hN
        refine hN.eq rfl ?_
        exact ⟨[], [], [], .returned (.p (.bool false)), ⟨4, [(0, znO)]⟩, rfl, ⟨_, rfl, rfl⟩, ⟨⟨_, rfl, rfl, rfl, _, rfl, by (repeat' first | exact trivial | exact rfl | exact ⟨rfl, rfl⟩ | exact .inl rfl | refine ⟨_, rfl, rfl, rfl, ?_⟩ | refine ⟨_, _, rfl, ?_, ?_⟩ | refine ⟨_, rfl, ?_⟩ | refine And.intro ?_ ?_)⟩, trivial⟩, by rw [show stepN _ n w = none from (by rw [stepN, if_pos rfl, if_neg (by rintro ⟨-, h, -⟩; exact hn1 h)])]; exact ⟨rfl, rfl⟩⟩
    · have h1 : ¬ ((w.map PV.str).length : Int) = 2 := h1
      rw [List.length_map] at h1
      exact ⟨[], [], [], .returned (.p (.bool false)), ⟨4, [(0, znO)]⟩, rfl, ⟨_, rfl, rfl⟩, ⟨⟨_, rfl, rfl, rfl, _, rfl, by (repeat' first | exact trivial | exact rfl | exact ⟨rfl, rfl⟩ | exact .inl rfl | refine ⟨_, rfl, rfl, rfl, ?_⟩ | refine ⟨_, _, rfl, ?_, ?_⟩ | refine ⟨_, rfl, ?_⟩ | refine And.intro ?_ ?_)⟩, trivial⟩, by rw [show stepN _ n w = none from (by rw [stepN, if_pos rfl, if_neg (by rintro ⟨h, -, -⟩; omega)])]; exact ⟨rfl, rfl⟩⟩
  refine ⟨_, ⟨by omega, .str (w.getD 0 []), tcell h0, rfl⟩, ?_⟩
  (first | refine brLt (fun h2 => ?_) (fun h2 => ?_) | refine brLe (fun h2 => ?_) (fun h2 => ?_) | refine brEq (fun h2 => ?_) (fun h2 => ?_))
  · have h2 : w.getD 0 [] = kNode := h2
    (first | refine brLt (fun h4 => ?_) (fun h4 => ?_) | refine brLe (fun h4 => ?_) (fun h4 => ?_) | refine brEq (fun h4 => ?_) (fun h4 => ?_))
    · have h4 : (2 : Int) ≤ ((w.map PV.str).length : Nat) := h4
      rw [List.length_map] at h4
      have hw1 := hw _ (getD_memL [] (show 1 < w.length by omega))
      have hN := number_c (w.getD 1 []) (by omega)
      refine ⟨_, ⟨by omega, .str (w.getD 1 []), tcell (by omega), rfl⟩, ?_⟩
      have hrows := rows_len' n 3
      by_cases hn1 : numB (w.getD 1 []) = true
      · rw [numV, if_pos hn1, hn1] at hN
        refine hN.eq rfl ?_
        have hlen : ∀ x, Ns.len ⟨n.g, n.init ++ n.last.toList, some x⟩ = n.len + 1 := fun x => by
          obtain ⟨g, i, l⟩ := n
          cases l <;> simp [Ns.len]
        (first | refine brLt (fun h5 => ?_) (fun h5 => ?_) | refine brLe (fun h5 => ?_) (fun h5 => ?_) | refine brEq (fun h5 => ?_) (fun h5 => ?_))
        · have h5 : (2 : Int) < ((w.map PV.str).length : Nat) := h5
          rw [List.length_map] at h5
          obtain ⟨P, b, hA, hb⟩ := all_x (w.drop 3) (by rw [List.length_drop]; omega) (fun v hv => by have := hw v (List.mem_of_mem_drop hv); omega)
          refine ⟨by show (0 : Int) ≤ 3 ∧ (3 : Int) ≤ ((w.map PV.str).length : Nat); rw [List.length_map]; omega, ?_⟩
          rcases hb with ⟨rfl, b1, b2, rfl⟩ | ⟨rfl, hP, b1⟩
          · refine hA.eq (by show [AV.p (PV.lst ((w.map PV.str).drop 3))] = [AV.p (PV.lst ((w.drop 3).map PV.str))]; rw [List.map_drop]) ?_
            rw [List.length_drop] at b2
            refine ⟨_, ⟨by omega, .str (w.getD 2 []), tcell (by omega), rfl⟩, ?_⟩
            (first | refine brLt (fun h8 => ?_) (fun h8 => ?_) | refine brLe (fun h8 => ?_) (fun h8 => ?_) | refine brEq (fun h8 => ?_) (fun h8 => ?_))
            · have h8 : w.getD 2 [] = kFrom := h8
              have hS : stepN false n w = some ⟨n.g, n.init ++ n.last.toList, some ⟨valN (w.getD 1 []), (w.drop 3).map valN, []⟩⟩ := by
                rw [stepN, if_neg (by decide), if_pos h2, if_pos ⟨by omega, hn1⟩, if_neg (by omega), if_pos ⟨b1, by omega, h8⟩]
              have hlen := hlen ⟨valN (w.getD 1 []), (w.drop 3).map valN, []⟩
              refine VDraw.seq rfl ?_
              refine ⟨by (repeat' first | exact trivial | exact rfl | exact ⟨rfl, rfl⟩ | exact .inl rfl | refine ⟨_, rfl, rfl, rfl, ?_⟩ | refine ⟨_, _, rfl, ?_, ?_⟩ | refine ⟨_, rfl, ?_⟩ | refine And.intro ?_ ?_), ?_⟩
              refine ⟨by show 0 + 1 ≤ 1; omega, [[i64 (valN (w.getD 1 [])), (ints ((w.drop 3).map valN)), .nils]], rfl, ?_⟩
              refine ⟨by show 0 + n.len ≤ (n.rows 3).length; omega, n.rows 3, takeAll hrows, by show (n.len + 1) * 56 ≤ 140737488355328; omega, n.rows 3 ++ mapsP [[i64 (valN (w.getD 1 [])), (ints ((w.drop 3).map valN)), .nils]], rfl, ?_⟩
              refine ⟨[3], [(4, 6)], [(5, 1)], .returned (.p (.bool true)), Ns.heap ⟨n.g, n.init ++ n.last.toList, some ⟨(valN (w.getD 1 [])), ((w.drop 3).map valN), []⟩⟩ 4 5, rfl, ⟨_, rfl, rfl⟩, ⟨⟨rfl, rfl, rfl⟩, ⟨_, rfl, rfl, rfl, _, rfl, ?_⟩, ⟨_, rfl, rfl, rfl, _, rfl, ⟨_, _, rfl, rfl, _, _, rfl, ?_, rfl⟩⟩, ⟨_, rfl, rfl, rfl, _, rfl, by (repeat' first | exact trivial | exact rfl | exact ⟨rfl, rfl⟩ | exact .inl rfl | refine ⟨_, rfl, rfl, rfl, ?_⟩ | refine ⟨_, _, rfl, ?_, ?_⟩ | refine ⟨_, rfl, ?_⟩ | refine And.intro ?_ ?_)⟩, trivial⟩, ?_⟩
              · refine seeLL_app (rows_freeze n 3 rfl) ⟨_, _, rfl, ⟨_, _, rfl, rfl, _, _, rfl, rfl, _, _, rfl, ⟨rfl, rfl, rfl, rfl⟩, rfl⟩, rfl⟩
              · refine congrArg (fun m => AV.sl 6 3 0 m) ?_
                exact hlen.symm
              · rw [show stepN _ n w = some ⟨n.g, n.init ++ n.last.toList, some ⟨(valN (w.getD 1 [])), ((w.drop 3).map valN), []⟩⟩ from hS]
                exact ⟨rfl, rfl⟩
            · have h8 : ¬ w.getD 2 [] = kFrom := h8
              refine VDraw.seq rfl ?_
              refine ⟨by (repeat' first | exact trivial | exact rfl | exact ⟨rfl, rfl⟩ | exact .inl rfl | refine ⟨_, rfl, rfl, rfl, ?_⟩ | refine ⟨_, _, rfl, ?_, ?_⟩ | refine ⟨_, rfl, ?_⟩ | refine And.intro ?_ ?_), ?_⟩
              refine ⟨by show 0 + 1 ≤ 1; omega, [[i64 (valN (w.getD 1 [])), (ints ((w.drop 3).map valN)), .nils]], rfl, ?_⟩
              refine ⟨by show 0 + n.len ≤ (n.rows 3).length; omega, n.rows 3, takeAll hrows, by show (n.len + 1) * 56 ≤ 140737488355328; omega, n.rows 3 ++ mapsP [[i64 (valN (w.getD 1 [])), (ints ((w.drop 3).map valN)), .nils]], rfl, ?_⟩
              exact ⟨[], [], [], .returned (.p (.bool false)), ⟨4, [(0, znO)]⟩, rfl, ⟨_, rfl, rfl⟩, ⟨⟨_, rfl, rfl, rfl, _, rfl, by (repeat' first | exact trivial | exact rfl | exact ⟨rfl, rfl⟩ | exact .inl rfl | refine ⟨_, rfl, rfl, rfl, ?_⟩ | refine ⟨_, _, rfl, ?_, ?_⟩ | refine ⟨_, rfl, ?_⟩ | refine And.intro ?_ ?_)⟩, trivial⟩, by rw [show stepN _ n w = none from (by rw [stepN, if_neg (by decide), if_pos h2, if_pos ⟨by omega, hn1⟩, if_neg (by omega), if_neg (fun k => h8 k.2.2)])]; exact ⟨rfl, rfl⟩⟩
          · rcases hP with rfl | rfl
            · refine hA.eq (by show [AV.p (PV.lst ((w.map PV.str).drop 3))] = [AV.p (PV.lst ((w.drop 3).map PV.str))]; rw [List.map_drop]) ?_
              refine VDraw.seq rfl ?_
              refine ⟨by (repeat' first | exact trivial | exact rfl | exact ⟨rfl, rfl⟩ | exact .inl rfl | refine ⟨_, rfl, rfl, rfl, ?_⟩ | refine ⟨_, _, rfl, ?_, ?_⟩ | refine ⟨_, rfl, ?_⟩ | refine And.intro ?_ ?_), ?_⟩
              refine ⟨by show 0 + 1 ≤ 1; omega, [[i64 (valN (w.getD 1 [])), .nils, .nils]], rfl, ?_⟩
              refine ⟨by show 0 + n.len ≤ (n.rows 3).length; omega, n.rows 3, takeAll hrows, by show (n.len + 1) * 56 ≤ 140737488355328; omega, n.rows 3 ++ mapsP [[i64 (valN (w.getD 1 [])), .nils, .nils]], rfl, ?_⟩
              exact ⟨[], [], [], .returned (.p (.bool false)), ⟨4, [(0, znO)]⟩, rfl, ⟨_, rfl, rfl⟩, ⟨⟨_, rfl, rfl, rfl, _, rfl, by (repeat' first | exact trivial | exact rfl | exact ⟨rfl, rfl⟩ | exact .inl rfl | refine ⟨_, rfl, rfl, rfl, ?_⟩ | refine ⟨_, _, rfl, ?_, ?_⟩ | refine ⟨_, rfl, ?_⟩ | refine And.intro ?_ ?_)⟩, trivial⟩, by rw [show stepN _ n w = none from (by rw [stepN, if_neg (by decide), if_pos h2, if_pos ⟨by omega, hn1⟩, if_neg (by omega), if_neg (fun k => b1 ⟨k.1, by rw [List.length_drop]; omega⟩)])]; exact ⟨rfl, rfl⟩⟩
            refine hA.eq (by show [AV.p (PV.lst ((w.map PV.str).drop 3))] = [AV.p (PV.lst ((w.drop 3).map PV.str))]; rw [List.map_drop]) ?_
            refine VDraw.seq rfl ?_
            refine ⟨by (repeat' first | exact trivial | exact rfl | exact ⟨rfl, rfl⟩ | exact .inl rfl | refine ⟨_, rfl, rfl, rfl, ?_⟩ | refine ⟨_, _, rfl, ?_, ?_⟩ | refine ⟨_, rfl, ?_⟩ | refine And.intro ?_ ?_), ?_⟩
            refine ⟨by show 0 + 1 ≤ 1; omega, [[i64 (valN (w.getD 1 [])), (ints ((w.drop 3).map valN)), .nils]], rfl, ?_⟩
            refine ⟨by show 0 + n.len ≤ (n.rows 3).length; omega, n.rows 3, takeAll hrows, by show (n.len + 1) * 56 ≤ 140737488355328; omega, n.rows 3 ++ mapsP [[i64 (valN (w.getD 1 [])), (ints ((w.drop 3).map valN)), .nils]], rfl, ?_⟩
            exact ⟨[], [], [], .returned (.p (.bool false)), ⟨4, [(0, znO)]⟩, rfl, ⟨_, rfl, rfl⟩, ⟨⟨_, rfl, rfl, rfl, _, rfl, by (repeat' first | exact trivial | exact rfl | exact ⟨rfl, rfl⟩ | exact .inl rfl | refine ⟨_, rfl, rfl, rfl, ?_⟩ | refine ⟨_, _, rfl, ?_, ?_⟩ | refine ⟨_, rfl, ?_⟩ | refine And.intro ?_ ?_)⟩, trivial⟩, by rw [show stepN _ n w = none from (by rw [stepN, if_neg (by decide), if_pos h2, if_pos ⟨by omega, hn1⟩, if_neg (by omega), if_neg (fun k => b1 ⟨k.1, by rw [List.length_drop]; omega⟩)])]; exact ⟨rfl, rfl⟩⟩
        · have h5 : ¬ (2 : Int) < ((w.map PV.str).length : Nat) := h5
          rw [List.length_map] at h5
          have hS : stepN false n w = some ⟨n.g, n.init ++ n.last.toList, some ⟨valN (w.getD 1 []), [], []⟩⟩ := by
            rw [stepN, if_neg (by decide), if_pos h2, if_pos ⟨by omega, hn1⟩, if_pos (by omega)]
          have hlen := hlen ⟨valN (w.getD 1 []), [], []⟩
          refine VDraw.seq rfl ?_
          refine ⟨by (repeat' first | exact trivial | exact rfl | exact ⟨rfl, rfl⟩ | exact .inl rfl | refine ⟨_, rfl, rfl, rfl, ?_⟩ | refine ⟨_, _, rfl, ?_, ?_⟩ | refine ⟨_, rfl, ?_⟩ | refine And.intro ?_ ?_), ?_⟩
          refine ⟨by show 0 + 1 ≤ 1; omega, [[i64 (valN (w.getD 1 [])), .nils, .nils]], rfl, ?_⟩
          refine ⟨by show 0 + n.len ≤ (n.rows 3).length; omega, n.rows 3, takeAll hrows, by show (n.len + 1) * 56 ≤ 140737488355328; omega, n.rows 3 ++ mapsP [[i64 (valN (w.getD 1 [])), .nils, .nils]], rfl, ?_⟩
          refine ⟨[3], [(4, 6)], [(5, 1)], .returned (.p (.bool true)), Ns.heap ⟨n.g, n.init ++ n.last.toList, some ⟨(valN (w.getD 1 [])), [], []⟩⟩ 4 5, rfl, ⟨_, rfl, rfl⟩, ⟨⟨rfl, rfl, rfl⟩, ⟨_, rfl, rfl, rfl, _, rfl, ?_⟩, ⟨_, rfl, rfl, rfl, _, rfl, ⟨_, _, rfl, rfl, _, _, rfl, ?_, rfl⟩⟩, ⟨_, rfl, rfl, rfl, _, rfl, by (repeat' first | exact trivial | exact rfl | exact ⟨rfl, rfl⟩ | exact .inl rfl | refine ⟨_, rfl, rfl, rfl, ?_⟩ | refine ⟨_, _, rfl, ?_, ?_⟩ | refine ⟨_, rfl, ?_⟩ | refine And.intro ?_ ?_)⟩, trivial⟩, ?_⟩
          · refine seeLL_app (rows_freeze n 3 rfl) ⟨_, _, rfl, ⟨_, _, rfl, rfl, _, _, rfl, (.inr (.inl rfl)), _, _, rfl, ⟨rfl, rfl, rfl, rfl⟩, rfl⟩, rfl⟩
          · refine congrArg (fun m => AV.sl 6 3 0 m) ?_
            exact hlen.symm
          · rw [show stepN _ n w = some ⟨n.g, n.init ++ n.last.toList, some ⟨(valN (w.getD 1 [])), [], []⟩⟩ from hS]
            exact ⟨rfl, rfl⟩
      · have hn1' := Bool.eq_false_iff.2 hn1
        rw [numV, if_neg hn1, hn1'] at hN
        refine hN.eq rfl ?_
        have hno : stepN false n w = none := by rw [stepN, if_neg (by decide), if_pos h2, if_neg (by rintro ⟨-, h⟩; exact hn1 h)]
        (first | refine brLt (fun h5 => ?_) (fun h5 => ?_) | refine brLe (fun h5 => ?_) (fun h5 => ?_) | refine brEq (fun h5 => ?_) (fun h5 => ?_))
        · have h5 : (2 : Int) < ((w.map PV.str).length : Nat) := h5
          rw [List.length_map] at h5
          obtain ⟨P, b, hA, hb⟩ := all_x (w.drop 3) (by rw [List.length_drop]; omega) (fun v hv => by have := hw v (List.mem_of_mem_drop hv); omega)
          refine ⟨by show (0 : Int) ≤ 3 ∧ (3 : Int) ≤ ((w.map PV.str).length : Nat); rw [List.length_map]; omega, ?_⟩
          have hP : P = .nils ∨ P = ints ((w.drop 3).map valN) := by
            rcases hb with ⟨_, _, _, h⟩ | ⟨_, h, _⟩
            · exact .inr h
            · exact h
          rcases hP with rfl | rfl
          · refine hA.eq (by show [AV.p (PV.lst ((w.map PV.str).drop 3))] = [AV.p (PV.lst ((w.drop 3).map PV.str))]; rw [List.map_drop]) ?_
            refine VDraw.seq rfl ?_
            refine ⟨by (repeat' first | exact trivial | exact rfl | exact ⟨rfl, rfl⟩ | exact .inl rfl | refine ⟨_, rfl, rfl, rfl, ?_⟩ | refine ⟨_, _, rfl, ?_, ?_⟩ | refine ⟨_, rfl, ?_⟩ | refine And.intro ?_ ?_), ?_⟩
            refine ⟨by show 0 + 1 ≤ 1; omega, [[i64 0, .nils, .nils]], rfl, ?_⟩
            refine ⟨by show 0 + n.len ≤ (n.rows 3).length; omega, n.rows 3, takeAll hrows, by show (n.len + 1) * 56 ≤ 140737488355328; omega, n.rows 3 ++ mapsP [[i64 0, .nils, .nils]], rfl, ?_⟩
            exact ⟨[], [], [], .returned (.p (.bool false)), ⟨4, [(0, znO)]⟩, rfl, ⟨_, rfl, rfl⟩, ⟨⟨_, rfl, rfl, rfl, _, rfl, by (repeat' first | exact trivial | exact rfl | exact ⟨rfl, rfl⟩ | exact .inl rfl | refine ⟨_, rfl, rfl, rfl, ?_⟩ | refine ⟨_, _, rfl, ?_, ?_⟩ | refine ⟨_, rfl, ?_⟩ | refine And.intro ?_ ?_)⟩, trivial⟩, by rw [show stepN _ n w = none from hno]; exact ⟨rfl, rfl⟩⟩
          · refine hA.eq (by show [AV.p (PV.lst ((w.map PV.str).drop 3))] = [AV.p (PV.lst ((w.drop 3).map PV.str))]; rw [List.map_drop]) ?_
            refine VDraw.seq rfl ?_
            refine ⟨by (repeat' first | exact trivial | exact rfl | exact ⟨rfl, rfl⟩ | exact .inl rfl | refine ⟨_, rfl, rfl, rfl, ?_⟩ | refine ⟨_, _, rfl, ?_, ?_⟩ | refine ⟨_, rfl, ?_⟩ | refine And.intro ?_ ?_), ?_⟩
            refine ⟨by show 0 + 1 ≤ 1; omega, [[i64 0, (ints ((w.drop 3).map valN)), .nils]], rfl, ?_⟩
            refine ⟨by show 0 + n.len ≤ (n.rows 3).length; omega, n.rows 3, takeAll hrows, by show (n.len + 1) * 56 ≤ 140737488355328; omega, n.rows 3 ++ mapsP [[i64 0, (ints ((w.drop 3).map valN)), .nils]], rfl, ?_⟩
            exact ⟨[], [], [], .returned (.p (.bool false)), ⟨4, [(0, znO)]⟩, rfl, ⟨_, rfl, rfl⟩, ⟨⟨_, rfl, rfl, rfl, _, rfl, by (repeat' first | exact trivial | exact rfl | exact ⟨rfl, rfl⟩ | exact .inl rfl | refine ⟨_, rfl, rfl, rfl, ?_⟩ | refine ⟨_, _, rfl, ?_, ?_⟩ | refine ⟨_, rfl, ?_⟩ | refine And.intro ?_ ?_)⟩, trivial⟩, by rw [show stepN _ n w = none from hno]; exact ⟨rfl, rfl⟩⟩
        · refine VDraw.seq rfl ?_
          refine ⟨by (repeat' first | exact trivial | exact rfl | exact ⟨rfl, rfl⟩ | exact .inl rfl | refine ⟨_, rfl, rfl, rfl, ?_⟩ | refine ⟨_, _, rfl, ?_, ?_⟩ | refine ⟨_, rfl, ?_⟩ | refine And.intro ?_ ?_), ?_⟩
          refine ⟨by show 0 + 1 ≤ 1; omega, [[i64 0, .nils, .nils]], rfl, ?_⟩
          refine ⟨by show 0 + n.len ≤ (n.rows 3).length; omega, n.rows 3, takeAll hrows, by show (n.len + 1) * 56 ≤ 140737488355328; omega, n.rows 3 ++ mapsP [[i64 0, .nils, .nils]], rfl, ?_⟩
          exact ⟨[], [], [], .returned (.p (.bool false)), ⟨4, [(0, znO)]⟩, rfl, ⟨_, rfl, rfl⟩, ⟨⟨_, rfl, rfl, rfl, _, rfl, by (repeat' first | exact trivial | exact rfl | exact ⟨rfl, rfl⟩ | exact .inl rfl | refine ⟨_, rfl, rfl, rfl, ?_⟩ | refine ⟨_, _, rfl, ?_, ?_⟩ | refine ⟨_, rfl, ?_⟩ | refine And.intro ?_ ?_)⟩, trivial⟩, by rw [show stepN _ n w = none from hno]; exact ⟨rfl, rfl⟩⟩
    · have h4 : ¬ (2 : Int) ≤ ((w.map PV.str).length : Nat) := h4
      rw [List.length_map] at h4
      have h6 : ¬ w.getD 0 [] = kRow := by rw [h2]; decide
      refine ⟨_, ⟨by omega, .str (w.getD 0 []), tcell h0, rfl⟩, ?_⟩
      (first | refine brLt (fun h7 => ?_) (fun h7 => ?_) | refine brLe (fun h7 => ?_) (fun h7 => ?_) | refine brEq (fun h7 => ?_) (fun h7 => ?_))
      · exact absurd h7 h6
      exact ⟨[], [], [], .returned (.p (.bool false)), ⟨4, [(0, znO)]⟩, rfl, ⟨_, rfl, rfl⟩, ⟨⟨_, rfl, rfl, rfl, _, rfl, by (repeat' first | exact trivial | exact rfl | exact ⟨rfl, rfl⟩ | exact .inl rfl | refine ⟨_, rfl, rfl, rfl, ?_⟩ | refine ⟨_, _, rfl, ?_, ?_⟩ | refine ⟨_, rfl, ?_⟩ | refine And.intro ?_ ?_)⟩, trivial⟩, by rw [show stepN _ n w = none from (by rw [stepN, if_neg (by decide), if_pos h2, if_neg (by rintro ⟨h, -⟩; omega)])]; exact ⟨rfl, rfl⟩⟩
  · have h2 : ¬ w.getD 0 [] = kNode := h2
    refine ⟨_, ⟨by omega, .str (w.getD 0 []), tcell h0, rfl⟩, ?_⟩
    (first | refine brLt (fun h7 => ?_) (fun h7 => ?_) | refine brLe (fun h7 => ?_) (fun h7 => ?_) | refine brEq (fun h7 => ?_) (fun h7 => ?_))
    rotate_left
    · have h7 : ¬ w.getD 0 [] = kRow := h7
      exact ⟨[], [], [], .returned (.p (.bool false)), ⟨4, [(0, znO)]⟩, rfl, ⟨_, rfl, rfl⟩, ⟨⟨_, rfl, rfl, rfl, _, rfl, by (repeat' first | exact trivial | exact rfl | exact ⟨rfl, rfl⟩ | exact .inl rfl | refine ⟨_, rfl, rfl, rfl, ?_⟩ | refine ⟨_, _, rfl, ?_, ?_⟩ | refine ⟨_, rfl, ?_⟩ | refine And.intro ?_ ?_)⟩, trivial⟩, by rw [show stepN _ n w = none from (by rw [stepN, if_neg (by decide), if_neg h2, if_neg h7])]; exact ⟨rfl, rfl⟩⟩
    have h7 : w.getD 0 [] = kRow := h7
    (first | refine brLt (fun h9 => ?_) (fun h9 => ?_) | refine brLe (fun h9 => ?_) (fun h9 => ?_) | refine brEq (fun h9 => ?_) (fun h9 => ?_))
    rotate_left
    · have h9 : ¬ (0 : Int) ≤ ((n.len : Nat) : Int) - 1 := h9
      have hl0 : n.last = none := by
        obtain ⟨g, i, l⟩ := n
        cases l with
        | none => rfl
        | some x => simp only [Ns.len] at h9; omega
      exact ⟨[], [], [], .returned (.p (.bool false)), ⟨4, [(0, znO)]⟩, rfl, ⟨_, rfl, rfl⟩, ⟨⟨_, rfl, rfl, rfl, _, rfl, by (repeat' first | exact trivial | exact rfl | exact ⟨rfl, rfl⟩ | exact .inl rfl | refine ⟨_, rfl, rfl, rfl, ?_⟩ | refine ⟨_, _, rfl, ?_, ?_⟩ | refine ⟨_, rfl, ?_⟩ | refine And.intro ?_ ?_)⟩, trivial⟩, by rw [show stepN _ n w = none from (by rw [stepN, if_neg (by decide), if_neg h2, if_pos h7, hl0])]; exact ⟨rfl, rfl⟩⟩
    have h9 : (0 : Int) ≤ ((n.len : Nat) : Int) - 1 := h9
    obtain ⟨x, hx⟩ : ∃ x, n.last = some x := by
      obtain ⟨g, i, l⟩ := n
      cases l with
      | none =>
        have := hi rfl
        simp only [] at this
        subst this
        simp only [Ns.len, List.length_nil] at h9
        omega
      | some x => exact ⟨x, rfl⟩
    have hlx : n.len = n.init.length + 1 := by rw [Ns.len, hx]
    have hrl : lastR n.last = x.rows := by rw [hx]; rfl
    rw [hrl] at hr
    obtain ⟨P, b, hA, hb⟩ := all_x (w.drop 1) (by rw [List.length_drop]; omega) (fun v hv => by have := hw v (List.mem_of_mem_drop hv); omega)
    refine ⟨by show (0 : Int) ≤ 1 ∧ (1 : Int) ≤ ((w.map PV.str).length : Nat); rw [List.length_map]; omega, ?_⟩
    have hk : (((n.len : Nat) : Int) - 1).toNat = n.init.length := by omega
    have hX : (n.rows 3)[0 + (((n.len : Nat) : Int) - 1).toNat]? = some [.p (i64 x.card), .p (ints x.parents), .sl 3 1 0 x.rows.length] := by rw [Nat.zero_add, hk]; exact rows_at n 3 hx
    have hno : ¬ (allB (w.drop 1) = true ∧ 0 < (w.drop 1).length) → stepN false n w = none := fun h => by
      rw [stepN, if_neg (by decide), if_neg h2, if_pos h7, hx]
      exact if_neg (fun k => h ⟨k.1, by rw [List.length_drop]; omega⟩)
    rcases hb with ⟨rfl, b1, b2, rfl⟩ | ⟨rfl, hP, b1⟩
    · have hS : stepN false n w = some ⟨n.g, n.init, some { x with rows := x.rows ++ [(w.drop 1).map valN] }⟩ := by
        rw [stepN, if_neg (by decide), if_neg h2, if_pos h7, hx]
        exact if_pos ⟨b1, by rw [List.length_drop] at b2; omega⟩
      refine hA.eq (by show [AV.p (PV.lst ((w.map PV.str).drop 1))] = [AV.p (PV.lst ((w.drop 1).map PV.str))]; rw [List.map_drop]) ?_
      refine VDraw.seq rfl ?_
      refine ⟨by show (0 : Int) ≤ ((n.len : Nat) : Int) - 1 ∧ ((n.len : Nat) : Int) - 1 < (n.len : Nat); omega, ?_⟩
      refine ⟨_, ⟨_, hX, rfl⟩, ?_⟩
      refine ⟨by (repeat' first | exact trivial | exact ⟨_, hX, rfl⟩ | exact rfl | refine And.intro ?_ ?_), ?_⟩
      refine ⟨by show 0 + 1 ≤ 1; omega, [(ints ((w.drop 1).map valN))], rfl, ?_⟩
      refine ⟨by show 0 + x.rows.length ≤ ((lastR n.last).map ints).length; rw [hrl]; simp, x.rows.map ints, by show x.rows.map ints = (((lastR n.last).map ints).drop 0).take x.rows.length; rw [hrl]; exact takeAll (by simp), by show (x.rows.length + 1) * 24 ≤ 140737488355328; omega, x.rows.map ints ++ [(ints ((w.drop 1).map valN))], rfl, ?_⟩
      refine ⟨by (repeat' first | exact trivial | exact ⟨_, hX, rfl⟩ | exact rfl | refine And.intro ?_ ?_), ?_⟩
      refine ⟨by show (0 : Int) ≤ ((n.len : Nat) : Int) - 1 ∧ ((n.len : Nat) : Int) - 1 < (n.len : Nat); omega, ?_⟩
      refine ⟨_, hX, by show 2 + 1 ≤ 3; omega, ?_⟩
      refine ⟨[], [(4, 2), (5, 5)], [], .returned (.p (.bool true)), Ns.heap ⟨n.g, n.init, some { x with rows := x.rows ++ [(w.drop 1).map valN] }⟩ 4 5, rfl, ⟨_, rfl, rfl⟩, ⟨⟨_, rfl, rfl, rfl, ?_⟩, ⟨_, rfl, rfl, rfl, _, rfl, ?_⟩, ⟨_, rfl, rfl, rfl, _, rfl, ⟨_, _, rfl, rfl, _, _, rfl, congrArg (fun m => AV.sl 2 3 0 m) hlx, rfl⟩⟩, ⟨_, rfl, rfl, rfl, _, rfl, by (repeat' first | exact trivial | exact rfl | exact ⟨rfl, rfl⟩ | exact .inl rfl | refine ⟨_, rfl, rfl, rfl, ?_⟩ | refine ⟨_, _, rfl, ?_, ?_⟩ | refine ⟨_, rfl, ?_⟩ | refine And.intro ?_ ?_)⟩, trivial⟩, ?_⟩
      · show x.rows.map ints ++ [ints ((w.drop 1).map valN)] = (x.rows ++ [(w.drop 1).map valN]).map ints
        rw [List.map_append]; rfl
      · show SeeLL _ _ _ ((n.rows 3).set (0 + (((n.len : Nat) : Int) - 1).toNat) _) _
        rw [Nat.zero_add, hk, rows_put n 3 hx]
        refine seeLL_app (seeLL_p _) ⟨_, _, rfl, ⟨_, _, rfl, rfl, _, _, rfl, rfl, _, _, rfl, ?_, rfl⟩, rfl⟩
        exact congrArg (fun m => AV.sl 5 1 0 m) (snoc_len x.rows _).symm
      · rw [show stepN _ n w = _ from hS]
        exact ⟨rfl, rfl⟩
    · rcases hP with rfl | rfl
      · refine hA.eq (by show [AV.p (PV.lst ((w.map PV.str).drop 1))] = [AV.p (PV.lst ((w.drop 1).map PV.str))]; rw [List.map_drop]) ?_
        refine VDraw.seq rfl ?_
        refine ⟨by show (0 : Int) ≤ ((n.len : Nat) : Int) - 1 ∧ ((n.len : Nat) : Int) - 1 < (n.len : Nat); omega, ?_⟩
        refine ⟨_, ⟨_, hX, rfl⟩, ?_⟩
        refine ⟨by (repeat' first | exact trivial | exact ⟨_, hX, rfl⟩ | exact rfl | refine And.intro ?_ ?_), ?_⟩
        refine ⟨by show 0 + 1 ≤ 1; omega, [.nils], rfl, ?_⟩
        refine ⟨by show 0 + x.rows.length ≤ ((lastR n.last).map ints).length; rw [hrl]; simp, x.rows.map ints, by show x.rows.map ints = (((lastR n.last).map ints).drop 0).take x.rows.length; rw [hrl]; exact takeAll (by simp), by show (x.rows.length + 1) * 24 ≤ 140737488355328; omega, x.rows.map ints ++ [.nils], rfl, ?_⟩
        refine ⟨by (repeat' first | exact trivial | exact ⟨_, hX, rfl⟩ | exact rfl | refine And.intro ?_ ?_), ?_⟩
        refine ⟨by show (0 : Int) ≤ ((n.len : Nat) : Int) - 1 ∧ ((n.len : Nat) : Int) - 1 < (n.len : Nat); omega, ?_⟩
        refine ⟨_, hX, by show 2 + 1 ≤ 3; omega, ?_⟩
        exact ⟨[], [], [], .returned (.p (.bool false)), ⟨4, [(0, znO)]⟩, rfl, ⟨_, rfl, rfl⟩, ⟨⟨_, rfl, rfl, rfl, _, rfl, by (repeat' first | exact trivial | exact rfl | exact ⟨rfl, rfl⟩ | exact .inl rfl | refine ⟨_, rfl, rfl, rfl, ?_⟩ | refine ⟨_, _, rfl, ?_, ?_⟩ | refine ⟨_, rfl, ?_⟩ | refine And.intro ?_ ?_)⟩, trivial⟩, by rw [show stepN _ n w = none from (hno b1)]; exact ⟨rfl, rfl⟩⟩
      · refine hA.eq (by show [AV.p (PV.lst ((w.map PV.str).drop 1))] = [AV.p (PV.lst ((w.drop 1).map PV.str))]; rw [List.map_drop]) ?_
        refine VDraw.seq rfl ?_
        refine ⟨by show (0 : Int) ≤ ((n.len : Nat) : Int) - 1 ∧ ((n.len : Nat) : Int) - 1 < (n.len : Nat); omega, ?_⟩
        refine ⟨_, ⟨_, hX, rfl⟩, ?_⟩
        refine ⟨by (repeat' first | exact trivial | exact ⟨_, hX, rfl⟩ | exact rfl | refine And.intro ?_ ?_), ?_⟩
        refine ⟨by show 0 + 1 ≤ 1; omega, [(ints ((w.drop 1).map valN))], rfl, ?_⟩
        refine ⟨by show 0 + x.rows.length ≤ ((lastR n.last).map ints).length; rw [hrl]; simp, x.rows.map ints, by show x.rows.map ints = (((lastR n.last).map ints).drop 0).take x.rows.length; rw [hrl]; exact takeAll (by simp), by show (x.rows.length + 1) * 24 ≤ 140737488355328; omega, x.rows.map ints ++ [(ints ((w.drop 1).map valN))], rfl, ?_⟩
        refine ⟨by (repeat' first | exact trivial | exact ⟨_, hX, rfl⟩ | exact rfl | refine And.intro ?_ ?_), ?_⟩
        refine ⟨by show (0 : Int) ≤ ((n.len : Nat) : Int) - 1 ∧ ((n.len : Nat) : Int) - 1 < (n.len : Nat); omega, ?_⟩
        refine ⟨_, hX, by show 2 + 1 ≤ 3; omega, ?_⟩
        exact ⟨[], [], [], .returned (.p (.bool false)), ⟨4, [(0, znO)]⟩, rfl, ⟨_, rfl, rfl⟩, ⟨⟨_, rfl, rfl, rfl, _, rfl, by (repeat' first | exact trivial | exact rfl | exact ⟨rfl, rfl⟩ | exact .inl rfl | refine ⟨_, rfl, rfl, rfl, ?_⟩ | refine ⟨_, _, rfl, ?_, ?_⟩ | refine ⟨_, rfl, ?_⟩ | refine And.intro ?_ ?_)⟩, trivial⟩, by rw [show stepN _ n w = none from (hno b1)]; exact ⟨rfl, rfl⟩⟩
end Go.Proofs.YtphmmoloegjocaaGreatDoor

/- The reference's ReadLines. -/
namespace Go.Proofs.YtphmmoloegjocaaGreatDoor
open Go Y
set_option maxRecDepth 100000
set_option maxHeartbeats 40000000

theorem end3 {Q : PEnd → Prop} {v1 v2 v3 : AV} {H' : Hp} (x1 x2 x3 : PV) (hm : marksOK H'.l (fsOf H'.l) = true) (h1 : Res (marks H'.l (fsOf H'.l)) 5 v1 x1) (h2 : Res (marks H'.l (fsOf H'.l)) 5 v2 x2) (h3 : Res (marks H'.l (fsOf H'.l)) 5 v3 x3) (hq : Q (.ret [x1, x2, x3])) : EndP Q (.returned (.tup [v1, v2, v3])) H' :=
  ⟨.ret [x1, x2, x3], ⟨hm, _, rfl, _, _, rfl, h1, _, _, rfl, h2, _, _, rfl, h3, rfl⟩, hq⟩

/-- Is a line passed over? -/
def passW (w : List (List UInt8)) : Bool := decide (w = []) || decide ((w.getD 0 []).getD 0 0 = 59)
def runL : Bool → Ns → Nat → List (List UInt8) → Sum Nat (Bool × Ns)
  | first, n, _, [] => .inr (first, n)
  | first, n, i, l :: r => if passW (wordsN l) = true then runL first n (i + 1) r else match stepN first n (wordsN l) with
    | none => .inl (i + 1)
    | some n' => runL false n' (i + 1) r
abbrev znV : PV := .agg [i64 0, .nils]
def ns0 : Ns := ⟨0, [], none⟩
noncomputable def readLV (t : List UInt8) : List PV :=
  if 40000 < t.length then [znV, i64 0, i64 3] else match runL true ns0 0 (linesN t) with
  | .inl k => [znV, i64 (k : Nat), i64 5]
  | .inr (true, _) => [znV, i64 0, i64 5]
  | .inr (false, n) => if validP n.net then [n.net.pv, i64 0, i64 0] else [znV, i64 0, i64 50]

structure OkNs (n : Ns) (i : Nat) : Prop where
  no : n.last = none → n.init = []
  len : n.len ≤ i
  par : ∀ x ∈ n.init ++ n.last.toList, x.parents.length ≤ 100000 ∧ x.rows.length ≤ i ∧ ∀ r ∈ x.rows, r.length ≤ 100000
theorem ns_len (n : Ns) : (n.init ++ n.last.toList).length = n.len := by
  obtain ⟨g, i, l⟩ := n
  cases l <;> simp [Ns.len]
theorem OkNs.mono {n : Ns} {i j : Nat} (h : OkNs n i) (hij : i ≤ j) : OkNs n j :=
  ⟨h.no, by have := h.len; omega, fun x hx => ⟨(h.par x hx).1, by have := (h.par x hx).2.1; omega, (h.par x hx).2.2⟩⟩
theorem OkNs.big {n : Ns} {i : Nat} (h : OkNs n i) (hi : i ≤ 100000) : BigN n.net :=
  ⟨by have := h.len; show (n.init ++ n.last.toList).length ≤ _; rw [ns_len]; omega, fun x hx => by have := (h.par x hx).1; omega, fun x hx => by have := (h.par x hx).2.1; omega, fun x hx r hr => by have := (h.par x hx).2.2 r hr; omega⟩
theorem OkNs.last {n : Ns} {i : Nat} (h : OkNs n i) : (lastR n.last).length ≤ i := by
  cases e : n.last with
  | none => simp [lastR]
  | some x => exact (h.par x (by rw [e]; simp)).2.1
theorem step_ok {first : Bool} {n n' : Ns} {w : List (List UInt8)} {i : Nat} (h : OkNs n i) (hw : w.length ≤ 100000) (hs : stepN first n w = some n') : OkNs n' (i + 1) := by
  have hm := h.mono (Nat.le_succ i)
  have push : ∀ (c : Int) (ps : List Int), ps.length ≤ 100000 → OkNs ⟨n.g, n.init ++ n.last.toList, some ⟨c, ps, []⟩⟩ (i + 1) := fun c ps hps => by
    refine ⟨fun h => by simp at h, ?_, fun x hx => ?_⟩
    · show (n.init ++ n.last.toList).length + 1 ≤ i + 1
      rw [ns_len]; have := h.len; omega
    · rcases List.mem_append.1 hx with hx | hx
      · exact hm.par x hx
      · simp only [Option.toList, List.mem_singleton] at hx
        subst hx
        exact ⟨hps, by simp, by simp⟩
  rw [stepN] at hs
  split at hs
  · split at hs
    · cases hs; exact ⟨hm.no, hm.len, hm.par⟩
    · cases hs
  · split at hs
    · split at hs
      · split at hs
        · cases hs; exact push _ _ (by simp)
        · split at hs
          · cases hs; exact push _ _ (by rw [List.length_map, List.length_drop]; omega)
          · cases hs
      · cases hs
    · split at hs
      · split at hs
        · cases hs
        · rename_i x hx
          split at hs
          · cases hs
            refine ⟨fun h => by simp at h, ?_, fun y hy => ?_⟩
            · have := h.len
              rw [Ns.len, hx] at this
              show n.init.length + 1 ≤ i + 1
              simp only [] at this; omega
            · rcases List.mem_append.1 hy with hy | hy
              · exact hm.par y (List.mem_append.2 (.inl hy))
              · simp only [Option.toList, List.mem_singleton] at hy
                subst hy
                obtain ⟨h1, h2, h3⟩ := h.par x (by rw [hx]; simp)
                refine ⟨h1, by simp only [snoc_len]; omega, fun r hr => ?_⟩
                rcases List.mem_append.1 hr with hr | hr
                · exact h3 r hr
                · simp only [List.mem_singleton] at hr
                  subst hr
                  rw [List.length_map, List.length_drop]; omega
          · cases hs
      · cases hs

theorem resLL_app {f : AV → PV → Prop} : ∀ {a c : List (List AV)} {b d : List (List PV)}, ResLL f a b → ResLL f c d → ResLL f (a ++ c) (b ++ d)
  | [], c, b, d, h, k => by simp only [ResLL] at h; subst h; exact k
  | v :: a, c, b, d, h, k => by
    simp only [ResLL] at h
    obtain ⟨z, zs, rfl, h1, h2⟩ := h
    exact ⟨z, zs ++ d, rfl, h1, resLL_app h2 k⟩
theorem resLL_nd {L : List (Nat × AObj)} {d : Nat} : ∀ l : List Nd, ResLL (Res L (d + 1)) (mapsP (l.map Nd.cells)) (l.map Nd.cells)
  | [] => rfl
  | x :: xss => ⟨_, _, rfl, ⟨_, _, rfl, rfl, _, _, rfl, rfl, _, _, rfl, rfl, rfl⟩, resLL_nd xss⟩
theorem rows_done {L : List (Nat × AObj)} {d : Nat} (n : Ns) (r : Nat) (h : lget L r = some { rO (lastR n.last) with fr := true }) : ResLL (Res L (d + 1)) (((n.rows r).drop 0).take n.len) ((n.init ++ n.last.toList).map Nd.cells) := by
  rw [List.drop_zero, List.take_of_length_le (by rw [rows_len']; omega), List.map_append, Ns.rows]
  refine resLL_app (resLL_nd _) ?_
  obtain ⟨g, i, l⟩ := n
  cases l with
  | none => rfl
  | some x =>
    refine ⟨_, _, rfl, ⟨_, _, rfl, rfl, _, _, rfl, rfl, _, _, rfl, ?_, rfl⟩, rfl⟩
    show Res L (d + 1) (.sl r 1 0 x.rows.length) (.lst (x.rows.map ints))
    simp only [Res]
    rw [h]
    exact ⟨_, rfl, by show 0 + x.rows.length ≤ (x.rows.map ints).length; simp, takeAll (by simp)⟩
theorem words_ok (l : List UInt8) (hl : l.length ≤ 50000) : (wordsN l).length ≤ 100000 ∧ ∀ v ∈ wordsN l, v.length ≤ 100000 ∧ v ≠ [] := by
  have := words_count l []
  simp only [if_true] at this
  refine ⟨by rw [wordsN]; omega, fun v hv => ?_⟩
  obtain ⟨h1, h2⟩ := words_mem hv
  simp only [List.length_nil] at h1
  exact ⟨by omega, h2⟩

theorem readLines_c (t : List UInt8) (ht : t.length ≤ 50000) : Pure cx 50 [.str t] (· = .ret (readLV t)) := by
  refine pure_of_vc Tryz.func50 rfl rfl rfl ?_
  (first | refine brLt (fun h1 => ?_) (fun h1 => ?_) | refine brLe (fun h1 => ?_) (fun h1 => ?_) | refine brEq (fun h1 => ?_) (fun h1 => ?_))
  · have h1 : (40000 : Int) < (t.length : Nat) := h1
    exact end3 znV (i64 0) (i64 3) rfl rfl rfl rfl (by rw [readLV, if_pos (by omega)])
  have h1 : ¬ (40000 : Int) < (t.length : Nat) := h1
  have hl := lines_count t []
  simp only [if_true] at hl
  have hm : ∀ l ∈ linesN t, l.length ≤ 50000 := fun l h => by
    have := lines_mem h
    simp only [List.length_nil] at this; omega
  refine (lines_c41 t (by omega)).eq rfl ?_
  obtain ⟨ls, hls⟩ : ∃ ls, ls = linesN t := ⟨_, rfl⟩
  have hl : ls.length ≤ t.length := by rw [hls]; exact hl
  rw [← hls] at hm
  rw [← hls]
  have hV : readLV t = match runL true ns0 0 ls with
      | .inl k => [znV, i64 (k : Nat), i64 5]
      | .inr (true, _) => [znV, i64 0, i64 5]
      | .inr (false, n) => if validP n.net then [n.net.pv, i64 0, i64 0] else [znV, i64 0, i64 50] := by
    rw [readLV, if_neg (by omega), hls]
  refine ⟨Nat × Bool × Ns, fun x => [(2, .ptr 0 0 0), (5, .p (strs ls)), (6, .ptr 1 0 0), (7, .p (.bool x.2.1)), (8, .p (i64 x.1))], fun x => x.2.2.heap 2 3,
    fun x => x.1 ≤ ls.length ∧ OkNs x.2.2 x.1 ∧ runL x.2.1 x.2.2 x.1 (ls.drop x.1) = runL true ns0 0 ls, fun x => ls.length - x.1, ?_, ?_⟩
  · refine ⟨(0, true, ns0), ⟨by simp, ⟨fun _ => rfl, by simp [ns0, Ns.len], fun x hx => by simp [ns0] at hx⟩, rfl⟩, ent_of [] [] [(2, 3), (3, 1)] rfl (by (repeat' first | exact trivial | exact rfl | exact ⟨rfl, rfl⟩ | exact .inl rfl | refine ⟨_, rfl, rfl, rfl, ?_⟩ | refine ⟨_, _, rfl, ?_, ?_⟩ | refine ⟨_, rfl, ?_⟩ | refine And.intro ?_ ?_)) (by (repeat' first | exact trivial | exact rfl | exact ⟨rfl, rfl⟩ | exact .inl rfl | refine ⟨_, rfl, rfl, rfl, ?_⟩ | refine ⟨_, _, rfl, ?_, ?_⟩ | refine ⟨_, rfl, ?_⟩ | refine And.intro ?_ ?_)) rfl⟩
  rintro ⟨k, first, n⟩ ⟨g1, g2, g3⟩
  simp only [] at g1 g2 g3
  cases first
  · (first | refine brLt (fun h2 => ?_) (fun h2 => ?_) | refine brLe (fun h2 => ?_) (fun h2 => ?_) | refine brEq (fun h2 => ?_) (fun h2 => ?_))
    · have h2 : (k : Int) < ((ls.map PV.str).length : Nat) := h2
      rw [List.length_map] at h2
      have hk : k < ls.length := by omega
      obtain ⟨l, hl'⟩ : ∃ l, l = ls.getD k [] := ⟨_, rfl⟩
      have hll : l.length ≤ 50000 := by rw [hl']; exact hm _ (getD_memL [] hk)
      have hdr : ls.drop k = l :: ls.drop (k + 1) := by rw [hl']; exact drop_cons [] hk
      refine ⟨_, ⟨by omega, .str l, by rw [hl']; exact tcell hk, rfl⟩, ?_⟩
      refine (words_c l (by omega)).eq rfl ?_
      obtain ⟨w1, w2⟩ := words_ok l hll
      obtain ⟨ws, hws⟩ : ∃ ws, ws = wordsN l := ⟨_, rfl⟩
      rw [← hws] at w1 w2
      rw [← hws]
      (first | refine brLt (fun h4 => ?_) (fun h4 => ?_) | refine brLe (fun h4 => ?_) (fun h4 => ?_) | refine brEq (fun h4 => ?_) (fun h4 => ?_))
      · have h4 : ((ws.map PV.str).length : Int) = 0 := h4
        rw [List.length_map] at h4
        have hnil : ws = [] := List.eq_nil_of_length_eq_zero (by omega)
        have hpass : passW (wordsN l) = true := by rw [← hws, passW, hnil]; rfl
        refine ⟨_, wrap_i64 (by omega) (by omega), ?_⟩
        refine ⟨(k + 1, false, n), ⟨by simp only []; omega, g2.mono (by omega), ?_⟩, ent_of [] [] [] rfl (by (repeat' first | exact trivial | exact rfl | exact ⟨rfl, rfl⟩ | exact .inl rfl | refine ⟨_, rfl, rfl, rfl, ?_⟩ | refine ⟨_, _, rfl, ?_, ?_⟩ | refine ⟨_, rfl, ?_⟩ | refine And.intro ?_ ?_)) ⟨⟨_, rfl, rfl, rfl, rfl⟩, ⟨_, rfl, rfl, rfl, _, rfl, seeLL_self n 3 3 rfl⟩, ⟨_, rfl, rfl, rfl, _, rfl, by (repeat' first | exact trivial | exact rfl | exact ⟨rfl, rfl⟩ | exact .inl rfl | refine ⟨_, rfl, rfl, rfl, ?_⟩ | refine ⟨_, _, rfl, ?_, ?_⟩ | refine ⟨_, rfl, ?_⟩ | refine And.intro ?_ ?_)⟩, ⟨_, rfl, rfl, rfl, _, rfl, by (repeat' first | exact trivial | exact rfl | exact ⟨rfl, rfl⟩ | exact .inl rfl | refine ⟨_, rfl, rfl, rfl, ?_⟩ | refine ⟨_, _, rfl, ?_, ?_⟩ | refine ⟨_, rfl, ?_⟩ | refine And.intro ?_ ?_)⟩, trivial⟩ rfl, by show ls.length - (k + 1) < ls.length - k; omega⟩
        simp only [] at g3 ⊢
        rw [← g3, hdr, runL, if_pos hpass]
      · have h4 : ¬ ((ws.map PV.str).length : Int) = 0 := h4
        rw [List.length_map] at h4
        have hpos : 0 < ws.length := by omega
        obtain ⟨_, hne⟩ := w2 _ (getD_memL [] hpos)
        have hp0 := List.length_pos_iff.2 hne
        have hnn : ¬ ws = [] := List.length_pos_iff.1 hpos
        refine ⟨_, ⟨by omega, .str (ws.getD 0 []), tcell hpos, rfl⟩, ?_⟩
        refine ⟨_, ⟨by omega, (ws.getD 0 []).getD 0 0, scan_at hp0, rfl⟩, ?_⟩
        (first | refine brLt (fun h5 => ?_) (fun h5 => ?_) | refine brLe (fun h5 => ?_) (fun h5 => ?_) | refine brEq (fun h5 => ?_) (fun h5 => ?_))
        · have h5 : (((ws.getD 0 []).getD 0 0).toNat : Int) = 59 := h5
          have h6 : (ws.getD 0 []).getD 0 0 = 59 := UInt8.toNat_inj.1 (by rw [show (59 : UInt8).toNat = 59 from rfl]; omega)
          have hpass : passW (wordsN l) = true := by rw [← hws, passW, decide_eq_true h6, Bool.or_true]
          refine ⟨_, wrap_i64 (by omega) (by omega), ?_⟩
          refine ⟨(k + 1, false, n), ⟨by simp only []; omega, g2.mono (by omega), ?_⟩, ent_of [] [] [] rfl (by (repeat' first | exact trivial | exact rfl | exact ⟨rfl, rfl⟩ | exact .inl rfl | refine ⟨_, rfl, rfl, rfl, ?_⟩ | refine ⟨_, _, rfl, ?_, ?_⟩ | refine ⟨_, rfl, ?_⟩ | refine And.intro ?_ ?_)) ⟨⟨_, rfl, rfl, rfl, rfl⟩, ⟨_, rfl, rfl, rfl, _, rfl, seeLL_self n 3 3 rfl⟩, ⟨_, rfl, rfl, rfl, _, rfl, by (repeat' first | exact trivial | exact rfl | exact ⟨rfl, rfl⟩ | exact .inl rfl | refine ⟨_, rfl, rfl, rfl, ?_⟩ | refine ⟨_, _, rfl, ?_, ?_⟩ | refine ⟨_, rfl, ?_⟩ | refine And.intro ?_ ?_)⟩, ⟨_, rfl, rfl, rfl, _, rfl, by (repeat' first | exact trivial | exact rfl | exact ⟨rfl, rfl⟩ | exact .inl rfl | refine ⟨_, rfl, rfl, rfl, ?_⟩ | refine ⟨_, _, rfl, ?_, ?_⟩ | refine ⟨_, rfl, ?_⟩ | refine And.intro ?_ ?_)⟩, trivial⟩ rfl, by show ls.length - (k + 1) < ls.length - k; omega⟩
          simp only [] at g3 ⊢
          rw [← g3, hdr, runL, if_pos hpass]
        · have h5 : ¬ (((ws.getD 0 []).getD 0 0).toNat : Int) = 59 := h5
          have h6 : ¬ (ws.getD 0 []).getD 0 0 = 59 := fun e => h5 (by rw [e]; rfl)
          have hpass : ¬ passW (wordsN l) = true := by rw [← hws, passW, decide_eq_false h6, decide_eq_false hnn]; decide
          have hlast := g2.last
          have hlen := g2.len
          have hadd := add_h false n ws g2.no (by omega) (by omega) hpos w1 (fun v hv => (w2 v hv).1)
          rw [hdr, runL, if_neg hpass, ← hws] at g3
          obtain ⟨S, hS⟩ : ∃ S, S = stepN false n ws := ⟨_, rfl⟩
          rw [← hS] at hadd g3
          cases S with
          | none =>
            simp only [] at g3
            rw [← g3] at hV
            refine hadd.holds.mono fun e H' hq => ?_
            obtain ⟨rfl, rfl⟩ := hq
            refine ⟨_, wrap_i64 (by omega) (by omega), ?_⟩
            exact end3 znV (i64 ((k + 1 : Nat) : Int)) (i64 5) rfl rfl rfl rfl (by rw [hV])
          | some n' =>
            simp only [] at g3
            refine hadd.holds.mono fun e H' hq => ?_
            obtain ⟨rfl, rfl⟩ := hq
            refine ⟨_, wrap_i64 (by omega) (by omega), ?_⟩
            exact ⟨(k + 1, false, n'), ⟨by simp only []; omega, step_ok g2 w1 hS.symm, g3⟩, ent_of [] [(3, 5), (2, 4)] [] rfl (by (repeat' first | exact trivial | exact rfl | exact ⟨rfl, rfl⟩ | exact .inl rfl | refine ⟨_, rfl, rfl, rfl, ?_⟩ | refine ⟨_, _, rfl, ?_, ?_⟩ | refine ⟨_, rfl, ?_⟩ | refine And.intro ?_ ?_)) ⟨⟨_, rfl, rfl, rfl, rfl⟩, ⟨_, rfl, rfl, rfl, _, rfl, seeLL_self n' 5 3 rfl⟩, ⟨_, rfl, rfl, rfl, _, rfl, by (repeat' first | exact trivial | exact rfl | exact ⟨rfl, rfl⟩ | exact .inl rfl | refine ⟨_, rfl, rfl, rfl, ?_⟩ | refine ⟨_, _, rfl, ?_, ?_⟩ | refine ⟨_, rfl, ?_⟩ | refine And.intro ?_ ?_)⟩, ⟨_, rfl, rfl, rfl, _, rfl, by (repeat' first | exact trivial | exact rfl | exact ⟨rfl, rfl⟩ | exact .inl rfl | refine ⟨_, rfl, rfl, rfl, ?_⟩ | refine ⟨_, _, rfl, ?_, ?_⟩ | refine ⟨_, rfl, ?_⟩ | refine And.intro ?_ ?_)⟩, trivial⟩ rfl, by show ls.length - (k + 1) < ls.length - k; omega⟩
    have h2 : ¬ (k : Int) < ((ls.map PV.str).length : Nat) := h2
    rw [List.length_map] at h2
    rw [show ls.drop k = [] from List.drop_eq_nil_of_le (by omega), runL] at g3
    rw [← g3] at hV
    simp only [] at hV
    have hR := right_c n.net (g2.big (by omega))
    have hlen := rows_len' n 3
    by_cases hv : validP n.net
    · rw [decide_eq_true hv] at hR
      rw [if_pos hv] at hV
      refine hR.uses [2, 3] rfl ⟨_, _, rfl, ⟨_, rfl, _, _, rfl, rfl, _, _, rfl, ⟨n.net.nodes.map Nd.cells, rfl, by show 0 + n.len ≤ (n.rows 3).length; omega, rows_done n 3 rfl⟩, rfl⟩, rfl⟩ ?_
      exact end3 n.net.pv (i64 0) (i64 0) rfl ⟨_, rfl, _, _, rfl, rfl, _, _, rfl, ⟨n.net.nodes.map Nd.cells, rfl, by show 0 + n.len ≤ (n.rows 3).length; omega, rows_done n 3 rfl⟩, rfl⟩ rfl rfl (by rw [hV])
    · rw [decide_eq_false hv] at hR
      rw [if_neg hv] at hV
      refine hR.uses [2, 3] rfl ⟨_, _, rfl, ⟨_, rfl, _, _, rfl, rfl, _, _, rfl, ⟨n.net.nodes.map Nd.cells, rfl, by show 0 + n.len ≤ (n.rows 3).length; omega, rows_done n 3 rfl⟩, rfl⟩, rfl⟩ ?_
      exact end3 znV (i64 0) (i64 50) rfl rfl rfl rfl (by rw [hV])
  · (first | refine brLt (fun h2 => ?_) (fun h2 => ?_) | refine brLe (fun h2 => ?_) (fun h2 => ?_) | refine brEq (fun h2 => ?_) (fun h2 => ?_))
    · have h2 : (k : Int) < ((ls.map PV.str).length : Nat) := h2
      rw [List.length_map] at h2
      have hk : k < ls.length := by omega
      obtain ⟨l, hl'⟩ : ∃ l, l = ls.getD k [] := ⟨_, rfl⟩
      have hll : l.length ≤ 50000 := by rw [hl']; exact hm _ (getD_memL [] hk)
      have hdr : ls.drop k = l :: ls.drop (k + 1) := by rw [hl']; exact drop_cons [] hk
      refine ⟨_, ⟨by omega, .str l, by rw [hl']; exact tcell hk, rfl⟩, ?_⟩
      refine (words_c l (by omega)).eq rfl ?_
      obtain ⟨w1, w2⟩ := words_ok l hll
      obtain ⟨ws, hws⟩ : ∃ ws, ws = wordsN l := ⟨_, rfl⟩
      rw [← hws] at w1 w2
      rw [← hws]
      (first | refine brLt (fun h4 => ?_) (fun h4 => ?_) | refine brLe (fun h4 => ?_) (fun h4 => ?_) | refine brEq (fun h4 => ?_) (fun h4 => ?_))
      · have h4 : ((ws.map PV.str).length : Int) = 0 := h4
        rw [List.length_map] at h4
        have hnil : ws = [] := List.eq_nil_of_length_eq_zero (by omega)
        have hpass : passW (wordsN l) = true := by rw [← hws, passW, hnil]; rfl
        refine ⟨_, wrap_i64 (by omega) (by omega), ?_⟩
        refine ⟨(k + 1, true, n), ⟨by simp only []; omega, g2.mono (by omega), ?_⟩, ent_of [] [] [] rfl (by (repeat' first | exact trivial | exact rfl | exact ⟨rfl, rfl⟩ | exact .inl rfl | refine ⟨_, rfl, rfl, rfl, ?_⟩ | refine ⟨_, _, rfl, ?_, ?_⟩ | refine ⟨_, rfl, ?_⟩ | refine And.intro ?_ ?_)) ⟨⟨_, rfl, rfl, rfl, rfl⟩, ⟨_, rfl, rfl, rfl, _, rfl, seeLL_self n 3 3 rfl⟩, ⟨_, rfl, rfl, rfl, _, rfl, by (repeat' first | exact trivial | exact rfl | exact ⟨rfl, rfl⟩ | exact .inl rfl | refine ⟨_, rfl, rfl, rfl, ?_⟩ | refine ⟨_, _, rfl, ?_, ?_⟩ | refine ⟨_, rfl, ?_⟩ | refine And.intro ?_ ?_)⟩, ⟨_, rfl, rfl, rfl, _, rfl, by (repeat' first | exact trivial | exact rfl | exact ⟨rfl, rfl⟩ | exact .inl rfl | refine ⟨_, rfl, rfl, rfl, ?_⟩ | refine ⟨_, _, rfl, ?_, ?_⟩ | refine ⟨_, rfl, ?_⟩ | refine And.intro ?_ ?_)⟩, trivial⟩ rfl, by show ls.length - (k + 1) < ls.length - k; omega⟩
        simp only [] at g3 ⊢
        rw [← g3, hdr, runL, if_pos hpass]
      · have h4 : ¬ ((ws.map PV.str).length : Int) = 0 := h4
        rw [List.length_map] at h4
        have hpos : 0 < ws.length := by omega
        obtain ⟨_, hne⟩ := w2 _ (getD_memL [] hpos)
        have hp0 := List.length_pos_iff.2 hne
        have hnn : ¬ ws = [] := List.length_pos_iff.1 hpos
        refine ⟨_, ⟨by omega, .str (ws.getD 0 []), tcell hpos, rfl⟩, ?_⟩
        refine ⟨_, ⟨by omega, (ws.getD 0 []).getD 0 0, scan_at hp0, rfl⟩, ?_⟩
        (first | refine brLt (fun h5 => ?_) (fun h5 => ?_) | refine brLe (fun h5 => ?_) (fun h5 => ?_) | refine brEq (fun h5 => ?_) (fun h5 => ?_))
        · have h5 : (((ws.getD 0 []).getD 0 0).toNat : Int) = 59 := h5
          have h6 : (ws.getD 0 []).getD 0 0 = 59 := UInt8.toNat_inj.1 (by rw [show (59 : UInt8).toNat = 59 from rfl]; omega)
          have hpass : passW (wordsN l) = true := by rw [← hws, passW, decide_eq_true h6, Bool.or_true]
          refine ⟨_, wrap_i64 (by omega) (by omega), ?_⟩
          refine ⟨(k + 1, true, n), ⟨by simp only []; omega, g2.mono (by omega), ?_⟩, ent_of [] [] [] rfl (by (repeat' first | exact trivial | exact rfl | exact ⟨rfl, rfl⟩ | exact .inl rfl | refine ⟨_, rfl, rfl, rfl, ?_⟩ | refine ⟨_, _, rfl, ?_, ?_⟩ | refine ⟨_, rfl, ?_⟩ | refine And.intro ?_ ?_)) ⟨⟨_, rfl, rfl, rfl, rfl⟩, ⟨_, rfl, rfl, rfl, _, rfl, seeLL_self n 3 3 rfl⟩, ⟨_, rfl, rfl, rfl, _, rfl, by (repeat' first | exact trivial | exact rfl | exact ⟨rfl, rfl⟩ | exact .inl rfl | refine ⟨_, rfl, rfl, rfl, ?_⟩ | refine ⟨_, _, rfl, ?_, ?_⟩ | refine ⟨_, rfl, ?_⟩ | refine And.intro ?_ ?_)⟩, ⟨_, rfl, rfl, rfl, _, rfl, by (repeat' first | exact trivial | exact rfl | exact ⟨rfl, rfl⟩ | exact .inl rfl | refine ⟨_, rfl, rfl, rfl, ?_⟩ | refine ⟨_, _, rfl, ?_, ?_⟩ | refine ⟨_, rfl, ?_⟩ | refine And.intro ?_ ?_)⟩, trivial⟩ rfl, by show ls.length - (k + 1) < ls.length - k; omega⟩
          simp only [] at g3 ⊢
          rw [← g3, hdr, runL, if_pos hpass]
        · have h5 : ¬ (((ws.getD 0 []).getD 0 0).toNat : Int) = 59 := h5
          have h6 : ¬ (ws.getD 0 []).getD 0 0 = 59 := fun e => h5 (by rw [e]; rfl)
          have hpass : ¬ passW (wordsN l) = true := by rw [← hws, passW, decide_eq_false h6, decide_eq_false hnn]; decide
          have hlast := g2.last
          have hlen := g2.len
          have hadd := add_h true n ws g2.no (by omega) (by omega) hpos w1 (fun v hv => (w2 v hv).1)
          rw [hdr, runL, if_neg hpass, ← hws] at g3
          obtain ⟨S, hS⟩ : ∃ S, S = stepN true n ws := ⟨_, rfl⟩
          rw [← hS] at hadd g3
          cases S with
          | none =>
            simp only [] at g3
            rw [← g3] at hV
            refine hadd.holds.mono fun e H' hq => ?_
            obtain ⟨rfl, rfl⟩ := hq
            refine ⟨_, wrap_i64 (by omega) (by omega), ?_⟩
            exact end3 znV (i64 ((k + 1 : Nat) : Int)) (i64 5) rfl rfl rfl rfl (by rw [hV])
          | some n' =>
            simp only [] at g3
            refine hadd.holds.mono fun e H' hq => ?_
            obtain ⟨rfl, rfl⟩ := hq
            refine ⟨_, wrap_i64 (by omega) (by omega), ?_⟩
            exact ⟨(k + 1, false, n'), ⟨by simp only []; omega, step_ok g2 w1 hS.symm, g3⟩, ent_of [] [(3, 5), (2, 4)] [] rfl (by (repeat' first | exact trivial | exact rfl | exact ⟨rfl, rfl⟩ | exact .inl rfl | refine ⟨_, rfl, rfl, rfl, ?_⟩ | refine ⟨_, _, rfl, ?_, ?_⟩ | refine ⟨_, rfl, ?_⟩ | refine And.intro ?_ ?_)) ⟨⟨_, rfl, rfl, rfl, rfl⟩, ⟨_, rfl, rfl, rfl, _, rfl, seeLL_self n' 5 3 rfl⟩, ⟨_, rfl, rfl, rfl, _, rfl, by (repeat' first | exact trivial | exact rfl | exact ⟨rfl, rfl⟩ | exact .inl rfl | refine ⟨_, rfl, rfl, rfl, ?_⟩ | refine ⟨_, _, rfl, ?_, ?_⟩ | refine ⟨_, rfl, ?_⟩ | refine And.intro ?_ ?_)⟩, ⟨_, rfl, rfl, rfl, _, rfl, by (repeat' first | exact trivial | exact rfl | exact ⟨rfl, rfl⟩ | exact .inl rfl | refine ⟨_, rfl, rfl, rfl, ?_⟩ | refine ⟨_, _, rfl, ?_, ?_⟩ | refine ⟨_, rfl, ?_⟩ | refine And.intro ?_ ?_)⟩, trivial⟩ rfl, by show ls.length - (k + 1) < ls.length - k; omega⟩
    have h2 : ¬ (k : Int) < ((ls.map PV.str).length : Nat) := h2
    rw [List.length_map] at h2
    rw [show ls.drop k = [] from List.drop_eq_nil_of_le (by omega), runL] at g3
    exact end3 znV (i64 0) (i64 5) rfl rfl rfl rfl (by rw [hV, ← g3])
end Go.Proofs.YtphmmoloegjocaaGreatDoor

/- Reading nested texts: words, what is read (plain). -/
namespace Go.Proofs.YtphmmoloegjocaaGreatDoor
open Go Y
set_option maxRecDepth 100000
set_option maxHeartbeats 40000000

/-- The place behind the octets from p on that satisfy f. -/
def scanF (f : UInt8 → Bool) (s : List UInt8) (p : Nat) : Nat := p + ((s.drop p).takeWhile f).length
theorem scan_step {f : UInt8 → Bool} {s : List UInt8} {p : Nat} (h : p < s.length) (hf : f (s.getD p 0) = true) : scanF f s (p + 1) = scanF f s p := by
  rw [scanF, scanF, drop_cons 0 h, List.takeWhile_cons, if_pos hf]
  simp only [List.length_cons]; omega
theorem scan_stop {f : UInt8 → Bool} {s : List UInt8} {p : Nat} (h : p < s.length) (hf : f (s.getD p 0) = false) : scanF f s p = p := by
  rw [scanF, drop_cons 0 h, List.takeWhile_cons, if_neg (by rw [hf]; decide)]; rfl
theorem scan_end {f : UInt8 → Bool} {s : List UInt8} {p : Nat} (h : s.length ≤ p) : scanF f s p = p := by
  rw [scanF, List.drop_eq_nil_of_le h]; rfl
theorem tw_len (f : UInt8 → Bool) : ∀ l : List UInt8, (l.takeWhile f).length ≤ l.length
  | [] => by simp
  | a :: l => by
    rw [List.takeWhile_cons]
    split
    · have := tw_len f l
      simp only [List.length_cons]; omega
    · simp
theorem scan_le {f : UInt8 → Bool} {s : List UInt8} {p : Nat} (h : p ≤ s.length) : p ≤ scanF f s p ∧ scanF f s p ≤ s.length := by
  have := tw_len f (s.drop p)
  rw [List.length_drop] at this
  rw [scanF]; omega
theorem tw_tail (f : UInt8 → Bool) : ∀ l : List UInt8, ((l.drop (l.takeWhile f).length).takeWhile f) = []
  | [] => rfl
  | a :: l => by
    rw [List.takeWhile_cons]
    split
    · rw [List.length_cons, List.drop_succ_cons]; exact tw_tail f l
    · rename_i h
      show (a :: l).takeWhile f = []
      rw [List.takeWhile_cons, if_neg h]
theorem scan_scan {f : UInt8 → Bool} {s : List UInt8} {p : Nat} : scanF f s (scanF f s p) = scanF f s p := by
  have h : (s.drop (scanF f s p)).takeWhile f = [] := by
    rw [scanF, ← List.drop_drop]; exact tw_tail f _
  rw [scanF, h]; rfl
/-- Behind the first octet of a run the run's end is the same. -/
def isBl (b : UInt8) : Bool := b.toNat == 32 || b.toNat == 10
def isWd (b : UInt8) : Bool := !(b.toNat == 32) && !(b.toNat == 10) && !(b.toNat == 40) && !(b.toNat == 41)
/-- The place of the next word; the place behind it; the word. -/
def nx (s : List UInt8) (p : Nat) : Nat := scanF isBl s p
def te (s : List UInt8) (p : Nat) : Nat := if scanF isWd s (nx s p) = nx s p ∧ nx s p < s.length then nx s p + 1 else scanF isWd s (nx s p)
def tok (s : List UInt8) (p : Nat) : List UInt8 := (s.drop (nx s p)).take (te s p - nx s p)
theorem nx_nx (s : List UInt8) (p : Nat) : nx s (nx s p) = nx s p := scan_scan
theorem te_nx (s : List UInt8) (p : Nat) : te s (nx s p) = te s p := by rw [te, nx_nx]; rfl
theorem tok_nx (s : List UInt8) (p : Nat) : tok s (nx s p) = tok s p := by rw [tok, te_nx, nx_nx]; rfl
theorem nx_le {s : List UInt8} {p : Nat} (h : p ≤ s.length) : p ≤ nx s p ∧ nx s p ≤ s.length := scan_le h
theorem te_le {s : List UInt8} {p : Nat} (h : p ≤ s.length) : nx s p ≤ te s p ∧ te s p ≤ s.length := by
  have h1 := scan_le (f := isWd) (nx_le h).2
  rw [te]
  split <;> omega
theorem tok_len {s : List UInt8} {p : Nat} (h : p ≤ s.length) : (tok s p).length = te s p - nx s p := by
  have := te_le h
  rw [tok, List.length_take, List.length_drop]; omega
theorem te_lt {s : List UInt8} {p : Nat} (h : p ≤ s.length) (h0 : tok s p ≠ []) : p < te s p := by
  have h1 := List.length_pos_iff.2 h0
  rw [tok_len h] at h1
  have := nx_le h
  omega

abbrev kOpen : List UInt8 := [40]
abbrev kClose : List UInt8 := [41]
/-- A reading: where it cannot go on, or what was read and the place behind it. -/
abbrev Rd (α : Type) := Sum Nat (α × Nat)
def mustP (s w : List UInt8) (p : Nat) : Rd Unit := if tok s p = w then .inr ((), te s p) else .inl (nx s p)
def numP (s : List UInt8) (p : Nat) : Rd Int := if numB (tok s p) = true then .inr (valN (tok s p), te s p) else .inl (nx s p)
def Rd.then {α β : Type} (r : Rd α) (k : α → Nat → Rd β) : Rd β := match r with
  | .inl e => .inl e
  | .inr (a, p) => k a p
/-- Numbers, to the parenthesis that closes them. -/
def numsP (s : List UInt8) : Nat → List Int → Nat → Rd (List Int)
  | 0, _, p => .inl p
  | f + 1, acc, p => if tok s p = kClose then .inr (acc, nx s p) else (numP s p).then fun v q => numsP s f (acc ++ [v]) q
def lstP (s : List UInt8) (F : Nat) (p : Nat) : Rd (List Int) := (mustP s kOpen p).then fun _ q => (numsP s F [] q).then fun l q => (mustP s kClose q).then fun _ q => .inr (l, q)
def rowRd (s : List UInt8) (F : Nat) (p : Nat) : Rd (List Int) := (mustP s kOpen p).then fun _ q => (numP s q).then fun v q => (numsP s F [v] q).then fun l q => (mustP s kClose q).then fun _ q => .inr (l, q)
def rowsP (s : List UInt8) (F : Nat) : Nat → List (List Int) → Nat → Rd (List (List Int))
  | 0, _, p => .inl p
  | f + 1, acc, p => if tok s p = kClose then .inr (acc, nx s p) else (rowRd s F p).then fun r q => rowsP s F f (acc ++ [r]) q
def nodeRd (s : List UInt8) (F : Nat) (p : Nat) : Rd Nd := (mustP s kOpen p).then fun _ q => (mustP s kNode q).then fun _ q => (numP s q).then fun c q => (lstP s F q).then fun ps q =>
  (rowsP s F F [] q).then fun rs q => (mustP s kClose q).then fun _ q => .inr (⟨c, ps, rs⟩, q)
def nodesP (s : List UInt8) (F : Nat) : Nat → List Nd → Nat → Rd (List Nd)
  | 0, _, p => .inl p
  | f + 1, acc, p => if tok s p = kClose then .inr (acc, nx s p) else (nodeRd s F p).then fun x q => nodesP s F f (acc ++ [x]) q
def netP (s : List UInt8) (F : Nat) : Rd Nt := (mustP s kOpen 0).then fun _ q => (mustP s kNet q).then fun _ q => (numP s q).then fun g q => (nodesP s F F [] q).then fun l q =>
  (mustP s kClose q).then fun _ q => if tok s q = [] then .inr (⟨g, l⟩, q) else .inl (nx s q)
noncomputable def readNV (s : List UInt8) : List PV :=
  if 40000 < s.length then [znV, i64 0, i64 3] else match netP s (s.length + 1) with
  | .inl e => [znV, i64 (e : Nat), i64 5]
  | .inr (n, _) => if validP n then [n.pv, i64 0, i64 0] else [znV, i64 0, i64 50]
theorem must_nx (s w : List UInt8) (p : Nat) : mustP s w (nx s p) = mustP s w p := by rw [mustP, tok_nx, te_nx, nx_nx]; rfl
theorem num_nx (s : List UInt8) (p : Nat) : numP s (nx s p) = numP s p := by rw [numP, tok_nx, te_nx, nx_nx]; rfl

def rdO (s : List UInt8) (p : Nat) (b : Bool) : AObj := ⟨125, false, .bx [.p (.str s), .p (i64 p), .p (.bool b)]⟩
abbrev rdH (s : List UInt8) (p : Nat) (b : Bool) : Hp := ⟨1, [(0, rdO s p b)]⟩

theorem tok_is {s : List UInt8} {p q k m : Nat} (hnp : nx s p = q) (hk : scanF isWd s q = k) (hm : m = if k = q ∧ q < s.length then q + 1 else k) : tok s p = (s.drop q).take (m - q) := by
  rw [tok, te, hnp, hk, ← hm]
theorem word_h (s : List UInt8) (p : Nat) (b : Bool) (hs : s.length ≤ 100000) (hp : p ≤ s.length) : HoldsG cx 75 [.ptr 0 0 0] (rdH s p b) fun e H' => e = .returned (.p (.str (tok s p))) ∧ H' = rdH s (nx s p) b := by
  refine holdsN_of_vc Tryz.func75 rfl rfl rfl ?_
  refine ⟨Nat, fun _ => [(0, .ptr 0 0 0)], fun q => rdH s q b, fun q => p ≤ q ∧ q ≤ s.length ∧ nx s q = nx s p, fun q => s.length - q, ?_, ?_⟩
  · exact ⟨p, ⟨Nat.le_refl _, hp, rfl⟩, ent_of [] [] [] rfl (by (repeat' first | exact trivial | exact rfl | exact ⟨rfl, rfl⟩ | exact .inl rfl | refine ⟨_, rfl, rfl, rfl, ?_⟩ | refine ⟨_, _, rfl, ?_, ?_⟩ | refine ⟨_, rfl, ?_⟩ | refine And.intro ?_ ?_)) (by (repeat' first | exact trivial | exact rfl | exact ⟨rfl, rfl⟩ | exact .inl rfl | refine ⟨_, rfl, rfl, rfl, ?_⟩ | refine ⟨_, _, rfl, ?_, ?_⟩ | refine ⟨_, rfl, ?_⟩ | refine And.intro ?_ ?_)) rfl⟩
  rintro q ⟨q1, q2, q3⟩
  have c2 : ∀ e : nx s q = q, ∀ k, q ≤ k → k ≤ s.length → True := fun _ _ _ _ => trivial
  refine VDraw.seq rfl ?_
  (first | refine brLt (fun h1 => ?_) (fun h1 => ?_) | refine brLe (fun h1 => ?_) (fun h1 => ?_) | refine brEq (fun h1 => ?_) (fun h1 => ?_))
  · have h1 : (q : Int) < (s.length : Nat) := h1
    have hq : q < s.length := by omega
    obtain ⟨c, hc⟩ : ∃ c, c = s.getD q 0 := ⟨_, rfl⟩
    refine ⟨_, ⟨by omega, c, by rw [hc]; exact scan_at hq, rfl⟩, ?_⟩
    (first | refine brLt (fun h2 => ?_) (fun h2 => ?_) | refine brLe (fun h2 => ?_) (fun h2 => ?_) | refine brEq (fun h2 => ?_) (fun h2 => ?_))
    · have h2 : (c.toNat : Int) = 32 := h2
      have hb : isBl (s.getD q 0) = true := by rw [← hc, isBl, show c.toNat = 32 by omega]; rfl
      have hn : nx s (q + 1) = nx s q := scan_step hq hb
      refine ⟨_, wrap_i64 (by omega) (by omega), ?_⟩
      exact ⟨q + 1, ⟨by omega, by omega, by rw [hn]; exact q3⟩, ent_of [] [] [] rfl (by (repeat' first | exact trivial | exact rfl | exact ⟨rfl, rfl⟩ | exact .inl rfl | refine ⟨_, rfl, rfl, rfl, ?_⟩ | refine ⟨_, _, rfl, ?_, ?_⟩ | refine ⟨_, rfl, ?_⟩ | refine And.intro ?_ ?_)) (by (repeat' first | exact trivial | exact rfl | exact ⟨rfl, rfl⟩ | exact .inl rfl | refine ⟨_, rfl, rfl, rfl, ?_⟩ | refine ⟨_, _, rfl, ?_, ?_⟩ | refine ⟨_, rfl, ?_⟩ | refine And.intro ?_ ?_)) rfl, by show s.length - (q + 1) < s.length - q; omega⟩
    · have h2 : ¬ (c.toNat : Int) = 32 := h2
      refine ⟨_, ⟨by omega, c, by rw [hc]; exact scan_at hq, rfl⟩, ?_⟩
      (first | refine brLt (fun h3 => ?_) (fun h3 => ?_) | refine brLe (fun h3 => ?_) (fun h3 => ?_) | refine brEq (fun h3 => ?_) (fun h3 => ?_))
      · have h3 : (c.toNat : Int) = 10 := h3
        have hb : isBl (s.getD q 0) = true := by rw [← hc, isBl, show c.toNat = 10 by omega]; rfl
        have hn : nx s (q + 1) = nx s q := scan_step hq hb
        refine ⟨_, wrap_i64 (by omega) (by omega), ?_⟩
        exact ⟨q + 1, ⟨by omega, by omega, by rw [hn]; exact q3⟩, ent_of [] [] [] rfl (by (repeat' first | exact trivial | exact rfl | exact ⟨rfl, rfl⟩ | exact .inl rfl | refine ⟨_, rfl, rfl, rfl, ?_⟩ | refine ⟨_, _, rfl, ?_, ?_⟩ | refine ⟨_, rfl, ?_⟩ | refine And.intro ?_ ?_)) (by (repeat' first | exact trivial | exact rfl | exact ⟨rfl, rfl⟩ | exact .inl rfl | refine ⟨_, rfl, rfl, rfl, ?_⟩ | refine ⟨_, _, rfl, ?_, ?_⟩ | refine ⟨_, rfl, ?_⟩ | refine And.intro ?_ ?_)) rfl, by show s.length - (q + 1) < s.length - q; omega⟩
      · have h3 : ¬ (c.toNat : Int) = 10 := h3
        have hn : nx s q = q := scan_stop hq (by rw [← hc, isBl, beq_false_of_ne (by omega), beq_false_of_ne (by omega)]; rfl)
        refine ⟨Nat, fun k => [(0, .ptr 0 0 0), (3, .p (i64 k))], fun _ => rdH s q b, fun k => q ≤ k ∧ k ≤ s.length ∧ scanF isWd s k = scanF isWd s q, fun k => s.length - k, ?_, ?_⟩
        · exact ⟨q, ⟨Nat.le_refl _, q2, rfl⟩, ent_of [] [] [] rfl (by (repeat' first | exact trivial | exact rfl | exact ⟨rfl, rfl⟩ | exact .inl rfl | refine ⟨_, rfl, rfl, rfl, ?_⟩ | refine ⟨_, _, rfl, ?_, ?_⟩ | refine ⟨_, rfl, ?_⟩ | refine And.intro ?_ ?_)) (by (repeat' first | exact trivial | exact rfl | exact ⟨rfl, rfl⟩ | exact .inl rfl | refine ⟨_, rfl, rfl, rfl, ?_⟩ | refine ⟨_, _, rfl, ?_, ?_⟩ | refine ⟨_, rfl, ?_⟩ | refine And.intro ?_ ?_)) rfl⟩
        rintro k ⟨k1, k2, k3⟩
        have hnp : nx s p = q := q3 ▸ hn
        (first | refine brLt (fun j1 => ?_) (fun j1 => ?_) | refine brLe (fun j1 => ?_) (fun j1 => ?_) | refine brEq (fun j1 => ?_) (fun j1 => ?_))
        · have j1 : (k : Int) < (s.length : Nat) := j1
          have hk : k < s.length := by omega
          obtain ⟨d, hd⟩ : ∃ d, d = s.getD k 0 := ⟨_, rfl⟩
          refine ⟨_, ⟨by omega, d, by rw [hd]; exact scan_at hk, rfl⟩, ?_⟩
          (first | refine brLt (fun j2 => ?_) (fun j2 => ?_) | refine brLe (fun j2 => ?_) (fun j2 => ?_) | refine brEq (fun j2 => ?_) (fun j2 => ?_))
          · have j2 : (d.toNat : Int) = 32 := j2
            have he : scanF isWd s k = k := scan_stop hk (by rw [← hd, isWd, show d.toNat = 32 by omega]; rfl)
            (first | refine brLt (fun t1 => ?_) (fun t1 => ?_) | refine brLe (fun t1 => ?_) (fun t1 => ?_) | refine brEq (fun t1 => ?_) (fun t1 => ?_))
            · have t1 : (k : Int) = (q : Nat) := t1
              (first | refine brLt (fun t2 => ?_) (fun t2 => ?_) | refine brLe (fun t2 => ?_) (fun t2 => ?_) | refine brEq (fun t2 => ?_) (fun t2 => ?_))
              · have t2 : (k : Int) < (s.length : Nat) := t2
                refine ⟨_, wrap_i64 (by omega) (by omega), ?_⟩
                refine VDraw.seq rfl ?_
                refine ⟨by show (0 : Int) ≤ (q : Nat) ∧ (q : Int) ≤ ((k : Int) + 1) ∧ ((k : Int) + 1) ≤ ((s.length : Nat) : Int); omega, ?_⟩
                refine ⟨[], [], [], .returned (.p (.str (tok s p))), rdH s (nx s p) b, rfl, ⟨_, rfl, ?_⟩, ⟨⟨_, rfl, rfl, rfl, _, rfl, _, _, rfl, rfl, _, _, rfl, congrArg (fun n : Nat => i64 n) hnp, _, _, rfl, rfl, rfl⟩, trivial⟩, rfl, rfl⟩
                show PV.str (tok s p) = PV.str ((s.drop ((q : Nat) : Int).toNat).take (((k : Int) + 1).toNat - ((q : Nat) : Int).toNat))
                rw [tok_is hnp (k3 ▸ he) rfl]
                refine congrArg (fun m => PV.str ((s.drop q).take m)) ?_
                split <;> omega
              · have t2 : ¬ (k : Int) < (s.length : Nat) := t2
                refine VDraw.seq rfl ?_
                refine ⟨by show (0 : Int) ≤ (q : Nat) ∧ (q : Int) ≤ ((k : Nat) : Int) ∧ ((k : Nat) : Int) ≤ ((s.length : Nat) : Int); omega, ?_⟩
                refine ⟨[], [], [], .returned (.p (.str (tok s p))), rdH s (nx s p) b, rfl, ⟨_, rfl, ?_⟩, ⟨⟨_, rfl, rfl, rfl, _, rfl, _, _, rfl, rfl, _, _, rfl, congrArg (fun n : Nat => i64 n) hnp, _, _, rfl, rfl, rfl⟩, trivial⟩, rfl, rfl⟩
                show PV.str (tok s p) = PV.str ((s.drop ((q : Nat) : Int).toNat).take (((k : Nat) : Int).toNat - ((q : Nat) : Int).toNat))
                rw [tok_is hnp (k3 ▸ he) rfl]
                refine congrArg (fun m => PV.str ((s.drop q).take m)) ?_
                split <;> omega
            · have t1 : ¬ (k : Int) = (q : Nat) := t1
              refine VDraw.seq rfl ?_
              refine ⟨by show (0 : Int) ≤ (q : Nat) ∧ (q : Int) ≤ ((k : Nat) : Int) ∧ ((k : Nat) : Int) ≤ ((s.length : Nat) : Int); omega, ?_⟩
              refine ⟨[], [], [], .returned (.p (.str (tok s p))), rdH s (nx s p) b, rfl, ⟨_, rfl, ?_⟩, ⟨⟨_, rfl, rfl, rfl, _, rfl, _, _, rfl, rfl, _, _, rfl, congrArg (fun n : Nat => i64 n) hnp, _, _, rfl, rfl, rfl⟩, trivial⟩, rfl, rfl⟩
              show PV.str (tok s p) = PV.str ((s.drop ((q : Nat) : Int).toNat).take (((k : Nat) : Int).toNat - ((q : Nat) : Int).toNat))
              rw [tok_is hnp (k3 ▸ he) rfl]
              refine congrArg (fun m => PV.str ((s.drop q).take m)) ?_
              split <;> omega
          have j2 : ¬ (d.toNat : Int) = 32 := j2
          refine ⟨_, ⟨by omega, d, by rw [hd]; exact scan_at hk, rfl⟩, ?_⟩
          (first | refine brLt (fun j3 => ?_) (fun j3 => ?_) | refine brLe (fun j3 => ?_) (fun j3 => ?_) | refine brEq (fun j3 => ?_) (fun j3 => ?_))
          · have j3 : (d.toNat : Int) = 10 := j3
            have he : scanF isWd s k = k := scan_stop hk (by rw [← hd, isWd, show d.toNat = 10 by omega]; rfl)
            (first | refine brLt (fun t1 => ?_) (fun t1 => ?_) | refine brLe (fun t1 => ?_) (fun t1 => ?_) | refine brEq (fun t1 => ?_) (fun t1 => ?_))
            · have t1 : (k : Int) = (q : Nat) := t1
              (first | refine brLt (fun t2 => ?_) (fun t2 => ?_) | refine brLe (fun t2 => ?_) (fun t2 => ?_) | refine brEq (fun t2 => ?_) (fun t2 => ?_))
              · have t2 : (k : Int) < (s.length : Nat) := t2
                refine ⟨_, wrap_i64 (by omega) (by omega), ?_⟩
                refine VDraw.seq rfl ?_
                refine ⟨by show (0 : Int) ≤ (q : Nat) ∧ (q : Int) ≤ ((k : Int) + 1) ∧ ((k : Int) + 1) ≤ ((s.length : Nat) : Int); omega, ?_⟩
                refine ⟨[], [], [], .returned (.p (.str (tok s p))), rdH s (nx s p) b, rfl, ⟨_, rfl, ?_⟩, ⟨⟨_, rfl, rfl, rfl, _, rfl, _, _, rfl, rfl, _, _, rfl, congrArg (fun n : Nat => i64 n) hnp, _, _, rfl, rfl, rfl⟩, trivial⟩, rfl, rfl⟩
                show PV.str (tok s p) = PV.str ((s.drop ((q : Nat) : Int).toNat).take (((k : Int) + 1).toNat - ((q : Nat) : Int).toNat))
                rw [tok_is hnp (k3 ▸ he) rfl]
                refine congrArg (fun m => PV.str ((s.drop q).take m)) ?_
                split <;> omega
              · have t2 : ¬ (k : Int) < (s.length : Nat) := t2
                refine VDraw.seq rfl ?_
                refine ⟨by show (0 : Int) ≤ (q : Nat) ∧ (q : Int) ≤ ((k : Nat) : Int) ∧ ((k : Nat) : Int) ≤ ((s.length : Nat) : Int); omega, ?_⟩
                refine ⟨[], [], [], .returned (.p (.str (tok s p))), rdH s (nx s p) b, rfl, ⟨_, rfl, ?_⟩, ⟨⟨_, rfl, rfl, rfl, _, rfl, _, _, rfl, rfl, _, _, rfl, congrArg (fun n : Nat => i64 n) hnp, _, _, rfl, rfl, rfl⟩, trivial⟩, rfl, rfl⟩
                show PV.str (tok s p) = PV.str ((s.drop ((q : Nat) : Int).toNat).take (((k : Nat) : Int).toNat - ((q : Nat) : Int).toNat))
                rw [tok_is hnp (k3 ▸ he) rfl]
                refine congrArg (fun m => PV.str ((s.drop q).take m)) ?_
                split <;> omega
            · have t1 : ¬ (k : Int) = (q : Nat) := t1
              refine VDraw.seq rfl ?_
              refine ⟨by show (0 : Int) ≤ (q : Nat) ∧ (q : Int) ≤ ((k : Nat) : Int) ∧ ((k : Nat) : Int) ≤ ((s.length : Nat) : Int); omega, ?_⟩
              refine ⟨[], [], [], .returned (.p (.str (tok s p))), rdH s (nx s p) b, rfl, ⟨_, rfl, ?_⟩, ⟨⟨_, rfl, rfl, rfl, _, rfl, _, _, rfl, rfl, _, _, rfl, congrArg (fun n : Nat => i64 n) hnp, _, _, rfl, rfl, rfl⟩, trivial⟩, rfl, rfl⟩
              show PV.str (tok s p) = PV.str ((s.drop ((q : Nat) : Int).toNat).take (((k : Nat) : Int).toNat - ((q : Nat) : Int).toNat))
              rw [tok_is hnp (k3 ▸ he) rfl]
              refine congrArg (fun m => PV.str ((s.drop q).take m)) ?_
              split <;> omega
          have j3 : ¬ (d.toNat : Int) = 10 := j3
          refine ⟨_, ⟨by omega, d, by rw [hd]; exact scan_at hk, rfl⟩, ?_⟩
          (first | refine brLt (fun j4 => ?_) (fun j4 => ?_) | refine brLe (fun j4 => ?_) (fun j4 => ?_) | refine brEq (fun j4 => ?_) (fun j4 => ?_))
          · have j4 : (d.toNat : Int) = 40 := j4
            have he : scanF isWd s k = k := scan_stop hk (by rw [← hd, isWd, show d.toNat = 40 by omega]; rfl)
            (first | refine brLt (fun t1 => ?_) (fun t1 => ?_) | refine brLe (fun t1 => ?_) (fun t1 => ?_) | refine brEq (fun t1 => ?_) (fun t1 => ?_))
            · have t1 : (k : Int) = (q : Nat) := t1
              (first | refine brLt (fun t2 => ?_) (fun t2 => ?_) | refine brLe (fun t2 => ?_) (fun t2 => ?_) | refine brEq (fun t2 => ?_) (fun t2 => ?_))
              · have t2 : (k : Int) < (s.length : Nat) := t2
                refine ⟨_, wrap_i64 (by omega) (by omega), ?_⟩
                refine VDraw.seq rfl ?_
                refine ⟨by show (0 : Int) ≤ (q : Nat) ∧ (q : Int) ≤ ((k : Int) + 1) ∧ ((k : Int) + 1) ≤ ((s.length : Nat) : Int); omega, ?_⟩
                refine ⟨[], [], [], .returned (.p (.str (tok s p))), rdH s (nx s p) b, rfl, ⟨_, rfl, ?_⟩, ⟨⟨_, rfl, rfl, rfl, _, rfl, _, _, rfl, rfl, _, _, rfl, congrArg (fun n : Nat => i64 n) hnp, _, _, rfl, rfl, rfl⟩, trivial⟩, rfl, rfl⟩
                show PV.str (tok s p) = PV.str ((s.drop ((q : Nat) : Int).toNat).take (((k : Int) + 1).toNat - ((q : Nat) : Int).toNat))
                rw [tok_is hnp (k3 ▸ he) rfl]
                refine congrArg (fun m => PV.str ((s.drop q).take m)) ?_
                split <;> omega
              · have t2 : ¬ (k : Int) < (s.length : Nat) := t2
                refine VDraw.seq rfl ?_
                refine ⟨by show (0 : Int) ≤ (q : Nat) ∧ (q : Int) ≤ ((k : Nat) : Int) ∧ ((k : Nat) : Int) ≤ ((s.length : Nat) : Int); omega, ?_⟩
                refine ⟨[], [], [], .returned (.p (.str (tok s p))), rdH s (nx s p) b, rfl, ⟨_, rfl, ?_⟩, ⟨⟨_, rfl, rfl, rfl, _, rfl, _, _, rfl, rfl, _, _, rfl, congrArg (fun n : Nat => i64 n) hnp, _, _, rfl, rfl, rfl⟩, trivial⟩, rfl, rfl⟩
                show PV.str (tok s p) = PV.str ((s.drop ((q : Nat) : Int).toNat).take (((k : Nat) : Int).toNat - ((q : Nat) : Int).toNat))
                rw [tok_is hnp (k3 ▸ he) rfl]
                refine congrArg (fun m => PV.str ((s.drop q).take m)) ?_
                split <;> omega
            · have t1 : ¬ (k : Int) = (q : Nat) := t1
              refine VDraw.seq rfl ?_
              refine ⟨by show (0 : Int) ≤ (q : Nat) ∧ (q : Int) ≤ ((k : Nat) : Int) ∧ ((k : Nat) : Int) ≤ ((s.length : Nat) : Int); omega, ?_⟩
              refine ⟨[], [], [], .returned (.p (.str (tok s p))), rdH s (nx s p) b, rfl, ⟨_, rfl, ?_⟩, ⟨⟨_, rfl, rfl, rfl, _, rfl, _, _, rfl, rfl, _, _, rfl, congrArg (fun n : Nat => i64 n) hnp, _, _, rfl, rfl, rfl⟩, trivial⟩, rfl, rfl⟩
              show PV.str (tok s p) = PV.str ((s.drop ((q : Nat) : Int).toNat).take (((k : Nat) : Int).toNat - ((q : Nat) : Int).toNat))
              rw [tok_is hnp (k3 ▸ he) rfl]
              refine congrArg (fun m => PV.str ((s.drop q).take m)) ?_
              split <;> omega
          have j4 : ¬ (d.toNat : Int) = 40 := j4
          refine ⟨_, ⟨by omega, d, by rw [hd]; exact scan_at hk, rfl⟩, ?_⟩
          (first | refine brLt (fun j5 => ?_) (fun j5 => ?_) | refine brLe (fun j5 => ?_) (fun j5 => ?_) | refine brEq (fun j5 => ?_) (fun j5 => ?_))
          · have j5 : (d.toNat : Int) = 41 := j5
            have he : scanF isWd s k = k := scan_stop hk (by rw [← hd, isWd, show d.toNat = 41 by omega]; rfl)
            (first | refine brLt (fun t1 => ?_) (fun t1 => ?_) | refine brLe (fun t1 => ?_) (fun t1 => ?_) | refine brEq (fun t1 => ?_) (fun t1 => ?_))
            · have t1 : (k : Int) = (q : Nat) := t1
              (first | refine brLt (fun t2 => ?_) (fun t2 => ?_) | refine brLe (fun t2 => ?_) (fun t2 => ?_) | refine brEq (fun t2 => ?_) (fun t2 => ?_))
              · have t2 : (k : Int) < (s.length : Nat) := t2
                refine ⟨_, wrap_i64 (by omega) (by omega), ?_⟩
                refine VDraw.seq rfl ?_
                refine ⟨by show (0 : Int) ≤ (q : Nat) ∧ (q : Int) ≤ ((k : Int) + 1) ∧ ((k : Int) + 1) ≤ ((s.length : Nat) : Int); omega, ?_⟩
                refine ⟨[], [], [], .returned (.p (.str (tok s p))), rdH s (nx s p) b, rfl, ⟨_, rfl, ?_⟩, ⟨⟨_, rfl, rfl, rfl, _, rfl, _, _, rfl, rfl, _, _, rfl, congrArg (fun n : Nat => i64 n) hnp, _, _, rfl, rfl, rfl⟩, trivial⟩, rfl, rfl⟩
                show PV.str (tok s p) = PV.str ((s.drop ((q : Nat) : Int).toNat).take (((k : Int) + 1).toNat - ((q : Nat) : Int).toNat))
                rw [tok_is hnp (k3 ▸ he) rfl]
                refine congrArg (fun m => PV.str ((s.drop q).take m)) ?_
                split <;> omega
              · have t2 : ¬ (k : Int) < (s.length : Nat) := t2
                refine VDraw.seq rfl ?_
                refine ⟨by show (0 : Int) ≤ (q : Nat) ∧ (q : Int) ≤ ((k : Nat) : Int) ∧ ((k : Nat) : Int) ≤ ((s.length : Nat) : Int); omega, ?_⟩
                refine ⟨[], [], [], .returned (.p (.str (tok s p))), rdH s (nx s p) b, rfl, ⟨_, rfl, ?_⟩, ⟨⟨_, rfl, rfl, rfl, _, rfl, _, _, rfl, rfl, _, _, rfl, congrArg (fun n : Nat => i64 n) hnp, _, _, rfl, rfl, rfl⟩, trivial⟩, rfl, rfl⟩
                show PV.str (tok s p) = PV.str ((s.drop ((q : Nat) : Int).toNat).take (((k : Nat) : Int).toNat - ((q : Nat) : Int).toNat))
                rw [tok_is hnp (k3 ▸ he) rfl]
                refine congrArg (fun m => PV.str ((s.drop q).take m)) ?_
                split <;> omega
            · have t1 : ¬ (k : Int) = (q : Nat) := t1
              refine VDraw.seq rfl ?_
              refine ⟨by show (0 : Int) ≤ (q : Nat) ∧ (q : Int) ≤ ((k : Nat) : Int) ∧ ((k : Nat) : Int) ≤ ((s.length : Nat) : Int); omega, ?_⟩
              refine ⟨[], [], [], .returned (.p (.str (tok s p))), rdH s (nx s p) b, rfl, ⟨_, rfl, ?_⟩, ⟨⟨_, rfl, rfl, rfl, _, rfl, _, _, rfl, rfl, _, _, rfl, congrArg (fun n : Nat => i64 n) hnp, _, _, rfl, rfl, rfl⟩, trivial⟩, rfl, rfl⟩
              show PV.str (tok s p) = PV.str ((s.drop ((q : Nat) : Int).toNat).take (((k : Nat) : Int).toNat - ((q : Nat) : Int).toNat))
              rw [tok_is hnp (k3 ▸ he) rfl]
              refine congrArg (fun m => PV.str ((s.drop q).take m)) ?_
              split <;> omega
          have j5 : ¬ (d.toNat : Int) = 41 := j5
          have hst : scanF isWd s (k + 1) = scanF isWd s k := scan_step hk (by rw [← hd, isWd, beq_false_of_ne (by omega), beq_false_of_ne (by omega), beq_false_of_ne (by omega), beq_false_of_ne (by omega)]; rfl)
          refine ⟨_, wrap_i64 (by omega) (by omega), ?_⟩
          exact ⟨k + 1, ⟨by omega, by omega, by rw [hst]; exact k3⟩, ent_of [] [] [] rfl (by (repeat' first | exact trivial | exact rfl | exact ⟨rfl, rfl⟩ | exact .inl rfl | refine ⟨_, rfl, rfl, rfl, ?_⟩ | refine ⟨_, _, rfl, ?_, ?_⟩ | refine ⟨_, rfl, ?_⟩ | refine And.intro ?_ ?_)) (by (repeat' first | exact trivial | exact rfl | exact ⟨rfl, rfl⟩ | exact .inl rfl | refine ⟨_, rfl, rfl, rfl, ?_⟩ | refine ⟨_, _, rfl, ?_, ?_⟩ | refine ⟨_, rfl, ?_⟩ | refine And.intro ?_ ?_)) rfl, by show s.length - (k + 1) < s.length - k; omega⟩
        · have j1 : ¬ (k : Int) < (s.length : Nat) := j1
          have he : scanF isWd s k = k := scan_end (by omega)
          (first | refine brLt (fun t1 => ?_) (fun t1 => ?_) | refine brLe (fun t1 => ?_) (fun t1 => ?_) | refine brEq (fun t1 => ?_) (fun t1 => ?_))
          · have t1 : (k : Int) = (q : Nat) := t1
            (first | refine brLt (fun t2 => ?_) (fun t2 => ?_) | refine brLe (fun t2 => ?_) (fun t2 => ?_) | refine brEq (fun t2 => ?_) (fun t2 => ?_))
            · have t2 : (k : Int) < (s.length : Nat) := t2
              refine ⟨_, wrap_i64 (by omega) (by omega), ?_⟩
              refine VDraw.seq rfl ?_
              refine ⟨by show (0 : Int) ≤ (q : Nat) ∧ (q : Int) ≤ ((k : Int) + 1) ∧ ((k : Int) + 1) ≤ ((s.length : Nat) : Int); omega, ?_⟩
              refine ⟨[], [], [], .returned (.p (.str (tok s p))), rdH s (nx s p) b, rfl, ⟨_, rfl, ?_⟩, ⟨⟨_, rfl, rfl, rfl, _, rfl, _, _, rfl, rfl, _, _, rfl, congrArg (fun n : Nat => i64 n) hnp, _, _, rfl, rfl, rfl⟩, trivial⟩, rfl, rfl⟩
              show PV.str (tok s p) = PV.str ((s.drop ((q : Nat) : Int).toNat).take (((k : Int) + 1).toNat - ((q : Nat) : Int).toNat))
              rw [tok_is hnp (k3 ▸ he) rfl]
              refine congrArg (fun m => PV.str ((s.drop q).take m)) ?_
              split <;> omega
            · have t2 : ¬ (k : Int) < (s.length : Nat) := t2
              refine VDraw.seq rfl ?_
              refine ⟨by show (0 : Int) ≤ (q : Nat) ∧ (q : Int) ≤ ((k : Nat) : Int) ∧ ((k : Nat) : Int) ≤ ((s.length : Nat) : Int); omega, ?_⟩
              refine ⟨[], [], [], .returned (.p (.str (tok s p))), rdH s (nx s p) b, rfl, ⟨_, rfl, ?_⟩, ⟨⟨_, rfl, rfl, rfl, _, rfl, _, _, rfl, rfl, _, _, rfl, congrArg (fun n : Nat => i64 n) hnp, _, _, rfl, rfl, rfl⟩, trivial⟩, rfl, rfl⟩
              show PV.str (tok s p) = PV.str ((s.drop ((q : Nat) : Int).toNat).take (((k : Nat) : Int).toNat - ((q : Nat) : Int).toNat))
              rw [tok_is hnp (k3 ▸ he) rfl]
              refine congrArg (fun m => PV.str ((s.drop q).take m)) ?_
              split <;> omega
          · have t1 : ¬ (k : Int) = (q : Nat) := t1
            refine VDraw.seq rfl ?_
            refine ⟨by show (0 : Int) ≤ (q : Nat) ∧ (q : Int) ≤ ((k : Nat) : Int) ∧ ((k : Nat) : Int) ≤ ((s.length : Nat) : Int); omega, ?_⟩
            refine ⟨[], [], [], .returned (.p (.str (tok s p))), rdH s (nx s p) b, rfl, ⟨_, rfl, ?_⟩, ⟨⟨_, rfl, rfl, rfl, _, rfl, _, _, rfl, rfl, _, _, rfl, congrArg (fun n : Nat => i64 n) hnp, _, _, rfl, rfl, rfl⟩, trivial⟩, rfl, rfl⟩
            show PV.str (tok s p) = PV.str ((s.drop ((q : Nat) : Int).toNat).take (((k : Nat) : Int).toNat - ((q : Nat) : Int).toNat))
            rw [tok_is hnp (k3 ▸ he) rfl]
            refine congrArg (fun m => PV.str ((s.drop q).take m)) ?_
            split <;> omega
  · have h1 : ¬ (q : Int) < (s.length : Nat) := h1
    have hn : nx s q = q := scan_end (by omega)
    refine ⟨Nat, fun k => [(0, .ptr 0 0 0), (3, .p (i64 k))], fun _ => rdH s q b, fun k => q ≤ k ∧ k ≤ s.length ∧ scanF isWd s k = scanF isWd s q, fun k => s.length - k, ?_, ?_⟩
    · exact ⟨q, ⟨Nat.le_refl _, q2, rfl⟩, ent_of [] [] [] rfl (by (repeat' first | exact trivial | exact rfl | exact ⟨rfl, rfl⟩ | exact .inl rfl | refine ⟨_, rfl, rfl, rfl, ?_⟩ | refine ⟨_, _, rfl, ?_, ?_⟩ | refine ⟨_, rfl, ?_⟩ | refine And.intro ?_ ?_)) (by (repeat' first | exact trivial | exact rfl | exact ⟨rfl, rfl⟩ | exact .inl rfl | refine ⟨_, rfl, rfl, rfl, ?_⟩ | refine ⟨_, _, rfl, ?_, ?_⟩ | refine ⟨_, rfl, ?_⟩ | refine And.intro ?_ ?_)) rfl⟩
    rintro k ⟨k1, k2, k3⟩
    have hnp : nx s p = q := q3 ▸ hn
    (first | refine brLt (fun j1 => ?_) (fun j1 => ?_) | refine brLe (fun j1 => ?_) (fun j1 => ?_) | refine brEq (fun j1 => ?_) (fun j1 => ?_))
    · have j1 : (k : Int) < (s.length : Nat) := j1
      have hk : k < s.length := by omega
      obtain ⟨d, hd⟩ : ∃ d, d = s.getD k 0 := ⟨_, rfl⟩
      refine ⟨_, ⟨by omega, d, by rw [hd]; exact scan_at hk, rfl⟩, ?_⟩
      (first | refine brLt (fun j2 => ?_) (fun j2 => ?_) | refine brLe (fun j2 => ?_) (fun j2 => ?_) | refine brEq (fun j2 => ?_) (fun j2 => ?_))
      · have j2 : (d.toNat : Int) = 32 := j2
        have he : scanF isWd s k = k := scan_stop hk (by rw [← hd, isWd, show d.toNat = 32 by omega]; rfl)
        (first | refine brLt (fun t1 => ?_) (fun t1 => ?_) | refine brLe (fun t1 => ?_) (fun t1 => ?_) | refine brEq (fun t1 => ?_) (fun t1 => ?_))
        · have t1 : (k : Int) = (q : Nat) := t1
          (first | refine brLt (fun t2 => ?_) (fun t2 => ?_) | refine brLe (fun t2 => ?_) (fun t2 => ?_) | refine brEq (fun t2 => ?_) (fun t2 => ?_))
          · have t2 : (k : Int) < (s.length : Nat) := t2
            refine ⟨_, wrap_i64 (by omega) (by omega), ?_⟩
            refine VDraw.seq rfl ?_
            refine ⟨by show (0 : Int) ≤ (q : Nat) ∧ (q : Int) ≤ ((k : Int) + 1) ∧ ((k : Int) + 1) ≤ ((s.length : Nat) : Int); omega, ?_⟩
            refine ⟨[], [], [], .returned (.p (.str (tok s p))), rdH s (nx s p) b, rfl, ⟨_, rfl, ?_⟩, ⟨⟨_, rfl, rfl, rfl, _, rfl, _, _, rfl, rfl, _, _, rfl, congrArg (fun n : Nat => i64 n) hnp, _, _, rfl, rfl, rfl⟩, trivial⟩, rfl, rfl⟩
            show PV.str (tok s p) = PV.str ((s.drop ((q : Nat) : Int).toNat).take (((k : Int) + 1).toNat - ((q : Nat) : Int).toNat))
            rw [tok_is hnp (k3 ▸ he) rfl]
            refine congrArg (fun m => PV.str ((s.drop q).take m)) ?_
            split <;> omega
          · have t2 : ¬ (k : Int) < (s.length : Nat) := t2
            refine VDraw.seq rfl ?_
            refine ⟨by show (0 : Int) ≤ (q : Nat) ∧ (q : Int) ≤ ((k : Nat) : Int) ∧ ((k : Nat) : Int) ≤ ((s.length : Nat) : Int); omega, ?_⟩
            refine ⟨[], [], [], .returned (.p (.str (tok s p))), rdH s (nx s p) b, rfl, ⟨_, rfl, ?_⟩, ⟨⟨_, rfl, rfl, rfl, _, rfl, _, _, rfl, rfl, _, _, rfl, congrArg (fun n : Nat => i64 n) hnp, _, _, rfl, rfl, rfl⟩, trivial⟩, rfl, rfl⟩
            show PV.str (tok s p) = PV.str ((s.drop ((q : Nat) : Int).toNat).take (((k : Nat) : Int).toNat - ((q : Nat) : Int).toNat))
            rw [tok_is hnp (k3 ▸ he) rfl]
            refine congrArg (fun m => PV.str ((s.drop q).take m)) ?_
            split <;> omega
        · have t1 : ¬ (k : Int) = (q : Nat) := t1
          refine VDraw.seq rfl ?_
          refine ⟨by show (0 : Int) ≤ (q : Nat) ∧ (q : Int) ≤ ((k : Nat) : Int) ∧ ((k : Nat) : Int) ≤ ((s.length : Nat) : Int); omega, ?_⟩
          refine ⟨[], [], [], .returned (.p (.str (tok s p))), rdH s (nx s p) b, rfl, ⟨_, rfl, ?_⟩, ⟨⟨_, rfl, rfl, rfl, _, rfl, _, _, rfl, rfl, _, _, rfl, congrArg (fun n : Nat => i64 n) hnp, _, _, rfl, rfl, rfl⟩, trivial⟩, rfl, rfl⟩
          show PV.str (tok s p) = PV.str ((s.drop ((q : Nat) : Int).toNat).take (((k : Nat) : Int).toNat - ((q : Nat) : Int).toNat))
          rw [tok_is hnp (k3 ▸ he) rfl]
          refine congrArg (fun m => PV.str ((s.drop q).take m)) ?_
          split <;> omega
      have j2 : ¬ (d.toNat : Int) = 32 := j2
      refine ⟨_, ⟨by omega, d, by rw [hd]; exact scan_at hk, rfl⟩, ?_⟩
      (first | refine brLt (fun j3 => ?_) (fun j3 => ?_) | refine brLe (fun j3 => ?_) (fun j3 => ?_) | refine brEq (fun j3 => ?_) (fun j3 => ?_))
      · have j3 : (d.toNat : Int) = 10 := j3
        have he : scanF isWd s k = k := scan_stop hk (by rw [← hd, isWd, show d.toNat = 10 by omega]; rfl)
        (first | refine brLt (fun t1 => ?_) (fun t1 => ?_) | refine brLe (fun t1 => ?_) (fun t1 => ?_) | refine brEq (fun t1 => ?_) (fun t1 => ?_))
        · have t1 : (k : Int) = (q : Nat) := t1
          (first | refine brLt (fun t2 => ?_) (fun t2 => ?_) | refine brLe (fun t2 => ?_) (fun t2 => ?_) | refine brEq (fun t2 => ?_) (fun t2 => ?_))
          · have t2 : (k : Int) < (s.length : Nat) := t2
            refine ⟨_, wrap_i64 (by omega) (by omega), ?_⟩
            refine VDraw.seq rfl ?_
            refine ⟨by show (0 : Int) ≤ (q : Nat) ∧ (q : Int) ≤ ((k : Int) + 1) ∧ ((k : Int) + 1) ≤ ((s.length : Nat) : Int); omega, ?_⟩
            refine ⟨[], [], [], .returned (.p (.str (tok s p))), rdH s (nx s p) b, rfl, ⟨_, rfl, ?_⟩, ⟨⟨_, rfl, rfl, rfl, _, rfl, _, _, rfl, rfl, _, _, rfl, congrArg (fun n : Nat => i64 n) hnp, _, _, rfl, rfl, rfl⟩, trivial⟩, rfl, rfl⟩
            show PV.str (tok s p) = PV.str ((s.drop ((q : Nat) : Int).toNat).take (((k : Int) + 1).toNat - ((q : Nat) : Int).toNat))
            rw [tok_is hnp (k3 ▸ he) rfl]
            refine congrArg (fun m => PV.str ((s.drop q).take m)) ?_
            split <;> omega
          · have t2 : ¬ (k : Int) < (s.length : Nat) := t2
            refine VDraw.seq rfl ?_
            refine ⟨by show (0 : Int) ≤ (q : Nat) ∧ (q : Int) ≤ ((k : Nat) : Int) ∧ ((k : Nat) : Int) ≤ ((s.length : Nat) : Int); omega, ?_⟩
            refine ⟨[], [], [], .returned (.p (.str (tok s p))), rdH s (nx s p) b, rfl, ⟨_, rfl, ?_⟩, ⟨⟨_, rfl, rfl, rfl, _, rfl, _, _, rfl, rfl, _, _, rfl, congrArg (fun n : Nat => i64 n) hnp, _, _, rfl, rfl, rfl⟩, trivial⟩, rfl, rfl⟩
            show PV.str (tok s p) = PV.str ((s.drop ((q : Nat) : Int).toNat).take (((k : Nat) : Int).toNat - ((q : Nat) : Int).toNat))
            rw [tok_is hnp (k3 ▸ he) rfl]
            refine congrArg (fun m => PV.str ((s.drop q).take m)) ?_
            split <;> omega
        · have t1 : ¬ (k : Int) = (q : Nat) := t1
          refine VDraw.seq rfl ?_
          refine ⟨by show (0 : Int) ≤ (q : Nat) ∧ (q : Int) ≤ ((k : Nat) : Int) ∧ ((k : Nat) : Int) ≤ ((s.length : Nat) : Int); omega, ?_⟩
          refine ⟨[], [], [], .returned (.p (.str (tok s p))), rdH s (nx s p) b, rfl, ⟨_, rfl, ?_⟩, ⟨⟨_, rfl, rfl, rfl, _, rfl, _, _, rfl, rfl, _, _, rfl, congrArg (fun n : Nat => i64 n) hnp, _, _, rfl, rfl, rfl⟩, trivial⟩, rfl, rfl⟩
          show PV.str (tok s p) = PV.str ((s.drop ((q : Nat) : Int).toNat).take (((k : Nat) : Int).toNat - ((q : Nat) : Int).toNat))
          rw [tok_is hnp (k3 ▸ he) rfl]
          refine congrArg (fun m => PV.str ((s.drop q).take m)) ?_
          split <;> omega
      have j3 : ¬ (d.toNat : Int) = 10 := j3
      refine ⟨_, ⟨by omega, d, by rw [hd]; exact scan_at hk, rfl⟩, ?_⟩
      (first | refine brLt (fun j4 => ?_) (fun j4 => ?_) | refine brLe (fun j4 => ?_) (fun j4 => ?_) | refine brEq (fun j4 => ?_) (fun j4 => ?_))
      · have j4 : (d.toNat : Int) = 40 := j4
        have he : scanF isWd s k = k := scan_stop hk (by rw [← hd, isWd, show d.toNat = 40 by omega]; rfl)
        (first | refine brLt (fun t1 => ?_) (fun t1 => ?_) | refine brLe (fun t1 => ?_) (fun t1 => ?_) | refine brEq (fun t1 => ?_) (fun t1 => ?_))
        · have t1 : (k : Int) = (q : Nat) := t1
          (first | refine brLt (fun t2 => ?_) (fun t2 => ?_) | refine brLe (fun t2 => ?_) (fun t2 => ?_) | refine brEq (fun t2 => ?_) (fun t2 => ?_))
          · have t2 : (k : Int) < (s.length : Nat) := t2
            refine ⟨_, wrap_i64 (by omega) (by omega), ?_⟩
            refine VDraw.seq rfl ?_
            refine ⟨by show (0 : Int) ≤ (q : Nat) ∧ (q : Int) ≤ ((k : Int) + 1) ∧ ((k : Int) + 1) ≤ ((s.length : Nat) : Int); omega, ?_⟩
            refine ⟨[], [], [], .returned (.p (.str (tok s p))), rdH s (nx s p) b, rfl, ⟨_, rfl, ?_⟩, ⟨⟨_, rfl, rfl, rfl, _, rfl, _, _, rfl, rfl, _, _, rfl, congrArg (fun n : Nat => i64 n) hnp, _, _, rfl, rfl, rfl⟩, trivial⟩, rfl, rfl⟩
            show PV.str (tok s p) = PV.str ((s.drop ((q : Nat) : Int).toNat).take (((k : Int) + 1).toNat - ((q : Nat) : Int).toNat))
            rw [tok_is hnp (k3 ▸ he) rfl]
            refine congrArg (fun m => PV.str ((s.drop q).take m)) ?_
            split <;> omega
          · have t2 : ¬ (k : Int) < (s.length : Nat) := t2
            refine VDraw.seq rfl ?_
            refine ⟨by show (0 : Int) ≤ (q : Nat) ∧ (q : Int) ≤ ((k : Nat) : Int) ∧ ((k : Nat) : Int) ≤ ((s.length : Nat) : Int); omega, ?_⟩
            refine ⟨[], [], [], .returned (.p (.str (tok s p))), rdH s (nx s p) b, rfl, ⟨_, rfl, ?_⟩, ⟨⟨_, rfl, rfl, rfl, _, rfl, _, _, rfl, rfl, _, _, rfl, congrArg (fun n : Nat => i64 n) hnp, _, _, rfl, rfl, rfl⟩, trivial⟩, rfl, rfl⟩
            show PV.str (tok s p) = PV.str ((s.drop ((q : Nat) : Int).toNat).take (((k : Nat) : Int).toNat - ((q : Nat) : Int).toNat))
            rw [tok_is hnp (k3 ▸ he) rfl]
            refine congrArg (fun m => PV.str ((s.drop q).take m)) ?_
            split <;> omega
        · have t1 : ¬ (k : Int) = (q : Nat) := t1
          refine VDraw.seq rfl ?_
          refine ⟨by show (0 : Int) ≤ (q : Nat) ∧ (q : Int) ≤ ((k : Nat) : Int) ∧ ((k : Nat) : Int) ≤ ((s.length : Nat) : Int); omega, ?_⟩
          refine ⟨[], [], [], .returned (.p (.str (tok s p))), rdH s (nx s p) b, rfl, ⟨_, rfl, ?_⟩, ⟨⟨_, rfl, rfl, rfl, _, rfl, _, _, rfl, rfl, _, _, rfl, congrArg (fun n : Nat => i64 n) hnp, _, _, rfl, rfl, rfl⟩, trivial⟩, rfl, rfl⟩
          show PV.str (tok s p) = PV.str ((s.drop ((q : Nat) : Int).toNat).take (((k : Nat) : Int).toNat - ((q : Nat) : Int).toNat))
          rw [tok_is hnp (k3 ▸ he) rfl]
          refine congrArg (fun m => PV.str ((s.drop q).take m)) ?_
          split <;> omega
      have j4 : ¬ (d.toNat : Int) = 40 := j4
      refine ⟨_, ⟨by omega, d, by rw [hd]; exact scan_at hk, rfl⟩, ?_⟩
      (first | refine brLt (fun j5 => ?_) (fun j5 => ?_) | refine brLe (fun j5 => ?_) (fun j5 => ?_) | refine brEq (fun j5 => ?_) (fun j5 => ?_))
      · have j5 : (d.toNat : Int) = 41 := j5
        have he : scanF isWd s k = k := scan_stop hk (by rw [← hd, isWd, show d.toNat = 41 by omega]; rfl)
        (first | refine brLt (fun t1 => ?_) (fun t1 => ?_) | refine brLe (fun t1 => ?_) (fun t1 => ?_) | refine brEq (fun t1 => ?_) (fun t1 => ?_))
        · have t1 : (k : Int) = (q : Nat) := t1
          (first | refine brLt (fun t2 => ?_) (fun t2 => ?_) | refine brLe (fun t2 => ?_) (fun t2 => ?_) | refine brEq (fun t2 => ?_) (fun t2 => ?_))
          · have t2 : (k : Int) < (s.length : Nat) := t2
            refine ⟨_, wrap_i64 (by omega) (by omega), ?_⟩
            refine VDraw.seq rfl ?_
            refine ⟨by show (0 : Int) ≤ (q : Nat) ∧ (q : Int) ≤ ((k : Int) + 1) ∧ ((k : Int) + 1) ≤ ((s.length : Nat) : Int); omega, ?_⟩
            refine ⟨[], [], [], .returned (.p (.str (tok s p))), rdH s (nx s p) b, rfl, ⟨_, rfl, ?_⟩, ⟨⟨_, rfl, rfl, rfl, _, rfl, _, _, rfl, rfl, _, _, rfl, congrArg (fun n : Nat => i64 n) hnp, _, _, rfl, rfl, rfl⟩, trivial⟩, rfl, rfl⟩
            show PV.str (tok s p) = PV.str ((s.drop ((q : Nat) : Int).toNat).take (((k : Int) + 1).toNat - ((q : Nat) : Int).toNat))
            rw [tok_is hnp (k3 ▸ he) rfl]
            refine congrArg (fun m => PV.str ((s.drop q).take m)) ?_
            split <;> omega
          · have t2 : ¬ (k : Int) < (s.length : Nat) := t2
            refine VDraw.seq rfl ?_
            refine ⟨by show (0 : Int) ≤ (q : Nat) ∧ (q : Int) ≤ ((k : Nat) : Int) ∧ ((k : Nat) : Int) ≤ ((s.length : Nat) : Int); omega, ?_⟩
            refine ⟨[], [], [], .returned (.p (.str (tok s p))), rdH s (nx s p) b, rfl, ⟨_, rfl, ?_⟩, ⟨⟨_, rfl, rfl, rfl, _, rfl, _, _, rfl, rfl, _, _, rfl, congrArg (fun n : Nat => i64 n) hnp, _, _, rfl, rfl, rfl⟩, trivial⟩, rfl, rfl⟩
            show PV.str (tok s p) = PV.str ((s.drop ((q : Nat) : Int).toNat).take (((k : Nat) : Int).toNat - ((q : Nat) : Int).toNat))
            rw [tok_is hnp (k3 ▸ he) rfl]
            refine congrArg (fun m => PV.str ((s.drop q).take m)) ?_
            split <;> omega
        · have t1 : ¬ (k : Int) = (q : Nat) := t1
          refine VDraw.seq rfl ?_
          refine ⟨by show (0 : Int) ≤ (q : Nat) ∧ (q : Int) ≤ ((k : Nat) : Int) ∧ ((k : Nat) : Int) ≤ ((s.length : Nat) : Int); omega, ?_⟩
          refine ⟨[], [], [], .returned (.p (.str (tok s p))), rdH s (nx s p) b, rfl, ⟨_, rfl, ?_⟩, ⟨⟨_, rfl, rfl, rfl, _, rfl, _, _, rfl, rfl, _, _, rfl, congrArg (fun n : Nat => i64 n) hnp, _, _, rfl, rfl, rfl⟩, trivial⟩, rfl, rfl⟩
          show PV.str (tok s p) = PV.str ((s.drop ((q : Nat) : Int).toNat).take (((k : Nat) : Int).toNat - ((q : Nat) : Int).toNat))
          rw [tok_is hnp (k3 ▸ he) rfl]
          refine congrArg (fun m => PV.str ((s.drop q).take m)) ?_
          split <;> omega
      have j5 : ¬ (d.toNat : Int) = 41 := j5
      have hst : scanF isWd s (k + 1) = scanF isWd s k := scan_step hk (by rw [← hd, isWd, beq_false_of_ne (by omega), beq_false_of_ne (by omega), beq_false_of_ne (by omega), beq_false_of_ne (by omega)]; rfl)
      refine ⟨_, wrap_i64 (by omega) (by omega), ?_⟩
      exact ⟨k + 1, ⟨by omega, by omega, by rw [hst]; exact k3⟩, ent_of [] [] [] rfl (by (repeat' first | exact trivial | exact rfl | exact ⟨rfl, rfl⟩ | exact .inl rfl | refine ⟨_, rfl, rfl, rfl, ?_⟩ | refine ⟨_, _, rfl, ?_, ?_⟩ | refine ⟨_, rfl, ?_⟩ | refine And.intro ?_ ?_)) (by (repeat' first | exact trivial | exact rfl | exact ⟨rfl, rfl⟩ | exact .inl rfl | refine ⟨_, rfl, rfl, rfl, ?_⟩ | refine ⟨_, _, rfl, ?_, ?_⟩ | refine ⟨_, rfl, ?_⟩ | refine And.intro ?_ ?_)) rfl, by show s.length - (k + 1) < s.length - k; omega⟩
    · have j1 : ¬ (k : Int) < (s.length : Nat) := j1
      have he : scanF isWd s k = k := scan_end (by omega)
      (first | refine brLt (fun t1 => ?_) (fun t1 => ?_) | refine brLe (fun t1 => ?_) (fun t1 => ?_) | refine brEq (fun t1 => ?_) (fun t1 => ?_))
      · have t1 : (k : Int) = (q : Nat) := t1
        (first | refine brLt (fun t2 => ?_) (fun t2 => ?_) | refine brLe (fun t2 => ?_) (fun t2 => ?_) | refine brEq (fun t2 => ?_) (fun t2 => ?_))
        · have t2 : (k : Int) < (s.length : Nat) := t2
          refine ⟨_, wrap_i64 (by omega) (by omega), ?_⟩
          refine VDraw.seq rfl ?_
          refine ⟨by show (0 : Int) ≤ (q : Nat) ∧ (q : Int) ≤ ((k : Int) + 1) ∧ ((k : Int) + 1) ≤ ((s.length : Nat) : Int); omega, ?_⟩
          refine ⟨[], [], [], .returned (.p (.str (tok s p))), rdH s (nx s p) b, rfl, ⟨_, rfl, ?_⟩, ⟨⟨_, rfl, rfl, rfl, _, rfl, _, _, rfl, rfl, _, _, rfl, congrArg (fun n : Nat => i64 n) hnp, _, _, rfl, rfl, rfl⟩, trivial⟩, rfl, rfl⟩
          show PV.str (tok s p) = PV.str ((s.drop ((q : Nat) : Int).toNat).take (((k : Int) + 1).toNat - ((q : Nat) : Int).toNat))
          rw [tok_is hnp (k3 ▸ he) rfl]
          refine congrArg (fun m => PV.str ((s.drop q).take m)) ?_
          split <;> omega
        · have t2 : ¬ (k : Int) < (s.length : Nat) := t2
          refine VDraw.seq rfl ?_
          refine ⟨by show (0 : Int) ≤ (q : Nat) ∧ (q : Int) ≤ ((k : Nat) : Int) ∧ ((k : Nat) : Int) ≤ ((s.length : Nat) : Int); omega, ?_⟩
          refine ⟨[], [], [], .returned (.p (.str (tok s p))), rdH s (nx s p) b, rfl, ⟨_, rfl, ?_⟩, ⟨⟨_, rfl, rfl, rfl, _, rfl, _, _, rfl, rfl, _, _, rfl, congrArg (fun n : Nat => i64 n) hnp, _, _, rfl, rfl, rfl⟩, trivial⟩, rfl, rfl⟩
          show PV.str (tok s p) = PV.str ((s.drop ((q : Nat) : Int).toNat).take (((k : Nat) : Int).toNat - ((q : Nat) : Int).toNat))
          rw [tok_is hnp (k3 ▸ he) rfl]
          refine congrArg (fun m => PV.str ((s.drop q).take m)) ?_
          split <;> omega
      · have t1 : ¬ (k : Int) = (q : Nat) := t1
        refine VDraw.seq rfl ?_
        refine ⟨by show (0 : Int) ≤ (q : Nat) ∧ (q : Int) ≤ ((k : Nat) : Int) ∧ ((k : Nat) : Int) ≤ ((s.length : Nat) : Int); omega, ?_⟩
        refine ⟨[], [], [], .returned (.p (.str (tok s p))), rdH s (nx s p) b, rfl, ⟨_, rfl, ?_⟩, ⟨⟨_, rfl, rfl, rfl, _, rfl, _, _, rfl, rfl, _, _, rfl, congrArg (fun n : Nat => i64 n) hnp, _, _, rfl, rfl, rfl⟩, trivial⟩, rfl, rfl⟩
        show PV.str (tok s p) = PV.str ((s.drop ((q : Nat) : Int).toNat).take (((k : Nat) : Int).toNat - ((q : Nat) : Int).toNat))
        rw [tok_is hnp (k3 ▸ he) rfl]
        refine congrArg (fun m => PV.str ((s.drop q).take m)) ?_
        split <;> omega
end Go.Proofs.YtphmmoloegjocaaGreatDoor
