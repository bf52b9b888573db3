/- strings.Builder. -/
import Derived.Test.YtemlkodkohgmmaaDoorLa
import Derived.Lib.MakeNoZero
import Derived.Laws.Externs
namespace Go.Proofs.YtemlkodkohgmmaaDoor
open Go Y
set_option maxRecDepth 100000
set_option maxHeartbeats 4000000

abbrev TB : TypeId := 92
/-- The builder's own address, once it has been used. -/
def au : Bool → AV
  | true => .ptr 0 0 0
  | false => .p .nilp

theorem noEscape_c {v : AV} {H : Hp} {Q : AE → Hp → Prop} (hQ : Q (.returned v) H) : Holds cx 85 [v] H Q := by
  intro Γ w args' hR hA
  simp only [VRL] at hA
  obtain ⟨u, us, rfl, hu, rfl⟩ := hA
  refine .inr ⟨u, w, ?_, _, _, Γ, hQ, ⟨u, rfl, hu⟩, Later.refl hR _ (Nat.le_refl _)⟩
  show (callFunc 85 #[u]).run Tryd.prog w = _
  rw [run_callFunc_extern Tryd.func85 (by kernel_rfl) (by kernel_rfl) (by kernel_rfl) (e := Extern.AbiNoEscape.same) (by kernel_rfl)]
  rfl

theorem makeNoZero_c {n : Nat} {H : Hp} {Q : AE → Hp → Prop} (hn : n ≤ 281474976710656) (hQ : Q (.returned (.sl H.next 1 0 n)) (H.push ⟨5, false, .pu []⟩)) : Holds cx 86 [.p (i64 n)] H Q := by
  intro Γ w args' hR hA
  simp only [VRL, VR, VP] at hA
  obtain ⟨u, us, rfl, rfl, rfl⟩ := hA
  obtain ⟨cs, hrun, hle, _⟩ := Lib.run_makeNoZero (P := Tryd.prog) w #[3] 22 5 Tryd.underlying22 n hn
  have hd := (Later.drew hR H.next (Nat.le_refl _)).trans (Later.drew (Later.drew hR H.next (Nat.le_refl _)).1 H.next (Nat.le_refl _))
  have hR2 : R cx Γ H w.drew.drew := hd.1
  have hp := push_cells (t := 5) (s := 1) (tc := cs.size) (c := .pu []) (us := []) (rest := cs.toList) hR2 rfl (by rfl) Nat.one_pos rfl (by simp) (by simp) rfl
  refine .inr ⟨.slice (some ⟨w.heap.size, 0, none⟩) n cs.size, w.drew.drew.alloc (.cells cs 5), ?_, _, _, _, hQ, ⟨_, rfl, VR_slNext (Γ := Γ) ⟨w.heap.size, 1, cs.size, false⟩ H.next n rfl hle⟩, hd.trans hp⟩
  show (callFunc 86 #[.int .i64 n]).run Tryd.prog w = _
  rw [run_callFunc_extern Tryd.func86 (by kernel_rfl) (by kernel_rfl) (by kernel_rfl) (e := Extern.BytealgMakeNoZero.makeNoZero #[3] #[22]) (by kernel_rfl), hrun]
  rfl

theorem copyCheck_c (u : Bool) (v : AV) : HoldsG cx 74 [.ptr 0 0 0] ⟨2, [(0, ⟨TB, false, .bx [au u, v]⟩)]⟩ fun e H' => e = .returned und ∧ H' = ⟨2, [(0, ⟨TB, false, .bx [.ptr 0 0 0, v]⟩)]⟩ := by
  refine holds_of_vc Tryd.func74 rfl rfl rfl ?_
  cases u
  · refine noEscape_c ?_
    exact ⟨rfl, rfl⟩
  · exact ⟨rfl, rfl⟩

/-- A builder that holds some bytes. -/
def bldH (u : Bool) (xs : List UInt8) : Hp := ⟨2, [(1, ⟨5, false, .pu (xs.map ub)⟩), (0, ⟨TB, false, .bx [au u, .sl 1 1 0 xs.length]⟩)]⟩
def bldH' (xs : List UInt8) : Hp := ⟨3, [(2, ⟨5, false, .pu (xs.map ub)⟩), (0, ⟨TB, false, .bx [.ptr 0 0 0, .sl 2 1 0 xs.length]⟩)]⟩

theorem takeUb (xs : List UInt8) : xs.map ub = ((xs.map ub).drop 0).take xs.length := by rw [List.drop_zero, List.take_of_length_le (by simp)]

theorem writeByte_c (u : Bool) (xs : List UInt8) (b : UInt8) (hx : xs.length ≤ 1000000) :
    HoldsG cx 63 [.ptr 0 0 0, .p (u8 b)] (bldH u xs) fun e H' => e = .returned (.p .nilIface) ∧ H' = bldH' (xs ++ [b]) := by
  refine holdsN_of_vc Tryd.func63 rfl rfl rfl ?_
  refine (copyCheck_c u (.sl 1 1 0 xs.length)).useE [] [] rfl ?_ ?_ ?_
  · cases u <;> (repeat' first | exact trivial | exact rfl | exact ⟨rfl, rfl⟩ | exact .inl rfl | refine ⟨_, rfl, rfl, rfl, ?_⟩ | refine ⟨_, _, rfl, ?_, ?_⟩ | refine ⟨_, rfl, ?_⟩ | refine And.intro ?_ ?_)
  · (repeat' first | exact trivial | exact rfl | exact ⟨rfl, rfl⟩ | exact .inl rfl | refine ⟨_, rfl, rfl, rfl, ?_⟩ | refine ⟨_, _, rfl, ?_, ?_⟩ | refine ⟨_, rfl, ?_⟩ | refine And.intro ?_ ?_)
  · refine ⟨by show 0 + 1 ≤ _; simp, [ub b], rfl, ?_⟩
    refine ⟨by show 0 + xs.length ≤ (xs.map ub).length; simp, xs.map ub, takeUb xs, by show (xs.length + 1) * 1 ≤ _; omega, (xs ++ [b]).map ub, by simp, ?_⟩
    exact ⟨[], [(2, 3)], [], .returned (.p .nilIface), ⟨3, [(2, ⟨5, false, .pu ((xs ++ [b]).map ub)⟩), (0, ⟨TB, false, .bx [.ptr 0 0 0, .sl 2 1 0 (xs.length + 1)]⟩)]⟩, rfl, ⟨_, rfl, rfl⟩, ⟨⟨_, rfl, rfl, rfl, rfl⟩, ⟨_, rfl, rfl, rfl, _, rfl, _, _, rfl, ⟨rfl, rfl⟩, _, _, rfl, rfl, rfl⟩, trivial⟩, rfl, by simp [bldH']⟩

theorem writeString_c (u : Bool) (xs s : List UInt8) (hx : xs.length ≤ 1000000) (hs : s.length ≤ 1000000) :
    HoldsG cx 48 [.ptr 0 0 0, vS s] (bldH u xs) fun e H' => e = .returned (.tup [.p (i64 s.length), .p .nilIface]) ∧ H' = bldH' (xs ++ s) := by
  refine holdsN_of_vc Tryd.func48 rfl rfl rfl ?_
  refine (copyCheck_c u (.sl 1 1 0 xs.length)).useE [] [] rfl ?_ ?_ ?_
  · cases u <;> (repeat' first | exact trivial | exact rfl | exact ⟨rfl, rfl⟩ | exact .inl rfl | refine ⟨_, rfl, rfl, rfl, ?_⟩ | refine ⟨_, _, rfl, ?_, ?_⟩ | refine ⟨_, rfl, ?_⟩ | refine And.intro ?_ ?_)
  · (repeat' first | exact trivial | exact rfl | exact ⟨rfl, rfl⟩ | exact .inl rfl | refine ⟨_, rfl, rfl, rfl, ?_⟩ | refine ⟨_, _, rfl, ?_, ?_⟩ | refine ⟨_, rfl, ?_⟩ | refine And.intro ?_ ?_)
  · refine ⟨by show 0 + xs.length ≤ (xs.map ub).length; simp, xs.map ub, takeUb xs, by show (xs.length + s.length) * 1 ≤ _; omega, (xs ++ s).map ub, by simp, ?_⟩
    exact ⟨[], [(2, 2)], [], .returned (.tup [.p (i64 s.length), .p .nilIface]), ⟨3, [(2, ⟨5, false, .pu ((xs ++ s).map ub)⟩), (0, ⟨TB, false, .bx [.ptr 0 0 0, .sl 2 1 0 (xs.length + s.length)]⟩)]⟩, rfl, ⟨_, rfl, _, rfl, by (repeat' first | exact trivial | exact rfl | exact ⟨rfl, rfl⟩ | exact .inl rfl | refine ⟨_, rfl, rfl, rfl, ?_⟩ | refine ⟨_, _, rfl, ?_, ?_⟩ | refine ⟨_, rfl, ?_⟩ | refine And.intro ?_ ?_)⟩, ⟨⟨_, rfl, rfl, rfl, rfl⟩, ⟨_, rfl, rfl, rfl, _, rfl, _, _, rfl, ⟨rfl, rfl⟩, _, _, rfl, rfl, rfl⟩, trivial⟩, rfl, by simp [bldH']⟩

/-- The same at a builder in which nothing has been written. -/
theorem grow_c (n : Nat) (hn : n ≤ 1000000) : HoldsG cx 75 [.ptr 0 0 0, .p (i64 n)] ⟨1, [(0, ⟨TB, false, .bx [.ptr 0 0 0, .p .nils]⟩)]⟩ fun e H' => e = .returned und ∧ H' = ⟨2, [(1, ⟨5, false, .pu []⟩), (0, ⟨TB, false, .bx [.ptr 0 0 0, .sl 1 1 0 0]⟩)]⟩ := by
  refine holdsN_of_vc Tryd.func75 rfl rfl rfl ?_
  refine VDraw.seq rfl ?_
  refine ⟨0, wrap_i64 (by omega) (by omega), ?_⟩
  refine ⟨(n : Int), by rw [Int.zero_add]; exact wrap_i64 (by omega) (by omega), ?_⟩
  refine makeNoZero_c (by omega) ?_
  refine ⟨by (repeat' first | exact trivial | exact rfl | exact ⟨rfl, rfl⟩ | exact .inl rfl | refine ⟨_, rfl, rfl, rfl, ?_⟩ | refine ⟨_, _, rfl, ?_, ?_⟩ | refine ⟨_, rfl, ?_⟩ | refine And.intro ?_ ?_), ?_⟩
  refine ⟨by show (0 : Int) ≤ 0 ∧ (0 : Int) ≤ (n : Nat); omega, ?_⟩
  refine ⟨⟨Nat.le_refl _, Nat.le_refl _⟩, [], rfl, ?_⟩
  exact ⟨[], [(1, 1)], [], .returned und, ⟨2, [(1, ⟨5, false, .pu []⟩), (0, ⟨TB, false, .bx [.ptr 0 0 0, .sl 1 1 0 0]⟩)]⟩, rfl, by (repeat' first | exact trivial | exact rfl | exact ⟨rfl, rfl⟩ | exact .inl rfl | refine ⟨_, rfl, rfl, rfl, ?_⟩ | refine ⟨_, _, rfl, ?_, ?_⟩ | refine ⟨_, rfl, ?_⟩ | refine And.intro ?_ ?_), ⟨⟨_, rfl, rfl, rfl, rfl⟩, ⟨_, rfl, rfl, rfl, _, rfl, _, _, rfl, ⟨rfl, rfl⟩, _, _, rfl, rfl, rfl⟩, trivial⟩, rfl, rfl⟩

theorem growN_c (u : Bool) (n : Nat) (h0 : 0 < n) (hn : n ≤ 1000000) : HoldsG cx 47 [.ptr 0 0 0, .p (i64 n)] ⟨1, [(0, ⟨TB, false, .bx [au u, .p .nils]⟩)]⟩ fun e H' => e = .returned und ∧ H' = ⟨2, [(1, ⟨5, false, .pu []⟩), (0, ⟨TB, false, .bx [.ptr 0 0 0, .sl 1 1 0 0]⟩)]⟩ := by
  refine holdsN_of_vc Tryd.func47 rfl rfl rfl ?_
  refine (copyCheck_c u (.p .nils)).useE [] [(1, 0)] rfl ?_ ?_ ?_
  · cases u <;> (repeat' first | exact trivial | exact rfl | exact ⟨rfl, rfl⟩ | exact .inl rfl | refine ⟨_, rfl, rfl, rfl, ?_⟩ | refine ⟨_, _, rfl, ?_, ?_⟩ | refine ⟨_, rfl, ?_⟩ | refine And.intro ?_ ?_)
  · (repeat' first | exact trivial | exact rfl | exact ⟨rfl, rfl⟩ | exact .inl rfl | refine ⟨_, rfl, rfl, rfl, ?_⟩ | refine ⟨_, _, rfl, ?_, ?_⟩ | refine ⟨_, rfl, ?_⟩ | refine And.intro ?_ ?_)
  · refine And.intro (fun h1 => ?_) (fun h1 => ?_)
    · have h1 : (n : Int) < 0 := h1
      omega
    · refine VDraw.seq rfl ?_
      refine ⟨0, wrap_i64 (by omega) (by omega), ?_⟩
      refine And.intro (fun h2 => ?_) (fun h2 => ?_)
      · refine (grow_c n hn).useE [] [] rfl ?_ ?_ ?_
        · (repeat' first | exact trivial | exact rfl | exact ⟨rfl, rfl⟩ | exact .inl rfl | refine ⟨_, rfl, rfl, rfl, ?_⟩ | refine ⟨_, _, rfl, ?_, ?_⟩ | refine ⟨_, rfl, ?_⟩ | refine And.intro ?_ ?_)
        · (repeat' first | exact trivial | exact rfl | exact ⟨rfl, rfl⟩ | exact .inl rfl | refine ⟨_, rfl, rfl, rfl, ?_⟩ | refine ⟨_, _, rfl, ?_, ?_⟩ | refine ⟨_, rfl, ?_⟩ | refine And.intro ?_ ?_)
        · exact ⟨[], [(1, 1)], [], .returned und, ⟨2, [(1, ⟨5, false, .pu []⟩), (0, ⟨TB, false, .bx [.ptr 0 0 0, .sl 1 1 0 0]⟩)]⟩, rfl, by (repeat' first | exact trivial | exact rfl | exact ⟨rfl, rfl⟩ | exact .inl rfl | refine ⟨_, rfl, rfl, rfl, ?_⟩ | refine ⟨_, _, rfl, ?_, ?_⟩ | refine ⟨_, rfl, ?_⟩ | refine And.intro ?_ ?_), ⟨⟨_, rfl, rfl, rfl, rfl⟩, ⟨_, rfl, rfl, rfl, _, rfl, _, _, rfl, ⟨rfl, rfl⟩, _, _, rfl, rfl, rfl⟩, trivial⟩, rfl, rfl⟩
      · have h2 : ¬ (0 : Int) < (n : Nat) := h2
        omega
theorem growZ_c (u : Bool) : HoldsG cx 47 [.ptr 0 0 0, .p (i64 0)] ⟨1, [(0, ⟨TB, false, .bx [au u, .p .nils]⟩)]⟩ fun e H' => e = .returned und ∧ H' = ⟨1, [(0, ⟨TB, false, .bx [.ptr 0 0 0, .p .nils]⟩)]⟩ := by
  refine holdsN_of_vc Tryd.func47 rfl rfl rfl ?_
  refine (copyCheck_c u (.p .nils)).useE [] [(1, 0)] rfl ?_ ?_ ?_
  · cases u <;> (repeat' first | exact trivial | exact rfl | exact ⟨rfl, rfl⟩ | exact .inl rfl | refine ⟨_, rfl, rfl, rfl, ?_⟩ | refine ⟨_, _, rfl, ?_, ?_⟩ | refine ⟨_, rfl, ?_⟩ | refine And.intro ?_ ?_)
  · (repeat' first | exact trivial | exact rfl | exact ⟨rfl, rfl⟩ | exact .inl rfl | refine ⟨_, rfl, rfl, rfl, ?_⟩ | refine ⟨_, _, rfl, ?_, ?_⟩ | refine ⟨_, rfl, ?_⟩ | refine And.intro ?_ ?_)
  · refine And.intro (fun h1 => ?_) (fun h1 => ?_)
    · have h1 : (0 : Int) < 0 := h1
      omega
    · refine VDraw.seq rfl ?_
      refine ⟨0, wrap_i64 (by omega) (by omega), ?_⟩
      refine And.intro (fun h2 => ?_) (fun h2 => ?_)
      · have h2 : (0 : Int) < 0 := h2
        omega
      · exact ⟨[], [], [], .returned und, ⟨1, [(0, ⟨TB, false, .bx [.ptr 0 0 0, .p .nils]⟩)]⟩, rfl, by (repeat' first | exact trivial | exact rfl | exact ⟨rfl, rfl⟩ | exact .inl rfl | refine ⟨_, rfl, rfl, rfl, ?_⟩ | refine ⟨_, _, rfl, ?_, ?_⟩ | refine ⟨_, rfl, ?_⟩ | refine And.intro ?_ ?_), ⟨⟨_, rfl, rfl, rfl, _, rfl, _, _, rfl, ⟨rfl, rfl⟩, _, _, rfl, (.inl rfl), rfl⟩, trivial⟩, rfl, rfl⟩

theorem string_c (u : Bool) (xs : List UInt8) (h0 : xs ≠ []) (hx : xs.length ≤ 1000000) : HoldsG cx 50 [.ptr 0 0 0] (bldH u xs) fun e H' => e = .returned (vS xs) ∧ H' = ⟨2, [(0, ⟨TB, false, .bx [au u, .sl 1 1 0 xs.length]⟩)]⟩ := by
  refine holdsN_of_vc Tryd.func50 rfl rfl rfl ?_
  refine VDraw.seq rfl ?_
  refine And.intro (fun h1 => ?_) (fun h1 => ?_)
  · refine ⟨by (repeat' first | exact trivial | exact rfl | exact ⟨rfl, rfl⟩ | exact .inl rfl | refine ⟨_, rfl, rfl, rfl, ?_⟩ | refine ⟨_, _, rfl, ?_, ?_⟩ | refine ⟨_, rfl, ?_⟩ | refine And.intro ?_ ?_), ?_⟩
    refine ⟨xs, h0, rfl, by omega, by simp, by rw [List.take_of_length_le (by simp)], ?_⟩
    exact ⟨[], [], [], .returned (vS xs), ⟨2, [(0, ⟨TB, false, .bx [au u, .sl 1 1 0 xs.length]⟩)]⟩, rfl, ⟨_, rfl, rfl⟩, by cases u <;> (repeat' first | exact trivial | exact rfl | exact ⟨rfl, rfl⟩ | exact .inl rfl | refine ⟨_, rfl, rfl, rfl, ?_⟩ | refine ⟨_, _, rfl, ?_, ?_⟩ | refine ⟨_, rfl, ?_⟩ | refine And.intro ?_ ?_), rfl, rfl⟩
  · exact absurd (List.eq_nil_of_length_eq_zero h1) h0
theorem stringE_c (u : Bool) : HoldsG cx 50 [.ptr 0 0 0] (bldH u []) fun e H' => e = .returned (vS []) ∧ H' = bldH u [] := by
  refine holdsN_of_vc Tryd.func50 rfl rfl rfl ?_
  refine VDraw.seq rfl ?_
  refine And.intro (fun h1 => ?_) (fun h1 => ?_)
  · cases h1
  · refine ⟨by (repeat' first | exact trivial | exact rfl | exact ⟨rfl, rfl⟩ | exact .inl rfl | refine ⟨_, rfl, rfl, rfl, ?_⟩ | refine ⟨_, _, rfl, ?_, ?_⟩ | refine ⟨_, rfl, ?_⟩ | refine And.intro ?_ ?_), ?_⟩
    refine ⟨rfl, ?_⟩
    exact ⟨[], [], [], .returned (vS []), bldH u [], rfl, ⟨_, rfl, rfl⟩, by cases u <;> (repeat' first | exact trivial | exact rfl | exact ⟨rfl, rfl⟩ | exact .inl rfl | refine ⟨_, rfl, rfl, rfl, ?_⟩ | refine ⟨_, _, rfl, ?_, ?_⟩ | refine ⟨_, rfl, ?_⟩ | refine And.intro ?_ ?_), rfl, rfl⟩
theorem stringN_c (u : Bool) : HoldsG cx 50 [.ptr 0 0 0] ⟨1, [(0, ⟨TB, false, .bx [au u, .p .nils]⟩)]⟩ fun e H' => e = .returned (vS []) ∧ H' = ⟨1, [(0, ⟨TB, false, .bx [au u, .p .nils]⟩)]⟩ := by
  refine holdsN_of_vc Tryd.func50 rfl rfl rfl ?_
  refine VDraw.seq rfl ?_
  refine ⟨by (repeat' first | exact trivial | exact rfl | exact ⟨rfl, rfl⟩ | exact .inl rfl | refine ⟨_, rfl, rfl, rfl, ?_⟩ | refine ⟨_, _, rfl, ?_, ?_⟩ | refine ⟨_, rfl, ?_⟩ | refine And.intro ?_ ?_), ?_⟩
  refine ⟨rfl, ?_⟩
  exact ⟨[], [], [], .returned (vS []), ⟨1, [(0, ⟨TB, false, .bx [au u, .p .nils]⟩)]⟩, rfl, ⟨_, rfl, rfl⟩, by cases u <;> (repeat' first | exact trivial | exact rfl | exact ⟨rfl, rfl⟩ | exact .inl rfl | refine ⟨_, rfl, rfl, rfl, ?_⟩ | refine ⟨_, _, rfl, ?_, ?_⟩ | refine ⟨_, rfl, ?_⟩ | refine And.intro ?_ ?_), rfl, rfl⟩
end Go.Proofs.YtemlkodkohgmmaaDoor
