/- The statement on reading. -/
import Derived.Test.YtemlkodkohgmmaaDoorLt
import Derived.Test.YtemlkodkohgmmaaDoorZb
namespace Go.Proofs.YtemlkodkohgmmaaDoor
open Go Y
set_option maxRecDepth 100000
set_option maxHeartbeats 4000000

/-! ### Arguments -/
theorem ty_u8 {m : Nat} {xs : List PV} (h : TyT Tryd.prog (m + 1) 5 xs) : ∃ b : UInt8, xs = [u8 b] := by
  have hp : partsOf Tryd.prog 5 = none := by simp [partsOf, Tryd.underlying5]
  simp only [TyT, hp, Tryd.underlying5] at h
  obtain ⟨n, rfl, hw⟩ := h
  have := bounds_u8 hw
  refine ⟨UInt8.ofNat n.toNat, ?_⟩
  have e : ((UInt8.ofNat n.toNat).toNat : Int) = n := by
    simp
    omega
  rw [u8, e]
theorem ty_int {m : Nat} {xs : List PV} (h : TyT Tryd.prog (m + 1) 3 xs) : ∃ n, xs = [i64 n] ∧ -9223372036854775808 ≤ n ∧ n ≤ 9223372036854775807 := by
  have hp : partsOf Tryd.prog 3 = none := by simp [partsOf, Tryd.underlying3]
  simp only [TyT, hp, Tryd.underlying3] at h
  obtain ⟨n, rfl, hw⟩ := h
  exact ⟨n, rfl, bounds_i64 hw⟩
theorem ty_str {m : Nat} {xs : List PV} (h : TyT Tryd.prog (m + 1) 9 xs) : ∃ s, xs = [.str s] := by
  have hp : partsOf Tryd.prog 9 = none := by simp [partsOf, Tryd.underlying9]
  simp only [TyT, hp, Tryd.underlying9] at h
  obtain ⟨n, rfl, hw⟩ := h
  exact ⟨n, rfl⟩
theorem lift_list {α : Type} {f : α → PV} {ys : List PV} (h : ∀ y ∈ ys, ∃ a, y = f a) : ∃ zs : List α, ys = zs.map f := by
  induction ys with
  | nil => exact ⟨[], rfl⟩
  | cons y r ih =>
    obtain ⟨a, rfl⟩ := h y (by simp)
    obtain ⟨zs, rfl⟩ := ih fun z hz => h z (by simp [hz])
    exact ⟨a :: zs, rfl⟩
theorem ty_bytes {m : Nat} {xs : List PV} (h : TyT Tryd.prog (m + 2) 22 xs) : ∃ bs : List UInt8, xs = [.lst (bs.map u8)] := by
  have hp : partsOf Tryd.prog 22 = none := by simp [partsOf, Tryd.underlying22]
  have hc : Tryd.prog.cellsOf 5 = 1 := by kernel_rfl
  rw [TyT] at h
  simp only [hp, Tryd.underlying22, hc] at h
  obtain ⟨ys, rfl, _, hy⟩ := h
  obtain ⟨bs, rfl⟩ := lift_list (f := u8) fun y hy' => by
    obtain ⟨b, hb⟩ := ty_u8 (hy y hy')
    simp at hb
    exact ⟨b, hb⟩
  exact ⟨bs, rfl⟩
theorem arg_plain {t : TypeId} {m : Nat} {x : PV} (hp : partsOf Tryd.prog t = none) (h : ArgT Tryd.prog m t x) : TyT Tryd.prog m t [x] := by
  simpa only [ArgT, hp] using h

def someL : List (List UInt8) := [[97], [90], [48], [55], [32], [10], [40, 42], [42, 41], [45, 45], [40], [41], [42], [45], [47, 61], [60], [61], [46], [46, 46], [110, 111, 100, 101], [105, 110], [123], [63], [120, 49], [32, 32]]
theorem someL_le : ∀ s ∈ someL, s.length ≤ 4 := by decide

/-- The index into a table of n. -/
theorem tmod_range (b : UInt8) (n : Int) (hn : 0 < n) : 0 ≤ (b.toNat : Int).tmod n ∧ (b.toNat : Int).tmod n < n := ⟨Int.tmod_nonneg _ (by omega), Int.tmod_lt_of_pos _ hn⟩


theorem lexReads_c (s : List UInt8) (l : List UInt8) (times : UInt8) : Pure cx 3 [.str s, .lst (l.map u8), u8 times] (· = .ret [.bool true]) := by
  refine pure_of_vc Tryd.func3 rfl rfl rfl ?_
  obtain ⟨c, hc⟩ : ∃ c, c = (if (200 : Int) < (s.length : Nat) then (200 : Int) else (s.length : Nat)) := ⟨_, rfl⟩
  have hc' : 0 ≤ c ∧ c ≤ s.length ∧ c ≤ 200 := by rw [hc]; split <;> omega
  refine ⟨by show 0 ≤ (if (200 : Int) < (s.length : Nat) then (200 : Int) else (s.length : Nat)) ∧ (if (200 : Int) < (s.length : Nat) then (200 : Int) else (s.length : Nat)) ≤ _; rw [← hc]; exact ⟨hc'.1, hc'.2.1⟩, ?_⟩
  obtain ⟨s', hs'⟩ : ∃ s', s' = s.take (if (200 : Int) < (s.length : Nat) then (200 : Int) else (s.length : Nat)).toNat := ⟨_, rfl⟩
  have hs'l : s'.length ≤ 200 := by rw [hs', ← hc, List.length_take]; omega
  refine ⟨Nat × List UInt8, fun x => [(0, vS s'), (1, .p (.lst (l.map u8))), (2, .p (u8 times)), (7, .ptr 0 0 0), (8, vS x.2), (9, .p (i64 x.1))], fun _ => ⟨1, [(0, ⟨23, false, .bx (someL.map vS)⟩)]⟩, fun x => x.1 ≤ 60 ∧ x.2.length ≤ 4 * x.1, fun x => 60 - x.1, ?_, ?_⟩
  · refine ⟨(0, []), ⟨by simp, by simp⟩, ent_of [] [] [] rfl ⟨?_, rfl, rfl, ⟨rfl, rfl⟩, rfl, rfl, trivial⟩ (by (repeat' first | exact trivial | exact rfl | exact ⟨rfl, rfl⟩ | exact .inl rfl | refine ⟨_, rfl, rfl, rfl, ?_⟩ | refine ⟨_, _, rfl, ?_, ?_⟩ | refine ⟨_, rfl, ?_⟩ | refine And.intro ?_ ?_)) rfl⟩
    exact congrArg PV.str hs'
  · rintro ⟨k, t⟩ ⟨g1, g2⟩
    simp only [] at g1 g2
    refine And.intro (fun h1 => ?_) (fun h1 => ?_)
    · have h1 : (k : Int) < ((l.map u8).length : Nat) := h1
      rw [List.length_map] at h1
      have hk : k < l.length := by omega
      refine And.intro (fun h2 => ?_) (fun h2 => ?_)
      · have h2 : (k : Int) < 60 := h2
        refine ⟨_, ⟨by omega, u8 l[k], by show (l.map u8)[k]? = _; rw [List.getElem?_map, List.getElem?_eq_getElem hk]; rfl, rfl⟩, ?_⟩
        generalize l[k] = b
        have hb := b.toNat_lt
        have hr := tmod_range b 24 (by decide)
        refine ⟨(b.toNat : Int), wrap_i64 (by omega) (by omega), ?_⟩
        refine ⟨by decide, ?_⟩
        refine ⟨hr, ?_⟩
        have hj : ((b.toNat : Int).tmod 24).toNat < someL.length := by show _ < 24; omega
        refine ⟨_, ldIn1 rfl (by show (someL.map vS)[0 + ((b.toNat : Int).tmod 24).toNat * 1]? = _; rw [Nat.zero_add, Nat.mul_one, List.getElem?_map, List.getElem?_eq_getElem hj]; rfl), ?_⟩
        have hl4 := someL_le _ (List.getElem_mem hj)
        generalize someL[((b.toNat : Int).tmod 24).toNat] = u at hl4 ⊢
        refine ⟨by show t.length + u.length ≤ _; omega, ?_⟩
        refine ⟨(k : Int) + 1, wrap_i64 (by omega) (by omega), (k + 1, t ++ u), ⟨by simp only []; omega, by simp; omega⟩, ent_of [] [] [] rfl ⟨rfl, rfl, rfl, ⟨rfl, rfl⟩, rfl, rfl, trivial⟩ (by (repeat' first | exact trivial | exact rfl | exact ⟨rfl, rfl⟩ | exact .inl rfl | refine ⟨_, rfl, rfl, rfl, ?_⟩ | refine ⟨_, _, rfl, ?_, ?_⟩ | refine ⟨_, rfl, ?_⟩ | refine And.intro ?_ ?_)) rfl, by simp only []; omega⟩
      · refine ⟨Nat × List UInt8, fun x => [(0, vS s'), (2, .p (u8 times)), (8, vS t), (10, vS x.2), (11, .p (i64 x.1))], fun _ => ⟨0, []⟩, fun x => x.1 ≤ times.toNat ∧ x.2.length ≤ 300 * x.1, fun x => times.toNat - x.1, ?_, ?_⟩
        · exact ⟨(0, []), ⟨by simp, by simp⟩, ent_of [] [] [] rfl ⟨rfl, rfl, rfl, rfl, rfl, trivial⟩ trivial rfl⟩
        · rintro ⟨n, u⟩ ⟨q1, q2⟩
          simp only [] at q1 q2
          have ht := times.toNat_lt
          refine ⟨(times.toNat : Int), wrap_i64 (by omega) (by omega), ?_⟩
          refine And.intro (fun h5 => ?_) (fun h5 => ?_)
          · have h5 : (n : Int) < (times.toNat : Nat) := h5
            refine ⟨by show u.length + t.length ≤ _; omega, ?_⟩
            refine ⟨by show (u ++ t).length + 1 ≤ _; rw [List.length_append]; omega, ?_⟩
            refine ⟨(n : Int) + 1, wrap_i64 (by omega) (by omega), (n + 1, (u ++ t) ++ [32]), ⟨by simp only []; omega, by simp; omega⟩, ent_of [] [] [] rfl ⟨rfl, rfl, rfl, rfl, rfl, trivial⟩ trivial rfl, by simp only []; omega⟩
          · refine ⟨by show t.length + s'.length ≤ _; omega, ?_⟩
            obtain ⟨L, hL⟩ : ∃ L : List (List UInt8), L = [s', t, u, t ++ s'] := ⟨_, rfl⟩
            have hL4 : L.length = 4 := by rw [hL]; rfl
            have e : PV.agg (L.map .str) = .agg [.str s', .str t, .str u, .str (t ++ s')] := by rw [hL]; rfl
            refine ⟨Nat, fun x => [(64, .p (.agg (L.map .str))), (65, .p (i64 x))], fun _ => ⟨0, []⟩, fun x => x ≤ 4, fun x => 4 - x, ?_, ?_⟩
            · exact ⟨0, by decide, ent_of [] [] [] rfl ⟨e, rfl, trivial⟩ trivial rfl⟩
            · intro j hj
              refine And.intro (fun h6 => ?_) (fun h6 => ?_)
              · have h6 : (j : Int) < 4 := h6
                have hj' : j < L.length := by omega
                refine ⟨_, ⟨⟨by omega, by omega⟩, .str L[j], ldInP1 rfl (by show (L.map PV.str)[(j : Int).toNat * 1]? = _; rw [Nat.mul_one, List.getElem?_map]; show (L[j]?).map PV.str = _; rw [List.getElem?_eq_getElem hj']; rfl), rfl⟩, ?_⟩
                generalize L[j] = x
                have hA := readW_c x
                have hB := rReadW_c x
                have hn := readT_len x
                generalize readT x = r at hA hB hn
                obtain ⟨us, a, b, e⟩ := r
                simp only [] at hA hB hn
                refine hA.eq rfl ?_
                refine hB.eq rfl ?_
                refine And.intro (fun _ => ?_) (fun h => absurd rfl h)
                refine And.intro (fun _ => ?_) (fun h => absurd rfl h)
                refine And.intro (fun _ => ?_) (fun h => absurd rfl h)
                have hS := same_c us us (by omega) (by omega)
                rw [decide_eq_true rfl] at hS
                refine hS.eq rfl ?_
                refine ⟨(j : Int) + 1, wrap_i64 (by omega) (by omega), j + 1, by omega, ent_of [] [] [] rfl ⟨rfl, rfl, trivial⟩ trivial rfl, ?_⟩
                show 4 - (j + 1) < 4 - j
                omega
              · refine works_c.eq rfl ?_
                exact end1 _ rfl rfl rfl
    · refine ⟨Nat × List UInt8, fun x => [(0, vS s'), (2, .p (u8 times)), (8, vS t), (10, vS x.2), (11, .p (i64 x.1))], fun _ => ⟨0, []⟩, fun x => x.1 ≤ times.toNat ∧ x.2.length ≤ 300 * x.1, fun x => times.toNat - x.1, ?_, ?_⟩
      · exact ⟨(0, []), ⟨by simp, by simp⟩, ent_of [] [] [] rfl ⟨rfl, rfl, rfl, rfl, rfl, trivial⟩ trivial rfl⟩
      · rintro ⟨n, u⟩ ⟨q1, q2⟩
        simp only [] at q1 q2
        have ht := times.toNat_lt
        refine ⟨(times.toNat : Int), wrap_i64 (by omega) (by omega), ?_⟩
        refine And.intro (fun h5 => ?_) (fun h5 => ?_)
        · have h5 : (n : Int) < (times.toNat : Nat) := h5
          refine ⟨by show u.length + t.length ≤ _; omega, ?_⟩
          refine ⟨by show (u ++ t).length + 1 ≤ _; rw [List.length_append]; omega, ?_⟩
          refine ⟨(n : Int) + 1, wrap_i64 (by omega) (by omega), (n + 1, (u ++ t) ++ [32]), ⟨by simp only []; omega, by simp; omega⟩, ent_of [] [] [] rfl ⟨rfl, rfl, rfl, rfl, rfl, trivial⟩ trivial rfl, by simp only []; omega⟩
        · refine ⟨by show t.length + s'.length ≤ _; omega, ?_⟩
          obtain ⟨L, hL⟩ : ∃ L : List (List UInt8), L = [s', t, u, t ++ s'] := ⟨_, rfl⟩
          have hL4 : L.length = 4 := by rw [hL]; rfl
          have e : PV.agg (L.map .str) = .agg [.str s', .str t, .str u, .str (t ++ s')] := by rw [hL]; rfl
          refine ⟨Nat, fun x => [(64, .p (.agg (L.map .str))), (65, .p (i64 x))], fun _ => ⟨0, []⟩, fun x => x ≤ 4, fun x => 4 - x, ?_, ?_⟩
          · exact ⟨0, by decide, ent_of [] [] [] rfl ⟨e, rfl, trivial⟩ trivial rfl⟩
          · intro j hj
            refine And.intro (fun h6 => ?_) (fun h6 => ?_)
            · have h6 : (j : Int) < 4 := h6
              have hj' : j < L.length := by omega
              refine ⟨_, ⟨⟨by omega, by omega⟩, .str L[j], ldInP1 rfl (by show (L.map PV.str)[(j : Int).toNat * 1]? = _; rw [Nat.mul_one, List.getElem?_map]; show (L[j]?).map PV.str = _; rw [List.getElem?_eq_getElem hj']; rfl), rfl⟩, ?_⟩
              generalize L[j] = x
              have hA := readW_c x
              have hB := rReadW_c x
              have hn := readT_len x
              generalize readT x = r at hA hB hn
              obtain ⟨us, a, b, e⟩ := r
              simp only [] at hA hB hn
              refine hA.eq rfl ?_
              refine hB.eq rfl ?_
              refine And.intro (fun _ => ?_) (fun h => absurd rfl h)
              refine And.intro (fun _ => ?_) (fun h => absurd rfl h)
              refine And.intro (fun _ => ?_) (fun h => absurd rfl h)
              have hS := same_c us us (by omega) (by omega)
              rw [decide_eq_true rfl] at hS
              refine hS.eq rfl ?_
              refine ⟨(j : Int) + 1, wrap_i64 (by omega) (by omega), j + 1, by omega, ent_of [] [] [] rfl ⟨rfl, rfl, trivial⟩ trivial rfl, ?_⟩
              show 4 - (j + 1) < 4 - j
              omega
            · refine works_c.eq rfl ?_
              exact end1 _ rfl rfl rfl
end Go.Proofs.YtemlkodkohgmmaaDoor
