/- The reference of layer 37: blanks, words. -/
import Derived.Test.YtemlkodkohgmmaaDoorLj
namespace Go.Proofs.YtemlkodkohgmmaaDoor
open Go Y
set_option maxRecDepth 100000
set_option maxHeartbeats 4000000

theorem closeN_le : ∀ (f d : Nat) (r : List UInt8) (n : Nat), closeN f d r = some n → n ≤ r.length
  | 0, _, _, _, h => by simp [closeN] at h
  | f + 1, d, [], n, h => by simp [closeN] at h
  | f + 1, d, c :: r, n, h => by
    rw [closeN] at h
    split at h
    · rename_i hp
      rw [List.isPrefixOf_iff_prefix] at hp
      have := hp.length_le
      simp only [Option.map_eq_some_iff] at h
      obtain ⟨m, hm, rfl⟩ := h
      have := closeN_le f _ _ _ hm
      simp at *
      omega
    · split at h
      · rename_i hp
        rw [List.isPrefixOf_iff_prefix] at hp
        have := hp.length_le
        split at h
        · injection h with h
          simp at *
          omega
        · simp only [Option.map_eq_some_iff] at h
          obtain ⟨m, hm, rfl⟩ := h
          have := closeN_le f _ _ _ hm
          simp at *
          omega
      · simp only [Option.map_eq_some_iff] at h
        obtain ⟨m, hm, rfl⟩ := h
        have := closeN_le f _ _ _ hm
        simp at *
        omega

theorem rClosed_e (s : List UInt8) (hs : s.length ≤ 8000) (k f : Nat) (hk2 : k + 2 ≤ s.length) (hf : s.length - (k + 2) ≤ f) :
    Pure cx 56 [.str s, i64 k] (· = .ret [i64 (closedV k (closeN f 1 (s.drop (k + 2))))]) :=
  (rClosed_c s hs k f hk2 hf).mono fun _ h => h.1

def skipV (k : Nat) : Nat ⊕ Nat → List PV
  | .inl n => [i64 ((k + n : Nat) : Int), .bool true]
  | .inr n => [i64 ((k + n : Nat) : Int), .bool false]

theorem rSkip_c (s : List UInt8) (hs : s.length ≤ 8000) (k f : Nat) (hk : k ≤ s.length) (hf : s.length - k ≤ f) :
    Pure cx 35 [.str s, i64 k] (· = .ret (skipV k (skipN f (s.drop k)))) := by
  refine pure_of_vc Tryd.func35 rfl rfl rfl ?_
  refine ⟨Nat × Nat, fun x => [(0, vS s), (1, .p (i64 x.1))], fun _ => ⟨0, []⟩,
    fun x => k ≤ x.1 ∧ x.1 ≤ s.length ∧ s.length - x.1 ≤ x.2 ∧ skipN f (s.drop k) = shift (x.1 - k) (skipN x.2 (s.drop x.1)), fun x => s.length - x.1, ?_, ?_⟩
  · exact ⟨(k, f), ⟨by simp, hk, hf, by simp [shift_zero]⟩, ent0 rfl ⟨rfl, rfl, trivial⟩ trivial rfl⟩
  · rintro ⟨k', f'⟩ ⟨g1, g2, g3, hc⟩
    simp only [] at g1 g2 g3 hc
    refine And.intro (fun h1 => ?_) (fun h1 => ?_)
    · have hlt : k' < s.length := by have h1 : (k' : Int) < (s.length : Int) := h1; omega
      have hr : s.drop k' = s[k'] :: s.drop (k' + 1) := List.drop_eq_getElem_cons hlt
      obtain ⟨f'', rfl⟩ : ∃ n, f' = n + 1 := ⟨f' - 1, by omega⟩
      refine ⟨_, ⟨by omega, s[k'], List.getElem?_eq_getElem hlt, rfl⟩, ?_⟩
      have one : (s[k'].toNat = 32 ∨ s[k'].toNat = 10) → skipN f (s.drop k) = shift (k' + 1 - k) (skipN f'' (s.drop (k' + 1))) := by
        intro h
        rw [hc, hr, skipN, if_pos h, shift_shift]
        congr 1
        omega
      refine And.intro (fun h2 => ?_) (fun h2 => ?_)
      · have h2 : ((s[k'].toNat : Nat) : Int) = 32 := h2
        refine ⟨(k' : Int) + 1, wrap_i64 (by omega) (by omega), ?_⟩
        exact ⟨(k' + 1, f''), ⟨by simp only []; omega, by simp only []; omega, by simp only []; omega, one (by omega)⟩, ent0 rfl ⟨rfl, rfl, trivial⟩ trivial rfl, by simp only []; omega⟩
      · have h2 : ¬ ((s[k'].toNat : Nat) : Int) = 32 := h2
        refine ⟨_, ⟨by omega, s[k'], List.getElem?_eq_getElem hlt, rfl⟩, ?_⟩
        refine And.intro (fun h3 => ?_) (fun h3 => ?_)
        · have h3 : ((s[k'].toNat : Nat) : Int) = 10 := h3
          refine ⟨(k' : Int) + 1, wrap_i64 (by omega) (by omega), ?_⟩
          exact ⟨(k' + 1, f''), ⟨by simp only []; omega, by simp only []; omega, by simp only []; omega, one (by omega)⟩, ent0 rfl ⟨rfl, rfl, trivial⟩ trivial rfl, by simp only []; omega⟩
        · have h3 : ¬ ((s[k'].toNat : Nat) : Int) = 10 := h3
          have hno : ¬ (s[k'].toNat = 32 ∨ s[k'].toNat = 10) := by omega
          have hB := rTwo_c s hs k' g2 45 45
          by_cases hb : List.isPrefixOf [45, 45] (s.drop k') = true
          · rw [hb] at hB
            refine hB.eq rfl ?_
            have hsp := span2 hb
            have hle := spanN_le notNl (s.drop k')
            rw [List.length_drop] at hle
            refine ⟨Nat, fun j => [(0, vS s), (1, .p (i64 j))], fun _ => ⟨0, []⟩, fun j => k' ≤ j ∧ j ≤ s.length ∧ spanN notNl (s.drop k') = (j - k') + spanN notNl (s.drop j), fun j => s.length - j, ?_, ?_⟩
            · exact ⟨k', ⟨by omega, g2, by omega⟩, ent0 rfl ⟨rfl, rfl, trivial⟩ trivial rfl⟩
            · rintro j ⟨j1, j2, j3⟩
              have fin : spanN notNl (s.drop j) = 0 → ∃ x : Nat × Nat, (k ≤ x.1 ∧ x.1 ≤ s.length ∧ s.length - x.1 ≤ x.2 ∧ skipN f (s.drop k) = shift (x.1 - k) (skipN x.2 (s.drop x.1))) ∧ x.1 = j ∧ s.length - x.1 < s.length - k' := by
                intro h0
                have ej : spanN notNl (s.drop k') = j - k' := by omega
                refine ⟨(j, f''), ⟨by simp only []; omega, by simp only []; omega, by simp only []; omega, ?_⟩, rfl, by simp only []; omega⟩
                rw [hc]
                conv => lhs; rw [hr, skipN, if_neg hno, ← hr, if_pos hb]
                rw [shift_shift, List.drop_drop, ej, show k' + (j - k') = j by omega]
                congr 1
                omega
              refine And.intro (fun m1 => ?_) (fun m1 => ?_)
              · have hjl : j < s.length := by have m1 : (j : Int) < (s.length : Int) := m1; omega
                have hrj : s.drop j = s[j] :: s.drop (j + 1) := List.drop_eq_getElem_cons hjl
                refine ⟨_, ⟨by omega, s[j], List.getElem?_eq_getElem hjl, rfl⟩, ?_⟩
                refine And.intro (fun m2 => ?_) (fun m2 => ?_)
                · have m2 : ((s[j].toNat : Nat) : Int) = 10 := m2
                  obtain ⟨⟨x1, x2⟩, hx, rfl, hxm⟩ := fin (by rw [hrj, spanN, if_neg (by simp [notNl]; omega)])
                  exact ⟨(x1, x2), hx, ent0 rfl ⟨rfl, rfl, trivial⟩ trivial rfl, hxm⟩
                · have m2 : ¬ ((s[j].toNat : Nat) : Int) = 10 := m2
                  clear fin
                  refine ⟨(j : Int) + 1, wrap_i64 (by omega) (by omega), ?_⟩
                  refine ⟨j + 1, ⟨by omega, by omega, ?_⟩, ent0 rfl ⟨rfl, rfl, trivial⟩ trivial rfl, ?_⟩
                  · rw [j3, hrj, spanN, if_pos (by simp [notNl]; omega)]
                    omega
                  · show s.length - (j + 1) < s.length - j
                    omega
              · have ej : j = s.length := by have m1 : ¬ (j : Int) < (s.length : Int) := m1; omega
                obtain ⟨⟨x1, x2⟩, hx, rfl, hxm⟩ := fin (by rw [ej, List.drop_length]; rfl)
                exact ⟨(x1, x2), hx, ent0 rfl ⟨rfl, rfl, trivial⟩ trivial rfl, hxm⟩
          · rw [Bool.not_eq_true] at hb
            rw [hb] at hB
            refine hB.eq rfl ?_
            have hB2 := rTwo_c s hs k' g2 40 42
            by_cases hb2 : List.isPrefixOf [40, 42] (s.drop k') = true
            · rw [hb2] at hB2
              refine hB2.eq rfl ?_
              have hk2 : k' + 2 ≤ s.length := (isPre_drop hb2).resolve_right (by simp)
              have hcm := rClosed_e s hs k' f'' hk2 (by omega)
              refine Or.elim (Option.eq_none_or_eq_some (closeN f'' 1 (s.drop (k' + 2)))) (fun hcl => ?_) (fun hn => Exists.elim hn (fun n hcl => ?_))
              · rw [hcl] at hcm
                refine hcm.eq rfl ?_
                have e : skipN f (s.drop k) = .inr (k' - k) := by
                  rw [hc, hr, skipN, if_neg hno, ← hr, if_neg (by rw [hb]; simp), if_pos hb2, List.drop_drop, hcl]
                  simp [shift]
                have e2 : k + (k' - k) = k' := by omega
                refine And.intro (fun m1 => ?_) (fun m1 => ?_)
                · refine end2 (i64 k') (.bool false) rfl rfl rfl ?_
                  rw [e]
                  show PEnd.ret [i64 k', .bool false] = .ret [i64 ((k + (k' - k) : Nat) : Int), .bool false]
                  rw [e2]
                · have m1 : ¬ (-1 : Int) < 0 := m1
                  omega
              · rw [hcl] at hcm
                refine hcm.eq rfl ?_
                have hln := closeN_le _ _ _ _ hcl
                rw [List.length_drop] at hln
                refine And.intro (fun m1 => ?_) (fun m1 => ?_)
                · have m1 : ((k' + 2 + n : Nat) : Int) < 0 := m1
                  omega
                · refine ⟨(k' + 2 + n, f''), ⟨by simp only []; omega, by simp only []; omega, by simp only []; omega, ?_⟩, ent0 rfl ⟨rfl, rfl, trivial⟩ trivial rfl, by simp only []; omega⟩
                  rw [hc, hr, skipN, if_neg hno, ← hr, if_neg (by rw [hb]; simp), if_pos hb2, List.drop_drop, hcl]
                  simp only []
                  rw [shift_shift, List.drop_drop, show k' + (2 + n) = k' + 2 + n by omega]
                  congr 1
                  omega
            · rw [Bool.not_eq_true] at hb2
              rw [hb2] at hB2
              refine hB2.eq rfl ?_
              have e : skipN f (s.drop k) = .inl (k' - k) := by
                rw [hc, hr, skipN, if_neg hno, ← hr, if_neg (by rw [hb]; simp), if_neg (by rw [hb2]; simp)]
                simp [shift]
              refine end2 (i64 k') (.bool true) rfl rfl rfl ?_
              rw [e]
              show PEnd.ret [i64 k', .bool true] = .ret [i64 ((k + (k' - k) : Nat) : Int), .bool true]
              rw [show k + (k' - k) = k' by omega]
    · have hk' : k' = s.length := by have h1 : ¬ (k' : Int) < (s.length : Int) := h1; omega
      have e : skipN f (s.drop k) = .inl (k' - k) := by
        rw [hc, hk', List.drop_length]
        cases f' <;> simp [skipN, shift]
      refine end2 (i64 k') (.bool true) rfl rfl rfl ?_
      rw [e]
      show PEnd.ret [i64 k', .bool true] = .ret [i64 ((k + (k' - k) : Nat) : Int), .bool true]
      rw [show k + (k' - k) = k' by omega]

theorem spanN_take_one (g : UInt8 → Bool) (s : List UInt8) (k : Nat) (h : k < s.length) : sub s (some (k : Int)) (some ((k : Int) + 1)) = [s[k]] := by
  show (s.drop ((k : Int)).toNat).take (((k : Int) + 1).toNat - ((k : Int)).toNat) = _
  rw [show ((k : Int) + 1).toNat - ((k : Int)).toNat = 1 by omega]
  show (s.drop k).take 1 = _
  rw [List.drop_eq_getElem_cons h]
  rfl
theorem sub_span (s : List UInt8) (k m : Nat) : sub s (some (k : Int)) (some ((k + m : Nat) : Int)) = (s.drop k).take m := by
  show (s.drop ((k : Int)).toNat).take (((k + m : Nat) : Int).toNat - ((k : Int)).toNat) = _
  rw [show ((k + m : Nat) : Int).toNat - ((k : Int)).toNat = m by omega]
  rfl
theorem runN_one (c : UInt8) : runN [c] = isAln c := by
  cases h : isAln c <;> simp [runN, spanN, h]


theorem rOne_c (s : List UInt8) (hs : s.length ≤ 8000) (k : Nat) (hk : k < s.length) :
    Pure cx 37 [.str s, i64 k] (· = .ret [i64 (oneN (s.drop k)).1, .str (oneN (s.drop k)).2]) := by
  refine pure_of_vc Tryd.func37 rfl rfl rfl ?_
  have hlen : (s.drop k).length = s.length - k := List.length_drop
  refine ⟨Nat, fun j => [(0, vS s), (1, .p (i64 k)), (6, .p (i64 ((k + j : Nat) : Int)))], fun _ => ⟨0, []⟩, fun j => k + j ≤ s.length ∧ spanN isAln (s.drop k) = j + spanN isAln (s.drop (k + j)), fun j => s.length - j, ?_, ?_⟩
  · exact ⟨0, ⟨by omega, by simp⟩, ent0 rfl ⟨rfl, rfl, rfl, trivial⟩ trivial rfl⟩
  · rintro j ⟨j1, j2⟩
    refine And.intro (fun h1 => ?_) (fun h1 => ?_)
    · have h1 : ((k + j : Nat) : Int) < ((s.length : Nat) : Int) := h1
      have hlt : k + j < s.length := by omega
      refine ⟨((k + j : Nat) : Int) + 1, wrap_i64 (by omega) (by omega), ?_⟩
      refine ⟨⟨by omega, by omega, by omega⟩, ?_⟩
      have hR := rRun_c (sub s (some ((k + j : Nat) : Int)) (some (((k + j : Nat) : Int) + 1))) (by rw [spanN_take_one isAln s (k + j) hlt]; simp)
      have hrn : runN (sub s (some ((k + j : Nat) : Int)) (some (((k + j : Nat) : Int) + 1))) = isAln s[k + j] := by rw [spanN_take_one isAln s (k + j) hlt, runN_one]
      rw [hrn] at hR
      have hc : s.drop (k + j) = s[k + j] :: s.drop (k + j + 1) := List.drop_eq_getElem_cons hlt
      by_cases ha : isAln s[k + j] = true
      · rw [ha] at hR
        refine hR.eq rfl ?_
        refine ⟨((k + j : Nat) : Int) + 1, wrap_i64 (by omega) (by omega), j + 1, ⟨by omega, ?_⟩, ent0 rfl ⟨rfl, rfl, rfl, trivial⟩ trivial rfl, ?_⟩
        · rw [j2, hc, spanN, if_pos ha]
          show j + (spanN isAln (s.drop (k + j + 1)) + 1) = j + 1 + spanN isAln (s.drop (k + (j + 1)))
          rw [show k + (j + 1) = k + j + 1 by omega]
          omega
        · show s.length - (j + 1) < s.length - j
          omega
      · rw [Bool.not_eq_true] at ha
        rw [ha] at hR
        refine hR.eq rfl ?_
        have hz : spanN isAln (s.drop (k + j)) = 0 := by rw [hc, spanN, if_neg (by rw [ha]; simp)]
        have hsp : spanN isAln (s.drop k) = j := by omega
        refine And.intro (fun h2 => ?_) (fun h2 => ?_)
        · have h2 : (k : Int) < ((k + j : Nat) : Int) := h2
          have hpos : 0 < spanN isAln (s.drop k) := by omega
          refine ⟨⟨by omega, by omega, by omega⟩, ?_⟩
          have e := sub_span s k j
          have htl : (sub s (some (k : Int)) (some ((k + j : Nat) : Int))).length = j := by rw [e, List.length_take]; omega
          refine rKeys_c.eq rfl ?_
          have hK := rIn_c keysL (by decide) (sub s (some (k : Int)) (some ((k + j : Nat) : Int)))
          by_cases hkey : inL keysL (sub s (some (k : Int)) (some ((k + j : Nat) : Int))) = true
          · rw [hkey] at hK
            refine hK.eq rfl ?_
            refine end2 (i64 2) (.str (sub s (some (k : Int)) (some ((k + j : Nat) : Int)))) rfl rfl rfl ?_
            rw [e] at hkey ⊢
            rw [show oneN (s.drop k) = (2, (s.drop k).take j) by rw [oneN, if_pos hpos, hsp, if_pos hkey]]
          · rw [Bool.not_eq_true] at hkey
            rw [hkey] at hK
            refine hK.eq rfl ?_
            obtain ⟨c, r, hcr⟩ : ∃ c r, sub s (some (k : Int)) (some ((k + j : Nat) : Int)) = c :: r := by
              cases ht : sub s (some (k : Int)) (some ((k + j : Nat) : Int)) with
              | nil => rw [ht] at htl; simp at htl; omega
              | cons c r => exact ⟨c, r, rfl⟩
            refine ⟨_, ⟨by omega, c, by show (sub s (some (k : Int)) (some ((k + j : Nat) : Int)))[0]? = _; rw [hcr]; rfl, rfl⟩, ?_⟩
            have hD := rDigit_c c
            have hh : ((s.drop k).take j).headD 0 = c := by rw [← e, hcr]; rfl
            by_cases hd : isDig c = true
            · rw [hd] at hD
              refine hD.eq rfl ?_
              refine end2 (i64 3) (.str (sub s (some (k : Int)) (some ((k + j : Nat) : Int)))) rfl rfl rfl ?_
              rw [e] at hkey ⊢
              rw [show oneN (s.drop k) = (3, (s.drop k).take j) by rw [oneN, if_pos hpos, hsp, if_neg (by rw [hkey]; simp), if_pos (by rw [hh]; exact hd)]]
            · rw [Bool.not_eq_true] at hd
              rw [hd] at hD
              refine hD.eq rfl ?_
              refine end2 (i64 1) (.str (sub s (some (k : Int)) (some ((k + j : Nat) : Int)))) rfl rfl rfl ?_
              rw [e] at hkey ⊢
              rw [show oneN (s.drop k) = (1, (s.drop k).take j) by rw [oneN, if_pos hpos, hsp, if_neg (by rw [hkey]; simp), if_neg (by rw [hh, hd]; simp)]]
        · have h2 : ¬ (k : Int) < ((k + j : Nat) : Int) := h2
          have hpos : ¬ 0 < spanN isAln (s.drop k) := by omega
          refine VDraw.seq rfl ?_
          refine ⟨((k + 2 : Nat) : Int), by rw [show ((k + 2 : Nat) : Int) = (k : Int) + 2 by omega]; exact wrap_i64 (by omega) (by omega), ?_⟩
          refine And.intro (fun h3 => ?_) (fun h3 => ?_)
          · have h3 : ((k + 2 : Nat) : Int) ≤ ((s.length : Nat) : Int) := h3
            refine ⟨((k + 2 : Nat) : Int), by rw [show ((k + 2 : Nat) : Int) = (k : Int) + 2 by omega]; exact wrap_i64 (by omega) (by omega), ?_⟩
            refine ⟨⟨by omega, by omega, by omega⟩, ?_⟩
            refine rMarks_c.eq rfl ?_
            have e := sub_span s k 2
            have hM := rIn_c marksL (by decide) (sub s (some (k : Int)) (some ((k + 2 : Nat) : Int)))
            by_cases hm : inL marksL (sub s (some (k : Int)) (some ((k + 2 : Nat) : Int))) = true
            · rw [hm] at hM
              refine hM.eq rfl ?_
              refine VDraw.seq rfl ?_
              refine ⟨((k + 2 : Nat) : Int), by rw [show ((k + 2 : Nat) : Int) = (k : Int) + 2 by omega]; exact wrap_i64 (by omega) (by omega), ?_⟩
              refine ⟨⟨by omega, by omega, by omega⟩, ?_⟩
              refine end2 (i64 4) (.str (sub s (some (k : Int)) (some ((k + 2 : Nat) : Int)))) rfl rfl rfl ?_
              rw [e] at hm ⊢
              rw [show oneN (s.drop k) = (4, (s.drop k).take 2) by rw [oneN, if_neg hpos, if_pos (by rw [hm, decide_eq_true (by omega)]; rfl)]]
            · rw [Bool.not_eq_true] at hm
              rw [hm] at hM
              refine hM.eq rfl ?_
              refine VDraw.seq rfl ?_
              refine ⟨((k + 1 : Nat) : Int), by rw [show ((k + 1 : Nat) : Int) = (k : Int) + 1 by omega]; exact wrap_i64 (by omega) (by omega), ?_⟩
              refine ⟨⟨by omega, by omega, by omega⟩, ?_⟩
              refine end2 (i64 4) (.str (sub s (some (k : Int)) (some ((k + 1 : Nat) : Int)))) rfl rfl rfl ?_
              rw [e] at hm
              rw [sub_span, show oneN (s.drop k) = (4, (s.drop k).take 1) by rw [oneN, if_neg hpos, if_neg (by rw [hm]; simp)]]
          · have h3 : ¬ ((k + 2 : Nat) : Int) ≤ ((s.length : Nat) : Int) := h3
            refine VDraw.seq rfl ?_
            refine ⟨((k + 1 : Nat) : Int), by rw [show ((k + 1 : Nat) : Int) = (k : Int) + 1 by omega]; exact wrap_i64 (by omega) (by omega), ?_⟩
            refine ⟨⟨by omega, by omega, by omega⟩, ?_⟩
            refine end2 (i64 4) (.str (sub s (some (k : Int)) (some ((k + 1 : Nat) : Int)))) rfl rfl rfl ?_
            rw [sub_span, show oneN (s.drop k) = (4, (s.drop k).take 1) by rw [oneN, if_neg hpos, if_neg (by rw [decide_eq_false (by omega)]; simp)]]
    · have h1 : ¬ ((k + j : Nat) : Int) < ((s.length : Nat) : Int) := h1
      have hz : spanN isAln (s.drop (k + j)) = 0 := by rw [show k + j = s.length by omega, List.drop_length]; rfl
      have hsp : spanN isAln (s.drop k) = j := by omega
      refine And.intro (fun h2 => ?_) (fun h2 => ?_)
      · have h2 : (k : Int) < ((k + j : Nat) : Int) := h2
        have hpos : 0 < spanN isAln (s.drop k) := by omega
        refine ⟨⟨by omega, by omega, by omega⟩, ?_⟩
        have e := sub_span s k j
        have htl : (sub s (some (k : Int)) (some ((k + j : Nat) : Int))).length = j := by rw [e, List.length_take]; omega
        refine rKeys_c.eq rfl ?_
        have hK := rIn_c keysL (by decide) (sub s (some (k : Int)) (some ((k + j : Nat) : Int)))
        by_cases hkey : inL keysL (sub s (some (k : Int)) (some ((k + j : Nat) : Int))) = true
        · rw [hkey] at hK
          refine hK.eq rfl ?_
          refine end2 (i64 2) (.str (sub s (some (k : Int)) (some ((k + j : Nat) : Int)))) rfl rfl rfl ?_
          rw [e] at hkey ⊢
          rw [show oneN (s.drop k) = (2, (s.drop k).take j) by rw [oneN, if_pos hpos, hsp, if_pos hkey]]
        · rw [Bool.not_eq_true] at hkey
          rw [hkey] at hK
          refine hK.eq rfl ?_
          obtain ⟨c, r, hcr⟩ : ∃ c r, sub s (some (k : Int)) (some ((k + j : Nat) : Int)) = c :: r := by
            cases ht : sub s (some (k : Int)) (some ((k + j : Nat) : Int)) with
            | nil => rw [ht] at htl; simp at htl; omega
            | cons c r => exact ⟨c, r, rfl⟩
          refine ⟨_, ⟨by omega, c, by show (sub s (some (k : Int)) (some ((k + j : Nat) : Int)))[0]? = _; rw [hcr]; rfl, rfl⟩, ?_⟩
          have hD := rDigit_c c
          have hh : ((s.drop k).take j).headD 0 = c := by rw [← e, hcr]; rfl
          by_cases hd : isDig c = true
          · rw [hd] at hD
            refine hD.eq rfl ?_
            refine end2 (i64 3) (.str (sub s (some (k : Int)) (some ((k + j : Nat) : Int)))) rfl rfl rfl ?_
            rw [e] at hkey ⊢
            rw [show oneN (s.drop k) = (3, (s.drop k).take j) by rw [oneN, if_pos hpos, hsp, if_neg (by rw [hkey]; simp), if_pos (by rw [hh]; exact hd)]]
          · rw [Bool.not_eq_true] at hd
            rw [hd] at hD
            refine hD.eq rfl ?_
            refine end2 (i64 1) (.str (sub s (some (k : Int)) (some ((k + j : Nat) : Int)))) rfl rfl rfl ?_
            rw [e] at hkey ⊢
            rw [show oneN (s.drop k) = (1, (s.drop k).take j) by rw [oneN, if_pos hpos, hsp, if_neg (by rw [hkey]; simp), if_neg (by rw [hh, hd]; simp)]]
      · have h2 : ¬ (k : Int) < ((k + j : Nat) : Int) := h2
        have hpos : ¬ 0 < spanN isAln (s.drop k) := by omega
        refine VDraw.seq rfl ?_
        refine ⟨((k + 2 : Nat) : Int), by rw [show ((k + 2 : Nat) : Int) = (k : Int) + 2 by omega]; exact wrap_i64 (by omega) (by omega), ?_⟩
        refine And.intro (fun h3 => ?_) (fun h3 => ?_)
        · have h3 : ((k + 2 : Nat) : Int) ≤ ((s.length : Nat) : Int) := h3
          refine ⟨((k + 2 : Nat) : Int), by rw [show ((k + 2 : Nat) : Int) = (k : Int) + 2 by omega]; exact wrap_i64 (by omega) (by omega), ?_⟩
          refine ⟨⟨by omega, by omega, by omega⟩, ?_⟩
          refine rMarks_c.eq rfl ?_
          have e := sub_span s k 2
          have hM := rIn_c marksL (by decide) (sub s (some (k : Int)) (some ((k + 2 : Nat) : Int)))
          by_cases hm : inL marksL (sub s (some (k : Int)) (some ((k + 2 : Nat) : Int))) = true
          · rw [hm] at hM
            refine hM.eq rfl ?_
            refine VDraw.seq rfl ?_
            refine ⟨((k + 2 : Nat) : Int), by rw [show ((k + 2 : Nat) : Int) = (k : Int) + 2 by omega]; exact wrap_i64 (by omega) (by omega), ?_⟩
            refine ⟨⟨by omega, by omega, by omega⟩, ?_⟩
            refine end2 (i64 4) (.str (sub s (some (k : Int)) (some ((k + 2 : Nat) : Int)))) rfl rfl rfl ?_
            rw [e] at hm ⊢
            rw [show oneN (s.drop k) = (4, (s.drop k).take 2) by rw [oneN, if_neg hpos, if_pos (by rw [hm, decide_eq_true (by omega)]; rfl)]]
          · rw [Bool.not_eq_true] at hm
            rw [hm] at hM
            refine hM.eq rfl ?_
            refine VDraw.seq rfl ?_
            refine ⟨((k + 1 : Nat) : Int), by rw [show ((k + 1 : Nat) : Int) = (k : Int) + 1 by omega]; exact wrap_i64 (by omega) (by omega), ?_⟩
            refine ⟨⟨by omega, by omega, by omega⟩, ?_⟩
            refine end2 (i64 4) (.str (sub s (some (k : Int)) (some ((k + 1 : Nat) : Int)))) rfl rfl rfl ?_
            rw [e] at hm
            rw [sub_span, show oneN (s.drop k) = (4, (s.drop k).take 1) by rw [oneN, if_neg hpos, if_neg (by rw [hm]; simp)]]
        · have h3 : ¬ ((k + 2 : Nat) : Int) ≤ ((s.length : Nat) : Int) := h3
          refine VDraw.seq rfl ?_
          refine ⟨((k + 1 : Nat) : Int), by rw [show ((k + 1 : Nat) : Int) = (k : Int) + 1 by omega]; exact wrap_i64 (by omega) (by omega), ?_⟩
          refine ⟨⟨by omega, by omega, by omega⟩, ?_⟩
          refine end2 (i64 4) (.str (sub s (some (k : Int)) (some ((k + 1 : Nat) : Int)))) rfl rfl rfl ?_
          rw [sub_span, show oneN (s.drop k) = (4, (s.drop k).take 1) by rw [oneN, if_neg hpos, if_neg (by rw [decide_eq_false (by omega)]; simp)]]
end Go.Proofs.YtemlkodkohgmmaaDoor
