/- LexAgain: the row and the card. Joining the words of a text gives a text that is not longer, with the same words, for all lists of characters. Conditions: those of the card. -/
import Derived.Test.YtemlkodkohgmmaaDoorRows
import Derived.Test.YtemlkodkohgmmaaDoorCards
import Derived.Test.YtemlkodkohgmmaaDoorTie
import Derived.SevenTiedAt
import Derived.Test.YtemlkodkohgmmaaDoorQ3
/- Plain laws: joining the words of a text. -/
namespace Go.Proofs.YtemlkodkohgmmaaDoor
open Go Y
set_option maxRecDepth 100000
set_option maxHeartbeats 4000000

/-- How a place moves on. -/
theorem advs_move (u : List UInt8) : ∀ (p : Nat × Nat), 1 ≤ p.2 → 1 ≤ (advs p u).2 ∧ p.1 ≤ (advs p u).1 ∧ ((advs p u).1 = p.1 → (advs p u).2 = p.2 + u.length) ∧ (p.1 < (advs p u).1 → (advs p u).1 - p.1 + ((advs p u).2 - 1) ≤ u.length) := by
  induction u with
  | nil => intro p hp; simp [advs, hp]
  | cons c u ih =>
    intro p hp
    rw [advs_cons]
    by_cases h : c.toNat = 10
    · have e : adv p c = (p.1 + 1, 1) := by simp [adv, h]
      obtain ⟨h1, h2, h3, h4⟩ := ih (adv p c) (by rw [e]; simp)
      rw [e] at h1 h2 h3 h4 ⊢
      simp only [] at h1 h2 h3 h4
      refine ⟨h1, by omega, fun h => by omega, fun _ => ?_⟩
      simp only [List.length_cons]
      rcases Nat.lt_or_ge (p.1 + 1) (advs (p.1 + 1, 1) u).1 with h5 | h5
      · have := h4 h5; omega
      · have := h3 (by omega); omega
    · have e : adv p c = (p.1, p.2 + 1) := by simp [adv, h]
      obtain ⟨h1, h2, h3, h4⟩ := ih (adv p c) (by rw [e]; simp)
      rw [e] at h1 h2 h3 h4 ⊢
      simp only [] at h1 h2 h3 h4
      simp only [List.length_cons]
      exact ⟨h1, h2, fun h => by have := h3 h; omega, fun h => by have := h4 h; omega⟩

theorem advs_rep (n : Nat) (p : Nat × Nat) : advs p (List.replicate n 10) = (p.1 + n, if n = 0 then p.2 else 1) ∧ advs p (List.replicate n 32) = (p.1, p.2 + n) := by
  induction n generalizing p with
  | zero => simp [advs]
  | succ n ih =>
    constructor
    · rw [List.replicate_succ, advs_cons, (ih _).1]
      simp [adv]
      omega
    · rw [List.replicate_succ, advs_cons, (ih _).2]
      simp [adv]
      omega
/-- The gap leads to the word's place. -/
theorem advs_gap {l c : Nat} {w : Wd} {l' c' : Nat} (hl : w.line = l') (hc : w.col = c') (hc1 : 1 ≤ c') (h : ¬ (l' < l ∨ l' = l ∧ c' < c)) : advs (l, c) (gapN l c w) = (l', c') := by
  rw [gapN, hl, hc, advs_append, (advs_rep _ _).1, (advs_rep _ _).2]
  simp only [Int.toNat_natCast]
  by_cases hlt : l < l'
  · rw [if_neg (by omega), if_pos hlt]
    ext <;> simp <;> omega
  · rw [if_pos (by omega), if_neg hlt]
    ext <;> simp <;> omega
theorem gap_bl (l c : Nat) (w : Wd) : ∀ x ∈ gapN l c w, isBl x := by
  intro x hx
  simp only [gapN, List.mem_append, List.mem_replicate] at hx
  rcases hx with ⟨_, rfl⟩ | ⟨_, rfl⟩
  · exact .inr rfl
  · exact .inl rfl

theorem one_split {r : List UInt8} : (oneN r).2 = r.take (oneN r).2.length := by
  unfold oneN
  split
  · split
    · simp
    · split <;> simp
  · split
    · simp
    · simp

theorem skip_end : ∀ (f : Nat) (s : List UInt8) (n : Nat), s.length ≤ f → skipN f s = .inl n → stopB (s.drop n) = true
  | 0, s, n, hf, h => by
    have : s = [] := List.eq_nil_of_length_eq_zero (by omega)
    subst this
    simp [stopB]
  | f + 1, [], n, _, h => by simp [stopB]
  | f + 1, c :: r, n, hf, h => by
    have sh : ∀ (m : Nat) (x : Nat ⊕ Nat), shift m x = .inl n → ∃ n', x = .inl n' ∧ n = m + n' := by
      intro m x h
      cases x with
      | inl y => simp [shift] at h; exact ⟨y, rfl, by omega⟩
      | inr y => simp [shift] at h
    have h0 := h
    rw [skipN] at h
    split at h
    · obtain ⟨n', h1, rfl⟩ := sh _ _ h
      rw [← List.drop_drop]
      exact skip_end f _ n' (by simp at hf ⊢; omega) h1
    · split at h
      · rename_i h2
        have hs := span2 h2
        obtain ⟨n', h1, rfl⟩ := sh _ _ h
        rw [← List.drop_drop]
        exact skip_end f _ n' (by rw [List.length_drop]; omega) h1
      · split at h
        · split at h
          · cases h
          · rename_i m _
            obtain ⟨n', h1, rfl⟩ := sh _ _ h
            rw [← List.drop_drop]
            exact skip_end f _ n' (by rw [List.length_drop]; omega) h1
        · injection h with h
          subst h
          simpa using stop_skip h0

theorem at_add (t : List UInt8) (k n : Nat) : at_ t (k + n) = advs (at_ t k) ((t.drop k).take n) := by
  rw [at_, at_, List.take_add, advs_append]
theorem at_pos (t : List UInt8) (k : Nat) : 1 ≤ (at_ t k).1 ∧ 1 ≤ (at_ t k).2 := by
  have := advs_move (t.take k) (1, 1) (by simp)
  exact ⟨this.2.1, this.1⟩
theorem advs_bound (u : List UInt8) (p : Nat × Nat) : (advs p u).1 ≤ p.1 + u.length ∧ (advs p u).2 ≤ p.2 + u.length + 1 := by
  induction u generalizing p with
  | nil => simp [advs]
  | cons c u ih =>
    have := ih (adv p c)
    have h2 := adv_le p c
    rw [advs_cons]
    simp only [List.length_cons]
    omega
theorem at_bound (t : List UInt8) (k : Nat) (h : k ≤ t.length) : (at_ t k).1 ≤ 1 + k ∧ (at_ t k).2 ≤ 1 + k := by
  have h1 := advs_bound (t.take k) (1, 1)
  have h2 := advs_move (t.take k) (1, 1) (by simp)
  rw [List.length_take, Nat.min_eq_left h] at h1 h2
  show (advs (1, 1) (t.take k)).1 ≤ 1 + k ∧ (advs (1, 1) (t.take k)).2 ≤ 1 + k
  obtain ⟨a1, a2, a3, a4⟩ := h2
  simp only [] at a1 a2 a3 a4 h1
  rcases Nat.lt_or_ge 1 (advs (1, 1) (t.take k)).1 with h5 | h5
  · have := a4 h5; omega
  · have := a3 (by omega); omega

/-- A word that was read from a text. -/
def From (t : List UInt8) (v : Wd) : Prop := (∃ j, j < t.length ∧ v.line = (at_ t j).1 ∧ v.col = (at_ t j).2) ∧ rightN v.kind v.text = true

/-- What has been read, joined. -/
theorem lay_read (t : List UInt8) : ∀ (f k : Nat) (acc ws : List Wd), k ≤ t.length → readN f t k acc = .ok ws → t.length < k + f →
    ∃ vs T, ws = acc ++ vs ∧ putN (at_ t k).1 (at_ t k).2 vs = some T ∧ T.length ≤ t.length - k ∧ Lay (at_ t k) T vs [] ∧ Fol (t.drop k) T ∧ ∀ v ∈ vs, From t v
  | 0, k, acc, ws, hk, _, hf => by omega
  | f + 1, k, acc, ws, hk, h, hf => by
    rw [readN] at h
    split at h
    · cases h
    · rename_i n hsk
      have hn := skipN_le _ _ _ (.inl hsk)
      rw [List.length_drop] at hn
      have hst := skip_end _ _ _ (by rw [List.length_drop]; omega) hsk
      rw [List.drop_drop] at hst
      rw [readB] at h
      split at h
      · injection h with h
        exact ⟨[], [], by simp [h], rfl, by simp, Lay.nil _ _, Fol.nil _, by simp⟩
      · rename_i hlt
        split at h
        · cases h
        · rename_i hr
          split at h
          · cases h
          · obtain ⟨r, hrd⟩ : ∃ r, r = t.drop (k + n) := ⟨_, rfl⟩
            rw [← hrd] at h hr hst
            have hne : r ≠ [] := by intro e; have := congrArg List.length (hrd.symm.trans e); rw [List.length_drop] at this; simp only [List.length_nil] at this; omega
            have hpos := one_pos hne
            have hspl := one_split (r := r)
            obtain ⟨kd, tx, ho⟩ : ∃ kd tx, oneN r = (kd, tx) := ⟨_, _, rfl⟩
            rw [ho] at h hr hpos hspl
            simp only [] at h hr hpos hspl
            have hrl : r.length = t.length - (k + n) := by rw [hrd, List.length_drop]
            have htl : tx.length ≤ r.length := by have := congrArg List.length hspl; rw [List.length_take] at this; omega
            obtain ⟨vs, T, e1, e2, e3, e4, e5, e6⟩ := lay_read t f (k + n + tx.length) _ ws (by omega) h (by omega)
            have hsplit : r = tx ++ t.drop (k + n + tx.length) := by
              rw [← List.drop_drop, ← hrd]
              conv => lhs; rw [← List.take_append_drop tx.length r]
              rw [← hspl]
            obtain ⟨l', c', hat⟩ : ∃ l' c', at_ t (k + n) = (l', c') := ⟨_, _, rfl⟩
            have hpos' := at_pos t (k + n)
            have hp0 := at_pos t k
            rw [hat] at e1 hpos'
            simp only [] at e1 hpos'
            have hat2 : at_ t (k + n + tx.length) = (l', c' + tx.length) := by
              rw [at_add, hat, ← hrd, ← hspl, advs_text (right_noNl hr)]
            rw [hat2] at e2 e4
            have hmv := advs_move ((t.drop k).take n) (at_ t k) hp0.2
            rw [← at_add, hat, List.length_take, List.length_drop, Nat.min_eq_left (by omega)] at hmv
            simp only [] at hmv
            obtain ⟨m1, m2, m3, m4⟩ := hmv
            obtain ⟨w, hw⟩ : ∃ w : Wd, w = ⟨kd, tx, (l' : Int), (c' : Int)⟩ := ⟨_, rfl⟩
            have hwl : w.line = l' := by rw [hw]
            have hwc : w.col = c' := by rw [hw]
            have hwt : w.text = tx := by rw [hw]
            have hwk : w.kind = kd := by rw [hw]
            rw [← hw] at e1
            have hnb : ¬ (l' < (at_ t k).1 ∨ l' = (at_ t k).1 ∧ c' < (at_ t k).2) := by
              intro hb
              rcases hb with hb | ⟨hb1, hb2⟩
              · omega
              · have := m3 hb1; omega
            have hgl := gap_len (at_ t k).1 (at_ t k).2 w
            rw [hwl, hwc] at hgl
            simp only [Int.toNat_natCast] at hgl
            have hglen : (gapN (at_ t k).1 (at_ t k).2 w).length ≤ n ∧ (0 < n → 0 < (gapN (at_ t k).1 (at_ t k).2 w).length) := by
              rw [hgl]
              by_cases hlt' : (at_ t k).1 < l'
              · rw [if_pos hlt']; have := m4 hlt'; omega
              · rw [if_neg hlt']; have := m3 (by omega); omega
            have hst' : stopB (tx ++ T) = true := stop_fol (by intro e; rw [e] at hpos; simp at hpos) (by rw [← hsplit]; exact hst) e5
            have ho' : oneN (tx ++ T) = (kd, tx) := one_fol hr (by rw [← hsplit]; exact ho) e5
            refine ⟨w :: vs, gapN (at_ t k).1 (at_ t k).2 w ++ (w.text ++ T), by rw [e1]; simp, ?_, ?_, ?_, ?_, ?_⟩
            · rw [putN, hwl, hwc, hwt]
              simp only [Int.toNat_natCast]
              rw [if_neg hnb, e2]
              simp
            · simp only [List.length_append]
              rw [hwt]
              omega
            · have hadv := advs_gap hwl hwc hpos'.2 hnb
              refine Lay.cons ?_ ?_ (by rw [hwk, hwt]; exact hr) hadv hwl hwc (by rw [hwt]; exact e4)
              · rw [hwt, List.append_nil]; exact skips_blank hst' (gap_bl _ _ _)
              · rw [hwt, hwk, List.append_nil]; exact ho'
            · rcases Nat.eq_zero_or_pos n with hn0 | hn0
              · subst hn0
                have : gapN (at_ t k).1 (at_ t k).2 w = [] := List.eq_nil_of_length_eq_zero (by omega)
                rw [this, List.nil_append, hwt]
                rw [Nat.add_zero] at hrd
                rw [← hrd, hsplit]
                cases tx with
                | nil => simp at hpos
                | cons c tx' => exact Fol.same c _ _
              · have hg := hglen.2 hn0
                have hbl := gap_bl (at_ t k).1 (at_ t k).2 w
                cases e : gapN (at_ t k).1 (at_ t k).2 w with
                | nil => rw [e] at hg; simp at hg
                | cons x g => exact Fol.bl _ x _ (hbl x (by rw [e]; simp))
            · intro v hv
              rcases List.mem_cons.1 hv with rfl | hv
              · exact ⟨⟨k + n, by omega, by rw [hwl, hat], by rw [hwc, hat]⟩, by rw [hwk, hwt]; exact hr⟩
              · exact e6 v hv

theorem Lay.len {p : Nat × Nat} {T : List UInt8} {ws : List Wd} {suf : List UInt8} (h : Lay p T ws suf) : ws.length ≤ T.length := by
  induction h with
  | nil => simp
  | cons hsk h1 hr hp hl hc h ih =>
    have := right_len hr
    simp only [List.length_cons, List.length_append]
    omega

/-- Reading a text in which words stand. -/
theorem readR_lay {T : List UInt8} {ws : List Wd} (h : Lay (1, 1) T ws []) (hn : ws.length ≤ 1500) : readR T = .ok ws := by
  have hl := h.len
  have := read_lay h [] [] (T.length - ws.length + 1) rfl (by simpa using hn)
  simp only [List.nil_append, List.append_nil, List.length_nil] at this
  rw [readR, show T.length + 1 = T.length - ws.length + 1 + ws.length by omega, this, readN]
  rw [List.drop_length]
  have e : skipN T.length ([] : List UInt8) = .inl 0 := by cases T.length <;> rfl
  rw [e]
  simp [readB]

/-- THE LAW of LexAgain. -/
theorem join_read {t : List UInt8} {ws : List Wd} (ht : t.length ≤ 8000) (h : readR t = .ok ws) : ∃ T, joinN ws = (T, 0) ∧ T.length ≤ t.length ∧ readT T = (ws, 0, 0, 0) := by
  obtain ⟨vs, T, e1, e2, e3, e4, _, e6⟩ := lay_read t _ 0 [] ws (by omega) h (by omega)
  rw [List.nil_append] at e1
  subst e1
  have hn := readR_ok h
  have hat : at_ t 0 = (1, 1) := by simp [at_, advs]
  rw [hat] at e2 e4
  have hrd := readR_lay e4 hn
  have hall : ¬ ws.all checkN = false := by
    rw [Bool.not_eq_false, List.all_eq_true]
    intro v hv
    obtain ⟨⟨j, j1, j2, j3⟩, hr⟩ := e6 v hv
    have hb := at_bound t j (by omega)
    have hp := at_pos t j
    simp only [checkN, Bool.and_eq_true, decide_eq_true_eq]
    refine ⟨by omega, by omega, by omega, by omega, hr⟩
  refine ⟨T, ?_, by omega, ?_⟩
  · rw [joinN, if_neg (by omega), if_neg hall, e2]
    simp only []
    rw [if_neg (by omega), hrd]
    simp
  · rw [readT, if_neg (by omega), hrd]

/-- Few octets do not have many words. -/
theorem read_few (t : List UInt8) : ∀ (f k : Nat) (acc : List Wd) (p : Nat × Nat) (c : Int), acc.length ≤ k → k ≤ t.length → t.length < 1500 → readN f t k acc = .err p c → c = 370 ∧ 1 ≤ p.1 ∧ 1 ≤ p.2
  | 0, k, acc, p, c, _, _, _, h => by simp [readN] at h
  | f + 1, k, acc, p, c, ha, hk, ht, h => by
    rw [readN] at h
    split at h
    · injection h with h1 h2
      subst h1 h2
      exact ⟨rfl, at_pos _ _⟩
    · rename_i n hsk
      have hn := skipN_le _ _ _ (.inl hsk)
      rw [List.length_drop] at hn
      rw [readB] at h
      split at h
      · cases h
      · rename_i hlt
        split at h
        · injection h with h1 h2
          subst h1 h2
          exact ⟨rfl, at_pos _ _⟩
        · split at h
          · omega
          · have hne : t.drop (k + n) ≠ [] := by intro e; have := congrArg List.length e; rw [List.length_drop] at this; simp only [List.length_nil] at this; omega
            have hpos := one_pos hne
            have hspl := congrArg List.length (one_split (r := t.drop (k + n)))
            rw [List.length_take, List.length_drop] at hspl
            exact read_few t f _ _ p c (by simp; omega) (by omega) ht h
end Go.Proofs.YtemlkodkohgmmaaDoor

/- The statement on reading and joining again. -/
namespace Go.Proofs.YtemlkodkohgmmaaDoor
open Go Y
set_option maxRecDepth 100000
set_option maxHeartbeats 4000000

theorem read_small {t : List UInt8} {ws : List Wd} (h : readR t = .ok ws) : ∀ w ∈ ws, w.text.length ≤ 10 := by
  obtain ⟨vs, T, e1, _, _, _, _, e6⟩ := lay_read t _ 0 [] ws (by omega) h (by omega)
  rw [List.nil_append] at e1
  subst e1
  intro w hw
  exact (right_len (e6 w hw).2).2

def againL : List (List UInt8) := [[97], [98, 49], [48], [52, 50], [32], [10], [40, 42, 32, 120, 32, 42, 41], [45, 45, 32, 121, 10], [45], [47, 61], [60], [61], [46, 46], [110, 111, 100, 101], [111, 114], [123], [58], [40], [10, 10], [32, 32, 32]]
theorem againL_le : ∀ s ∈ againL, s.length ≤ 7 := by decide


theorem lexAgain_c (l : List UInt8) : Pure cx 5 [.lst (l.map u8)] (· = .ret [.bool true]) := by
  refine pure_of_vc Tryd.func5 rfl rfl rfl ?_
  refine works_c.eq rfl ?_
  refine ⟨Nat × List UInt8, fun x => [(0, .p (.lst (l.map u8))), (3, .ptr 0 0 0), (4, vS x.2), (5, .p (i64 x.1))], fun _ => ⟨1, [(0, ⟨41, false, .bx (againL.map vS)⟩)]⟩, fun x => x.1 ≤ 80 ∧ x.2.length ≤ 7 * x.1, fun x => 80 - x.1, ?_, ?_⟩
  · exact ⟨(0, []), ⟨by simp, by simp⟩, ent_of [] [] [] rfl ⟨rfl, ⟨rfl, rfl⟩, rfl, rfl, trivial⟩ (by (repeat' first | exact trivial | exact rfl | exact ⟨rfl, rfl⟩ | exact .inl rfl | refine ⟨_, rfl, rfl, rfl, ?_⟩ | refine ⟨_, _, rfl, ?_, ?_⟩ | refine ⟨_, rfl, ?_⟩ | refine And.intro ?_ ?_)) rfl⟩
  · rintro ⟨k, t⟩ ⟨g1, g2⟩
    simp only [] at g1 g2
    refine And.intro (fun h1 => ?_) (fun h1 => ?_)
    · have h1 : (k : Int) < ((l.map u8).length : Nat) := h1
      rw [List.length_map] at h1
      have hk : k < l.length := by omega
      refine And.intro (fun h2 => ?_) (fun h2 => ?_)
      · have h2 : (k : Int) < 80 := h2
        refine ⟨_, ⟨by omega, u8 l[k], by show (l.map u8)[k]? = _; rw [List.getElem?_map, List.getElem?_eq_getElem hk]; rfl, rfl⟩, ?_⟩
        generalize l[k] = b
        have hb := b.toNat_lt
        have hr := tmod_range b 20 (by decide)
        refine ⟨(b.toNat : Int), wrap_i64 (by omega) (by omega), ?_⟩
        refine ⟨by decide, ?_⟩
        refine ⟨hr, ?_⟩
        have hj : ((b.toNat : Int).tmod 20).toNat < againL.length := by show _ < 20; omega
        refine ⟨_, ldIn1 rfl (by show (againL.map vS)[0 + ((b.toNat : Int).tmod 20).toNat * 1]? = _; rw [Nat.zero_add, Nat.mul_one, List.getElem?_map, List.getElem?_eq_getElem hj]; rfl), ?_⟩
        have hl4 := againL_le _ (List.getElem_mem hj)
        generalize againL[((b.toNat : Int).tmod 20).toNat] = u at hl4 ⊢
        refine ⟨by show t.length + u.length ≤ _; omega, ?_⟩
        refine ⟨(k : Int) + 1, wrap_i64 (by omega) (by omega), (k + 1, t ++ u), ⟨by simp only []; omega, by simp; omega⟩, ent_of [] [] [] rfl ⟨rfl, ⟨rfl, rfl⟩, rfl, rfl, trivial⟩ (by (repeat' first | exact trivial | exact rfl | exact ⟨rfl, rfl⟩ | exact .inl rfl | refine ⟨_, rfl, rfl, rfl, ?_⟩ | refine ⟨_, _, rfl, ?_, ?_⟩ | refine ⟨_, rfl, ?_⟩ | refine And.intro ?_ ?_)) rfl, by simp only []; omega⟩
      · refine Or.elim (rdC (readR t)) (fun hn => Exists.elim hn fun ws hrd => ?_) (fun hn => Exists.elim hn fun p hn => Exists.elim hn fun c hrd => ?_)
        · have hA := readW_c t
          rw [show readT t = (ws, 0, 0, 0) by rw [readT, if_neg (by omega), hrd]] at hA
          refine hA.eq rfl ?_
          refine And.intro (fun _ => ?_) (fun h => absurd rfl h)
          obtain ⟨T, j1, j2, j3⟩ := join_read (by omega) hrd
          have hJ := join_c ws (fun w hw => by have := read_small hrd w hw; omega)
          rw [joinV, j1] at hJ
          refine hJ.eq rfl ?_
          refine And.intro (fun _ => ?_) (fun h => absurd rfl h)
          refine And.intro (fun _ => ?_) (fun h => absurd (show (T.length : Int) ≤ (t.length : Int) by omega) h)
          have hG := gives_c T ws (by have := readR_ok hrd; omega)
          rw [show givesN T ws = true by simp [givesN, j3]] at hG
          refine hG.eq rfl ?_
          exact end1 _ rfl rfl rfl
        · have hA := readW_c t
          obtain ⟨hc, hp1, hp2⟩ := read_few t _ 0 [] p c (by simp) (by omega) (by omega) hrd
          subst hc
          rw [show readT t = ([], (p.1 : Int), (p.2 : Int), 370) by rw [readT, if_neg (by omega), hrd]] at hA
          refine hA.eq rfl ?_
          refine And.intro (fun h => absurd (show (370 : Int) = 0 from h) (by decide)) (fun _ => ?_)
          refine And.intro (fun _ => ?_) (fun h => absurd rfl h)
          refine And.intro (fun _ => ?_) (fun h => absurd rfl h)
          refine And.intro (fun _ => ?_) (fun h => absurd (show (0 : Int) < (p.1 : Int) by omega) h)
          refine And.intro (fun _ => ?_) (fun h => absurd (show (0 : Int) < (p.2 : Int) by omega) h)
          exact end1 _ rfl rfl rfl
    · refine Or.elim (rdC (readR t)) (fun hn => Exists.elim hn fun ws hrd => ?_) (fun hn => Exists.elim hn fun p hn => Exists.elim hn fun c hrd => ?_)
      · have hA := readW_c t
        rw [show readT t = (ws, 0, 0, 0) by rw [readT, if_neg (by omega), hrd]] at hA
        refine hA.eq rfl ?_
        refine And.intro (fun _ => ?_) (fun h => absurd rfl h)
        obtain ⟨T, j1, j2, j3⟩ := join_read (by omega) hrd
        have hJ := join_c ws (fun w hw => by have := read_small hrd w hw; omega)
        rw [joinV, j1] at hJ
        refine hJ.eq rfl ?_
        refine And.intro (fun _ => ?_) (fun h => absurd rfl h)
        refine And.intro (fun _ => ?_) (fun h => absurd (show (T.length : Int) ≤ (t.length : Int) by omega) h)
        have hG := gives_c T ws (by have := readR_ok hrd; omega)
        rw [show givesN T ws = true by simp [givesN, j3]] at hG
        refine hG.eq rfl ?_
        exact end1 _ rfl rfl rfl
      · have hA := readW_c t
        obtain ⟨hc, hp1, hp2⟩ := read_few t _ 0 [] p c (by simp) (by omega) (by omega) hrd
        subst hc
        rw [show readT t = ([], (p.1 : Int), (p.2 : Int), 370) by rw [readT, if_neg (by omega), hrd]] at hA
        refine hA.eq rfl ?_
        refine And.intro (fun h => absurd (show (370 : Int) = 0 from h) (by decide)) (fun _ => ?_)
        refine And.intro (fun _ => ?_) (fun h => absurd rfl h)
        refine And.intro (fun _ => ?_) (fun h => absurd rfl h)
        refine And.intro (fun _ => ?_) (fun h => absurd (show (0 : Int) < (p.1 : Int) by omega) h)
        refine And.intro (fun _ => ?_) (fun h => absurd (show (0 : Int) < (p.2 : Int) by omega) h)
        exact end1 _ rfl rfl rfl
end Go.Proofs.YtemlkodkohgmmaaDoor

/- The listed tables, as the rows of lex ask. -/
namespace Go.Proofs.YtemlkodkohgmmaaDoor
open Go Y
set_option maxRecDepth 100000

theorem own : ownKnob Tryd.prog.godebug = none := by kernel_rfl
abbrev laidL : List (String × DataW Unit) := [("haruspex/lex.keys", Rows.laid_haruspex_lex_keys), ("haruspex/lex.marks", Rows.laid_haruspex_lex_marks)]
theorem door_met (os : Os) (args : Array Value) : laidMetH Tryd.prog laidL ((World.doorLaid Tryd.prog 400 os).forCall (fun _ _ => 0) ⟨#[], args, []⟩).memory :=
  laidMetH_of_parts3 (fuel := 8) (laidMet_of_run' 8 (by kernel_rfl) (by kernel_rfl)) (by kernel_rfl) (by kernel_rfl)
theorem gt_ok : gtOK Tryd.prog 4 cx.gt laidL :=
  ⟨by kernel_rfl, ⟨84, by kernel_rfl, by kernel_rfl⟩, rfl, by kernel_rfl, ⟨85, by kernel_rfl, by kernel_rfl⟩, rfl, trivial⟩
theorem glob_ok {W : World} (h : laidMetH Tryd.prog laidL W) : ∀ g cs, gget cx.gt g = some cs → VP (fzOf W) (.fp cs) (.pointer (some ⟨g, 0, none⟩)) := by
  rw [MakeChecks.laidMetH_plain _ _ _ (by kernel_rfl)] at h
  obtain ⟨ps, h, _⟩ := h
  exact glob_of_laid gt_ok h

end Go.Proofs.YtemlkodkohgmmaaDoor

/- LexAgain: the row and the card. Joining the words of a text gives a text that is not longer, with the same words, for all lists of characters. Conditions: those of the card. -/
namespace Go.Proofs.YtemlkodkohgmmaaDoor
open Go Y
set_option maxRecDepth 100000

theorem lexAgain_pure : ∀ xs, ArgsT Tryd.prog 5 Tryd.f5.params.toList xs → Pure cx 5 xs (· = .ret [.bool true]) := by
  intro xs h
  rw [Tryd.params5] at h
  obtain ⟨x0, _, rfl, h0, rfl⟩ := h
  obtain ⟨v0, e0⟩ := ty_bytes (arg_plain (by simp [partsOf, Tryd.underlying22]) h0)
  injection e0 with e0
  subst e0
  exact lexAgain_c v0
theorem lexAgain_lifted (os : Os) (started : os.Started) (H : Type) (enc : TypeId × Value → H) :
    ReturnsInHanded {} Tryd.checked os 5 .any (fun w args => (Rows.lexAgainSpec.pre enc Tryd.prog Tryd.f5 [] false w args ∧ laidMetH Tryd.prog laidL w) ∧ sizedMet enc Tryd.prog Tryd.f5 (OpenSpec.ofChange Rows.lexAgainSpec) false w args)
      (Rows.lexAgainSpec.post enc Tryd.prog Tryd.f5 false true false false) := by
  refine returnsInHanded_of_change_and (C := Tryd.checked) (X := fun w _ => laidMetH Tryd.prog laidL w) (fun _ _ _ hh h => h.of_heap hh) own started (by kernel_rfl) Tryd.func5
    (ChangeSpec.witness_shaped (enc := enc) (C := Tryd.checked) (os := os) (X := fun w _ => laidMetH Tryd.prog laidL w) false (World.doorLaid Tryd.prog 400 os) #[.slice none 0 0] 8 rfl (World.shaped_of_RefB (by kernel_rfl) (by kernel_rfl)) (by kernel_rfl) (by kernel_rfl) (by kernel_rfl) (door_met os _)) ?_
  intro W base args ds gs before hval hW _ _ hL _
  obtain ⟨p, q, hA, hV, _⟩ := id hW
  have hs : Tryd.f5.params.toList.all (supp Tryd.prog 5) = true := by kernel_rfl
  obtain ⟨_, _, _, hlen⟩ := args_of hs (fun j t v ht hv => hval j t v (by simpa using ht) (by simpa using hv)) hA
  refine (calls_of_pure (cx := cx) Tryd.func5 (by kernel_rfl) rfl hs lexAgain_pure hval hA (glob_ok hL)).mono fun e W' ⟨he, h1, h2, h3⟩ => ?_
  subst he
  exact ⟨_, rfl, post_of_kept (cx := cx) (m := 5) hs rfl (by kernel_rfl) Tryd.underlying4 (fun ds h => by
    rw [Tryd.params5] at h
    match ds, h with
    | [_], _ => rfl) hW hlen h1 h2 h3⟩

theorem lexAgain_holds : Rows.LexAgainSaid :=
  OpenClaim.holds_of_wide 5 Tryd.f5 rfl rfl rfl rfl rfl rfl rfl ⟨rfl, rfl, rfl, rfl, rfl⟩ rfl rfl rfl rfl rfl (by kernel_rfl) Tryd.func5 (by kernel_rfl)
    (of_decide_eq_true (by kernel_rfl)) (by unfold Func.isWrapper; first | (rw [if_pos (by decide +kernel)]; kernel_rfl) | (rw [if_neg (by decide +kernel)]; exact ⟨rfl, rfl⟩))
    (fun os started H enc _ => lexAgain_lifted os started H enc)

theorem lexAgain_card : Rows.LexAgainCardSaid :=
  Claim7.holds_tied_plain_at .later [] [.data, .data] true (true, "c656817046542e22bb9fa6a79d1bf532833238fdf87142bdfc12bf5bc8548784") true
    lexAgain_holds (fun _ h => by cases h) (by kernel_rfl) (fun _ h => by cases h) lexAgain_row_tie rfl ⟨rfl, rfl⟩ (by kernel_rfl) rfl
    (fun f fn hf hfn => by
      obtain rfl : f = 5 := Option.some.inj ((show Tryd.prog.funcNamed "haruspex/haruspexlaw37.LexAgain" = some 5 by kernel_rfl).symm.trans hf) |>.symm
      obtain rfl : fn = Tryd.f5 := (Option.some.inj (Tryd.func5.symm.trans hfn)).symm
      exact ⟨by kernel_rfl, fun j t ht => by
        have hall : (Tryd.f5.params.toList.all fun u => !Tryd.prog.wantsStandIn u) = true := by kernel_rfl
        exact (show Tryd.prog.wantsStandIn t = false by simpa using List.all_eq_true.1 hall t (by simpa using Array.mem_of_getElem? ht))⟩)
    (by kernel_rfl)
#print axioms lexAgain_card
end Go.Proofs.YtemlkodkohgmmaaDoor
