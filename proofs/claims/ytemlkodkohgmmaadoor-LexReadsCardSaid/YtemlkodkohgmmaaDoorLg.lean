/- Package lex: what Read returns. -/
import Derived.Test.YtemlkodkohgmmaaDoorLf
namespace Go.Proofs.YtemlkodkohgmmaaDoor
open Go Y
set_option maxRecDepth 100000
set_option maxHeartbeats 4000000

inductive RdR where
  | ok (ws : List Wd)
  | err (p : Nat × Nat) (c : Int)

/-- At a word, or at the end. -/
def readB (rec : Nat → List Wd → RdR) (s : List UInt8) (k : Nat) (acc : List Wd) : RdR :=
  if s.length ≤ k then .ok acc
  else match rightN (oneN (s.drop k)).1 (oneN (s.drop k)).2 with
    | false => .err (at_ s k) 370
    | true => if acc.length = 1500 then .err (at_ s k) 3
      else rec (k + (oneN (s.drop k)).2.length) (acc ++ [⟨(oneN (s.drop k)).1, (oneN (s.drop k)).2, (at_ s k).1, (at_ s k).2⟩])
def readN : Nat → List UInt8 → Nat → List Wd → RdR
  | 0, _, _, acc => .ok acc
  | f + 1, s, k, acc => match skipN s.length (s.drop k) with
    | .inr n => .err (at_ s (k + n)) 370
    | .inl n => readB (readN f s) s (k + n) acc
def readR (s : List UInt8) : RdR := readN (s.length + 1) s 0 []

theorem one_pos {r : List UInt8} (h : r ≠ []) : 1 ≤ (oneN r).2.length := by
  have h1 : 1 ≤ r.length := by cases r <;> simp at h ⊢
  have h2 := spanN_le isAln r
  unfold oneN
  split
  · split
    · simp; omega
    · split <;> simp <;> omega
  · split <;> simp <;> omega

theorem words_c (o : AObj) (ho : isCells o.c = true) :
    HoldsG cx 34 [.ptr 0 0 0] ⟨1, [(0, o)]⟩ fun e H' => e = .returned (.fn (.func 52) [] [.ptr 1 0 0]) ∧ H' = ⟨2, [(1, ⟨64, false, .bx [.ptr 0 0 0]⟩), (0, o)]⟩ := by
  refine holds_of_vc Tryd.func34 rfl rfl rfl ?_
  exact ⟨rfl, rfl⟩


def readV (s : List UInt8) : List PV :=
  if 8000 < s.length then [.lsts 4 [], i64 0, i64 0, i64 3]
  else match readR s with
    | .ok ws => [.lsts 4 (ws.map Wd.cells), i64 0, i64 0, i64 0]
    | .err p c => [.lsts 4 [], i64 p.1, i64 p.2, i64 c]

/-- The heap of Read in its loop. -/
def rdL (s : List UInt8) (st : LoopState) (N : Nat) (σ : Sg) (ps : List Tmp) (ac bd : Code) (k : Nat) (out : AV) : List (Nat × AObj) :=
  [(7, ⟨0, false, .lp st none 6 N σ ps ac bd 6⟩), (6, ⟨0, false, .df⟩), (5, ⟨64, false, .bx [.ptr 4 0 0]⟩), (4, ⟨66, false, .bx (rdr (at_ s k) s k)⟩), (3, ⟨26, false, .bx [.p (i64 0)]⟩), (2, ⟨3, false, .bx [.p (i64 0)]⟩), (1, ⟨3, false, .bx [.p (i64 0)]⟩), (0, ⟨25, false, .bx [out]⟩)]
def rdA (acc : List Wd) : AObj := ⟨34, false, .pus (acc.map Wd.cells)⟩

/-- The same, behind a word. -/
def rdM (s : List UInt8) (st : LoopState) (N : Nat) (σ : Sg) (ps : List Tmp) (ac bd : Code) (k : Nat) (acc : List Wd) (out : AV) : List (Nat × AObj) :=
  [(4, ⟨66, false, .bx (rdr (at_ s k) s k)⟩), (8, rdA acc), (7, ⟨0, false, .lp st none 6 N σ ps ac bd 6⟩), (6, ⟨0, false, .df⟩), (5, ⟨64, false, .bx [.ptr 4 0 0]⟩), (3, ⟨26, false, .bx [.p (i64 0)]⟩), (2, ⟨3, false, .bx [.p (i64 0)]⟩), (1, ⟨3, false, .bx [.p (i64 0)]⟩), (0, ⟨25, false, .bx [out]⟩)]

/-- The heap behind a round. -/
def rdN (s : List UInt8) (N : Nat) (σ : Sg) (ps : List Tmp) (ac bd : Code) (k : Nat) (acc : List Wd) (w : Wd) : List (Nat × AObj) :=
  [(11, rdA (acc ++ [w])), (10, rdA [w]), (9, ⟨34, false, .bx (w.cells.map .p)⟩), (4, ⟨66, false, .bx (rdr (at_ s k) s k)⟩), (7, ⟨0, false, .lp .ready none 6 N σ ps ac bd 6⟩), (6, ⟨0, false, .df⟩), (5, ⟨64, false, .bx [.ptr 4 0 0]⟩), (3, ⟨26, false, .bx [.p (i64 0)]⟩), (2, ⟨3, false, .bx [.p (i64 0)]⟩), (1, ⟨3, false, .bx [.p (i64 0)]⟩), (0, ⟨25, false, .bx [.sl 11 4 0 (acc.length + 1)]⟩)]

theorem sumC (x : Nat ⊕ Nat) : (∃ n, x = .inl n) ∨ ∃ n, x = .inr n := by
  cases x with
  | inl n => exact .inl ⟨n, rfl⟩
  | inr n => exact .inr ⟨n, rfl⟩

/-- The words of the text, each handed to the loop's body. -/
theorem iter_c (s : List UInt8) (hs : s.length ≤ 8000) (N : Nat) (σ σ1 : Sg) (ds : List AD) (ps : List Tmp) (ac bd : Code) (Q : KQ)
    (hok : ∀ k acc, readR s = .ok acc → Q .normal σ1 ds ⟨9, (8, rdA acc) :: rdL s .exhausted N σ ps ac bd k (.sl 8 4 0 acc.length)⟩)
    (hp1 : ∀ p c k acc st, readR s = .err p c → Q (.panic [⟨.p (err p c), false⟩]) σ1 ds ⟨9, (8, rdA acc) :: rdL s st N σ ps ac bd k (.sl 8 4 0 acc.length)⟩)
    (hrd : ∀ k acc (w : Wd) (K : AE → Hp → Prop), acc.length ≤ 1500 →
        (acc.length = 1500 → K (.panicked [⟨.p (.iface 62 (.agg [i64 w.line, i64 w.col, i64 3])), false⟩]) ⟨10, (9, ⟨34, false, .bx (w.cells.map .p)⟩) :: rdM s .busy N σ ps ac bd k acc (.sl 8 4 0 acc.length)⟩) →
        (acc.length < 1500 → K (.returned (vB true)) ⟨12, rdN s N σ ps ac bd k acc w⟩) →
        RoundH cx 7 [.p (.agg w.cells)] ⟨9, rdM s .ready N σ ps ac bd k acc (.sl 8 4 0 acc.length)⟩ K) :
    HoldsG cx 52 [.fn (.yield 7) [] [], .ptr 5 0 0] ⟨8, rdL s .ready N σ ps ac bd 0 (.p .nils)⟩ (RangeQ 7 σ1 ds Q) := by
  refine holdsN_of_vc Tryd.func52 rfl rfl rfl ?_
  have hB := blank_c s hs 0 s.length (by omega) (by omega)
  have hR : readR s = match skipN s.length (s.drop 0) with
    | .inr n => .err (at_ s (0 + n)) 370
    | .inl n => readB (readN s.length s) s (0 + n) [] := rfl
  refine Or.elim (sumC (skipN s.length (s.drop 0))) (fun hn => Exists.elim hn fun n hsk => ?_) (fun hn => Exists.elim hn fun n hsk => ?_)
  · simp only [hsk] at hB hR
    refine hB.holds.useN [] [(0, 4)] rfl ⟨⟨_, rfl, rfl, rfl, _, rfl, _, _, rfl, rfl, _, _, rfl, rfl, _, _, rfl, rfl, _, _, rfl, rfl, rfl⟩, trivial⟩ ⟨_, _, rfl, ⟨rfl, rfl⟩, rfl⟩ fun e0 H0' hq => ?_
    obtain ⟨k1, rfl, rfl⟩ := hq
    refine ⟨rfl, ?_⟩
    refine ⟨Nat × Nat × List Wd, fun x => [(0, .fn (.yield 7) [] []), (1, .ptr 5 0 0)], fun x => ⟨9, (8, rdA x.2.2) :: rdL s .ready N σ ps ac bd x.1 (.sl 8 4 0 x.2.2.length)⟩,
      fun x => x.1 ≤ s.length ∧ s.length - x.1 ≤ x.2.1 ∧ x.2.2.length ≤ 1500 ∧ readR s = readB (readN x.2.1 s) s x.1 x.2.2, fun x => s.length - x.1, ?_, ?_⟩
    · refine ⟨(0 + n, s.length, []), ⟨k1, by simp, by simp, hR⟩, ?_⟩
      exact ent_of [] [] [(8, 4)] rfl (by (repeat' first | exact trivial | exact rfl | exact ⟨rfl, rfl⟩ | exact .inl rfl | refine ⟨_, rfl, rfl, rfl, ?_⟩ | refine ⟨_, _, rfl, ?_, ?_⟩ | refine ⟨_, rfl, ?_⟩ | refine And.intro ?_ ?_)) (by (repeat' first | exact trivial | exact rfl | exact ⟨rfl, rfl⟩ | exact .inl rfl | refine ⟨_, rfl, rfl, rfl, ?_⟩ | refine ⟨_, _, rfl, ?_, ?_⟩ | refine ⟨_, rfl, ?_⟩ | refine And.intro ?_ ?_)) rfl
    · rintro ⟨k, f, acc⟩ ⟨g1, g2, g3, g4⟩
      simp only [] at g1 g2 g3 g4
      refine VDraw.seq rfl ?_
      refine And.intro (fun h1 => ?_) (fun h1 => ?_)
      · have h1 : (k : Int) < (s.length : Int) := h1
        have hlt : k < s.length := by omega
        have hW := word_c s hs k hlt
        have hne : s.drop k ≠ [] := by intro e; have := congrArg List.length e; rw [List.length_drop] at this; simp only [List.length_nil] at this; omega
        have hpos := one_pos hne
        have hb : readB (readN f s) s k acc = match rightN (oneN (s.drop k)).1 (oneN (s.drop k)).2 with
            | false => .err (at_ s k) 370
            | true => if acc.length = 1500 then .err (at_ s k) 3
              else readN f s (k + (oneN (s.drop k)).2.length) (acc ++ [⟨(oneN (s.drop k)).1, (oneN (s.drop k)).2, (at_ s k).1, (at_ s k).2⟩]) := by
          rw [readB, if_neg (by omega)]
        by_cases hr : rightN (oneN (s.drop k)).1 (oneN (s.drop k)).2 = true
        rotate_left
        · rw [Bool.not_eq_true] at hr
          simp only [hr] at hW hb
          refine hW.holds.useN [] [(0, 4)] rfl ⟨⟨_, rfl, rfl, rfl, _, rfl, _, _, rfl, rfl, _, _, rfl, rfl, _, _, rfl, rfl, _, _, rfl, rfl, rfl⟩, trivial⟩ ⟨_, _, rfl, ⟨rfl, rfl⟩, rfl⟩ fun e0 H0' hq => ?_
          obtain ⟨rfl, rfl⟩ := hq
          refine ⟨rfl, ?_⟩
          exact ⟨[], [(8, 8)], [], .panicked [⟨.p (err (at_ s k) 370), false⟩], ⟨9, (8, rdA acc) :: rdL s .ready N σ ps ac bd k (.sl 8 4 0 acc.length)⟩, rfl, by (repeat' first | exact trivial | exact rfl | exact ⟨rfl, rfl⟩ | exact .inl rfl | refine ⟨_, rfl, rfl, rfl, ?_⟩ | refine ⟨_, _, rfl, ?_, ?_⟩ | refine ⟨_, rfl, ?_⟩ | refine And.intro ?_ ?_), by (repeat' first | exact trivial | exact rfl | exact ⟨rfl, rfl⟩ | exact .inl rfl | refine ⟨_, rfl, rfl, rfl, ?_⟩ | refine ⟨_, _, rfl, ?_, ?_⟩ | refine ⟨_, rfl, ?_⟩ | refine And.intro ?_ ?_), hp1 _ _ k acc .ready (g4.trans hb)⟩
        · simp only [hr] at hW hb
          refine hW.holds.useN [] [(0, 4)] rfl ⟨⟨_, rfl, rfl, rfl, _, rfl, _, _, rfl, rfl, _, _, rfl, rfl, _, _, rfl, rfl, _, _, rfl, rfl, rfl⟩, trivial⟩ ⟨_, _, rfl, ⟨rfl, rfl⟩, rfl⟩ fun e0 H0' hq => ?_
          obtain ⟨k1, rfl, rfl⟩ := hq
          refine ⟨rfl, ?_⟩
          refine hrd _ acc ⟨(oneN (s.drop k)).1, (oneN (s.drop k)).2, (at_ s k).1, (at_ s k).2⟩ _ g3 (fun h2 => ?_) (fun h2 => ?_)
          · rw [if_pos h2] at hb
            exact ⟨[], [(8, 8)], [], .panicked [⟨.p (err (at_ s k) 3), false⟩], ⟨9, (8, rdA acc) :: rdL s .busy N σ ps ac bd (k + (oneN (s.drop k)).2.length) (.sl 8 4 0 acc.length)⟩, rfl, by (repeat' first | exact trivial | exact rfl | exact ⟨rfl, rfl⟩ | exact .inl rfl | refine ⟨_, rfl, rfl, rfl, ?_⟩ | refine ⟨_, _, rfl, ?_, ?_⟩ | refine ⟨_, rfl, ?_⟩ | refine And.intro ?_ ?_), by (repeat' first | exact trivial | exact rfl | exact ⟨rfl, rfl⟩ | exact .inl rfl | refine ⟨_, rfl, rfl, rfl, ?_⟩ | refine ⟨_, _, rfl, ?_, ?_⟩ | refine ⟨_, rfl, ?_⟩ | refine And.intro ?_ ?_), hp1 _ _ _ acc .busy (g4.trans hb)⟩
          · rw [if_neg (by omega)] at hb
            have hw0 : ∀ w : Wd, AV.sl 11 4 0 (acc.length + 1) = AV.sl 11 4 0 (acc ++ [w]).length := fun w => by rw [List.length_append]; rfl
            obtain ⟨f', rfl⟩ : ∃ n, f = n + 1 := ⟨f - 1, by omega⟩
            have hB := blank_c s hs (k + (oneN (s.drop k)).2.length) s.length k1 (by omega)
            rw [readN] at hb
            refine Or.elim (sumC (skipN s.length (s.drop (k + (oneN (s.drop k)).2.length)))) (fun hn => Exists.elim hn fun n hsk => ?_) (fun hn => Exists.elim hn fun n hsk => ?_)
            · simp only [hsk] at hB hb
              refine hB.holds.useN [] [(0, 4)] rfl ⟨⟨_, rfl, rfl, rfl, _, rfl, _, _, rfl, rfl, _, _, rfl, rfl, _, _, rfl, rfl, _, _, rfl, rfl, rfl⟩, trivial⟩ ⟨_, _, rfl, ⟨rfl, rfl⟩, rfl⟩ fun e0 H0' hq => ?_
              obtain ⟨k2, rfl, rfl⟩ := hq
              refine ⟨rfl, ?_⟩
              refine ⟨(k + (oneN (s.drop k)).2.length + n, f', acc ++ [⟨(oneN (s.drop k)).1, (oneN (s.drop k)).2, (at_ s k).1, (at_ s k).2⟩]), ⟨k2, by simp only []; omega, by simp; omega, g4.trans hb⟩, ?_, by simp only []; omega⟩
              exact ent_of [] [(8, 11)] [] rfl ⟨⟨rfl, _, _, rfl, rfl, rfl⟩, ⟨rfl, rfl⟩, trivial⟩ ⟨⟨_, rfl, rfl, rfl, rfl⟩, ⟨_, rfl, rfl, rfl, rfl, rfl, rfl⟩, ⟨_, rfl, rfl, rfl, rfl⟩, ⟨_, rfl, rfl, rfl, _, rfl, _, _, rfl, ⟨rfl, rfl⟩, rfl⟩, ⟨_, rfl, rfl, rfl, _, rfl, _, _, rfl, rfl, _, _, rfl, rfl, _, _, rfl, rfl, _, _, rfl, rfl, rfl⟩, ⟨_, rfl, rfl, rfl, _, rfl, _, _, rfl, rfl, rfl⟩, ⟨_, rfl, rfl, rfl, _, rfl, _, _, rfl, rfl, rfl⟩, ⟨_, rfl, rfl, rfl, _, rfl, _, _, rfl, rfl, rfl⟩, ⟨_, rfl, rfl, rfl, _, rfl, _, _, rfl, hw0 _, rfl⟩, trivial⟩ rfl
            · simp only [hsk] at hB hb
              refine hB.holds.useN [] [(0, 4)] rfl ⟨⟨_, rfl, rfl, rfl, _, rfl, _, _, rfl, rfl, _, _, rfl, rfl, _, _, rfl, rfl, _, _, rfl, rfl, rfl⟩, trivial⟩ ⟨_, _, rfl, ⟨rfl, rfl⟩, rfl⟩ fun e0 H0' hq => ?_
              obtain ⟨k2, rfl, k', k3, rfl⟩ := hq
              refine ⟨rfl, ?_⟩
              exact ⟨[], [(8, 11)], [], .panicked [⟨.p (err (at_ s (k + (oneN (s.drop k)).2.length + n)) 370), false⟩], ⟨9, (8, rdA (acc ++ [(⟨(oneN (s.drop k)).1, (oneN (s.drop k)).2, (at_ s k).1, (at_ s k).2⟩ : Wd)])) :: rdL s .ready N σ ps ac bd k' (.sl 8 4 0 (acc ++ [(⟨(oneN (s.drop k)).1, (oneN (s.drop k)).2, (at_ s k).1, (at_ s k).2⟩ : Wd)]).length)⟩, rfl, ⟨_, rfl, _, _, rfl, rfl, rfl⟩, ⟨⟨_, rfl, rfl, rfl, rfl⟩, ⟨_, rfl, rfl, rfl, rfl, rfl, rfl⟩, ⟨_, rfl, rfl, rfl, rfl⟩, ⟨_, rfl, rfl, rfl, _, rfl, _, _, rfl, ⟨rfl, rfl⟩, rfl⟩, ⟨_, rfl, rfl, rfl, _, rfl, _, _, rfl, rfl, _, _, rfl, rfl, _, _, rfl, rfl, _, _, rfl, rfl, rfl⟩, ⟨_, rfl, rfl, rfl, _, rfl, _, _, rfl, rfl, rfl⟩, ⟨_, rfl, rfl, rfl, _, rfl, _, _, rfl, rfl, rfl⟩, ⟨_, rfl, rfl, rfl, _, rfl, _, _, rfl, rfl, rfl⟩, ⟨_, rfl, rfl, rfl, _, rfl, _, _, rfl, hw0 _, rfl⟩, trivial⟩, hp1 _ _ k' _ .ready (g4.trans hb)⟩
      · have h1 : ¬ (k : Int) < (s.length : Int) := h1
        have e : readR s = .ok acc := by rw [g4, readB, if_pos (by omega)]
        exact ⟨[], [(8, 8)], [], .returned und, ⟨9, (8, rdA acc) :: rdL s .ready N σ ps ac bd k (.sl 8 4 0 acc.length)⟩, rfl, by (repeat' first | exact trivial | exact rfl | exact ⟨rfl, rfl⟩ | exact .inl rfl | refine ⟨_, rfl, rfl, rfl, ?_⟩ | refine ⟨_, _, rfl, ?_, ?_⟩ | refine ⟨_, rfl, ?_⟩ | refine And.intro ?_ ?_), by (repeat' first | exact trivial | exact rfl | exact ⟨rfl, rfl⟩ | exact .inl rfl | refine ⟨_, rfl, rfl, rfl, ?_⟩ | refine ⟨_, _, rfl, ?_, ?_⟩ | refine ⟨_, rfl, ?_⟩ | refine And.intro ?_ ?_), hok k acc e⟩
  · simp only [hsk] at hB hR
    refine hB.holds.useN [] [(0, 4)] rfl ⟨⟨_, rfl, rfl, rfl, _, rfl, _, _, rfl, rfl, _, _, rfl, rfl, _, _, rfl, rfl, _, _, rfl, rfl, rfl⟩, trivial⟩ ⟨_, _, rfl, ⟨rfl, rfl⟩, rfl⟩ fun e0 H0' hq => ?_
    obtain ⟨k1, rfl, k', k2, rfl⟩ := hq
    refine ⟨rfl, ?_⟩
    exact ⟨[], [], [(8, 4)], .panicked [⟨.p (err (at_ s (0 + n)) 370), false⟩], ⟨9, (8, rdA []) :: rdL s .ready N σ ps ac bd k' (.sl 8 4 0 0)⟩, rfl, by (repeat' first | exact trivial | exact rfl | exact ⟨rfl, rfl⟩ | exact .inl rfl | refine ⟨_, rfl, rfl, rfl, ?_⟩ | refine ⟨_, _, rfl, ?_, ?_⟩ | refine ⟨_, rfl, ?_⟩ | refine And.intro ?_ ?_), by (repeat' first | exact trivial | exact rfl | exact ⟨rfl, rfl⟩ | exact .inl rfl | refine ⟨_, rfl, rfl, rfl, ?_⟩ | refine ⟨_, _, rfl, ?_, ?_⟩ | refine ⟨_, rfl, ?_⟩ | refine And.intro ?_ ?_), hp1 _ _ k' [] .ready hR⟩

theorem read_c (s : List UInt8) : Pure cx 10 [.str s] (· = .ret (readV s)) := by
  refine pure_of_vc Tryd.func10 rfl rfl rfl ?_
  refine And.intro (fun h1 => ?_) (fun h1 => ?_)
  · have h1 : (8000 : Int) < s.length := h1
    have e : readV s = [.lsts 4 [], i64 0, i64 0, i64 3] := by rw [readV, if_pos (by omega)]
    rw [e]
    exact end4 (.lsts 4 []) (i64 0) (i64 0) (i64 3) rfl (.inr (.inr ⟨4, rfl⟩)) rfl rfl rfl rfl
  · have hs : s.length ≤ 8000 := by have h1 : ¬ (8000 : Int) < s.length := h1; omega
    have hw := words_c ⟨66, false, .bx (rdr (at_ s 0) s 0)⟩ rfl
    refine hw.useE [] [(0, 4)] rfl ⟨⟨_, rfl, rfl, rfl, _, rfl, _, _, rfl, rfl, _, _, rfl, rfl, _, _, rfl, rfl, _, _, rfl, rfl, rfl⟩, trivial⟩ ⟨_, _, rfl, ⟨rfl, rfl⟩, rfl⟩ ?_
    refine range_of ?_
    intro σ' ps ac bd e1 e2 e3 e4
    have hrd : ∀ k acc (w : Wd) (K : AE → Hp → Prop), acc.length ≤ 1500 →
        (acc.length = 1500 → K (.panicked [⟨.p (.iface 62 (.agg [i64 w.line, i64 w.col, i64 3])), false⟩]) ⟨10, (9, ⟨34, false, .bx (w.cells.map .p)⟩) :: rdM s .busy Tryd.f10.ntmps σ' ps ac bd k acc (.sl 8 4 0 acc.length)⟩) →
        (acc.length < 1500 → K (.returned (vB true)) ⟨12, rdN s Tryd.f10.ntmps σ' ps ac bd k acc w⟩) →
        RoundH cx 7 [.p (.agg w.cells)] ⟨9, rdM s .ready Tryd.f10.ntmps σ' ps ac bd k acc (.sl 8 4 0 acc.length)⟩ K := by
      intro k acc w K hacc hK1 hK2
      subst e1 e2 e3 e4
      refine round_of_vc rfl rfl rfl ?_
      refine And.intro (fun h2 => ?_) (fun h2 => ?_)
      · have h2 : (acc.length : Int) = 1500 := h2
        exact hK1 (by omega)
      · have h2 : ¬ (acc.length : Int) = 1500 := h2
        refine ⟨by show 0 + 1 ≤ 1; omega, [w.cells], rfl, ?_⟩
        refine ⟨by show 0 + acc.length ≤ (acc.map Wd.cells).length; simp, acc.map Wd.cells, ?_, ?_⟩
        · show acc.map Wd.cells = ((acc.map Wd.cells).drop 0).take acc.length
          rw [List.drop_zero, List.take_of_length_le (by simp)]
        refine ⟨by show (acc.length + 1) * 40 ≤ 140737488355328; omega, (acc ++ [w]).map Wd.cells, by simp, ?_⟩
        exact hK2 (by omega)
    refine iter_c s hs _ σ' _ _ ps ac bd _ ?_ ?_ hrd
    · intro k acc hr
      have e : readV s = [.lsts 4 (acc.map Wd.cells), i64 0, i64 0, i64 0] := by rw [readV, if_neg (by omega), hr]
      rw [e]
      refine holdsD_rec Tryd.func33 rfl rfl rfl ?_
      refine ⟨[], [(0, 0), (1, 1), (2, 2), (3, 3), (8, 8)], [], .returned und, ⟨9, [(8, rdA acc), (3, ⟨26, false, .bx [.p (i64 0)]⟩), (2, ⟨3, false, .bx [.p (i64 0)]⟩), (1, ⟨3, false, .bx [.p (i64 0)]⟩), (0, ⟨25, false, .bx [.sl 8 4 0 acc.length]⟩)]⟩, rfl, by (repeat' first | exact trivial | exact rfl | exact ⟨rfl, rfl⟩ | exact .inl rfl | refine ⟨_, rfl, rfl, rfl, ?_⟩ | refine ⟨_, _, rfl, ?_, ?_⟩ | refine ⟨_, rfl, ?_⟩ | refine And.intro ?_ ?_), by (repeat' first | exact trivial | exact rfl | exact ⟨rfl, rfl⟩ | exact .inl rfl | refine ⟨_, rfl, rfl, rfl, ?_⟩ | refine ⟨_, _, rfl, ?_, ?_⟩ | refine ⟨_, rfl, ?_⟩ | refine And.intro ?_ ?_), ?_⟩
      refine end4 (.lsts 4 (acc.map Wd.cells)) (i64 0) (i64 0) (i64 0) rfl ?_ rfl rfl rfl rfl
      exact ⟨_, rfl, by simp, by rw [List.drop_zero, List.take_of_length_le (by simp)]⟩
    · intro p c k acc st hr
      have e : readV s = [.lsts 4 [], i64 p.1, i64 p.2, i64 c] := by rw [readV, if_neg (by omega), hr]
      rw [e]
      refine holdsD_rec Tryd.func33 rfl rfl rfl ?_
      refine VDraw.seq rfl ?_
      refine ⟨by (repeat' first | exact trivial | exact rfl | exact ⟨rfl, rfl⟩ | exact .inl rfl | refine ⟨_, rfl, rfl, rfl, ?_⟩ | refine ⟨_, _, rfl, ?_, ?_⟩ | refine ⟨_, rfl, ?_⟩ | refine And.intro ?_ ?_), ?_⟩
      refine ⟨by (repeat' first | exact trivial | exact rfl | exact ⟨rfl, rfl⟩ | exact .inl rfl | refine ⟨_, rfl, rfl, rfl, ?_⟩ | refine ⟨_, _, rfl, ?_, ?_⟩ | refine ⟨_, rfl, ?_⟩ | refine And.intro ?_ ?_), ?_⟩
      refine ⟨by (repeat' first | exact trivial | exact rfl | exact ⟨rfl, rfl⟩ | exact .inl rfl | refine ⟨_, rfl, rfl, rfl, ?_⟩ | refine ⟨_, _, rfl, ?_, ?_⟩ | refine ⟨_, rfl, ?_⟩ | refine And.intro ?_ ?_), ?_⟩
      refine ⟨[], [(0, 0), (1, 1), (2, 2), (3, 3)], [], .returned und, ⟨9, [(3, ⟨26, false, .bx [.p (i64 c)]⟩), (2, ⟨3, false, .bx [.p (i64 p.2)]⟩), (1, ⟨3, false, .bx [.p (i64 p.1)]⟩), (0, ⟨25, false, .bx [.p .nils]⟩)]⟩, rfl, by (repeat' first | exact trivial | exact rfl | exact ⟨rfl, rfl⟩ | exact .inl rfl | refine ⟨_, rfl, rfl, rfl, ?_⟩ | refine ⟨_, _, rfl, ?_, ?_⟩ | refine ⟨_, rfl, ?_⟩ | refine And.intro ?_ ?_), by (repeat' first | exact trivial | exact rfl | exact ⟨rfl, rfl⟩ | exact .inl rfl | refine ⟨_, rfl, rfl, rfl, ?_⟩ | refine ⟨_, _, rfl, ?_, ?_⟩ | refine ⟨_, rfl, ?_⟩ | refine And.intro ?_ ?_), ?_⟩
      exact end4 (.lsts 4 []) (i64 p.1) (i64 p.2) (i64 c) rfl (.inr (.inr ⟨4, rfl⟩)) rfl rfl rfl rfl
end Go.Proofs.YtemlkodkohgmmaaDoor
