/- Part 3 of the proof: Lg Lh Li Lj Lk Ll Lm Ba Ln Lo Lp Lq Lr Ls Lt Za Zb Lu Lv Lw Pa Pb -/
import Derived.Lib.MakeNoZero
import Derived.Laws.Externs
import Derived.ChangeArms
import Derived.OpenShut
import Derived.WideHanded
import Derived.ChangeSame
import Derived.ProofKit
import Derived.LaidMore
import Derived.LaidLaws
import Derived.Stop.Joined
import Derived.MakeChecks
import Derived.Test.YtemlkodkohgmmaaDoorQ2
/- Package lex: what Read returns. -/
namespace Go.Proofs.YtemlkodkohgmmaaDoor
open Go Y
set_option maxRecDepth 100000
set_option maxHeartbeats 4000000

inductive RdR where
  | ok (ws : List Wd)
  | err (p : Nat × Nat) (c : Int)

/-- At a word, or at the end. -/
def readB (rec : Nat → List Wd → RdR) (s : List UInt8) (k : Nat) (acc : List Wd) : RdR :=
  if s.length ≤ k then .ok acc
  else match rightN (oneN (s.drop k)).1 (oneN (s.drop k)).2 with
    | false => .err (at_ s k) 370
    | true => if acc.length = 1500 then .err (at_ s k) 3
      else rec (k + (oneN (s.drop k)).2.length) (acc ++ [⟨(oneN (s.drop k)).1, (oneN (s.drop k)).2, (at_ s k).1, (at_ s k).2⟩])
def readN : Nat → List UInt8 → Nat → List Wd → RdR
  | 0, _, _, acc => .ok acc
  | f + 1, s, k, acc => match skipN s.length (s.drop k) with
    | .inr n => .err (at_ s (k + n)) 370
    | .inl n => readB (readN f s) s (k + n) acc
def readR (s : List UInt8) : RdR := readN (s.length + 1) s 0 []

theorem one_pos {r : List UInt8} (h : r ≠ []) : 1 ≤ (oneN r).2.length := by
  have h1 : 1 ≤ r.length := by cases r <;> simp at h ⊢
  have h2 := spanN_le isAln r
  unfold oneN
  split
  · split
    · simp; omega
    · split <;> simp <;> omega
  · split <;> simp <;> omega

theorem words_c (o : AObj) (_ho : isCells o.c = true) :
    HoldsG cx 34 [.ptr 0 0 0] ⟨1, [(0, o)]⟩ fun e H' => e = .returned (.fn (.func 52) [] [.ptr 1 0 0]) ∧ H' = ⟨2, [(1, ⟨64, false, .bx [.ptr 0 0 0]⟩), (0, o)]⟩ := by
  refine holds_of_vc Tryd.func34 rfl rfl rfl ?_
  exact ⟨rfl, rfl⟩


def readV (s : List UInt8) : List PV :=
  if 8000 < s.length then [.lsts 4 [], i64 0, i64 0, i64 3]
  else match readR s with
    | .ok ws => [.lsts 4 (ws.map Wd.cells), i64 0, i64 0, i64 0]
    | .err p c => [.lsts 4 [], i64 p.1, i64 p.2, i64 c]

/-- The heap of Read in its loop. -/
def rdL (s : List UInt8) (st : LoopState) (N : Nat) (σ : Sg) (ps : List Tmp) (ac bd : Code) (k : Nat) (out : AV) : List (Nat × AObj) :=
  [(7, ⟨0, false, .lp st none 6 N σ ps ac bd 6⟩), (6, ⟨0, false, .df⟩), (5, ⟨64, false, .bx [.ptr 4 0 0]⟩), (4, ⟨66, false, .bx (rdr (at_ s k) s k)⟩), (3, ⟨26, false, .bx [.p (i64 0)]⟩), (2, ⟨3, false, .bx [.p (i64 0)]⟩), (1, ⟨3, false, .bx [.p (i64 0)]⟩), (0, ⟨25, false, .bx [out]⟩)]
def rdA (acc : List Wd) : AObj := ⟨34, false, .pus (acc.map Wd.cells)⟩

/-- The same, behind a word. -/
def rdM (s : List UInt8) (st : LoopState) (N : Nat) (σ : Sg) (ps : List Tmp) (ac bd : Code) (k : Nat) (acc : List Wd) (out : AV) : List (Nat × AObj) :=
  [(4, ⟨66, false, .bx (rdr (at_ s k) s k)⟩), (8, rdA acc), (7, ⟨0, false, .lp st none 6 N σ ps ac bd 6⟩), (6, ⟨0, false, .df⟩), (5, ⟨64, false, .bx [.ptr 4 0 0]⟩), (3, ⟨26, false, .bx [.p (i64 0)]⟩), (2, ⟨3, false, .bx [.p (i64 0)]⟩), (1, ⟨3, false, .bx [.p (i64 0)]⟩), (0, ⟨25, false, .bx [out]⟩)]

/-- The heap behind a round. -/
def rdN (s : List UInt8) (N : Nat) (σ : Sg) (ps : List Tmp) (ac bd : Code) (k : Nat) (acc : List Wd) (w : Wd) : List (Nat × AObj) :=
  [(11, rdA (acc ++ [w])), (10, rdA [w]), (9, ⟨34, false, .bx (w.cells.map .p)⟩), (4, ⟨66, false, .bx (rdr (at_ s k) s k)⟩), (7, ⟨0, false, .lp .ready none 6 N σ ps ac bd 6⟩), (6, ⟨0, false, .df⟩), (5, ⟨64, false, .bx [.ptr 4 0 0]⟩), (3, ⟨26, false, .bx [.p (i64 0)]⟩), (2, ⟨3, false, .bx [.p (i64 0)]⟩), (1, ⟨3, false, .bx [.p (i64 0)]⟩), (0, ⟨25, false, .bx [.sl 11 4 0 (acc.length + 1)]⟩)]

theorem sumC (x : Nat ⊕ Nat) : (∃ n, x = .inl n) ∨ ∃ n, x = .inr n := by
  cases x with
  | inl n => exact .inl ⟨n, rfl⟩
  | inr n => exact .inr ⟨n, rfl⟩

/-- The words of the text, each handed to the loop's body. -/
theorem iter_c (s : List UInt8) (hs : s.length ≤ 8000) (N : Nat) (σ σ1 : Sg) (ds : List AD) (ps : List Tmp) (ac bd : Code) (Q : KQ)
    (hok : ∀ k acc, readR s = .ok acc → Q .normal σ1 ds ⟨9, (8, rdA acc) :: rdL s .exhausted N σ ps ac bd k (.sl 8 4 0 acc.length)⟩)
    (hp1 : ∀ p c k acc st, readR s = .err p c → Q (.panic [⟨.p (err p c), false⟩]) σ1 ds ⟨9, (8, rdA acc) :: rdL s st N σ ps ac bd k (.sl 8 4 0 acc.length)⟩)
    (hrd : ∀ k acc (w : Wd) (K : AE → Hp → Prop), acc.length ≤ 1500 →
        (acc.length = 1500 → K (.panicked [⟨.p (.iface 62 (.agg [i64 w.line, i64 w.col, i64 3])), false⟩]) ⟨10, (9, ⟨34, false, .bx (w.cells.map .p)⟩) :: rdM s .busy N σ ps ac bd k acc (.sl 8 4 0 acc.length)⟩) →
        (acc.length < 1500 → K (.returned (vB true)) ⟨12, rdN s N σ ps ac bd k acc w⟩) →
        RoundH cx 7 [.p (.agg w.cells)] ⟨9, rdM s .ready N σ ps ac bd k acc (.sl 8 4 0 acc.length)⟩ K) :
    HoldsG cx 52 [.fn (.yield 7) [] [], .ptr 5 0 0] ⟨8, rdL s .ready N σ ps ac bd 0 (.p .nils)⟩ (RangeQ 7 σ1 ds Q) := by
  refine holdsN_of_vc Tryd.func52 rfl rfl rfl ?_
  have hB := blank_c s hs 0 s.length (by omega) (by omega)
  have hR : readR s = match skipN s.length (s.drop 0) with
    | .inr n => .err (at_ s (0 + n)) 370
    | .inl n => readB (readN s.length s) s (0 + n) [] := rfl
  refine Or.elim (sumC (skipN s.length (s.drop 0))) (fun hn => Exists.elim hn fun n hsk => ?_) (fun hn => Exists.elim hn fun n hsk => ?_)
  · simp only [hsk] at hB hR
    refine hB.holds.useN [] [(0, 4)] rfl ⟨⟨_, rfl, rfl, rfl, _, rfl, _, _, rfl, rfl, _, _, rfl, rfl, _, _, rfl, rfl, _, _, rfl, rfl, rfl⟩, trivial⟩ ⟨_, _, rfl, ⟨rfl, rfl⟩, rfl⟩ fun e0 H0' hq => ?_
    obtain ⟨k1, rfl, rfl⟩ := hq
    refine ⟨rfl, ?_⟩
    refine ⟨Nat × Nat × List Wd, fun x => [(0, .fn (.yield 7) [] []), (1, .ptr 5 0 0)], fun x => ⟨9, (8, rdA x.2.2) :: rdL s .ready N σ ps ac bd x.1 (.sl 8 4 0 x.2.2.length)⟩,
      fun x => x.1 ≤ s.length ∧ s.length - x.1 ≤ x.2.1 ∧ x.2.2.length ≤ 1500 ∧ readR s = readB (readN x.2.1 s) s x.1 x.2.2, fun x => s.length - x.1, ?_, ?_⟩
    · refine ⟨(0 + n, s.length, []), ⟨k1, by simp, by simp, hR⟩, ?_⟩
      exact ent_of [] [] [(8, 4)] rfl (by (repeat' first | exact trivial | exact rfl | exact ⟨rfl, rfl⟩ | exact .inl rfl | refine ⟨_, rfl, rfl, rfl, ?_⟩ | refine ⟨_, _, rfl, ?_, ?_⟩ | refine ⟨_, rfl, ?_⟩ | refine And.intro ?_ ?_)) (by (repeat' first | exact trivial | exact rfl | exact ⟨rfl, rfl⟩ | exact .inl rfl | refine ⟨_, rfl, rfl, rfl, ?_⟩ | refine ⟨_, _, rfl, ?_, ?_⟩ | refine ⟨_, rfl, ?_⟩ | refine And.intro ?_ ?_)) rfl
    · rintro ⟨k, f, acc⟩ ⟨g1, g2, g3, g4⟩
      simp only [] at g1 g2 g3 g4
      refine VDraw.seq rfl ?_
      refine And.intro (fun h1 => ?_) (fun h1 => ?_)
      · have h1 : (k : Int) < (s.length : Int) := h1
        have hlt : k < s.length := by omega
        have hW := word_c s hs k hlt
        have hne : s.drop k ≠ [] := by intro e; have := congrArg List.length e; rw [List.length_drop] at this; simp only [List.length_nil] at this; omega
        have hpos := one_pos hne
        have hb : readB (readN f s) s k acc = match rightN (oneN (s.drop k)).1 (oneN (s.drop k)).2 with
            | false => .err (at_ s k) 370
            | true => if acc.length = 1500 then .err (at_ s k) 3
              else readN f s (k + (oneN (s.drop k)).2.length) (acc ++ [⟨(oneN (s.drop k)).1, (oneN (s.drop k)).2, (at_ s k).1, (at_ s k).2⟩]) := by
          rw [readB, if_neg (by omega)]
        by_cases hr : rightN (oneN (s.drop k)).1 (oneN (s.drop k)).2 = true
        rotate_left
        · rw [Bool.not_eq_true] at hr
          simp only [hr] at hW hb
          refine hW.holds.useN [] [(0, 4)] rfl ⟨⟨_, rfl, rfl, rfl, _, rfl, _, _, rfl, rfl, _, _, rfl, rfl, _, _, rfl, rfl, _, _, rfl, rfl, rfl⟩, trivial⟩ ⟨_, _, rfl, ⟨rfl, rfl⟩, rfl⟩ fun e0 H0' hq => ?_
          obtain ⟨rfl, rfl⟩ := hq
          refine ⟨rfl, ?_⟩
          exact ⟨[], [(8, 8)], [], .panicked [⟨.p (err (at_ s k) 370), false⟩], ⟨9, (8, rdA acc) :: rdL s .ready N σ ps ac bd k (.sl 8 4 0 acc.length)⟩, rfl, by (repeat' first | exact trivial | exact rfl | exact ⟨rfl, rfl⟩ | exact .inl rfl | refine ⟨_, rfl, rfl, rfl, ?_⟩ | refine ⟨_, _, rfl, ?_, ?_⟩ | refine ⟨_, rfl, ?_⟩ | refine And.intro ?_ ?_), by (repeat' first | exact trivial | exact rfl | exact ⟨rfl, rfl⟩ | exact .inl rfl | refine ⟨_, rfl, rfl, rfl, ?_⟩ | refine ⟨_, _, rfl, ?_, ?_⟩ | refine ⟨_, rfl, ?_⟩ | refine And.intro ?_ ?_), hp1 _ _ k acc .ready (g4.trans hb)⟩
        · simp only [hr] at hW hb
          refine hW.holds.useN [] [(0, 4)] rfl ⟨⟨_, rfl, rfl, rfl, _, rfl, _, _, rfl, rfl, _, _, rfl, rfl, _, _, rfl, rfl, _, _, rfl, rfl, rfl⟩, trivial⟩ ⟨_, _, rfl, ⟨rfl, rfl⟩, rfl⟩ fun e0 H0' hq => ?_
          obtain ⟨k1, rfl, rfl⟩ := hq
          refine ⟨rfl, ?_⟩
          refine hrd _ acc ⟨(oneN (s.drop k)).1, (oneN (s.drop k)).2, (at_ s k).1, (at_ s k).2⟩ _ g3 (fun h2 => ?_) (fun h2 => ?_)
          · rw [if_pos h2] at hb
            exact ⟨[], [(8, 8)], [], .panicked [⟨.p (err (at_ s k) 3), false⟩], ⟨9, (8, rdA acc) :: rdL s .busy N σ ps ac bd (k + (oneN (s.drop k)).2.length) (.sl 8 4 0 acc.length)⟩, rfl, by (repeat' first | exact trivial | exact rfl | exact ⟨rfl, rfl⟩ | exact .inl rfl | refine ⟨_, rfl, rfl, rfl, ?_⟩ | refine ⟨_, _, rfl, ?_, ?_⟩ | refine ⟨_, rfl, ?_⟩ | refine And.intro ?_ ?_), by (repeat' first | exact trivial | exact rfl | exact ⟨rfl, rfl⟩ | exact .inl rfl | refine ⟨_, rfl, rfl, rfl, ?_⟩ | refine ⟨_, _, rfl, ?_, ?_⟩ | refine ⟨_, rfl, ?_⟩ | refine And.intro ?_ ?_), hp1 _ _ _ acc .busy (g4.trans hb)⟩
          · rw [if_neg (by omega)] at hb
            have hw0 : ∀ w : Wd, AV.sl 11 4 0 (acc.length + 1) = AV.sl 11 4 0 (acc ++ [w]).length := fun w => by rw [List.length_append]; rfl
            obtain ⟨f', rfl⟩ : ∃ n, f = n + 1 := ⟨f - 1, by omega⟩
            have hB := blank_c s hs (k + (oneN (s.drop k)).2.length) s.length k1 (by omega)
            rw [readN] at hb
            refine Or.elim (sumC (skipN s.length (s.drop (k + (oneN (s.drop k)).2.length)))) (fun hn => Exists.elim hn fun n hsk => ?_) (fun hn => Exists.elim hn fun n hsk => ?_)
            · simp only [hsk] at hB hb
              refine hB.holds.useN [] [(0, 4)] rfl ⟨⟨_, rfl, rfl, rfl, _, rfl, _, _, rfl, rfl, _, _, rfl, rfl, _, _, rfl, rfl, _, _, rfl, rfl, rfl⟩, trivial⟩ ⟨_, _, rfl, ⟨rfl, rfl⟩, rfl⟩ fun e0 H0' hq => ?_
              obtain ⟨k2, rfl, rfl⟩ := hq
              refine ⟨rfl, ?_⟩
              refine ⟨(k + (oneN (s.drop k)).2.length + n, f', acc ++ [⟨(oneN (s.drop k)).1, (oneN (s.drop k)).2, (at_ s k).1, (at_ s k).2⟩]), ⟨k2, by simp only []; omega, by simp; omega, g4.trans hb⟩, ?_, by simp only []; omega⟩
              exact ent_of [] [(8, 11)] [] rfl ⟨⟨rfl, _, _, rfl, rfl, rfl⟩, ⟨rfl, rfl⟩, trivial⟩ ⟨⟨_, rfl, rfl, rfl, rfl⟩, ⟨_, rfl, rfl, rfl, rfl, rfl, rfl⟩, ⟨_, rfl, rfl, rfl, rfl⟩, ⟨_, rfl, rfl, rfl, _, rfl, _, _, rfl, ⟨rfl, rfl⟩, rfl⟩, ⟨_, rfl, rfl, rfl, _, rfl, _, _, rfl, rfl, _, _, rfl, rfl, _, _, rfl, rfl, _, _, rfl, rfl, rfl⟩, ⟨_, rfl, rfl, rfl, _, rfl, _, _, rfl, rfl, rfl⟩, ⟨_, rfl, rfl, rfl, _, rfl, _, _, rfl, rfl, rfl⟩, ⟨_, rfl, rfl, rfl, _, rfl, _, _, rfl, rfl, rfl⟩, ⟨_, rfl, rfl, rfl, _, rfl, _, _, rfl, hw0 _, rfl⟩, trivial⟩ rfl
            · simp only [hsk] at hB hb
              refine hB.holds.useN [] [(0, 4)] rfl ⟨⟨_, rfl, rfl, rfl, _, rfl, _, _, rfl, rfl, _, _, rfl, rfl, _, _, rfl, rfl, _, _, rfl, rfl, rfl⟩, trivial⟩ ⟨_, _, rfl, ⟨rfl, rfl⟩, rfl⟩ fun e0 H0' hq => ?_
              obtain ⟨k2, rfl, k', k3, rfl⟩ := hq
              refine ⟨rfl, ?_⟩
              exact ⟨[], [(8, 11)], [], .panicked [⟨.p (err (at_ s (k + (oneN (s.drop k)).2.length + n)) 370), false⟩], ⟨9, (8, rdA (acc ++ [(⟨(oneN (s.drop k)).1, (oneN (s.drop k)).2, (at_ s k).1, (at_ s k).2⟩ : Wd)])) :: rdL s .ready N σ ps ac bd k' (.sl 8 4 0 (acc ++ [(⟨(oneN (s.drop k)).1, (oneN (s.drop k)).2, (at_ s k).1, (at_ s k).2⟩ : Wd)]).length)⟩, rfl, ⟨_, rfl, _, _, rfl, rfl, rfl⟩, ⟨⟨_, rfl, rfl, rfl, rfl⟩, ⟨_, rfl, rfl, rfl, rfl, rfl, rfl⟩, ⟨_, rfl, rfl, rfl, rfl⟩, ⟨_, rfl, rfl, rfl, _, rfl, _, _, rfl, ⟨rfl, rfl⟩, rfl⟩, ⟨_, rfl, rfl, rfl, _, rfl, _, _, rfl, rfl, _, _, rfl, rfl, _, _, rfl, rfl, _, _, rfl, rfl, rfl⟩, ⟨_, rfl, rfl, rfl, _, rfl, _, _, rfl, rfl, rfl⟩, ⟨_, rfl, rfl, rfl, _, rfl, _, _, rfl, rfl, rfl⟩, ⟨_, rfl, rfl, rfl, _, rfl, _, _, rfl, rfl, rfl⟩, ⟨_, rfl, rfl, rfl, _, rfl, _, _, rfl, hw0 _, rfl⟩, trivial⟩, hp1 _ _ k' _ .ready (g4.trans hb)⟩
      · have h1 : ¬ (k : Int) < (s.length : Int) := h1
        have e : readR s = .ok acc := by rw [g4, readB, if_pos (by omega)]
        exact ⟨[], [(8, 8)], [], .returned und, ⟨9, (8, rdA acc) :: rdL s .ready N σ ps ac bd k (.sl 8 4 0 acc.length)⟩, rfl, by (repeat' first | exact trivial | exact rfl | exact ⟨rfl, rfl⟩ | exact .inl rfl | refine ⟨_, rfl, rfl, rfl, ?_⟩ | refine ⟨_, _, rfl, ?_, ?_⟩ | refine ⟨_, rfl, ?_⟩ | refine And.intro ?_ ?_), by (repeat' first | exact trivial | exact rfl | exact ⟨rfl, rfl⟩ | exact .inl rfl | refine ⟨_, rfl, rfl, rfl, ?_⟩ | refine ⟨_, _, rfl, ?_, ?_⟩ | refine ⟨_, rfl, ?_⟩ | refine And.intro ?_ ?_), hok k acc e⟩
  · simp only [hsk] at hB hR
    refine hB.holds.useN [] [(0, 4)] rfl ⟨⟨_, rfl, rfl, rfl, _, rfl, _, _, rfl, rfl, _, _, rfl, rfl, _, _, rfl, rfl, _, _, rfl, rfl, rfl⟩, trivial⟩ ⟨_, _, rfl, ⟨rfl, rfl⟩, rfl⟩ fun e0 H0' hq => ?_
    obtain ⟨k1, rfl, k', k2, rfl⟩ := hq
    refine ⟨rfl, ?_⟩
    exact ⟨[], [], [(8, 4)], .panicked [⟨.p (err (at_ s (0 + n)) 370), false⟩], ⟨9, (8, rdA []) :: rdL s .ready N σ ps ac bd k' (.sl 8 4 0 0)⟩, rfl, by (repeat' first | exact trivial | exact rfl | exact ⟨rfl, rfl⟩ | exact .inl rfl | refine ⟨_, rfl, rfl, rfl, ?_⟩ | refine ⟨_, _, rfl, ?_, ?_⟩ | refine ⟨_, rfl, ?_⟩ | refine And.intro ?_ ?_), by (repeat' first | exact trivial | exact rfl | exact ⟨rfl, rfl⟩ | exact .inl rfl | refine ⟨_, rfl, rfl, rfl, ?_⟩ | refine ⟨_, _, rfl, ?_, ?_⟩ | refine ⟨_, rfl, ?_⟩ | refine And.intro ?_ ?_), hp1 _ _ k' [] .ready hR⟩

theorem read_c (s : List UInt8) : Pure cx 10 [.str s] (· = .ret (readV s)) := by
  refine pure_of_vc Tryd.func10 rfl rfl rfl ?_
  refine And.intro (fun h1 => ?_) (fun h1 => ?_)
  · have h1 : (8000 : Int) < s.length := h1
    have e : readV s = [.lsts 4 [], i64 0, i64 0, i64 3] := by rw [readV, if_pos (by omega)]
    rw [e]
    exact end4 (.lsts 4 []) (i64 0) (i64 0) (i64 3) rfl (.inr (.inr ⟨4, rfl⟩)) rfl rfl rfl rfl
  · have hs : s.length ≤ 8000 := by have h1 : ¬ (8000 : Int) < s.length := h1; omega
    have hw := words_c ⟨66, false, .bx (rdr (at_ s 0) s 0)⟩ rfl
    refine hw.useE [] [(0, 4)] rfl ⟨⟨_, rfl, rfl, rfl, _, rfl, _, _, rfl, rfl, _, _, rfl, rfl, _, _, rfl, rfl, _, _, rfl, rfl, rfl⟩, trivial⟩ ⟨_, _, rfl, ⟨rfl, rfl⟩, rfl⟩ ?_
    refine range_of ?_
    intro σ' ps ac bd e1 e2 e3 e4
    have hrd : ∀ k acc (w : Wd) (K : AE → Hp → Prop), acc.length ≤ 1500 →
        (acc.length = 1500 → K (.panicked [⟨.p (.iface 62 (.agg [i64 w.line, i64 w.col, i64 3])), false⟩]) ⟨10, (9, ⟨34, false, .bx (w.cells.map .p)⟩) :: rdM s .busy Tryd.f10.ntmps σ' ps ac bd k acc (.sl 8 4 0 acc.length)⟩) →
        (acc.length < 1500 → K (.returned (vB true)) ⟨12, rdN s Tryd.f10.ntmps σ' ps ac bd k acc w⟩) →
        RoundH cx 7 [.p (.agg w.cells)] ⟨9, rdM s .ready Tryd.f10.ntmps σ' ps ac bd k acc (.sl 8 4 0 acc.length)⟩ K := by
      intro k acc w K hacc hK1 hK2
      subst e1 e2 e3 e4
      refine round_of_vc rfl rfl rfl ?_
      refine And.intro (fun h2 => ?_) (fun h2 => ?_)
      · have h2 : (acc.length : Int) = 1500 := h2
        exact hK1 (by omega)
      · have h2 : ¬ (acc.length : Int) = 1500 := h2
        refine ⟨by show 0 + 1 ≤ 1; omega, [w.cells], rfl, ?_⟩
        refine ⟨by show 0 + acc.length ≤ (acc.map Wd.cells).length; simp, acc.map Wd.cells, ?_, ?_⟩
        · show acc.map Wd.cells = ((acc.map Wd.cells).drop 0).take acc.length
          rw [List.drop_zero, List.take_of_length_le (by simp)]
        refine ⟨by show (acc.length + 1) * 40 ≤ 140737488355328; omega, (acc ++ [w]).map Wd.cells, by simp, ?_⟩
        exact hK2 (by omega)
    refine iter_c s hs _ σ' _ _ ps ac bd _ ?_ ?_ hrd
    · intro k acc hr
      have e : readV s = [.lsts 4 (acc.map Wd.cells), i64 0, i64 0, i64 0] := by rw [readV, if_neg (by omega), hr]
      rw [e]
      refine holdsD_rec Tryd.func33 rfl rfl rfl ?_
      refine ⟨[], [(0, 0), (1, 1), (2, 2), (3, 3), (8, 8)], [], .returned und, ⟨9, [(8, rdA acc), (3, ⟨26, false, .bx [.p (i64 0)]⟩), (2, ⟨3, false, .bx [.p (i64 0)]⟩), (1, ⟨3, false, .bx [.p (i64 0)]⟩), (0, ⟨25, false, .bx [.sl 8 4 0 acc.length]⟩)]⟩, rfl, by (repeat' first | exact trivial | exact rfl | exact ⟨rfl, rfl⟩ | exact .inl rfl | refine ⟨_, rfl, rfl, rfl, ?_⟩ | refine ⟨_, _, rfl, ?_, ?_⟩ | refine ⟨_, rfl, ?_⟩ | refine And.intro ?_ ?_), by (repeat' first | exact trivial | exact rfl | exact ⟨rfl, rfl⟩ | exact .inl rfl | refine ⟨_, rfl, rfl, rfl, ?_⟩ | refine ⟨_, _, rfl, ?_, ?_⟩ | refine ⟨_, rfl, ?_⟩ | refine And.intro ?_ ?_), ?_⟩
      refine end4 (.lsts 4 (acc.map Wd.cells)) (i64 0) (i64 0) (i64 0) rfl ?_ rfl rfl rfl rfl
      exact ⟨_, rfl, by simp, by rw [List.drop_zero, List.take_of_length_le (by simp)]⟩
    · intro p c k acc st hr
      have e : readV s = [.lsts 4 [], i64 p.1, i64 p.2, i64 c] := by rw [readV, if_neg (by omega), hr]
      rw [e]
      refine holdsD_rec Tryd.func33 rfl rfl rfl ?_
      refine VDraw.seq rfl ?_
      refine ⟨by (repeat' first | exact trivial | exact rfl | exact ⟨rfl, rfl⟩ | exact .inl rfl | refine ⟨_, rfl, rfl, rfl, ?_⟩ | refine ⟨_, _, rfl, ?_, ?_⟩ | refine ⟨_, rfl, ?_⟩ | refine And.intro ?_ ?_), ?_⟩
      refine ⟨by (repeat' first | exact trivial | exact rfl | exact ⟨rfl, rfl⟩ | exact .inl rfl | refine ⟨_, rfl, rfl, rfl, ?_⟩ | refine ⟨_, _, rfl, ?_, ?_⟩ | refine ⟨_, rfl, ?_⟩ | refine And.intro ?_ ?_), ?_⟩
      refine ⟨by (repeat' first | exact trivial | exact rfl | exact ⟨rfl, rfl⟩ | exact .inl rfl | refine ⟨_, rfl, rfl, rfl, ?_⟩ | refine ⟨_, _, rfl, ?_, ?_⟩ | refine ⟨_, rfl, ?_⟩ | refine And.intro ?_ ?_), ?_⟩
      refine ⟨[], [(0, 0), (1, 1), (2, 2), (3, 3)], [], .returned und, ⟨9, [(3, ⟨26, false, .bx [.p (i64 c)]⟩), (2, ⟨3, false, .bx [.p (i64 p.2)]⟩), (1, ⟨3, false, .bx [.p (i64 p.1)]⟩), (0, ⟨25, false, .bx [.p .nils]⟩)]⟩, rfl, by (repeat' first | exact trivial | exact rfl | exact ⟨rfl, rfl⟩ | exact .inl rfl | refine ⟨_, rfl, rfl, rfl, ?_⟩ | refine ⟨_, _, rfl, ?_, ?_⟩ | refine ⟨_, rfl, ?_⟩ | refine And.intro ?_ ?_), by (repeat' first | exact trivial | exact rfl | exact ⟨rfl, rfl⟩ | exact .inl rfl | refine ⟨_, rfl, rfl, rfl, ?_⟩ | refine ⟨_, _, rfl, ?_, ?_⟩ | refine ⟨_, rfl, ?_⟩ | refine And.intro ?_ ?_), ?_⟩
      exact end4 (.lsts 4 []) (i64 p.1) (i64 p.2) (i64 c) rfl (.inr (.inr ⟨4, rfl⟩)) rfl rfl rfl rfl
end Go.Proofs.YtemlkodkohgmmaaDoor

/- The reference of layer 37: which words are right. -/
namespace Go.Proofs.YtemlkodkohgmmaaDoor
open Go Y
set_option maxRecDepth 100000
set_option maxHeartbeats 4000000

theorem rDigit_c (b : UInt8) : Pure cx 59 [u8 b] (· = .ret [.bool (isDig b)]) := by
  refine pure_of_vc Tryd.func59 rfl rfl rfl ?_
  refine And.intro (fun h1 => ?_) (fun h1 => ?_)
  · refine And.intro (fun h2 => ?_) (fun h2 => ?_)
    · exact end1 _ rfl rfl (retB (by simp [isDig]; omega))
    · exact end1 _ rfl rfl (retB (by simp [isDig]; omega))
  · exact end1 _ rfl rfl (retB (by simp [isDig]; omega))
theorem rLetter_c (b : UInt8) : Pure cx 83 [u8 b] (· = .ret [.bool (isLet b)]) := by
  refine pure_of_vc Tryd.func83 rfl rfl rfl ?_
  refine And.intro (fun h1 => ?_) (fun h1 => ?_)
  · refine And.intro (fun h2 => ?_) (fun h2 => ?_)
    · exact end1 _ rfl rfl (retB (by simp [isLet]; omega))
    · refine And.intro (fun h3 => ?_) (fun h3 => ?_)
      · refine And.intro (fun h4 => ?_) (fun h4 => ?_)
        · exact end1 _ rfl rfl (retB (by simp [isLet]; omega))
        · exact end1 _ rfl rfl (retB (by simp [isLet]; omega))
      · exact end1 _ rfl rfl (retB (by simp [isLet]; omega))
  · refine And.intro (fun h3 => ?_) (fun h3 => ?_)
    · refine And.intro (fun h4 => ?_) (fun h4 => ?_)
      · exact end1 _ rfl rfl (retB (by simp [isLet]; omega))
      · exact end1 _ rfl rfl (retB (by simp [isLet]; omega))
    · exact end1 _ rfl rfl (retB (by simp [isLet]; omega))

theorem rIn_c (l : List (List UInt8)) (hl : l.length ≤ 100000) (s : List UInt8) : Pure cx 58 [.lst (l.map .str), .str s] (· = .ret [.bool (inL l s)]) := by
  refine pure_of_vc Tryd.func58 rfl rfl rfl ?_
  refine ⟨Nat, fun k => [(5, .p (i64 k)), (0, .p (.lst (l.map .str))), (1, vS s)], fun _ => ⟨0, []⟩, fun k => k ≤ l.length ∧ inL l s = inL (l.drop k) s, fun k => l.length - k, ?_, ?_⟩
  · exact ⟨0, ⟨by omega, rfl⟩, ent0 rfl ⟨rfl, rfl, rfl, trivial⟩ trivial rfl⟩
  · rintro k ⟨hk, he⟩
    refine And.intro (fun h1 => ?_) (fun h1 => ?_)
    · have h1 : (k : Int) < ((l.map PV.str).length : Nat) := h1
      rw [List.length_map] at h1
      have hk' : k < l.length := by omega
      have hc : l.drop k = l[k] :: l.drop (k + 1) := List.drop_eq_getElem_cons hk'
      refine ⟨_, ⟨by omega, .str l[k], by show (l.map PV.str)[k]? = _; rw [List.getElem?_map, List.getElem?_eq_getElem hk']; rfl, rfl⟩, ?_⟩
      refine And.intro (fun h2 => ?_) (fun h2 => ?_)
      · have h2 : l[k] = s := h2
        exact end1 _ rfl rfl (retB (by rw [he, hc, inL, h2]; simp))
      · have h2 : ¬ l[k] = s := h2
        refine ⟨(k : Int) + 1, wrap_i64 (by omega) (by omega), k + 1, ⟨by omega, ?_⟩, ent0 rfl ⟨rfl, rfl, rfl, trivial⟩ trivial rfl, ?_⟩
        · rw [he, hc, inL, decide_eq_false (fun e => h2 e.symm)]
          rfl
        · show l.length - (k + 1) < l.length - k
          omega
    · have h1 : ¬ (k : Int) < ((l.map PV.str).length : Nat) := h1
      rw [List.length_map] at h1
      have : k = l.length := by omega
      subst this
      exact end1 _ rfl rfl (retB (by rw [he, List.drop_length]; rfl))

theorem rKeys_c : Pure cx 24 [] (· = .ret [.lst (keysL.map .str)]) := by
  refine pure_of_vc Tryd.func24 rfl rfl rfl ?_
  exact end1 (.lst (keysL.map .str)) rfl ⟨_, rfl, by decide, rfl⟩ rfl
theorem rMarks_c : Pure cx 26 [] (· = .ret [.lst (marksL.map .str)]) := by
  refine pure_of_vc Tryd.func26 rfl rfl rfl ?_
  exact end1 (.lst (marksL.map .str)) rfl ⟨_, rfl, by decide, rfl⟩ rfl

def runN (s : List UInt8) : Bool := decide (s ≠ []) && decide (spanN isAln s = s.length)
theorem rRun_c (s : List UInt8) (hs : s.length ≤ 100000) : Pure cx 57 [.str s] (· = .ret [.bool (runN s)]) := by
  refine pure_of_vc Tryd.func57 rfl rfl rfl ?_
  refine ⟨Nat, fun k => [(3, .p (i64 k)), (0, vS s)], fun _ => ⟨0, []⟩, fun k => k ≤ s.length ∧ spanN isAln s = k + spanN isAln (s.drop k), fun k => s.length - k, ?_, ?_⟩
  · exact ⟨0, ⟨by omega, by simp⟩, ent0 rfl ⟨rfl, rfl, trivial⟩ trivial rfl⟩
  · rintro k ⟨hk, he⟩
    refine And.intro (fun h1 => ?_) (fun h1 => ?_)
    · have hk' : k < s.length := by have h1 : (k : Int) < (s.length : Nat) := h1; omega
      have hc : s.drop k = s[k] :: s.drop (k + 1) := List.drop_eq_getElem_cons hk'
      refine ⟨_, ⟨by omega, s[k], List.getElem?_eq_getElem hk', rfl⟩, ?_⟩
      have hL := rLetter_c s[k]
      have next : isAln s[k] = true → spanN isAln s = k + 1 + spanN isAln (s.drop (k + 1)) := by
        intro h
        rw [he, hc, spanN, if_pos h]
        omega
      by_cases hl : isLet s[k] = true
      · rw [hl] at hL
        refine hL.eq rfl ?_
        refine ⟨(k : Int) + 1, wrap_i64 (by omega) (by omega), k + 1, ⟨by omega, next (by simp [isAln, hl])⟩, ent0 rfl ⟨rfl, rfl, trivial⟩ trivial rfl, ?_⟩
        show s.length - (k + 1) < s.length - k
        omega
      · rw [Bool.not_eq_true] at hl
        rw [hl] at hL
        refine hL.eq rfl ?_
        refine ⟨_, ⟨by omega, s[k], List.getElem?_eq_getElem hk', rfl⟩, ?_⟩
        have hD := rDigit_c s[k]
        by_cases hd : isDig s[k] = true
        · rw [hd] at hD
          refine hD.eq rfl ?_
          refine ⟨(k : Int) + 1, wrap_i64 (by omega) (by omega), k + 1, ⟨by omega, next (by simp [isAln, hd])⟩, ent0 rfl ⟨rfl, rfl, trivial⟩ trivial rfl, ?_⟩
          show s.length - (k + 1) < s.length - k
          omega
        · rw [Bool.not_eq_true] at hd
          rw [hd] at hD
          refine hD.eq rfl ?_
          refine end1 _ rfl rfl (retB ?_)
          have : spanN isAln s = k := by rw [he, hc, spanN, if_neg (by simp [isAln, hl, hd])]; omega
          simp only [runN, decide_eq_false (show ¬ spanN isAln s = s.length by omega), Bool.and_false]
    · have : k = s.length := by have h1 : ¬ (k : Int) < (s.length : Nat) := h1; omega
      have hsp : spanN isAln s = s.length := by rw [he, this]; simp [spanN]
      refine And.intro (fun h2 => ?_) (fun h2 => ?_)
      · have h2 : s = [] := h2
        exact end1 _ rfl rfl (retB (by simp [runN, h2]))
      · have h2 : ¬ s = [] := h2
        exact end1 _ rfl rfl (retB (by simp [runN, h2, hsp]))
end Go.Proofs.YtemlkodkohgmmaaDoor

/- The reference of layer 37: right words, two octets, comments, blanks. -/
namespace Go.Proofs.YtemlkodkohgmmaaDoor
open Go Y
set_option maxRecDepth 100000
set_option maxHeartbeats 4000000

theorem rName_c (t : List UInt8) (ht : t.length ≤ 100000) : Pure cx 60 [.str t] (· = .ret [.bool (nameN t)]) := by
  refine pure_of_vc Tryd.func60 rfl rfl rfl ?_
  have hR := rRun_c t ht
  by_cases hr : runN t = true
  · rw [hr] at hR
    refine hR.eq rfl ?_
    have hr2 := hr
    simp only [runN, Bool.and_eq_true, decide_eq_true_eq] at hr2
    obtain ⟨c, r, rfl⟩ : ∃ c r, t = c :: r := by cases t with | nil => exact (hr2.1 rfl).elim | cons c r => exact ⟨c, r, rfl⟩
    refine ⟨_, ⟨by omega, c, rfl, rfl⟩, ?_⟩
    have hL := rLetter_c c
    by_cases hl : isLet c = true
    · rw [hl] at hL
      refine hL.eq rfl ?_
      refine And.intro (fun h1 => ?_) (fun h1 => ?_)
      · have h1 : ((c :: r).length : Int) ≤ 10 := h1
        refine rKeys_c.eq rfl ?_
        refine (rIn_c keysL (by decide) (c :: r)).eq rfl ?_
        exact end1 _ rfl rfl (retB (by simp only [nameN, List.headD_cons, hl, decide_eq_true hr2.1, decide_eq_true hr2.2, decide_eq_true (show (c :: r).length ≤ 10 by omega), Bool.true_and]))
      · have h1 : ¬ ((c :: r).length : Int) ≤ 10 := h1
        exact end1 _ rfl rfl (retB (by simp only [nameN, decide_eq_false (show ¬ (c :: r).length ≤ 10 by omega), Bool.and_false, Bool.false_and]))
    · rw [Bool.not_eq_true] at hl
      rw [hl] at hL
      refine hL.eq rfl ?_
      exact end1 _ rfl rfl (retB (by simp only [nameN, List.headD_cons, hl, Bool.and_false, Bool.false_and]))
  · rw [Bool.not_eq_true] at hr
    rw [hr] at hR
    refine hR.eq rfl ?_
    refine end1 _ rfl rfl (retB ?_)
    simp only [runN, Bool.and_eq_false_iff, decide_eq_false_iff_not] at hr
    rcases hr with hr | hr
    · simp only [nameN, decide_eq_false hr, Bool.false_and]
    · simp only [nameN, decide_eq_false hr, Bool.and_false, Bool.false_and]

theorem rNumber_c (t : List UInt8) (ht : t.length ≤ 100000) : Pure cx 61 [.str t] (· = .ret [.bool (numN t)]) := by
  refine pure_of_vc Tryd.func61 rfl rfl rfl ?_
  refine ⟨Nat, fun k => [(3, .p (i64 k)), (0, vS t)], fun _ => ⟨0, []⟩, fun k => k ≤ t.length ∧ spanN isDig t = k + spanN isDig (t.drop k), fun k => t.length - k, ?_, ?_⟩
  · exact ⟨0, ⟨by omega, by simp⟩, ent0 rfl ⟨rfl, rfl, trivial⟩ trivial rfl⟩
  · rintro k ⟨hk, he⟩
    refine And.intro (fun h1 => ?_) (fun h1 => ?_)
    · have hk' : k < t.length := by have h1 : (k : Int) < (t.length : Nat) := h1; omega
      have hc : t.drop k = t[k] :: t.drop (k + 1) := List.drop_eq_getElem_cons hk'
      refine ⟨_, ⟨by omega, t[k], List.getElem?_eq_getElem hk', rfl⟩, ?_⟩
      have hD := rDigit_c t[k]
      by_cases hd : isDig t[k] = true
      · rw [hd] at hD
        refine hD.eq rfl ?_
        refine ⟨(k : Int) + 1, wrap_i64 (by omega) (by omega), k + 1, ⟨by omega, ?_⟩, ent0 rfl ⟨rfl, rfl, trivial⟩ trivial rfl, ?_⟩
        · rw [he, hc, spanN, if_pos hd]; omega
        · show t.length - (k + 1) < t.length - k
          omega
      · rw [Bool.not_eq_true] at hd
        rw [hd] at hD
        refine hD.eq rfl ?_
        refine end1 _ rfl rfl (retB ?_)
        have : spanN isDig t = k := by rw [he, hc, spanN, if_neg (by simp [hd])]; omega
        simp only [numN, decide_eq_false (show ¬ spanN isDig t = t.length by omega), Bool.and_false, Bool.false_and]
    · have hkk : k = t.length := by have h1 : ¬ (k : Int) < (t.length : Nat) := h1; omega
      have hsp : spanN isDig t = t.length := by rw [he, hkk]; simp [spanN]
      refine And.intro (fun h2 => ?_) (fun h2 => ?_)
      · have h2 : t = [48] := h2
        exact end1 _ rfl rfl (retB (by rw [h2]; decide))
      · have h2 : ¬ t = [48] := h2
        refine And.intro (fun h3 => ?_) (fun h3 => ?_)
        · have h3 : t = [] := h3
          exact end1 _ rfl rfl (retB (by rw [h3]; decide))
        · have h3 : ¬ t = [] := h3
          have hn : numN t = (decide (t.length ≤ 4) && decide ((t.headD 0).toNat ≠ 48)) := by
            simp only [numN, decide_eq_true hsp, decide_eq_true h3, decide_eq_false h2, Bool.true_and, Bool.and_true, Bool.false_or]
          rw [hn]
          obtain ⟨c, r, rfl⟩ : ∃ c r, t = c :: r := by cases t with | nil => exact (h3 rfl).elim | cons c r => exact ⟨c, r, rfl⟩
          refine ⟨_, ⟨by omega, c, rfl, rfl⟩, ?_⟩
          refine And.intro (fun h4 => ?_) (fun h4 => ?_)
          · have h4 : ((c.toNat : Nat) : Int) = 48 := h4
            exact end1 _ rfl rfl (retB (by rw [List.headD_cons, decide_eq_false (show ¬ c.toNat ≠ 48 by omega), Bool.and_false]))
          · have h4 : ¬ ((c.toNat : Nat) : Int) = 48 := h4
            refine And.intro (fun h5 => ?_) (fun h5 => ?_)
            · have h5 : ((c :: r).length : Int) ≤ 4 := h5
              exact end1 _ rfl rfl (retB (by rw [List.headD_cons, decide_eq_true (show c.toNat ≠ 48 by omega), decide_eq_true (show (c :: r).length ≤ 4 by omega)]; rfl))
            · have h5 : ¬ ((c :: r).length : Int) ≤ 4 := h5
              exact end1 _ rfl rfl (retB (by rw [decide_eq_false (show ¬ (c :: r).length ≤ 4 by omega)]; rfl))

theorem rRight_c (k : Int) (t : List UInt8) (ht : t.length ≤ 100000) : Pure cx 38 [i64 k, .str t] (· = .ret [.bool (rightN k t)]) := by
  refine pure_of_vc Tryd.func38 rfl rfl rfl ?_
  refine And.intro (fun h1 => ?_) (fun h1 => ?_)
  · have h1 : k = 1 := h1
    subst h1
    refine (rName_c t ht).eq rfl ?_
    exact end1 _ rfl rfl rfl
  · have h1 : ¬ k = 1 := h1
    refine And.intro (fun h2 => ?_) (fun h2 => ?_)
    · have h2 : k = 2 := h2
      subst h2
      refine rKeys_c.eq rfl ?_
      refine (rIn_c keysL (by decide) t).eq rfl ?_
      exact end1 _ rfl rfl rfl
    · have h2 : ¬ k = 2 := h2
      refine And.intro (fun h3 => ?_) (fun h3 => ?_)
      · have h3 : k = 3 := h3
        subst h3
        refine (rNumber_c t ht).eq rfl ?_
        exact end1 _ rfl rfl rfl
      · have h3 : ¬ k = 3 := h3
        refine And.intro (fun h4 => ?_) (fun h4 => ?_)
        · have h4 : k = 4 := h4
          subst h4
          refine rMarks_c.eq rfl ?_
          refine (rIn_c marksL (by decide) t).eq rfl ?_
          exact end1 _ rfl rfl rfl
        · have h4 : ¬ k = 4 := h4
          exact end1 _ rfl rfl (retB (by simp [rightN, h1, h2, h3, h4]))

theorem rTwo_c (s : List UInt8) (hs : s.length ≤ 8000) (k : Nat) (hk : k ≤ s.length) (a b : UInt8) : Pure cx 55 [.str s, i64 k, .str [a, b]] (· = .ret [.bool (List.isPrefixOf [a, b] (s.drop k))]) := by
  refine pure_of_vc Tryd.func55 rfl rfl rfl ?_
  refine ⟨(k : Int) + 2, wrap_i64 (by omega) (by omega), ?_⟩
  refine And.intro (fun h1 => ?_) (fun h1 => ?_)
  · have h1 : (k : Int) + 2 ≤ (s.length : Nat) := h1
    refine ⟨(k : Int) + 2, wrap_i64 (by omega) (by omega), ?_⟩
    refine ⟨⟨by omega, by omega, by omega⟩, ?_⟩
    have e : sub s (some (k : Int)) (some ((k : Int) + 2)) = (s.drop k).take 2 := by
      show (s.drop ((k : Int)).toNat).take (((k : Int) + 2).toNat - ((k : Int)).toNat) = _
      rw [show ((k : Int) + 2).toNat - ((k : Int)).toNat = 2 by omega]
      rfl
    refine And.intro (fun h2 => ?_) (fun h2 => ?_)
    · have h2 : sub s (some (k : Int)) (some ((k : Int) + 2)) = [a, b] := h2
      rw [e] at h2
      refine end1 _ rfl rfl (retB ?_)
      rw [eq_comm, List.isPrefixOf_iff_prefix]
      exact ⟨(s.drop k).drop 2, by rw [← h2, List.take_append_drop]⟩
    · have h2 : ¬ sub s (some (k : Int)) (some ((k : Int) + 2)) = [a, b] := h2
      rw [e] at h2
      refine end1 _ rfl rfl (retB ?_)
      rw [eq_comm, Bool.eq_false_iff]
      intro h
      rw [List.isPrefixOf_iff_prefix] at h
      obtain ⟨r, hr⟩ := h
      exact h2 (by rw [← hr]; rfl)
  · have h1 : ¬ (k : Int) + 2 ≤ (s.length : Nat) := h1
    refine end1 _ rfl rfl (retB ?_)
    rw [eq_comm, Bool.eq_false_iff]
    intro h
    have := (isPre_drop h).resolve_right (by simp)
    simp at this
    omega

/-- The place, as the reference finds it. -/
theorem rPlace_c (s : List UInt8) (hs : s.length ≤ 8000) (k : Nat) (hk : k ≤ s.length) : Pure cx 36 [.str s, i64 k] (· = .ret [i64 (at_ s k).1, i64 (at_ s k).2]) := by
  refine pure_of_vc Tryd.func36 rfl rfl rfl ?_
  refine ⟨Nat, fun j => [(6, .p (i64 (at_ s j).1)), (7, .p (i64 (at_ s j).2)), (8, .p (i64 j)), (0, vS s), (1, .p (i64 k))], fun _ => ⟨0, []⟩, fun j => j ≤ k, fun j => k - j, ?_, ?_⟩
  · exact ⟨0, by omega, ent0 rfl ⟨rfl, rfl, rfl, rfl, rfl, trivial⟩ trivial rfl⟩
  · intro j hj
    have hle := at_le s j
    refine And.intro (fun h1 => ?_) (fun h1 => ?_)
    · have hlt : j < s.length := by have h1 : (j : Int) < (k : Int) := h1; omega
      have hk2 : j < k := by have h1 : (j : Int) < (k : Int) := h1; omega
      refine ⟨((at_ s j).2 : Int) + 1, wrap_i64 (by omega) (by omega), ?_⟩
      refine ⟨_, ⟨by omega, s[j], List.getElem?_eq_getElem hlt, rfl⟩, ?_⟩
      have ha := at_succ hlt
      refine And.intro (fun h2 => ?_) (fun h2 => ?_)
      · have h2 : ((s[j].toNat : Nat) : Int) = 10 := h2
        refine ⟨((at_ s j).1 : Int) + 1, wrap_i64 (by omega) (by omega), ?_⟩
        refine ⟨(j : Int) + 1, wrap_i64 (by omega) (by omega), j + 1, hk2, ?_, ?_⟩
        · have e : at_ s (j + 1) = ((at_ s j).1 + 1, 1) := by rw [ha, adv, if_pos (by omega)]
          show Ent _ _ _ _ _ _ (sets (fun _ => .junk) [(6, .p (i64 (at_ s (j + 1)).1)), (7, .p (i64 (at_ s (j + 1)).2)), (8, .p (i64 ((j + 1 : Nat) : Int))), (0, vS s), (1, .p (i64 k))]) _ _
          rw [e]
          exact ent0 rfl ⟨rfl, rfl, rfl, rfl, rfl, trivial⟩ trivial rfl
        · show k - (j + 1) < k - j
          omega
      · have h2 : ¬ ((s[j].toNat : Nat) : Int) = 10 := h2
        refine ⟨(j : Int) + 1, wrap_i64 (by omega) (by omega), j + 1, hk2, ?_, ?_⟩
        · have e : at_ s (j + 1) = ((at_ s j).1, (at_ s j).2 + 1) := by rw [ha, adv, if_neg (by omega)]
          show Ent _ _ _ _ _ _ (sets (fun _ => .junk) [(6, .p (i64 (at_ s (j + 1)).1)), (7, .p (i64 (at_ s (j + 1)).2)), (8, .p (i64 ((j + 1 : Nat) : Int))), (0, vS s), (1, .p (i64 k))]) _ _
          rw [e]
          exact ent0 rfl ⟨rfl, rfl, rfl, rfl, rfl, trivial⟩ trivial rfl
        · show k - (j + 1) < k - j
          omega
    · have : j = k := by have h1 : ¬ (j : Int) < (k : Int) := h1; omega
      subst this
      exact end2 _ _ rfl rfl rfl rfl
end Go.Proofs.YtemlkodkohgmmaaDoor

/- The reference of layer 37: comments, blanks, words. -/
namespace Go.Proofs.YtemlkodkohgmmaaDoor
open Go Y
set_option maxRecDepth 100000
set_option maxHeartbeats 4000000

def closedV (k : Nat) : Option Nat → Int
  | some n => ((k + 2 + n : Nat) : Int)
  | none => -1

theorem rClosed_c (s : List UInt8) (hs : s.length ≤ 8000) (k f : Nat) (hk2 : k + 2 ≤ s.length) (hf : s.length - (k + 2) ≤ f) :
    Pure cx 56 [.str s, i64 k] (fun r => r = .ret [i64 (closedV k (closeN f 1 (s.drop (k + 2))))] ∧ ∀ n, closeN f 1 (s.drop (k + 2)) = some n → k + 2 + n ≤ s.length) := by
  refine pure_of_vc Tryd.func56 rfl rfl rfl ?_
  refine ⟨(k : Int) + 2, wrap_i64 (by omega) (by omega), ?_⟩
  refine ⟨Nat × Nat × Nat, fun x => [(0, vS s), (5, .p (i64 x.2.1)), (6, .p (i64 x.1))], fun _ => ⟨0, []⟩,
    fun x => x.1 ≤ s.length ∧ k + 2 ≤ x.1 ∧ x.2.1 ≤ x.1 ∧ ((x.2.1 = 0 ∧ closeN f 1 (s.drop (k + 2)) = some (x.1 - (k + 2))) ∨ (1 ≤ x.2.1 ∧ s.length - x.1 ≤ x.2.2 ∧ closeN f 1 (s.drop (k + 2)) = (closeN x.2.2 x.2.1 (s.drop x.1)).map (· + (x.1 - (k + 2))))), fun x => 2 * (s.length - x.1) + (if x.2.1 = 0 then 0 else 1), ?_, ?_⟩
  · exact ⟨(k + 2, 1, f), ⟨hk2, by simp, by simp, .inr ⟨by simp, hf, by simp⟩⟩, ent0 rfl ⟨rfl, rfl, rfl, trivial⟩ trivial rfl⟩
  · rintro ⟨i, d, f'⟩ ⟨g1, g2, g3, hx⟩
    simp only [] at g1 g2 g3 hx
    refine And.intro (fun h0 => ?_) (fun h0 => ?_)
    · have h0 : (0 : Int) < (d : Int) := h0
      obtain ⟨q1, q2, hc⟩ := hx.resolve_left (by omega)
      refine And.intro (fun h1 => ?_) (fun h1 => ?_)
      · have h1 : ((s.length : Nat) : Int) ≤ (i : Int) := h1
        have hn : closeN f 1 (s.drop (k + 2)) = none := by
          rw [hc, show i = s.length by omega, List.drop_length]
          cases f' <;> rfl
        rw [hn]
        exact end1 _ rfl rfl ⟨rfl, by intro n h; cases h⟩
      · have h1 : ¬ ((s.length : Nat) : Int) ≤ (i : Int) := h1
        have hlt : i < s.length := by omega
        obtain ⟨c, r, hr⟩ : ∃ c r, s.drop i = c :: r := ⟨_, _, List.drop_eq_getElem_cons hlt⟩
        obtain ⟨f'', rfl⟩ : ∃ n, f' = n + 1 := ⟨f' - 1, by omega⟩
        have hT := rTwo_c s hs i g1 40 42
        by_cases hb : List.isPrefixOf [40, 42] (s.drop i) = true
        · rw [hb] at hT
          refine hT.eq rfl ?_
          have hk3 : i + 2 ≤ s.length := (isPre_drop hb).resolve_right (by simp)
          refine ⟨(d : Int) + 1, wrap_i64 (by omega) (by omega), ?_⟩
          refine ⟨(i : Int) + 2, wrap_i64 (by omega) (by omega), ?_⟩
          refine ⟨(i + 2, d + 1, f''), ⟨hk3, by simp only []; omega, by simp only []; omega, .inr ⟨by simp, by simp only []; omega, ?_⟩⟩, ent0 rfl ⟨rfl, rfl, rfl, trivial⟩ trivial rfl, ?_⟩
          · rw [hc, hr, closeN, ← hr, if_pos hb, List.drop_drop, Option.map_map]
            congr 1
            funext n
            simp only [Function.comp]
            omega
          · simp only []
            split <;> split <;> omega
        · rw [Bool.not_eq_true] at hb
          rw [hb] at hT
          refine hT.eq rfl ?_
          have hT2 := rTwo_c s hs i g1 42 41
          by_cases hb2 : List.isPrefixOf [42, 41] (s.drop i) = true
          · rw [hb2] at hT2
            refine hT2.eq rfl ?_
            have hk3 : i + 2 ≤ s.length := (isPre_drop hb2).resolve_right (by simp)
            refine ⟨((d - 1 : Nat) : Int), by rw [show ((d - 1 : Nat) : Int) = (d : Int) - 1 by omega]; exact wrap_i64 (by omega) (by omega), ?_⟩
            refine ⟨(i : Int) + 2, wrap_i64 (by omega) (by omega), ?_⟩
            refine ⟨(i + 2, d - 1, f''), ⟨hk3, by simp only []; omega, by simp only []; omega, ?_⟩, ent0 rfl ⟨rfl, rfl, rfl, trivial⟩ trivial rfl, ?_⟩
            · simp only []
              by_cases hd : d = 1
              · refine .inl ⟨by omega, ?_⟩
                rw [hc, hr, closeN, ← hr, if_neg (by rw [hb]; simp), if_pos hb2, if_pos hd]
                simp only [Option.map_some]
                congr 1
                omega
              · refine .inr ⟨by omega, by omega, ?_⟩
                rw [hc, hr, closeN, ← hr, if_neg (by rw [hb]; simp), if_pos hb2, if_neg hd, List.drop_drop, Option.map_map]
                congr 1
                funext n
                simp only [Function.comp]
                omega
            · simp only []
              split <;> split <;> omega
          · rw [Bool.not_eq_true] at hb2
            rw [hb2] at hT2
            refine hT2.eq rfl ?_
            refine ⟨(i : Int) + 1, wrap_i64 (by omega) (by omega), ?_⟩
            refine ⟨(i + 1, d, f''), ⟨by simp only []; omega, by simp only []; omega, by simp only []; omega, .inr ⟨by simp only []; omega, by simp only []; omega, ?_⟩⟩, ent0 rfl ⟨rfl, rfl, rfl, trivial⟩ trivial rfl, ?_⟩
            · rw [hc, hr, closeN, ← hr, if_neg (by rw [hb]; simp), if_neg (by rw [hb2]; simp), List.drop_drop, Option.map_map]
              congr 1
              funext n
              simp only [Function.comp]
              omega
            · simp only []
              split <;> omega
    · have h0 : ¬ (0 : Int) < (d : Int) := h0
      rcases hx with ⟨-, hx⟩ | ⟨q1, -⟩
      · rw [hx]
        refine end1 (i64 i) rfl rfl ⟨?_, by intro n h; injection h with h; omega⟩
        show PEnd.ret [i64 i] = .ret [i64 ((k + 2 + (i - (k + 2)) : Nat) : Int)]
        rw [show k + 2 + (i - (k + 2)) = i by omega]
      · omega
end Go.Proofs.YtemlkodkohgmmaaDoor

/- The reference of layer 37: blanks, words. -/
namespace Go.Proofs.YtemlkodkohgmmaaDoor
open Go Y
set_option maxRecDepth 100000
set_option maxHeartbeats 4000000

theorem closeN_le : ∀ (f d : Nat) (r : List UInt8) (n : Nat), closeN f d r = some n → n ≤ r.length
  | 0, _, _, _, h => by simp [closeN] at h
  | f + 1, d, [], n, h => by simp [closeN] at h
  | f + 1, d, c :: r, n, h => by
    rw [closeN] at h
    split at h
    · rename_i hp
      rw [List.isPrefixOf_iff_prefix] at hp
      have := hp.length_le
      simp only [Option.map_eq_some_iff] at h
      obtain ⟨m, hm, rfl⟩ := h
      have := closeN_le f _ _ _ hm
      simp at *
      omega
    · split at h
      · rename_i hp
        rw [List.isPrefixOf_iff_prefix] at hp
        have := hp.length_le
        split at h
        · injection h with h
          simp at *
          omega
        · simp only [Option.map_eq_some_iff] at h
          obtain ⟨m, hm, rfl⟩ := h
          have := closeN_le f _ _ _ hm
          simp at *
          omega
      · simp only [Option.map_eq_some_iff] at h
        obtain ⟨m, hm, rfl⟩ := h
        have := closeN_le f _ _ _ hm
        simp at *
        omega

theorem rClosed_e (s : List UInt8) (hs : s.length ≤ 8000) (k f : Nat) (hk2 : k + 2 ≤ s.length) (hf : s.length - (k + 2) ≤ f) :
    Pure cx 56 [.str s, i64 k] (· = .ret [i64 (closedV k (closeN f 1 (s.drop (k + 2))))]) :=
  (rClosed_c s hs k f hk2 hf).mono fun _ h => h.1

def skipV (k : Nat) : Nat ⊕ Nat → List PV
  | .inl n => [i64 ((k + n : Nat) : Int), .bool true]
  | .inr n => [i64 ((k + n : Nat) : Int), .bool false]

theorem rSkip_c (s : List UInt8) (hs : s.length ≤ 8000) (k f : Nat) (hk : k ≤ s.length) (hf : s.length - k ≤ f) :
    Pure cx 35 [.str s, i64 k] (· = .ret (skipV k (skipN f (s.drop k)))) := by
  refine pure_of_vc Tryd.func35 rfl rfl rfl ?_
  refine ⟨Nat × Nat, fun x => [(0, vS s), (1, .p (i64 x.1))], fun _ => ⟨0, []⟩,
    fun x => k ≤ x.1 ∧ x.1 ≤ s.length ∧ s.length - x.1 ≤ x.2 ∧ skipN f (s.drop k) = shift (x.1 - k) (skipN x.2 (s.drop x.1)), fun x => s.length - x.1, ?_, ?_⟩
  · exact ⟨(k, f), ⟨by simp, hk, hf, by simp [shift_zero]⟩, ent0 rfl ⟨rfl, rfl, trivial⟩ trivial rfl⟩
  · rintro ⟨k', f'⟩ ⟨g1, g2, g3, hc⟩
    simp only [] at g1 g2 g3 hc
    refine And.intro (fun h1 => ?_) (fun h1 => ?_)
    · have hlt : k' < s.length := by have h1 : (k' : Int) < (s.length : Int) := h1; omega
      have hr : s.drop k' = s[k'] :: s.drop (k' + 1) := List.drop_eq_getElem_cons hlt
      obtain ⟨f'', rfl⟩ : ∃ n, f' = n + 1 := ⟨f' - 1, by omega⟩
      refine ⟨_, ⟨by omega, s[k'], List.getElem?_eq_getElem hlt, rfl⟩, ?_⟩
      have one : (s[k'].toNat = 32 ∨ s[k'].toNat = 10) → skipN f (s.drop k) = shift (k' + 1 - k) (skipN f'' (s.drop (k' + 1))) := by
        intro h
        rw [hc, hr, skipN, if_pos h, shift_shift]
        congr 1
        omega
      refine And.intro (fun h2 => ?_) (fun h2 => ?_)
      · have h2 : ((s[k'].toNat : Nat) : Int) = 32 := h2
        refine ⟨(k' : Int) + 1, wrap_i64 (by omega) (by omega), ?_⟩
        exact ⟨(k' + 1, f''), ⟨by simp only []; omega, by simp only []; omega, by simp only []; omega, one (by omega)⟩, ent0 rfl ⟨rfl, rfl, trivial⟩ trivial rfl, by simp only []; omega⟩
      · have h2 : ¬ ((s[k'].toNat : Nat) : Int) = 32 := h2
        refine ⟨_, ⟨by omega, s[k'], List.getElem?_eq_getElem hlt, rfl⟩, ?_⟩
        refine And.intro (fun h3 => ?_) (fun h3 => ?_)
        · have h3 : ((s[k'].toNat : Nat) : Int) = 10 := h3
          refine ⟨(k' : Int) + 1, wrap_i64 (by omega) (by omega), ?_⟩
          exact ⟨(k' + 1, f''), ⟨by simp only []; omega, by simp only []; omega, by simp only []; omega, one (by omega)⟩, ent0 rfl ⟨rfl, rfl, trivial⟩ trivial rfl, by simp only []; omega⟩
        · have h3 : ¬ ((s[k'].toNat : Nat) : Int) = 10 := h3
          have hno : ¬ (s[k'].toNat = 32 ∨ s[k'].toNat = 10) := by omega
          have hB := rTwo_c s hs k' g2 45 45
          by_cases hb : List.isPrefixOf [45, 45] (s.drop k') = true
          · rw [hb] at hB
            refine hB.eq rfl ?_
            have hsp := span2 hb
            have hle := spanN_le notNl (s.drop k')
            rw [List.length_drop] at hle
            refine ⟨Nat, fun j => [(0, vS s), (1, .p (i64 j))], fun _ => ⟨0, []⟩, fun j => k' ≤ j ∧ j ≤ s.length ∧ spanN notNl (s.drop k') = (j - k') + spanN notNl (s.drop j), fun j => s.length - j, ?_, ?_⟩
            · exact ⟨k', ⟨by omega, g2, by omega⟩, ent0 rfl ⟨rfl, rfl, trivial⟩ trivial rfl⟩
            · rintro j ⟨j1, j2, j3⟩
              have fin : spanN notNl (s.drop j) = 0 → ∃ x : Nat × Nat, (k ≤ x.1 ∧ x.1 ≤ s.length ∧ s.length - x.1 ≤ x.2 ∧ skipN f (s.drop k) = shift (x.1 - k) (skipN x.2 (s.drop x.1))) ∧ x.1 = j ∧ s.length - x.1 < s.length - k' := by
                intro h0
                have ej : spanN notNl (s.drop k') = j - k' := by omega
                refine ⟨(j, f''), ⟨by simp only []; omega, by simp only []; omega, by simp only []; omega, ?_⟩, rfl, by simp only []; omega⟩
                rw [hc]
                conv => lhs; rw [hr, skipN, if_neg hno, ← hr, if_pos hb]
                rw [shift_shift, List.drop_drop, ej, show k' + (j - k') = j by omega]
                congr 1
                omega
              refine And.intro (fun m1 => ?_) (fun m1 => ?_)
              · have hjl : j < s.length := by have m1 : (j : Int) < (s.length : Int) := m1; omega
                have hrj : s.drop j = s[j] :: s.drop (j + 1) := List.drop_eq_getElem_cons hjl
                refine ⟨_, ⟨by omega, s[j], List.getElem?_eq_getElem hjl, rfl⟩, ?_⟩
                refine And.intro (fun m2 => ?_) (fun m2 => ?_)
                · have m2 : ((s[j].toNat : Nat) : Int) = 10 := m2
                  obtain ⟨⟨x1, x2⟩, hx, rfl, hxm⟩ := fin (by rw [hrj, spanN, if_neg (by simp [notNl]; omega)])
                  exact ⟨(x1, x2), hx, ent0 rfl ⟨rfl, rfl, trivial⟩ trivial rfl, hxm⟩
                · have m2 : ¬ ((s[j].toNat : Nat) : Int) = 10 := m2
                  clear fin
                  refine ⟨(j : Int) + 1, wrap_i64 (by omega) (by omega), ?_⟩
                  refine ⟨j + 1, ⟨by omega, by omega, ?_⟩, ent0 rfl ⟨rfl, rfl, trivial⟩ trivial rfl, ?_⟩
                  · rw [j3, hrj, spanN, if_pos (by simp [notNl]; omega)]
                    omega
                  · show s.length - (j + 1) < s.length - j
                    omega
              · have ej : j = s.length := by have m1 : ¬ (j : Int) < (s.length : Int) := m1; omega
                obtain ⟨⟨x1, x2⟩, hx, rfl, hxm⟩ := fin (by rw [ej, List.drop_length]; rfl)
                exact ⟨(x1, x2), hx, ent0 rfl ⟨rfl, rfl, trivial⟩ trivial rfl, hxm⟩
          · rw [Bool.not_eq_true] at hb
            rw [hb] at hB
            refine hB.eq rfl ?_
            have hB2 := rTwo_c s hs k' g2 40 42
            by_cases hb2 : List.isPrefixOf [40, 42] (s.drop k') = true
            · rw [hb2] at hB2
              refine hB2.eq rfl ?_
              have hk2 : k' + 2 ≤ s.length := (isPre_drop hb2).resolve_right (by simp)
              have hcm := rClosed_e s hs k' f'' hk2 (by omega)
              refine Or.elim (Option.eq_none_or_eq_some (closeN f'' 1 (s.drop (k' + 2)))) (fun hcl => ?_) (fun hn => Exists.elim hn (fun n hcl => ?_))
              · rw [hcl] at hcm
                refine hcm.eq rfl ?_
                have e : skipN f (s.drop k) = .inr (k' - k) := by
                  rw [hc, hr, skipN, if_neg hno, ← hr, if_neg (by rw [hb]; simp), if_pos hb2, List.drop_drop, hcl]
                  simp [shift]
                have e2 : k + (k' - k) = k' := by omega
                refine And.intro (fun m1 => ?_) (fun m1 => ?_)
                · refine end2 (i64 k') (.bool false) rfl rfl rfl ?_
                  rw [e]
                  show PEnd.ret [i64 k', .bool false] = .ret [i64 ((k + (k' - k) : Nat) : Int), .bool false]
                  rw [e2]
                · have m1 : ¬ (-1 : Int) < 0 := m1
                  omega
              · rw [hcl] at hcm
                refine hcm.eq rfl ?_
                have hln := closeN_le _ _ _ _ hcl
                rw [List.length_drop] at hln
                refine And.intro (fun m1 => ?_) (fun m1 => ?_)
                · have m1 : ((k' + 2 + n : Nat) : Int) < 0 := m1
                  omega
                · refine ⟨(k' + 2 + n, f''), ⟨by simp only []; omega, by simp only []; omega, by simp only []; omega, ?_⟩, ent0 rfl ⟨rfl, rfl, trivial⟩ trivial rfl, by simp only []; omega⟩
                  rw [hc, hr, skipN, if_neg hno, ← hr, if_neg (by rw [hb]; simp), if_pos hb2, List.drop_drop, hcl]
                  simp only []
                  rw [shift_shift, List.drop_drop, show k' + (2 + n) = k' + 2 + n by omega]
                  congr 1
                  omega
            · rw [Bool.not_eq_true] at hb2
              rw [hb2] at hB2
              refine hB2.eq rfl ?_
              have e : skipN f (s.drop k) = .inl (k' - k) := by
                rw [hc, hr, skipN, if_neg hno, ← hr, if_neg (by rw [hb]; simp), if_neg (by rw [hb2]; simp)]
                simp [shift]
              refine end2 (i64 k') (.bool true) rfl rfl rfl ?_
              rw [e]
              show PEnd.ret [i64 k', .bool true] = .ret [i64 ((k + (k' - k) : Nat) : Int), .bool true]
              rw [show k + (k' - k) = k' by omega]
    · have hk' : k' = s.length := by have h1 : ¬ (k' : Int) < (s.length : Int) := h1; omega
      have e : skipN f (s.drop k) = .inl (k' - k) := by
        rw [hc, hk', List.drop_length]
        cases f' <;> simp [skipN, shift]
      refine end2 (i64 k') (.bool true) rfl rfl rfl ?_
      rw [e]
      show PEnd.ret [i64 k', .bool true] = .ret [i64 ((k + (k' - k) : Nat) : Int), .bool true]
      rw [show k + (k' - k) = k' by omega]

theorem spanN_take_one (_g : UInt8 → Bool) (s : List UInt8) (k : Nat) (h : k < s.length) : sub s (some (k : Int)) (some ((k : Int) + 1)) = [s[k]] := by
  show (s.drop ((k : Int)).toNat).take (((k : Int) + 1).toNat - ((k : Int)).toNat) = _
  rw [show ((k : Int) + 1).toNat - ((k : Int)).toNat = 1 by omega]
  show (s.drop k).take 1 = _
  rw [List.drop_eq_getElem_cons h]
  rfl
theorem sub_span (s : List UInt8) (k m : Nat) : sub s (some (k : Int)) (some ((k + m : Nat) : Int)) = (s.drop k).take m := by
  show (s.drop ((k : Int)).toNat).take (((k + m : Nat) : Int).toNat - ((k : Int)).toNat) = _
  rw [show ((k + m : Nat) : Int).toNat - ((k : Int)).toNat = m by omega]
  rfl
theorem runN_one (c : UInt8) : runN [c] = isAln c := by
  cases h : isAln c <;> simp [runN, spanN, h]


theorem rOne_c (s : List UInt8) (hs : s.length ≤ 8000) (k : Nat) (hk : k < s.length) :
    Pure cx 37 [.str s, i64 k] (· = .ret [i64 (oneN (s.drop k)).1, .str (oneN (s.drop k)).2]) := by
  refine pure_of_vc Tryd.func37 rfl rfl rfl ?_
  have hlen : (s.drop k).length = s.length - k := List.length_drop
  refine ⟨Nat, fun j => [(0, vS s), (1, .p (i64 k)), (6, .p (i64 ((k + j : Nat) : Int)))], fun _ => ⟨0, []⟩, fun j => k + j ≤ s.length ∧ spanN isAln (s.drop k) = j + spanN isAln (s.drop (k + j)), fun j => s.length - j, ?_, ?_⟩
  · exact ⟨0, ⟨by omega, by simp⟩, ent0 rfl ⟨rfl, rfl, rfl, trivial⟩ trivial rfl⟩
  · rintro j ⟨j1, j2⟩
    refine And.intro (fun h1 => ?_) (fun h1 => ?_)
    · have h1 : ((k + j : Nat) : Int) < ((s.length : Nat) : Int) := h1
      have hlt : k + j < s.length := by omega
      refine ⟨((k + j : Nat) : Int) + 1, wrap_i64 (by omega) (by omega), ?_⟩
      refine ⟨⟨by omega, by omega, by omega⟩, ?_⟩
      have hR := rRun_c (sub s (some ((k + j : Nat) : Int)) (some (((k + j : Nat) : Int) + 1))) (by rw [spanN_take_one isAln s (k + j) hlt]; simp)
      have hrn : runN (sub s (some ((k + j : Nat) : Int)) (some (((k + j : Nat) : Int) + 1))) = isAln s[k + j] := by rw [spanN_take_one isAln s (k + j) hlt, runN_one]
      rw [hrn] at hR
      have hc : s.drop (k + j) = s[k + j] :: s.drop (k + j + 1) := List.drop_eq_getElem_cons hlt
      by_cases ha : isAln s[k + j] = true
      · rw [ha] at hR
        refine hR.eq rfl ?_
        refine ⟨((k + j : Nat) : Int) + 1, wrap_i64 (by omega) (by omega), j + 1, ⟨by omega, ?_⟩, ent0 rfl ⟨rfl, rfl, rfl, trivial⟩ trivial rfl, ?_⟩
        · rw [j2, hc, spanN, if_pos ha]
          show j + (spanN isAln (s.drop (k + j + 1)) + 1) = j + 1 + spanN isAln (s.drop (k + (j + 1)))
          rw [show k + (j + 1) = k + j + 1 by omega]
          omega
        · show s.length - (j + 1) < s.length - j
          omega
      · rw [Bool.not_eq_true] at ha
        rw [ha] at hR
        refine hR.eq rfl ?_
        have hz : spanN isAln (s.drop (k + j)) = 0 := by rw [hc, spanN, if_neg (by rw [ha]; simp)]
        have hsp : spanN isAln (s.drop k) = j := by omega
        refine And.intro (fun h2 => ?_) (fun h2 => ?_)
        · have h2 : (k : Int) < ((k + j : Nat) : Int) := h2
          have hpos : 0 < spanN isAln (s.drop k) := by omega
          refine ⟨⟨by omega, by omega, by omega⟩, ?_⟩
          have e := sub_span s k j
          have htl : (sub s (some (k : Int)) (some ((k + j : Nat) : Int))).length = j := by rw [e, List.length_take]; omega
          refine rKeys_c.eq rfl ?_
          have hK := rIn_c keysL (by decide) (sub s (some (k : Int)) (some ((k + j : Nat) : Int)))
          by_cases hkey : inL keysL (sub s (some (k : Int)) (some ((k + j : Nat) : Int))) = true
          · rw [hkey] at hK
            refine hK.eq rfl ?_
            refine end2 (i64 2) (.str (sub s (some (k : Int)) (some ((k + j : Nat) : Int)))) rfl rfl rfl ?_
            rw [e] at hkey ⊢
            rw [show oneN (s.drop k) = (2, (s.drop k).take j) by rw [oneN, if_pos hpos, hsp, if_pos hkey]]
          · rw [Bool.not_eq_true] at hkey
            rw [hkey] at hK
            refine hK.eq rfl ?_
            obtain ⟨c, r, hcr⟩ : ∃ c r, sub s (some (k : Int)) (some ((k + j : Nat) : Int)) = c :: r := by
              cases ht : sub s (some (k : Int)) (some ((k + j : Nat) : Int)) with
              | nil => rw [ht] at htl; simp at htl; omega
              | cons c r => exact ⟨c, r, rfl⟩
            refine ⟨_, ⟨by omega, c, by show (sub s (some (k : Int)) (some ((k + j : Nat) : Int)))[0]? = _; rw [hcr]; rfl, rfl⟩, ?_⟩
            have hD := rDigit_c c
            have hh : ((s.drop k).take j).headD 0 = c := by rw [← e, hcr]; rfl
            by_cases hd : isDig c = true
            · rw [hd] at hD
              refine hD.eq rfl ?_
              refine end2 (i64 3) (.str (sub s (some (k : Int)) (some ((k + j : Nat) : Int)))) rfl rfl rfl ?_
              rw [e] at hkey ⊢
              rw [show oneN (s.drop k) = (3, (s.drop k).take j) by rw [oneN, if_pos hpos, hsp, if_neg (by rw [hkey]; simp), if_pos (by rw [hh]; exact hd)]]
            · rw [Bool.not_eq_true] at hd
              rw [hd] at hD
              refine hD.eq rfl ?_
              refine end2 (i64 1) (.str (sub s (some (k : Int)) (some ((k + j : Nat) : Int)))) rfl rfl rfl ?_
              rw [e] at hkey ⊢
              rw [show oneN (s.drop k) = (1, (s.drop k).take j) by rw [oneN, if_pos hpos, hsp, if_neg (by rw [hkey]; simp), if_neg (by rw [hh, hd]; simp)]]
        · have h2 : ¬ (k : Int) < ((k + j : Nat) : Int) := h2
          have hpos : ¬ 0 < spanN isAln (s.drop k) := by omega
          refine VDraw.seq rfl ?_
          refine ⟨((k + 2 : Nat) : Int), by rw [show ((k + 2 : Nat) : Int) = (k : Int) + 2 by omega]; exact wrap_i64 (by omega) (by omega), ?_⟩
          refine And.intro (fun h3 => ?_) (fun h3 => ?_)
          · have h3 : ((k + 2 : Nat) : Int) ≤ ((s.length : Nat) : Int) := h3
            refine ⟨((k + 2 : Nat) : Int), by rw [show ((k + 2 : Nat) : Int) = (k : Int) + 2 by omega]; exact wrap_i64 (by omega) (by omega), ?_⟩
            refine ⟨⟨by omega, by omega, by omega⟩, ?_⟩
            refine rMarks_c.eq rfl ?_
            have e := sub_span s k 2
            have hM := rIn_c marksL (by decide) (sub s (some (k : Int)) (some ((k + 2 : Nat) : Int)))
            by_cases hm : inL marksL (sub s (some (k : Int)) (some ((k + 2 : Nat) : Int))) = true
            · rw [hm] at hM
              refine hM.eq rfl ?_
              refine VDraw.seq rfl ?_
              refine ⟨((k + 2 : Nat) : Int), by rw [show ((k + 2 : Nat) : Int) = (k : Int) + 2 by omega]; exact wrap_i64 (by omega) (by omega), ?_⟩
              refine ⟨⟨by omega, by omega, by omega⟩, ?_⟩
              refine end2 (i64 4) (.str (sub s (some (k : Int)) (some ((k + 2 : Nat) : Int)))) rfl rfl rfl ?_
              rw [e] at hm ⊢
              rw [show oneN (s.drop k) = (4, (s.drop k).take 2) by rw [oneN, if_neg hpos, if_pos (by rw [hm, decide_eq_true (by omega)]; rfl)]]
            · rw [Bool.not_eq_true] at hm
              rw [hm] at hM
              refine hM.eq rfl ?_
              refine VDraw.seq rfl ?_
              refine ⟨((k + 1 : Nat) : Int), by rw [show ((k + 1 : Nat) : Int) = (k : Int) + 1 by omega]; exact wrap_i64 (by omega) (by omega), ?_⟩
              refine ⟨⟨by omega, by omega, by omega⟩, ?_⟩
              refine end2 (i64 4) (.str (sub s (some (k : Int)) (some ((k + 1 : Nat) : Int)))) rfl rfl rfl ?_
              rw [e] at hm
              rw [sub_span, show oneN (s.drop k) = (4, (s.drop k).take 1) by rw [oneN, if_neg hpos, if_neg (by rw [hm]; simp)]]
          · have h3 : ¬ ((k + 2 : Nat) : Int) ≤ ((s.length : Nat) : Int) := h3
            refine VDraw.seq rfl ?_
            refine ⟨((k + 1 : Nat) : Int), by rw [show ((k + 1 : Nat) : Int) = (k : Int) + 1 by omega]; exact wrap_i64 (by omega) (by omega), ?_⟩
            refine ⟨⟨by omega, by omega, by omega⟩, ?_⟩
            refine end2 (i64 4) (.str (sub s (some (k : Int)) (some ((k + 1 : Nat) : Int)))) rfl rfl rfl ?_
            rw [sub_span, show oneN (s.drop k) = (4, (s.drop k).take 1) by rw [oneN, if_neg hpos, if_neg (by rw [decide_eq_false (by omega)]; simp)]]
    · have h1 : ¬ ((k + j : Nat) : Int) < ((s.length : Nat) : Int) := h1
      have hz : spanN isAln (s.drop (k + j)) = 0 := by rw [show k + j = s.length by omega, List.drop_length]; rfl
      have hsp : spanN isAln (s.drop k) = j := by omega
      refine And.intro (fun h2 => ?_) (fun h2 => ?_)
      · have h2 : (k : Int) < ((k + j : Nat) : Int) := h2
        have hpos : 0 < spanN isAln (s.drop k) := by omega
        refine ⟨⟨by omega, by omega, by omega⟩, ?_⟩
        have e := sub_span s k j
        have htl : (sub s (some (k : Int)) (some ((k + j : Nat) : Int))).length = j := by rw [e, List.length_take]; omega
        refine rKeys_c.eq rfl ?_
        have hK := rIn_c keysL (by decide) (sub s (some (k : Int)) (some ((k + j : Nat) : Int)))
        by_cases hkey : inL keysL (sub s (some (k : Int)) (some ((k + j : Nat) : Int))) = true
        · rw [hkey] at hK
          refine hK.eq rfl ?_
          refine end2 (i64 2) (.str (sub s (some (k : Int)) (some ((k + j : Nat) : Int)))) rfl rfl rfl ?_
          rw [e] at hkey ⊢
          rw [show oneN (s.drop k) = (2, (s.drop k).take j) by rw [oneN, if_pos hpos, hsp, if_pos hkey]]
        · rw [Bool.not_eq_true] at hkey
          rw [hkey] at hK
          refine hK.eq rfl ?_
          obtain ⟨c, r, hcr⟩ : ∃ c r, sub s (some (k : Int)) (some ((k + j : Nat) : Int)) = c :: r := by
            cases ht : sub s (some (k : Int)) (some ((k + j : Nat) : Int)) with
            | nil => rw [ht] at htl; simp at htl; omega
            | cons c r => exact ⟨c, r, rfl⟩
          refine ⟨_, ⟨by omega, c, by show (sub s (some (k : Int)) (some ((k + j : Nat) : Int)))[0]? = _; rw [hcr]; rfl, rfl⟩, ?_⟩
          have hD := rDigit_c c
          have hh : ((s.drop k).take j).headD 0 = c := by rw [← e, hcr]; rfl
          by_cases hd : isDig c = true
          · rw [hd] at hD
            refine hD.eq rfl ?_
            refine end2 (i64 3) (.str (sub s (some (k : Int)) (some ((k + j : Nat) : Int)))) rfl rfl rfl ?_
            rw [e] at hkey ⊢
            rw [show oneN (s.drop k) = (3, (s.drop k).take j) by rw [oneN, if_pos hpos, hsp, if_neg (by rw [hkey]; simp), if_pos (by rw [hh]; exact hd)]]
          · rw [Bool.not_eq_true] at hd
            rw [hd] at hD
            refine hD.eq rfl ?_
            refine end2 (i64 1) (.str (sub s (some (k : Int)) (some ((k + j : Nat) : Int)))) rfl rfl rfl ?_
            rw [e] at hkey ⊢
            rw [show oneN (s.drop k) = (1, (s.drop k).take j) by rw [oneN, if_pos hpos, hsp, if_neg (by rw [hkey]; simp), if_neg (by rw [hh, hd]; simp)]]
      · have h2 : ¬ (k : Int) < ((k + j : Nat) : Int) := h2
        have hpos : ¬ 0 < spanN isAln (s.drop k) := by omega
        refine VDraw.seq rfl ?_
        refine ⟨((k + 2 : Nat) : Int), by rw [show ((k + 2 : Nat) : Int) = (k : Int) + 2 by omega]; exact wrap_i64 (by omega) (by omega), ?_⟩
        refine And.intro (fun h3 => ?_) (fun h3 => ?_)
        · have h3 : ((k + 2 : Nat) : Int) ≤ ((s.length : Nat) : Int) := h3
          refine ⟨((k + 2 : Nat) : Int), by rw [show ((k + 2 : Nat) : Int) = (k : Int) + 2 by omega]; exact wrap_i64 (by omega) (by omega), ?_⟩
          refine ⟨⟨by omega, by omega, by omega⟩, ?_⟩
          refine rMarks_c.eq rfl ?_
          have e := sub_span s k 2
          have hM := rIn_c marksL (by decide) (sub s (some (k : Int)) (some ((k + 2 : Nat) : Int)))
          by_cases hm : inL marksL (sub s (some (k : Int)) (some ((k + 2 : Nat) : Int))) = true
          · rw [hm] at hM
            refine hM.eq rfl ?_
            refine VDraw.seq rfl ?_
            refine ⟨((k + 2 : Nat) : Int), by rw [show ((k + 2 : Nat) : Int) = (k : Int) + 2 by omega]; exact wrap_i64 (by omega) (by omega), ?_⟩
            refine ⟨⟨by omega, by omega, by omega⟩, ?_⟩
            refine end2 (i64 4) (.str (sub s (some (k : Int)) (some ((k + 2 : Nat) : Int)))) rfl rfl rfl ?_
            rw [e] at hm ⊢
            rw [show oneN (s.drop k) = (4, (s.drop k).take 2) by rw [oneN, if_neg hpos, if_pos (by rw [hm, decide_eq_true (by omega)]; rfl)]]
          · rw [Bool.not_eq_true] at hm
            rw [hm] at hM
            refine hM.eq rfl ?_
            refine VDraw.seq rfl ?_
            refine ⟨((k + 1 : Nat) : Int), by rw [show ((k + 1 : Nat) : Int) = (k : Int) + 1 by omega]; exact wrap_i64 (by omega) (by omega), ?_⟩
            refine ⟨⟨by omega, by omega, by omega⟩, ?_⟩
            refine end2 (i64 4) (.str (sub s (some (k : Int)) (some ((k + 1 : Nat) : Int)))) rfl rfl rfl ?_
            rw [e] at hm
            rw [sub_span, show oneN (s.drop k) = (4, (s.drop k).take 1) by rw [oneN, if_neg hpos, if_neg (by rw [hm]; simp)]]
        · have h3 : ¬ ((k + 2 : Nat) : Int) ≤ ((s.length : Nat) : Int) := h3
          refine VDraw.seq rfl ?_
          refine ⟨((k + 1 : Nat) : Int), by rw [show ((k + 1 : Nat) : Int) = (k : Int) + 1 by omega]; exact wrap_i64 (by omega) (by omega), ?_⟩
          refine ⟨⟨by omega, by omega, by omega⟩, ?_⟩
          refine end2 (i64 4) (.str (sub s (some (k : Int)) (some ((k + 1 : Nat) : Int)))) rfl rfl rfl ?_
          rw [sub_span, show oneN (s.drop k) = (4, (s.drop k).take 1) by rw [oneN, if_neg hpos, if_neg (by rw [decide_eq_false (by omega)]; simp)]]
end Go.Proofs.YtemlkodkohgmmaaDoor

/- The reference of layer 37: Read. -/
namespace Go.Proofs.YtemlkodkohgmmaaDoor
open Go Y
set_option maxRecDepth 100000
set_option maxHeartbeats 4000000

theorem skipN_le : ∀ (f : Nat) (r : List UInt8) (n : Nat), (skipN f r = .inl n ∨ skipN f r = .inr n) → n ≤ r.length
  | 0, r, n, h => by simp [skipN] at h; omega
  | f + 1, [], n, h => by simp [skipN] at h; omega
  | f + 1, c :: r, n, h => by
    have sh : ∀ (m : Nat) (x : Nat ⊕ Nat), (shift m x = .inl n ∨ shift m x = .inr n) → ∃ n', (x = .inl n' ∨ x = .inr n') ∧ n = n' + m := by
      intro m x h
      cases x with
      | inl y => simp [shift] at h; exact ⟨y, .inl rfl, h.symm⟩
      | inr y => simp [shift] at h; exact ⟨y, .inr rfl, h.symm⟩
    rw [skipN] at h
    split at h
    · obtain ⟨n', h', rfl⟩ := sh _ _ h
      have := skipN_le f _ _ h'
      simp at *
      omega
    · split at h
      · obtain ⟨n', h', rfl⟩ := sh _ _ h
        have := skipN_le f _ _ h'
        have h2 := spanN_le notNl (c :: r)
        rw [List.length_drop] at this
        omega
      · split at h
        · split at h
          · simp at h
            omega
          · rename_i hcl
            obtain ⟨n', h', rfl⟩ := sh _ _ h
            have h1 := closeN_le _ _ _ _ hcl
            have := skipN_le f _ _ h'
            rename_i hp _ _
            rw [List.isPrefixOf_iff_prefix] at hp
            have h3 := hp.length_le
            rw [List.length_drop] at this h1
            simp only [List.length_cons, List.length_nil] at *
            omega
        · simp at h
          omega

theorem rRead_c (s : List UInt8) : Pure cx 11 [.str s] (· = .ret (readV s)) := by
  refine pure_of_vc Tryd.func11 rfl rfl rfl ?_
  refine And.intro (fun h1 => ?_) (fun h1 => ?_)
  · have h1 : (8000 : Int) < s.length := h1
    have e : readV s = [.lsts 4 [], i64 0, i64 0, i64 3] := by rw [readV, if_pos (by omega)]
    exact end4 (.lsts 4 []) (i64 0) (i64 0) (i64 3) rfl (.inr (.inr ⟨4, rfl⟩)) rfl rfl rfl (congrArg PEnd.ret e.symm)
  · have hs : s.length ≤ 8000 := by have h1 : ¬ (8000 : Int) < s.length := h1; omega
    have hno : ¬ 8000 < s.length := by omega
    refine ⟨Nat × Nat × List Wd, fun x => [(0, vS s), (6, .sl 0 4 0 x.2.2.length), (7, .p (i64 x.1))], fun x => ⟨1, [(0, rdA x.2.2)]⟩,
      fun x => x.1 ≤ s.length ∧ s.length - x.1 ≤ x.2.1 ∧ x.2.2.length ≤ 1500 ∧ readR s = readN (x.2.1 + 1) s x.1 x.2.2, fun x => s.length - x.1, ?_, ?_⟩
    · refine ⟨(0, s.length, []), ⟨by simp, by simp, by simp, rfl⟩, ?_⟩
      exact ent_of [] [] [(0, 4)] rfl (by (repeat' first | exact trivial | exact rfl | exact ⟨rfl, rfl⟩ | exact .inl rfl | refine ⟨_, rfl, rfl, rfl, ?_⟩ | refine ⟨_, _, rfl, ?_, ?_⟩ | refine ⟨_, rfl, ?_⟩ | refine And.intro ?_ ?_)) (by (repeat' first | exact trivial | exact rfl | exact ⟨rfl, rfl⟩ | exact .inl rfl | refine ⟨_, rfl, rfl, rfl, ?_⟩ | refine ⟨_, _, rfl, ?_, ?_⟩ | refine ⟨_, rfl, ?_⟩ | refine And.intro ?_ ?_)) rfl
    · rintro ⟨k, f, acc⟩ ⟨g1, g2, g3, g4⟩
      simp only [] at g1 g2 g3 g4
      have hS := rSkip_c s hs k s.length g1 (by omega)
      rw [readN] at g4
      refine Or.elim (sumC (skipN s.length (s.drop k))) (fun hn => Exists.elim hn fun n hsk => ?_) (fun hn => Exists.elim hn fun n hsk => ?_)
      · have hle := skipN_le _ _ _ (.inl hsk)
        rw [List.length_drop] at hle
        rw [hsk] at hS
        simp only [hsk] at g4
        refine hS.eq rfl ?_
        refine (rPlace_c s hs (k + n) (by omega)).eq rfl ?_
        have hat := at_le s (k + n)
        refine And.intro (fun h2 => ?_) (fun h2 => ?_)
        · have h2 : ((k + n : Nat) : Int) = ((s.length : Nat) : Int) := h2
          have e : readV s = [.lsts 4 (acc.map Wd.cells), i64 0, i64 0, i64 0] := by rw [readV, if_neg hno, g4, readB, if_pos (by omega)]
          refine end4 (.lsts 4 (acc.map Wd.cells)) (i64 0) (i64 0) (i64 0) rfl ?_ rfl rfl rfl (congrArg PEnd.ret e.symm)
          exact ⟨_, rfl, by simp, by rw [List.drop_zero, List.take_of_length_le (by simp)]⟩
        · have h2 : ¬ ((k + n : Nat) : Int) = ((s.length : Nat) : Int) := h2
          have hlt : k + n < s.length := by omega
          have hne : s.drop (k + n) ≠ [] := by intro e; have := congrArg List.length e; rw [List.length_drop] at this; simp only [List.length_nil] at this; omega
          have hpos := one_pos hne
          have htl : (oneN (s.drop (k + n))).2.length ≤ s.length - (k + n) := by
            have := spanN_le isAln (s.drop (k + n))
            have h4 : (s.drop (k + n)).length = s.length - (k + n) := List.length_drop
            unfold oneN
            split
            · split
              · simp; omega
              · split <;> simp <;> omega
            · split <;> simp <;> omega
          rw [readB, if_neg (by omega)] at g4
          refine (rOne_c s hs (k + n) hlt).eq rfl ?_
          have hR := rRight_c (oneN (s.drop (k + n))).1 (oneN (s.drop (k + n))).2 (by omega)
          by_cases hr : rightN (oneN (s.drop (k + n))).1 (oneN (s.drop (k + n))).2 = true
          · rw [hr] at hR
            refine hR.eq rfl ?_
            simp only [hr] at g4
            refine And.intro (fun h3 => ?_) (fun h3 => ?_)
            · have h3 : ((acc.length : Nat) : Int) = 1500 := h3
              rw [if_pos (by omega)] at g4
              have e : readV s = [.lsts 4 [], i64 (at_ s (k + n)).1, i64 (at_ s (k + n)).2, i64 3] := by rw [readV, if_neg hno, g4]
              exact end4 (.lsts 4 []) (i64 (at_ s (k + n)).1) (i64 (at_ s (k + n)).2) (i64 3) rfl (.inr (.inr ⟨4, rfl⟩)) rfl rfl rfl (congrArg PEnd.ret e.symm)
            · have h3 : ¬ ((acc.length : Nat) : Int) = 1500 := h3
              rw [if_neg (by omega)] at g4
              refine ⟨by show 0 + 1 ≤ 1; omega, [Wd.cells ⟨(oneN (s.drop (k + n))).1, (oneN (s.drop (k + n))).2, (at_ s (k + n)).1, (at_ s (k + n)).2⟩], rfl, ?_⟩
              refine ⟨by show 0 + acc.length ≤ (acc.map Wd.cells).length; simp, acc.map Wd.cells, ?_, ?_⟩
              · show acc.map Wd.cells = ((acc.map Wd.cells).drop 0).take acc.length
                rw [List.drop_zero, List.take_of_length_le (by simp)]
              refine ⟨by show (acc.length + 1) * 40 ≤ 140737488355328; omega, (acc ++ [(⟨(oneN (s.drop (k + n))).1, (oneN (s.drop (k + n))).2, (at_ s (k + n)).1, (at_ s (k + n)).2⟩ : Wd)]).map Wd.cells, by simp, ?_⟩
              refine ⟨((k + n + (oneN (s.drop (k + n))).2.length : Nat) : Int), by rw [show ((k + n + (oneN (s.drop (k + n))).2.length : Nat) : Int) = ((k + n : Nat) : Int) + ((oneN (s.drop (k + n))).2.length : Nat) by omega]; exact wrap_i64 (by omega) (by omega), ?_⟩
              obtain ⟨f', rfl⟩ : ∃ n, f = n + 1 := ⟨f - 1, by omega⟩
              refine ⟨(k + n + (oneN (s.drop (k + n))).2.length, f', acc ++ [⟨(oneN (s.drop (k + n))).1, (oneN (s.drop (k + n))).2, (at_ s (k + n)).1, (at_ s (k + n)).2⟩]), ⟨by simp only []; omega, by simp only []; omega, by simp; omega, g4⟩, ?_, by simp only []; omega⟩
              have hw0 : ∀ w : Wd, AV.sl 3 4 0 (acc.length + 1) = AV.sl 3 4 0 (acc ++ [w]).length := fun w => by rw [List.length_append]; rfl
              exact ent_of [] [(0, 3)] [] rfl ⟨rfl, hw0 _, rfl, trivial⟩ ⟨⟨_, rfl, rfl, rfl, rfl⟩, trivial⟩ rfl
          · rw [Bool.not_eq_true] at hr
            rw [hr] at hR
            refine hR.eq rfl ?_
            simp only [hr] at g4
            have e : readV s = [.lsts 4 [], i64 (at_ s (k + n)).1, i64 (at_ s (k + n)).2, i64 370] := by rw [readV, if_neg hno, g4]
            exact end4 (.lsts 4 []) (i64 (at_ s (k + n)).1) (i64 (at_ s (k + n)).2) (i64 370) rfl (.inr (.inr ⟨4, rfl⟩)) rfl rfl rfl (congrArg PEnd.ret e.symm)
      · have hle := skipN_le _ _ _ (.inr hsk)
        rw [List.length_drop] at hle
        rw [hsk] at hS
        simp only [hsk] at g4
        refine hS.eq rfl ?_
        refine (rPlace_c s hs (k + n) (by omega)).eq rfl ?_
        have e : readV s = [.lsts 4 [], i64 (at_ s (k + n)).1, i64 (at_ s (k + n)).2, i64 370] := by rw [readV, if_neg hno, g4]
        exact end4 (.lsts 4 []) (i64 (at_ s (k + n)).1) (i64 (at_ s (k + n)).2) (i64 370) rfl (.inr (.inr ⟨4, rfl⟩)) rfl rfl rfl (congrArg PEnd.ret e.symm)
end Go.Proofs.YtemlkodkohgmmaaDoor

/- The reference of layer 37: Same. -/
namespace Go.Proofs.YtemlkodkohgmmaaDoor
open Go Y
set_option maxRecDepth 100000
set_option maxHeartbeats 4000000

theorem cells_inj {v w : Wd} (h : v.cells = w.cells) : v = w := by
  obtain ⟨a, b, c, d⟩ := v
  obtain ⟨a', b', c', d'⟩ := w
  simp only [Wd.cells, List.cons.injEq, PV.int.injEq, PV.str.injEq, true_and, and_true] at h
  obtain ⟨h1, h2, h3, h4⟩ := h
  subst h1 h2 h3 h4
  rfl

theorem same_c (a b : List Wd) (ha : a.length ≤ 100000) (hb : b.length ≤ 100000) : Pure cx 12 [.lsts 4 (a.map Wd.cells), .lsts 4 (b.map Wd.cells)] (· = .ret [.bool (decide (a = b))]) := by
  refine pure_of_vc Tryd.func12 rfl rfl rfl ?_
  refine And.intro (fun h1 => ?_) (fun h1 => ?_)
  · have h1 : (((a.map Wd.cells).length : Nat) : Int) = ((b.map Wd.cells).length : Nat) := h1
    rw [List.length_map, List.length_map] at h1
    have hl : a.length = b.length := by omega
    refine ⟨Nat, fun k => [(0, .p (.lsts 4 (a.map Wd.cells))), (1, .p (.lsts 4 (b.map Wd.cells))), (5, .p (i64 k))], fun _ => ⟨0, []⟩, fun k => k ≤ a.length ∧ a.take k = b.take k, fun k => a.length - k, ?_, ?_⟩
    · exact ⟨0, ⟨by omega, by simp⟩, ent0 rfl ⟨rfl, rfl, rfl, trivial⟩ trivial rfl⟩
    · rintro k ⟨hk, he⟩
      refine And.intro (fun h2 => ?_) (fun h2 => ?_)
      · have h2 : (k : Int) < ((a.map Wd.cells).length : Nat) := h2
        rw [List.length_map] at h2
        have hka : k < a.length := by omega
        have hkb : k < b.length := by omega
        refine VDraw.seq rfl ?_
        refine ⟨_, ⟨by omega, a[k].cells, by show (a.map Wd.cells)[k]? = _; rw [List.getElem?_map, List.getElem?_eq_getElem hka]; rfl, rfl⟩, ?_⟩
        refine ⟨_, ⟨by omega, b[k].cells, by show (b.map Wd.cells)[k]? = _; rw [List.getElem?_map, List.getElem?_eq_getElem hkb]; rfl, rfl⟩, ?_⟩
        refine ⟨⟨by kernel_rfl, by kernel_rfl⟩, ?_⟩
        refine And.intro (fun h3 => ?_) (fun h3 => ?_)
        · have h3 : a[k].cells = b[k].cells := h3
          refine ⟨(k : Int) + 1, wrap_i64 (by omega) (by omega), k + 1, ⟨hka, ?_⟩, ent0 rfl ⟨rfl, rfl, rfl, trivial⟩ trivial rfl, ?_⟩
          · rw [List.take_add_one, List.take_add_one, he, List.getElem?_eq_getElem hka, List.getElem?_eq_getElem hkb, cells_inj h3]
          · show a.length - (k + 1) < a.length - k
            omega
        · have h3 : ¬ a[k].cells = b[k].cells := h3
          refine end1 _ rfl rfl (retB ?_)
          rw [eq_comm, decide_eq_false_iff_not]
          intro e
          subst e
          exact h3 rfl
      · have h2 : ¬ (k : Int) < ((a.map Wd.cells).length : Nat) := h2
        rw [List.length_map] at h2
        refine end1 _ rfl rfl (retB ?_)
        rw [eq_comm, decide_eq_true_eq]
        rw [List.take_of_length_le (by omega), List.take_of_length_le (by omega)] at he
        exact he
  · have h1 : ¬ (((a.map Wd.cells).length : Nat) : Int) = ((b.map Wd.cells).length : Nat) := h1
    rw [List.length_map, List.length_map] at h1
    refine end1 _ rfl rfl (retB ?_)
    rw [eq_comm, decide_eq_false_iff_not]
    intro e
    subst e
    exact h1 rfl
end Go.Proofs.YtemlkodkohgmmaaDoor

/- strings.Builder. -/
namespace Go.Proofs.YtemlkodkohgmmaaDoor
open Go Y
set_option maxRecDepth 100000
set_option maxHeartbeats 4000000

abbrev TB : TypeId := 92
/-- The builder's own address, once it has been used. -/
def au : Bool → AV
  | true => .ptr 0 0 0
  | false => .p .nilp

theorem noEscape_c {v : AV} {H : Hp} {Q : AE → Hp → Prop} (hQ : Q (.returned v) H) : Holds cx 85 [v] H Q := by
  intro Γ w args' hR hA
  simp only [VRL] at hA
  obtain ⟨u, us, rfl, hu, rfl⟩ := hA
  refine .inr ⟨u, w, ?_, _, _, Γ, hQ, ⟨u, rfl, hu⟩, Later.refl hR _ (Nat.le_refl _)⟩
  show (callFunc 85 #[u]).run Tryd.prog w = _
  rw [run_callFunc_extern Tryd.func85 (by kernel_rfl) (by kernel_rfl) (by kernel_rfl) (e := Extern.AbiNoEscape.same) (by kernel_rfl)]
  rfl

theorem makeNoZero_c {n : Nat} {H : Hp} {Q : AE → Hp → Prop} (hn : n ≤ 281474976710656) (hQ : Q (.returned (.sl H.next 1 0 n)) (H.push ⟨5, false, .pu []⟩)) : Holds cx 86 [.p (i64 n)] H Q := by
  intro Γ w args' hR hA
  simp only [VRL, VR, VP] at hA
  obtain ⟨u, us, rfl, rfl, rfl⟩ := hA
  obtain ⟨cs, hrun, hle, _⟩ := Lib.run_makeNoZero (P := Tryd.prog) w #[3] 22 5 Tryd.underlying22 n hn
  have hd := (Later.drew hR H.next (Nat.le_refl _)).trans (Later.drew (Later.drew hR H.next (Nat.le_refl _)).1 H.next (Nat.le_refl _))
  have hR2 : R cx Γ H w.drew.drew := hd.1
  have hp := push_cells (t := 5) (s := 1) (tc := cs.size) (c := .pu []) (us := []) (rest := cs.toList) hR2 rfl (by rfl) Nat.one_pos rfl (by simp) (by simp) rfl
  refine .inr ⟨.slice (some ⟨w.heap.size, 0, none⟩) n cs.size, w.drew.drew.alloc (.cells cs 5), ?_, _, _, _, hQ, ⟨_, rfl, VR_slNext (Γ := Γ) ⟨w.heap.size, 1, cs.size, false⟩ H.next n rfl hle⟩, hd.trans hp⟩
  show (callFunc 86 #[.int .i64 n]).run Tryd.prog w = _
  rw [run_callFunc_extern Tryd.func86 (by kernel_rfl) (by kernel_rfl) (by kernel_rfl) (e := Extern.BytealgMakeNoZero.makeNoZero #[3] #[22]) (by kernel_rfl), hrun]
  rfl

theorem copyCheck_c (u : Bool) (v : AV) : HoldsG cx 74 [.ptr 0 0 0] ⟨2, [(0, ⟨TB, false, .bx [au u, v]⟩)]⟩ fun e H' => e = .returned und ∧ H' = ⟨2, [(0, ⟨TB, false, .bx [.ptr 0 0 0, v]⟩)]⟩ := by
  refine holds_of_vc Tryd.func74 rfl rfl rfl ?_
  cases u
  · refine noEscape_c ?_
    exact ⟨rfl, rfl⟩
  · exact ⟨rfl, rfl⟩

/-- A builder that holds some bytes. -/
def bldH (u : Bool) (xs : List UInt8) : Hp := ⟨2, [(1, ⟨5, false, .pu (xs.map ub)⟩), (0, ⟨TB, false, .bx [au u, .sl 1 1 0 xs.length]⟩)]⟩
def bldH' (xs : List UInt8) : Hp := ⟨3, [(2, ⟨5, false, .pu (xs.map ub)⟩), (0, ⟨TB, false, .bx [.ptr 0 0 0, .sl 2 1 0 xs.length]⟩)]⟩

theorem takeUb (xs : List UInt8) : xs.map ub = ((xs.map ub).drop 0).take xs.length := by rw [List.drop_zero, List.take_of_length_le (by simp)]

theorem writeByte_c (u : Bool) (xs : List UInt8) (b : UInt8) (hx : xs.length ≤ 1000000) :
    HoldsG cx 63 [.ptr 0 0 0, .p (u8 b)] (bldH u xs) fun e H' => e = .returned (.p .nilIface) ∧ H' = bldH' (xs ++ [b]) := by
  refine holdsN_of_vc Tryd.func63 rfl rfl rfl ?_
  refine (copyCheck_c u (.sl 1 1 0 xs.length)).useE [] [] rfl ?_ ?_ ?_
  · cases u <;> (repeat' first | exact trivial | exact rfl | exact ⟨rfl, rfl⟩ | exact .inl rfl | refine ⟨_, rfl, rfl, rfl, ?_⟩ | refine ⟨_, _, rfl, ?_, ?_⟩ | refine ⟨_, rfl, ?_⟩ | refine And.intro ?_ ?_)
  · (repeat' first | exact trivial | exact rfl | exact ⟨rfl, rfl⟩ | exact .inl rfl | refine ⟨_, rfl, rfl, rfl, ?_⟩ | refine ⟨_, _, rfl, ?_, ?_⟩ | refine ⟨_, rfl, ?_⟩ | refine And.intro ?_ ?_)
  · refine ⟨by show 0 + 1 ≤ _; simp, [ub b], rfl, ?_⟩
    refine ⟨by show 0 + xs.length ≤ (xs.map ub).length; simp, xs.map ub, takeUb xs, by show (xs.length + 1) * 1 ≤ _; omega, (xs ++ [b]).map ub, by simp, ?_⟩
    exact ⟨[], [(2, 3)], [], .returned (.p .nilIface), ⟨3, [(2, ⟨5, false, .pu ((xs ++ [b]).map ub)⟩), (0, ⟨TB, false, .bx [.ptr 0 0 0, .sl 2 1 0 (xs.length + 1)]⟩)]⟩, rfl, ⟨_, rfl, rfl⟩, ⟨⟨_, rfl, rfl, rfl, rfl⟩, ⟨_, rfl, rfl, rfl, _, rfl, _, _, rfl, ⟨rfl, rfl⟩, _, _, rfl, rfl, rfl⟩, trivial⟩, rfl, by simp [bldH']⟩

theorem writeString_c (u : Bool) (xs s : List UInt8) (hx : xs.length ≤ 1000000) (hs : s.length ≤ 1000000) :
    HoldsG cx 48 [.ptr 0 0 0, vS s] (bldH u xs) fun e H' => e = .returned (.tup [.p (i64 s.length), .p .nilIface]) ∧ H' = bldH' (xs ++ s) := by
  refine holdsN_of_vc Tryd.func48 rfl rfl rfl ?_
  refine (copyCheck_c u (.sl 1 1 0 xs.length)).useE [] [] rfl ?_ ?_ ?_
  · cases u <;> (repeat' first | exact trivial | exact rfl | exact ⟨rfl, rfl⟩ | exact .inl rfl | refine ⟨_, rfl, rfl, rfl, ?_⟩ | refine ⟨_, _, rfl, ?_, ?_⟩ | refine ⟨_, rfl, ?_⟩ | refine And.intro ?_ ?_)
  · (repeat' first | exact trivial | exact rfl | exact ⟨rfl, rfl⟩ | exact .inl rfl | refine ⟨_, rfl, rfl, rfl, ?_⟩ | refine ⟨_, _, rfl, ?_, ?_⟩ | refine ⟨_, rfl, ?_⟩ | refine And.intro ?_ ?_)
  · refine ⟨by show 0 + xs.length ≤ (xs.map ub).length; simp, xs.map ub, takeUb xs, by show (xs.length + s.length) * 1 ≤ _; omega, (xs ++ s).map ub, by simp, ?_⟩
    exact ⟨[], [(2, 2)], [], .returned (.tup [.p (i64 s.length), .p .nilIface]), ⟨3, [(2, ⟨5, false, .pu ((xs ++ s).map ub)⟩), (0, ⟨TB, false, .bx [.ptr 0 0 0, .sl 2 1 0 (xs.length + s.length)]⟩)]⟩, rfl, ⟨_, rfl, _, rfl, by (repeat' first | exact trivial | exact rfl | exact ⟨rfl, rfl⟩ | exact .inl rfl | refine ⟨_, rfl, rfl, rfl, ?_⟩ | refine ⟨_, _, rfl, ?_, ?_⟩ | refine ⟨_, rfl, ?_⟩ | refine And.intro ?_ ?_)⟩, ⟨⟨_, rfl, rfl, rfl, rfl⟩, ⟨_, rfl, rfl, rfl, _, rfl, _, _, rfl, ⟨rfl, rfl⟩, _, _, rfl, rfl, rfl⟩, trivial⟩, rfl, by simp [bldH']⟩

/-- The same at a builder in which nothing has been written. -/
theorem grow_c (n : Nat) (hn : n ≤ 1000000) : HoldsG cx 75 [.ptr 0 0 0, .p (i64 n)] ⟨1, [(0, ⟨TB, false, .bx [.ptr 0 0 0, .p .nils]⟩)]⟩ fun e H' => e = .returned und ∧ H' = ⟨2, [(1, ⟨5, false, .pu []⟩), (0, ⟨TB, false, .bx [.ptr 0 0 0, .sl 1 1 0 0]⟩)]⟩ := by
  refine holdsN_of_vc Tryd.func75 rfl rfl rfl ?_
  refine VDraw.seq rfl ?_
  refine ⟨0, wrap_i64 (by omega) (by omega), ?_⟩
  refine ⟨(n : Int), by rw [Int.zero_add]; exact wrap_i64 (by omega) (by omega), ?_⟩
  refine makeNoZero_c (by omega) ?_
  refine ⟨by (repeat' first | exact trivial | exact rfl | exact ⟨rfl, rfl⟩ | exact .inl rfl | refine ⟨_, rfl, rfl, rfl, ?_⟩ | refine ⟨_, _, rfl, ?_, ?_⟩ | refine ⟨_, rfl, ?_⟩ | refine And.intro ?_ ?_), ?_⟩
  refine ⟨by show (0 : Int) ≤ 0 ∧ (0 : Int) ≤ (n : Nat); omega, ?_⟩
  refine ⟨⟨Nat.le_refl _, Nat.le_refl _⟩, [], rfl, ?_⟩
  exact ⟨[], [(1, 1)], [], .returned und, ⟨2, [(1, ⟨5, false, .pu []⟩), (0, ⟨TB, false, .bx [.ptr 0 0 0, .sl 1 1 0 0]⟩)]⟩, rfl, by (repeat' first | exact trivial | exact rfl | exact ⟨rfl, rfl⟩ | exact .inl rfl | refine ⟨_, rfl, rfl, rfl, ?_⟩ | refine ⟨_, _, rfl, ?_, ?_⟩ | refine ⟨_, rfl, ?_⟩ | refine And.intro ?_ ?_), ⟨⟨_, rfl, rfl, rfl, rfl⟩, ⟨_, rfl, rfl, rfl, _, rfl, _, _, rfl, ⟨rfl, rfl⟩, _, _, rfl, rfl, rfl⟩, trivial⟩, rfl, rfl⟩

theorem growN_c (u : Bool) (n : Nat) (h0 : 0 < n) (hn : n ≤ 1000000) : HoldsG cx 47 [.ptr 0 0 0, .p (i64 n)] ⟨1, [(0, ⟨TB, false, .bx [au u, .p .nils]⟩)]⟩ fun e H' => e = .returned und ∧ H' = ⟨2, [(1, ⟨5, false, .pu []⟩), (0, ⟨TB, false, .bx [.ptr 0 0 0, .sl 1 1 0 0]⟩)]⟩ := by
  refine holdsN_of_vc Tryd.func47 rfl rfl rfl ?_
  refine (copyCheck_c u (.p .nils)).useE [] [(1, 0)] rfl ?_ ?_ ?_
  · cases u <;> (repeat' first | exact trivial | exact rfl | exact ⟨rfl, rfl⟩ | exact .inl rfl | refine ⟨_, rfl, rfl, rfl, ?_⟩ | refine ⟨_, _, rfl, ?_, ?_⟩ | refine ⟨_, rfl, ?_⟩ | refine And.intro ?_ ?_)
  · (repeat' first | exact trivial | exact rfl | exact ⟨rfl, rfl⟩ | exact .inl rfl | refine ⟨_, rfl, rfl, rfl, ?_⟩ | refine ⟨_, _, rfl, ?_, ?_⟩ | refine ⟨_, rfl, ?_⟩ | refine And.intro ?_ ?_)
  · refine And.intro (fun h1 => ?_) (fun h1 => ?_)
    · have h1 : (n : Int) < 0 := h1
      omega
    · refine VDraw.seq rfl ?_
      refine ⟨0, wrap_i64 (by omega) (by omega), ?_⟩
      refine And.intro (fun h2 => ?_) (fun h2 => ?_)
      · refine (grow_c n hn).useE [] [] rfl ?_ ?_ ?_
        · (repeat' first | exact trivial | exact rfl | exact ⟨rfl, rfl⟩ | exact .inl rfl | refine ⟨_, rfl, rfl, rfl, ?_⟩ | refine ⟨_, _, rfl, ?_, ?_⟩ | refine ⟨_, rfl, ?_⟩ | refine And.intro ?_ ?_)
        · (repeat' first | exact trivial | exact rfl | exact ⟨rfl, rfl⟩ | exact .inl rfl | refine ⟨_, rfl, rfl, rfl, ?_⟩ | refine ⟨_, _, rfl, ?_, ?_⟩ | refine ⟨_, rfl, ?_⟩ | refine And.intro ?_ ?_)
        · exact ⟨[], [(1, 1)], [], .returned und, ⟨2, [(1, ⟨5, false, .pu []⟩), (0, ⟨TB, false, .bx [.ptr 0 0 0, .sl 1 1 0 0]⟩)]⟩, rfl, by (repeat' first | exact trivial | exact rfl | exact ⟨rfl, rfl⟩ | exact .inl rfl | refine ⟨_, rfl, rfl, rfl, ?_⟩ | refine ⟨_, _, rfl, ?_, ?_⟩ | refine ⟨_, rfl, ?_⟩ | refine And.intro ?_ ?_), ⟨⟨_, rfl, rfl, rfl, rfl⟩, ⟨_, rfl, rfl, rfl, _, rfl, _, _, rfl, ⟨rfl, rfl⟩, _, _, rfl, rfl, rfl⟩, trivial⟩, rfl, rfl⟩
      · have h2 : ¬ (0 : Int) < (n : Nat) := h2
        omega
theorem growZ_c (u : Bool) : HoldsG cx 47 [.ptr 0 0 0, .p (i64 0)] ⟨1, [(0, ⟨TB, false, .bx [au u, .p .nils]⟩)]⟩ fun e H' => e = .returned und ∧ H' = ⟨1, [(0, ⟨TB, false, .bx [.ptr 0 0 0, .p .nils]⟩)]⟩ := by
  refine holdsN_of_vc Tryd.func47 rfl rfl rfl ?_
  refine (copyCheck_c u (.p .nils)).useE [] [(1, 0)] rfl ?_ ?_ ?_
  · cases u <;> (repeat' first | exact trivial | exact rfl | exact ⟨rfl, rfl⟩ | exact .inl rfl | refine ⟨_, rfl, rfl, rfl, ?_⟩ | refine ⟨_, _, rfl, ?_, ?_⟩ | refine ⟨_, rfl, ?_⟩ | refine And.intro ?_ ?_)
  · (repeat' first | exact trivial | exact rfl | exact ⟨rfl, rfl⟩ | exact .inl rfl | refine ⟨_, rfl, rfl, rfl, ?_⟩ | refine ⟨_, _, rfl, ?_, ?_⟩ | refine ⟨_, rfl, ?_⟩ | refine And.intro ?_ ?_)
  · refine And.intro (fun h1 => ?_) (fun h1 => ?_)
    · have h1 : (0 : Int) < 0 := h1
      omega
    · refine VDraw.seq rfl ?_
      refine ⟨0, wrap_i64 (by omega) (by omega), ?_⟩
      refine And.intro (fun h2 => ?_) (fun h2 => ?_)
      · have h2 : (0 : Int) < 0 := h2
        omega
      · exact ⟨[], [], [], .returned und, ⟨1, [(0, ⟨TB, false, .bx [.ptr 0 0 0, .p .nils]⟩)]⟩, rfl, by (repeat' first | exact trivial | exact rfl | exact ⟨rfl, rfl⟩ | exact .inl rfl | refine ⟨_, rfl, rfl, rfl, ?_⟩ | refine ⟨_, _, rfl, ?_, ?_⟩ | refine ⟨_, rfl, ?_⟩ | refine And.intro ?_ ?_), ⟨⟨_, rfl, rfl, rfl, _, rfl, _, _, rfl, ⟨rfl, rfl⟩, _, _, rfl, (.inl rfl), rfl⟩, trivial⟩, rfl, rfl⟩

theorem string_c (u : Bool) (xs : List UInt8) (h0 : xs ≠ []) (hx : xs.length ≤ 1000000) : HoldsG cx 50 [.ptr 0 0 0] (bldH u xs) fun e H' => e = .returned (vS xs) ∧ H' = ⟨2, [(0, ⟨TB, false, .bx [au u, .sl 1 1 0 xs.length]⟩)]⟩ := by
  refine holdsN_of_vc Tryd.func50 rfl rfl rfl ?_
  refine VDraw.seq rfl ?_
  refine And.intro (fun h1 => ?_) (fun h1 => ?_)
  · refine ⟨by (repeat' first | exact trivial | exact rfl | exact ⟨rfl, rfl⟩ | exact .inl rfl | refine ⟨_, rfl, rfl, rfl, ?_⟩ | refine ⟨_, _, rfl, ?_, ?_⟩ | refine ⟨_, rfl, ?_⟩ | refine And.intro ?_ ?_), ?_⟩
    refine ⟨xs, h0, rfl, by omega, by simp, by rw [List.take_of_length_le (by simp)], ?_⟩
    exact ⟨[], [], [], .returned (vS xs), ⟨2, [(0, ⟨TB, false, .bx [au u, .sl 1 1 0 xs.length]⟩)]⟩, rfl, ⟨_, rfl, rfl⟩, by cases u <;> (repeat' first | exact trivial | exact rfl | exact ⟨rfl, rfl⟩ | exact .inl rfl | refine ⟨_, rfl, rfl, rfl, ?_⟩ | refine ⟨_, _, rfl, ?_, ?_⟩ | refine ⟨_, rfl, ?_⟩ | refine And.intro ?_ ?_), rfl, rfl⟩
  · exact absurd (List.eq_nil_of_length_eq_zero h1) h0
theorem stringE_c (u : Bool) : HoldsG cx 50 [.ptr 0 0 0] (bldH u []) fun e H' => e = .returned (vS []) ∧ H' = bldH u [] := by
  refine holdsN_of_vc Tryd.func50 rfl rfl rfl ?_
  refine VDraw.seq rfl ?_
  refine And.intro (fun h1 => ?_) (fun h1 => ?_)
  · cases h1
  · refine ⟨by (repeat' first | exact trivial | exact rfl | exact ⟨rfl, rfl⟩ | exact .inl rfl | refine ⟨_, rfl, rfl, rfl, ?_⟩ | refine ⟨_, _, rfl, ?_, ?_⟩ | refine ⟨_, rfl, ?_⟩ | refine And.intro ?_ ?_), ?_⟩
    refine ⟨rfl, ?_⟩
    exact ⟨[], [], [], .returned (vS []), bldH u [], rfl, ⟨_, rfl, rfl⟩, by cases u <;> (repeat' first | exact trivial | exact rfl | exact ⟨rfl, rfl⟩ | exact .inl rfl | refine ⟨_, rfl, rfl, rfl, ?_⟩ | refine ⟨_, _, rfl, ?_, ?_⟩ | refine ⟨_, rfl, ?_⟩ | refine And.intro ?_ ?_), rfl, rfl⟩
theorem stringN_c (u : Bool) : HoldsG cx 50 [.ptr 0 0 0] ⟨1, [(0, ⟨TB, false, .bx [au u, .p .nils]⟩)]⟩ fun e H' => e = .returned (vS []) ∧ H' = ⟨1, [(0, ⟨TB, false, .bx [au u, .p .nils]⟩)]⟩ := by
  refine holdsN_of_vc Tryd.func50 rfl rfl rfl ?_
  refine VDraw.seq rfl ?_
  refine ⟨by (repeat' first | exact trivial | exact rfl | exact ⟨rfl, rfl⟩ | exact .inl rfl | refine ⟨_, rfl, rfl, rfl, ?_⟩ | refine ⟨_, _, rfl, ?_, ?_⟩ | refine ⟨_, rfl, ?_⟩ | refine And.intro ?_ ?_), ?_⟩
  refine ⟨rfl, ?_⟩
  exact ⟨[], [], [], .returned (vS []), ⟨1, [(0, ⟨TB, false, .bx [au u, .p .nils]⟩)]⟩, rfl, ⟨_, rfl, rfl⟩, by cases u <;> (repeat' first | exact trivial | exact rfl | exact ⟨rfl, rfl⟩ | exact .inl rfl | refine ⟨_, rfl, rfl, rfl, ?_⟩ | refine ⟨_, _, rfl, ?_, ?_⟩ | refine ⟨_, rfl, ?_⟩ | refine And.intro ?_ ?_), rfl, rfl⟩
end Go.Proofs.YtemlkodkohgmmaaDoor

/- Which words are valid; the keywords and the marks. -/
namespace Go.Proofs.YtemlkodkohgmmaaDoor
open Go Y
set_option maxRecDepth 100000
set_option maxHeartbeats 4000000

def checkN (w : Wd) : Bool := decide (1 ≤ w.line) && (decide (w.line ≤ 8000) && (decide (1 ≤ w.col) && (decide (w.col ≤ 8000) && rightN w.kind w.text)))
def checkV (w : Wd) : Int := if checkN w then 0 else 370

theorem check_c (w : Wd) (ht : w.text.length ≤ 100000) : Pure cx 20 [.agg w.cells] (· = .ret [i64 (checkV w)]) := by
  refine pure_of_vc Tryd.func20 rfl rfl rfl ?_
  have bad : checkN w = false → PEnd.ret [i64 370] = .ret [i64 (checkV w)] := fun h => by rw [checkV, h]; rfl
  refine And.intro (fun h1 => ?_) (fun h1 => ?_)
  · have h1 : w.line < 1 := h1
    exact end1 _ rfl rfl (bad (by simp [checkN]; omega))
  · have h1 : ¬ w.line < 1 := h1
    refine And.intro (fun h2 => ?_) (fun h2 => ?_)
    · have h2 : 8000 < w.line := h2
      exact end1 _ rfl rfl (bad (by simp [checkN]; omega))
    · have h2 : ¬ 8000 < w.line := h2
      refine And.intro (fun h3 => ?_) (fun h3 => ?_)
      · have h3 : w.col < 1 := h3
        exact end1 _ rfl rfl (bad (by simp [checkN]; omega))
      · have h3 : ¬ w.col < 1 := h3
        refine And.intro (fun h4 => ?_) (fun h4 => ?_)
        · have h4 : 8000 < w.col := h4
          exact end1 _ rfl rfl (bad (by simp [checkN]; omega))
        · have h4 : ¬ 8000 < w.col := h4
          have hP := proper_c w.kind w.text ht
          by_cases hr : rightN w.kind w.text = true
          · rw [hr] at hP
            refine hP.eq rfl ?_
            refine end1 _ rfl rfl ?_
            rw [checkV, if_pos (by simp [checkN, hr]; omega)]
          · rw [Bool.not_eq_true] at hr
            rw [hr] at hP
            refine hP.eq rfl ?_
            exact end1 _ rfl rfl (bad (by simp [checkN, hr]))

theorem rRightW_c (w : Wd) (ht : w.text.length ≤ 100000) : Pure cx 43 [.agg w.cells] (· = .ret [.bool (checkN w)]) := by
  refine pure_of_vc Tryd.func43 rfl rfl rfl ?_
  have bad : checkN w = false → PEnd.ret [.bool false] = .ret [.bool (checkN w)] := fun h => by rw [h]
  refine And.intro (fun h1 => ?_) (fun h1 => ?_)
  · have h1 : 1 ≤ w.line := h1
    refine And.intro (fun h2 => ?_) (fun h2 => ?_)
    · have h2 : w.line ≤ 8000 := h2
      refine And.intro (fun h3 => ?_) (fun h3 => ?_)
      · have h3 : 1 ≤ w.col := h3
        refine And.intro (fun h4 => ?_) (fun h4 => ?_)
        · have h4 : w.col ≤ 8000 := h4
          refine (rRight_c w.kind w.text ht).eq rfl ?_
          refine end1 _ rfl rfl (retB ?_)
          simp [checkN, h1, h2, h3, h4]
        · have h4 : ¬ w.col ≤ 8000 := h4
          exact end1 _ rfl rfl (bad (by simp [checkN]; omega))
      · have h3 : ¬ 1 ≤ w.col := h3
        exact end1 _ rfl rfl (bad (by simp [checkN]; omega))
    · have h2 : ¬ w.line ≤ 8000 := h2
      exact end1 _ rfl rfl (bad (by simp [checkN]; omega))
  · have h1 : ¬ 1 ≤ w.line := h1
    exact end1 _ rfl rfl (bad (by simp [checkN]; omega))

theorem rCheck_c (w : Wd) (ht : w.text.length ≤ 100000) : Pure cx 21 [.agg w.cells] (· = .ret [i64 (checkV w)]) := by
  refine pure_of_vc Tryd.func21 rfl rfl rfl ?_
  have hP := rRightW_c w ht
  by_cases hr : checkN w = true
  · rw [hr] at hP
    refine hP.eq rfl ?_
    exact end1 _ rfl rfl (by rw [checkV, if_pos hr])
  · rw [Bool.not_eq_true] at hr
    rw [hr] at hP
    refine hP.eq rfl ?_
    exact end1 _ rfl rfl (by rw [checkV, hr]; rfl)

theorem keys_c : Pure cx 23 [] (· = .ret [.lst (keysL.map .str)]) := by
  refine pure_of_vc Tryd.func23 rfl rfl rfl ?_
  refine ⟨by decide, ?_⟩
  refine ⟨Nat, fun k => [(1, .sl 0 1 0 k), (5, .p (.agg (keysL.map .str))), (6, .p (i64 k))], fun k => ⟨1, [(0, ⟨9, false, .pu ((keysL.take k).map .str)⟩)]⟩, fun k => k ≤ 14, fun k => 14 - k, ?_, ?_⟩
  · exact ⟨0, by decide, ent0 rfl ⟨rfl, rfl, rfl, trivial⟩ ⟨⟨_, rfl, rfl, rfl, rfl⟩, trivial⟩ rfl⟩
  · intro k hk
    refine And.intro (fun h1 => ?_) (fun h1 => ?_)
    · have hk' : k < 14 := by have h1 : (k : Int) < 14 := h1; omega
      have hkl : k < keysL.length := hk'
      have hlen : ((keysL.take k).map PV.str).length = k := by simp; omega
      refine ⟨_, ⟨by omega, .str keysL[k], by show nth (keysL.map PV.str) (k * 1) = _; rw [nth_get, Nat.mul_one, List.getElem?_map, List.getElem?_eq_getElem hkl]; rfl, rfl⟩, ?_⟩
      refine ⟨by show 0 + 1 ≤ 1; omega, [.str keysL[k]], rfl, ?_⟩
      refine ⟨by show 0 + k ≤ ((keysL.take k).map PV.str).length; omega, (keysL.take k).map .str, takeAll hlen, ?_⟩
      refine ⟨by show (k + 1) * 16 ≤ 140737488355328; omega, (keysL.take (k + 1)).map .str, by rw [List.take_add_one, List.getElem?_eq_getElem hkl, List.map_append]; rfl, ?_⟩
      refine ⟨(k : Int) + 1, wrap_i64 (by omega) (by omega), k + 1, by omega, ent_of [] [(0, 2)] [] rfl ⟨rfl, rfl, rfl, trivial⟩ ⟨⟨_, rfl, rfl, rfl, rfl⟩, trivial⟩ rfl, ?_⟩
      show 14 - (k + 1) < 14 - k
      omega
    · have hk' : k = 14 := by have h1 : ¬ (k : Int) < 14 := h1; omega
      subst hk'
      exact end1 (.lst (keysL.map .str)) rfl ⟨_, rfl, by decide, by rfl⟩ rfl
theorem marks_c : Pure cx 25 [] (· = .ret [.lst (marksL.map .str)]) := by
  refine pure_of_vc Tryd.func25 rfl rfl rfl ?_
  refine ⟨by decide, ?_⟩
  refine ⟨Nat, fun k => [(1, .sl 0 1 0 k), (5, .p (.agg (marksL.map .str))), (6, .p (i64 k))], fun k => ⟨1, [(0, ⟨9, false, .pu ((marksL.take k).map .str)⟩)]⟩, fun k => k ≤ 16, fun k => 16 - k, ?_, ?_⟩
  · exact ⟨0, by decide, ent0 rfl ⟨rfl, rfl, rfl, trivial⟩ ⟨⟨_, rfl, rfl, rfl, rfl⟩, trivial⟩ rfl⟩
  · intro k hk
    refine And.intro (fun h1 => ?_) (fun h1 => ?_)
    · have hk' : k < 16 := by have h1 : (k : Int) < 16 := h1; omega
      have hkl : k < marksL.length := hk'
      have hlen : ((marksL.take k).map PV.str).length = k := by simp; omega
      refine ⟨_, ⟨by omega, .str marksL[k], by show nth (marksL.map PV.str) (k * 1) = _; rw [nth_get, Nat.mul_one, List.getElem?_map, List.getElem?_eq_getElem hkl]; rfl, rfl⟩, ?_⟩
      refine ⟨by show 0 + 1 ≤ 1; omega, [.str marksL[k]], rfl, ?_⟩
      refine ⟨by show 0 + k ≤ ((marksL.take k).map PV.str).length; omega, (marksL.take k).map .str, takeAll hlen, ?_⟩
      refine ⟨by show (k + 1) * 16 ≤ 140737488355328; omega, (marksL.take (k + 1)).map .str, by rw [List.take_add_one, List.getElem?_eq_getElem hkl, List.map_append]; rfl, ?_⟩
      refine ⟨(k : Int) + 1, wrap_i64 (by omega) (by omega), k + 1, by omega, ent_of [] [(0, 2)] [] rfl ⟨rfl, rfl, rfl, trivial⟩ ⟨⟨_, rfl, rfl, rfl, rfl⟩, trivial⟩ rfl, ?_⟩
      show 16 - (k + 1) < 16 - k
      omega
    · have hk' : k = 16 := by have h1 : ¬ (k : Int) < 16 := h1; omega
      subst hk'
      exact end1 (.lst (marksL.map .str)) rfl ⟨_, rfl, by decide, by rfl⟩ rfl

theorem equal_c (a b : List Wd) (ha : a.length ≤ 100000) (hb : b.length ≤ 100000) : Pure cx 42 [.lsts 4 (a.map Wd.cells), .lsts 4 (b.map Wd.cells)] (· = .ret [.bool (decide (a = b))]) := by
  refine pure_of_vc Tryd.func42 rfl rfl rfl ?_
  refine And.intro (fun h1 => ?_) (fun h1 => ?_)
  · have h1 : (((a.map Wd.cells).length : Nat) : Int) = ((b.map Wd.cells).length : Nat) := h1
    rw [List.length_map, List.length_map] at h1
    have hl : a.length = b.length := by omega
    refine ⟨Nat, fun k => [(0, .p (.lsts 4 (a.map Wd.cells))), (1, .p (.lsts 4 (b.map Wd.cells))), (12, .p (i64 (a.map Wd.cells).length)), (13, .p (i64 k))], fun _ => ⟨0, []⟩, fun k => k ≤ a.length ∧ a.take k = b.take k, fun k => a.length - k, ?_, ?_⟩
    · exact ⟨0, ⟨by omega, by simp⟩, ent0 rfl ⟨rfl, rfl, rfl, rfl, trivial⟩ trivial rfl⟩
    · rintro k ⟨hk, he⟩
      refine And.intro (fun h2 => ?_) (fun h2 => ?_)
      · have h2 : (k : Int) < ((a.map Wd.cells).length : Nat) := h2
        rw [List.length_map] at h2
        have hka : k < a.length := by omega
        have hkb : k < b.length := by omega
        refine VDraw.seq rfl ?_
        refine ⟨_, ⟨by omega, a[k].cells, by show (a.map Wd.cells)[k]? = _; rw [List.getElem?_map, List.getElem?_eq_getElem hka]; rfl, rfl⟩, ?_⟩
        refine ⟨_, ⟨by omega, b[k].cells, by show (b.map Wd.cells)[k]? = _; rw [List.getElem?_map, List.getElem?_eq_getElem hkb]; rfl, rfl⟩, ?_⟩
        refine ⟨⟨by kernel_rfl, by kernel_rfl⟩, ?_⟩
        refine And.intro (fun h3 => ?_) (fun h3 => ?_)
        · have h3 : a[k].cells = b[k].cells := h3
          refine ⟨(k : Int) + 1, wrap_i64 (by omega) (by omega), k + 1, ⟨hka, ?_⟩, ent0 rfl ⟨rfl, rfl, rfl, rfl, trivial⟩ trivial rfl, ?_⟩
          · rw [List.take_add_one, List.take_add_one, he, List.getElem?_eq_getElem hka, List.getElem?_eq_getElem hkb, cells_inj h3]
          · show a.length - (k + 1) < a.length - k
            omega
        · have h3 : ¬ a[k].cells = b[k].cells := h3
          refine end1 _ rfl rfl (retB ?_)
          rw [eq_comm, decide_eq_false_iff_not]
          intro e
          subst e
          exact h3 rfl
      · have h2 : ¬ (k : Int) < ((a.map Wd.cells).length : Nat) := h2
        rw [List.length_map] at h2
        refine end1 _ rfl rfl (retB ?_)
        rw [eq_comm, decide_eq_true_eq]
        rw [List.take_of_length_le (by omega), List.take_of_length_le (by omega)] at he
        exact he
  · have h1 : ¬ (((a.map Wd.cells).length : Nat) : Int) = ((b.map Wd.cells).length : Nat) := h1
    rw [List.length_map, List.length_map] at h1
    refine end1 _ rfl rfl (retB ?_)
    rw [eq_comm, decide_eq_false_iff_not]
    intro e
    subst e
    exact h1 rfl
end Go.Proofs.YtemlkodkohgmmaaDoor

/- Where words stand: the text in which they stand at their places; measure. -/
namespace Go.Proofs.YtemlkodkohgmmaaDoor
open Go Y
set_option maxRecDepth 100000
set_option maxHeartbeats 4000000

theorem inL_mem {l : List (List UInt8)} {s : List UInt8} (h : inL l s = true) : s ∈ l := by
  induction l with
  | nil => simp [inL] at h
  | cons x r ih =>
    simp only [inL, Bool.or_eq_true, decide_eq_true_eq] at h
    rcases h with rfl | h
    · simp
    · exact List.mem_cons_of_mem _ (ih h)

theorem right_len {k : Int} {t : List UInt8} (h : rightN k t = true) : 1 ≤ t.length ∧ t.length ≤ 10 := by
  have ne : ∀ {t : List UInt8}, t ≠ [] → 1 ≤ t.length := by intro t ht; cases t <;> simp at ht ⊢
  unfold rightN at h
  split at h
  · simp [nameN] at h; exact ⟨ne h.1.1.1.1, h.1.1.1.2⟩
  · split at h
    · exact (by decide : ∀ t ∈ keysL, 1 ≤ t.length ∧ t.length ≤ 10) t (inL_mem h)
    · split at h
      · simp [numN] at h
        exact ⟨ne h.1.1.1, by omega⟩
      · split at h
        · exact (by decide : ∀ t ∈ marksL, 1 ≤ t.length ∧ t.length ≤ 10) t (inL_mem h)
        · cases h

theorem check_facts {w : Wd} (h : checkN w = true) : 1 ≤ w.line ∧ w.line ≤ 8000 ∧ 1 ≤ w.col ∧ w.col ≤ 8000 ∧ 1 ≤ w.text.length ∧ w.text.length ≤ 10 := by
  simp only [checkN, Bool.and_eq_true, decide_eq_true_eq] at h
  obtain ⟨h1, h2, h3, h4, h5⟩ := h
  exact ⟨h1, h2, h3, h4, right_len h5⟩

/-- What stands between a place and a word behind it. -/
def gapN (l c : Nat) (w : Wd) : List UInt8 := List.replicate (w.line.toNat - l) 10 ++ List.replicate (w.col.toNat - (if l < w.line.toNat then 1 else c)) 32
theorem gap_line {l c : Nat} {w : Wd} (h : l < w.line.toNat) : gapN l c w = 10 :: gapN (l + 1) 1 w := by
  simp only [gapN, if_pos h]
  rw [show w.line.toNat - l = (w.line.toNat - (l + 1)) + 1 by omega, List.replicate_succ]
  simp
theorem gap_col {l c : Nat} {w : Wd} (h : ¬ l < w.line.toNat) (hc : c < w.col.toNat) : gapN l c w = 32 :: gapN l (c + 1) w := by
  simp only [gapN, if_neg h]
  rw [show w.line.toNat - l = 0 by omega, show w.col.toNat - c = (w.col.toNat - (c + 1)) + 1 by omega, List.replicate_succ]
  simp
theorem gap_end {l c : Nat} {w : Wd} (h : ¬ l < w.line.toNat) (hc : ¬ c < w.col.toNat) : gapN l c w = [] := by
  simp only [gapN, if_neg h]
  rw [show w.line.toNat - l = 0 by omega, show w.col.toNat - c = 0 by omega]
  simp
theorem gap_len (l c : Nat) (w : Wd) : (gapN l c w).length = (w.line.toNat - l) + (w.col.toNat - (if l < w.line.toNat then 1 else c)) := by simp [gapN]

def putN : Nat → Nat → List Wd → Option (List UInt8)
  | _, _, [] => some []
  | l, c, w :: r => if w.line.toNat < l ∨ w.line.toNat = l ∧ w.col.toNat < c then none
    else (putN w.line.toNat (w.col.toNat + w.text.length) r).map (gapN l c w ++ w.text ++ ·)

def measV (l : List Wd) : List PV := match putN 1 1 l with
  | none => [i64 0, .bool false]
  | some t => [i64 t.length, .bool true]

theorem drop_cons {α : Type} {l : List α} {k : Nat} (h : k < l.length) : l.drop k = l[k] :: l.drop (k + 1) := List.drop_eq_getElem_cons h

theorem wcell {l : List Wd} {k : Nat} (h : k < l.length) : (l.map Wd.cells)[k]? = some l[k].cells := by
  rw [List.getElem?_map, List.getElem?_eq_getElem h]; rfl

theorem measure_c (l : List Wd) (hl : l.length ≤ 1500) (hc : ∀ w ∈ l, checkN w = true) : Pure cx 40 [.lsts 4 (l.map Wd.cells)] (· = .ret (measV l)) := by
  refine pure_of_vc Tryd.func40 rfl rfl rfl ?_
  refine ⟨Nat × Nat × Nat × List UInt8, fun x => [(5, .p (i64 x.2.2.2.length)), (4, .ptr 0 0 0), (9, .p (.lsts 4 (l.map Wd.cells))), (10, .p (i64 (l.map Wd.cells).length)), (11, .p (i64 x.1))],
    fun x => ⟨1, [(0, ⟨60, false, .bx [.p (i64 x.2.1), .p (i64 x.2.2.1)]⟩)]⟩,
    fun x => x.1 ≤ l.length ∧ 1 ≤ x.2.1 ∧ x.2.1 ≤ 8000 ∧ 1 ≤ x.2.2.1 ∧ x.2.2.1 ≤ 8010 ∧ x.2.2.2.length ≤ x.1 * 16010 ∧ putN 1 1 l = (putN x.2.1 x.2.2.1 (l.drop x.1)).map (x.2.2.2 ++ ·), fun x => l.length - x.1, ?_, ?_⟩
  · exact ⟨(0, 1, 1, []), ⟨by simp, by simp, by simp, by simp, by simp, by simp, by simp⟩, ent0 rfl ⟨rfl, ⟨rfl, rfl⟩, rfl, rfl, rfl, trivial⟩ ⟨⟨_, rfl, rfl, rfl, _, rfl, _, _, rfl, rfl, _, _, rfl, rfl, rfl⟩, trivial⟩ rfl⟩
  · rintro ⟨k, a, b, pre⟩ ⟨g1, g2, g3, g4, g5, g6, g7⟩
    simp only [] at g1 g2 g3 g4 g5 g6 g7
    refine And.intro (fun h2 => ?_) (fun h2 => ?_)
    · have h2 : (k : Int) < ((l.map Wd.cells).length : Nat) := h2
      rw [List.length_map] at h2
      have hk : k < l.length := by omega
      refine ⟨_, ⟨by omega, l[k].cells, wcell hk, rfl⟩, ?_⟩
      rw [drop_cons hk] at g7
      obtain ⟨f1, f2, f3, f4, f5, f6⟩ := check_facts (hc l[k] (List.getElem_mem hk))
      generalize l[k] = w at g7 f1 f2 f3 f4 f5 f6 ⊢
      have hgl := gap_len a b w
      refine And.intro (fun h3 => ?_) (fun h3 => ?_)
      · have h3 : (a : Int) < w.line := h3
        rw [putN, if_neg (by omega), Option.map_map] at g7
        rw [if_pos (by omega)] at hgl
        refine ⟨w.line - a, wrap_i64 (by omega) (by omega), ?_⟩
        refine ⟨(pre.length : Int) + (w.line - a), wrap_i64 (by omega) (by omega), ?_⟩
        refine And.intro (fun h4 => ?_) (fun h4 => ?_)
        · have h4 : w.line < w.line := h4
          omega
        · refine And.intro (fun h5 => ?_) (fun h5 => ?_)
          · have h5 : w.col < 1 := h5
            omega
          · refine ⟨w.col - 1, wrap_i64 (by omega) (by omega), ?_⟩
            refine ⟨w.col - 1 + (w.text.length : Nat), wrap_i64 (by omega) (by omega), ?_⟩
            refine ⟨(pre.length : Int) + (w.line - a) + (w.col - 1 + (w.text.length : Nat)), wrap_i64 (by omega) (by omega), ?_⟩
            refine ⟨w.col + (w.text.length : Nat), wrap_i64 (by omega) (by omega), ?_⟩
            refine ⟨(k : Int) + 1, wrap_i64 (by omega) (by omega), ?_⟩
            have hlen : (pre ++ (gapN a b w ++ w.text)).length = pre.length + (w.line.toNat - a + (w.col.toNat - 1)) + w.text.length := by simp [hgl]; omega
            refine ⟨(k + 1, w.line.toNat, w.col.toNat + w.text.length, pre ++ (gapN a b w ++ w.text)), ⟨by simp only []; omega, by simp only []; omega, by simp only []; omega, by simp only []; omega, by simp only []; omega, by simp only []; rw [hlen]; omega, ?_⟩, ?_, by simp only []; omega⟩
            · rw [g7]; congr 1; funext x; simp
            · have e1 : (pre.length : Int) + (w.line - a) + (w.col - 1 + (w.text.length : Nat)) = (((pre ++ (gapN a b w ++ w.text)).length : Nat) : Int) := by rw [hlen]; omega
              have e2 : w.line = ((w.line.toNat : Nat) : Int) := by omega
              have e3 : w.col + (w.text.length : Nat) = ((w.col.toNat + w.text.length : Nat) : Int) := by omega
              refine ent_of [] [] [] rfl ⟨?_, ⟨rfl, rfl⟩, rfl, rfl, rfl, trivial⟩ ⟨⟨_, rfl, rfl, rfl, _, rfl, _, _, rfl, ?_, _, _, rfl, ?_, rfl⟩, trivial⟩ rfl
              · exact congrArg (fun z => i64 z) e1.symm
              · exact congrArg (fun z => i64 z) e2.symm
              · exact congrArg (fun z => i64 z) e3.symm
      · have h3 : ¬ (a : Int) < w.line := h3
        rw [if_neg (by omega)] at hgl
        refine And.intro (fun h4 => ?_) (fun h4 => ?_)
        · have h4 : w.line < a := h4
          rw [putN, if_pos (by omega)] at g7
          have e : measV l = [i64 0, .bool false] := by rw [measV, g7]; rfl
          rw [e]
          exact end2 _ _ rfl rfl rfl rfl
        · have h4 : ¬ w.line < a := h4
          refine And.intro (fun h5 => ?_) (fun h5 => ?_)
          · have h5 : w.col < b := h5
            rw [putN, if_pos (by omega)] at g7
            have e : measV l = [i64 0, .bool false] := by rw [measV, g7]; rfl
            rw [e]
            exact end2 _ _ rfl rfl rfl rfl
          · have h5 : ¬ w.col < b := h5
            rw [putN, if_neg (by omega), Option.map_map] at g7
            refine ⟨w.col - b, wrap_i64 (by omega) (by omega), ?_⟩
            refine ⟨w.col - b + (w.text.length : Nat), wrap_i64 (by omega) (by omega), ?_⟩
            refine ⟨(pre.length : Int) + (w.col - b + (w.text.length : Nat)), wrap_i64 (by omega) (by omega), ?_⟩
            refine ⟨w.col + (w.text.length : Nat), wrap_i64 (by omega) (by omega), ?_⟩
            refine ⟨(k : Int) + 1, wrap_i64 (by omega) (by omega), ?_⟩
            have hlen : (pre ++ (gapN a b w ++ w.text)).length = pre.length + (w.col.toNat - b) + w.text.length := by simp [hgl]; omega
            refine ⟨(k + 1, w.line.toNat, w.col.toNat + w.text.length, pre ++ (gapN a b w ++ w.text)), ⟨by simp only []; omega, by simp only []; omega, by simp only []; omega, by simp only []; omega, by simp only []; omega, by simp only []; rw [hlen]; omega, ?_⟩, ?_, by simp only []; omega⟩
            · rw [g7]; congr 1; funext x; simp
            · have e1 : (pre.length : Int) + (w.col - b + (w.text.length : Nat)) = (((pre ++ (gapN a b w ++ w.text)).length : Nat) : Int) := by rw [hlen]; omega
              have e2 : (a : Int) = ((w.line.toNat : Nat) : Int) := by omega
              have e3 : w.col + (w.text.length : Nat) = ((w.col.toNat + w.text.length : Nat) : Int) := by omega
              refine ent_of [] [] [] rfl ⟨?_, ⟨rfl, rfl⟩, rfl, rfl, rfl, trivial⟩ ⟨⟨_, rfl, rfl, rfl, _, rfl, _, _, rfl, ?_, _, _, rfl, ?_, rfl⟩, trivial⟩ rfl
              · exact congrArg (fun z => i64 z) e1.symm
              · exact congrArg (fun z => i64 z) e2.symm
              · exact congrArg (fun z => i64 z) e3.symm
    · have h2 : ¬ (k : Int) < ((l.map Wd.cells).length : Nat) := h2
      rw [List.length_map] at h2
      rw [List.drop_eq_nil_of_le (by omega)] at g7
      have e : measV l = [i64 pre.length, .bool true] := by rw [measV, g7]; simp [putN]
      rw [e]
      exact end2 _ _ rfl rfl rfl rfl
end Go.Proofs.YtemlkodkohgmmaaDoor

/- spread: the text in which words stand at their places. -/
namespace Go.Proofs.YtemlkodkohgmmaaDoor
open Go Y
set_option maxRecDepth 100000
set_option maxHeartbeats 4000000

theorem put_cons {a b : Nat} {w : Wd} {r : List Wd} {t : List UInt8} (h : putN a b (w :: r) = some t) : ¬ (w.line.toNat < a ∨ w.line.toNat = a ∧ w.col.toNat < b) ∧ ∃ t', putN w.line.toNat (w.col.toNat + w.text.length) r = some t' ∧ t = gapN a b w ++ w.text ++ t' := by
  rw [putN] at h
  split at h
  · cases h
  · rename_i hn
    rw [Option.map_eq_some_iff] at h
    obtain ⟨t', h1, h2⟩ := h
    exact ⟨hn, t', h1, h2.symm⟩

def bldO (acc : List UInt8) : AObj := ⟨5, false, .pu (acc.map ub)⟩
def bldB (n : Nat) (acc : List UInt8) : AObj := ⟨TB, false, .bx [.ptr 0 0 0, .sl n 1 0 acc.length]⟩
def plO (a b : Nat) : AObj := ⟨60, false, .bx [.p (i64 a), .p (i64 b)]⟩
def wdO (w : Wd) : AObj := ⟨34, false, .bx (w.cells.map .p)⟩

/-- The loop of spread. -/
def spSl (l : List Wd) (k : Nat) : List (Nat × AV) := [(5, .ptr 0 0 0), (6, .ptr 2 0 0), (12, .p (.lsts 4 (l.map Wd.cells))), (13, .p (i64 (l.map Wd.cells).length)), (14, .p (i64 k))]
def spHp (a b : Nat) (acc : List UInt8) : Hp := ⟨3, [(2, plO a b), (1, bldO acc), (0, bldB 1 acc)]⟩
def spSl' (l : List Wd) (k : Nat) : List (Nat × AV) := (8, .ptr 3 0 0) :: spSl l k
def spHp' (a b : Nat) (acc : List UInt8) (w : Wd) : Hp := ⟨4, [(3, wdO w), (2, plO a b), (1, bldO acc), (0, bldB 1 acc)]⟩

theorem spread_c (l : List Wd) (hl : l.length ≤ 1500) (hc : ∀ w ∈ l, checkN w = true) (T : List UInt8) (hT : putN 1 1 l = some T) (hT8 : T.length ≤ 8000) :
    Pure cx 41 [.lsts 4 (l.map Wd.cells), i64 T.length] (· = .ret [.str T]) := by
  refine pure_of_vc Tryd.func41 rfl rfl rfl ?_
  have inv0 : (0 : Nat) ≤ l.length ∧ 1 ≤ 1 ∧ 1 ≤ 8000 ∧ 1 ≤ 1 ∧ 1 ≤ 8010 ∧ ∃ r, putN 1 1 (l.drop 0) = some r ∧ T = [] ++ r := ⟨by omega, by omega, by omega, by omega, by omega, T, by simpa using hT, rfl⟩
  by_cases hz : T.length = 0
  · rw [hz]
    refine (growZ_c false).useE [] [] rfl ⟨⟨_, rfl, rfl, rfl, _, rfl, _, _, rfl, rfl, _, _, rfl, (.inl rfl), rfl⟩, trivial⟩ ⟨_, _, rfl, ⟨rfl, rfl⟩, _, _, rfl, rfl, rfl⟩ ?_
    have hT0 : T = [] := List.eq_nil_of_length_eq_zero hz
    have hl0 : l = [] := by
      cases l with
      | nil => rfl
      | cons w r =>
        obtain ⟨_, t', _, e⟩ := put_cons hT
        have := (check_facts (hc w (by simp))).2.2.2.2.1
        have e := congrArg List.length e
        simp at e
        omega
    subst hT0 hl0
    refine ⟨Unit, fun _ => [(5, .ptr 0 0 0), (13, .p (i64 0)), (14, .p (i64 0))], fun _ => ⟨1, [(0, ⟨TB, false, .bx [.ptr 0 0 0, .p .nils]⟩)]⟩, fun _ => True, fun _ => 0, ?_, ?_⟩
    · exact ⟨(), trivial, ent_of [] [] [] rfl (by (repeat' first | exact trivial | exact rfl | exact ⟨rfl, rfl⟩ | exact .inl rfl | refine ⟨_, rfl, rfl, rfl, ?_⟩ | refine ⟨_, _, rfl, ?_, ?_⟩ | refine ⟨_, rfl, ?_⟩ | refine And.intro ?_ ?_)) (by (repeat' first | exact trivial | exact rfl | exact ⟨rfl, rfl⟩ | exact .inl rfl | refine ⟨_, rfl, rfl, rfl, ?_⟩ | refine ⟨_, _, rfl, ?_, ?_⟩ | refine ⟨_, rfl, ?_⟩ | refine And.intro ?_ ?_)) rfl⟩
    · intro x _
      refine And.intro (fun h1 => ?_) (fun h1 => ?_)
      · have h1 : (0 : Int) < 0 := h1
        omega
      · refine (stringN_c true).useE [] [] rfl (by (repeat' first | exact trivial | exact rfl | exact ⟨rfl, rfl⟩ | exact .inl rfl | refine ⟨_, rfl, rfl, rfl, ?_⟩ | refine ⟨_, _, rfl, ?_, ?_⟩ | refine ⟨_, rfl, ?_⟩ | refine And.intro ?_ ?_)) ⟨_, _, rfl, ⟨rfl, rfl⟩, rfl⟩ ?_
        exact end1 _ rfl rfl rfl
  · refine (growN_c false T.length (by omega) (by omega)).useE [] [] rfl ⟨⟨_, rfl, rfl, rfl, _, rfl, _, _, rfl, rfl, _, _, rfl, (.inl rfl), rfl⟩, trivial⟩ ⟨_, _, rfl, ⟨rfl, rfl⟩, _, _, rfl, rfl, rfl⟩ ?_
    refine ⟨Nat × Nat × Nat × List UInt8, fun x => spSl l x.1, fun x => spHp x.2.1 x.2.2.1 x.2.2.2, fun x => x.1 ≤ l.length ∧ 1 ≤ x.2.1 ∧ x.2.1 ≤ 8000 ∧ 1 ≤ x.2.2.1 ∧ x.2.2.1 ≤ 8010 ∧ ∃ r, putN x.2.1 x.2.2.1 (l.drop x.1) = some r ∧ T = x.2.2.2 ++ r, fun x => l.length - x.1, ?_, ?_⟩
    · exact ⟨(0, 1, 1, []), inv0, ent_of [] [] [] rfl (by (repeat' first | exact trivial | exact rfl | exact ⟨rfl, rfl⟩ | exact .inl rfl | refine ⟨_, rfl, rfl, rfl, ?_⟩ | refine ⟨_, _, rfl, ?_, ?_⟩ | refine ⟨_, rfl, ?_⟩ | refine And.intro ?_ ?_)) (by (repeat' first | exact trivial | exact rfl | exact ⟨rfl, rfl⟩ | exact .inl rfl | refine ⟨_, rfl, rfl, rfl, ?_⟩ | refine ⟨_, _, rfl, ?_, ?_⟩ | refine ⟨_, rfl, ?_⟩ | refine And.intro ?_ ?_)) rfl⟩
    · rintro ⟨k, a, b, acc⟩ ⟨g1, g2, g3, g4, g5, r, g6, g7⟩
      simp only [] at g1 g2 g3 g4 g5 g6 g7
      refine And.intro (fun h2 => ?_) (fun h2 => ?_)
      · have h2 : (k : Int) < ((l.map Wd.cells).length : Nat) := h2
        rw [List.length_map] at h2
        have hk : k < l.length := by omega
        refine ⟨_, ⟨by omega, l[k].cells, wcell hk, rfl⟩, ?_⟩
        rw [drop_cons hk] at g6
        obtain ⟨f1, f2, f3, f4, f5, f6⟩ := check_facts (hc l[k] (List.getElem_mem hk))
        generalize l[k] = w at g6 f1 f2 f3 f4 f5 f6 ⊢
        obtain ⟨p1, r', p2, p3⟩ := put_cons g6
        have hTl : T.length = acc.length + (gapN a b w).length + w.text.length + r'.length := by rw [g7, p3]; simp; omega
        refine ⟨Nat × Nat × List UInt8, fun _ => spSl' l k, fun x => spHp' x.1 x.2.1 x.2.2 w, fun x => 1 ≤ x.1 ∧ x.1 ≤ 8000 ∧ 1 ≤ x.2.1 ∧ x.2.1 ≤ 8010 ∧ ¬ (w.line.toNat < x.1 ∨ w.line.toNat = x.1 ∧ w.col.toNat < x.2.1) ∧ x.2.2 ++ gapN x.1 x.2.1 w = acc ++ gapN a b w, fun x => w.line.toNat - x.1, ?_, ?_⟩
        · exact ⟨(a, b, acc), ⟨g2, g3, g4, g5, p1, rfl⟩, ent_of [] [] [] rfl (by (repeat' first | exact trivial | exact rfl | exact ⟨rfl, rfl⟩ | exact .inl rfl | refine ⟨_, rfl, rfl, rfl, ?_⟩ | refine ⟨_, _, rfl, ?_, ?_⟩ | refine ⟨_, rfl, ?_⟩ | refine And.intro ?_ ?_)) (by (repeat' first | exact trivial | exact rfl | exact ⟨rfl, rfl⟩ | exact .inl rfl | refine ⟨_, rfl, rfl, rfl, ?_⟩ | refine ⟨_, _, rfl, ?_, ?_⟩ | refine ⟨_, rfl, ?_⟩ | refine And.intro ?_ ?_)) rfl⟩
        · rintro ⟨a1, b1, acc1⟩ ⟨q1, q2, q3, q4, q5, q6⟩
          simp only [] at q1 q2 q3 q4 q5 q6
          have hl1 := congrArg List.length q6
          simp only [List.length_append] at hl1
          refine And.intro (fun h3 => ?_) (fun h3 => ?_)
          · have h3 : (a1 : Int) < w.line := h3
            refine (writeByte_c true acc1 10 (by omega)).useE [] [] rfl ⟨⟨_, rfl, rfl, rfl, rfl⟩, ⟨_, rfl, rfl, rfl, _, rfl, _, _, rfl, ⟨rfl, rfl⟩, _, _, rfl, rfl, rfl⟩, trivial⟩ ⟨_, _, rfl, ⟨rfl, rfl⟩, _, _, rfl, rfl, rfl⟩ ?_
            refine (pass_c a1 b1 10 60 [] (by omega) (by omega)).useE [] [(0, 2)] rfl ⟨⟨_, rfl, rfl, rfl, _, rfl, _, _, rfl, rfl, _, _, rfl, rfl, rfl⟩, trivial⟩ ⟨_, _, rfl, ⟨rfl, rfl⟩, _, _, rfl, rfl, rfl⟩ ?_
            refine ⟨(a1 + 1, 1, acc1 ++ [10]), ⟨by simp only []; omega, by simp only []; omega, by simp only []; omega, by simp only []; omega, by simp only []; omega, ?_⟩, ent_of [] [(1, 4)] [] rfl (by (repeat' first | exact trivial | exact rfl | exact ⟨rfl, rfl⟩ | exact .inl rfl | refine ⟨_, rfl, rfl, rfl, ?_⟩ | refine ⟨_, _, rfl, ?_, ?_⟩ | refine ⟨_, rfl, ?_⟩ | refine And.intro ?_ ?_)) (by (repeat' first | exact trivial | exact rfl | exact ⟨rfl, rfl⟩ | exact .inl rfl | refine ⟨_, rfl, rfl, rfl, ?_⟩ | refine ⟨_, _, rfl, ?_, ?_⟩ | refine ⟨_, rfl, ?_⟩ | refine And.intro ?_ ?_)) rfl, by simp only []; omega⟩
            simp only []
            rw [← q6, gap_line (l := a1) (c := b1) (by omega)]
            simp
          · have h3 : ¬ (a1 : Int) < w.line := h3
            refine ⟨Nat × List UInt8, fun _ => spSl' l k, fun x => spHp' a1 x.1 x.2 w, fun x => 1 ≤ x.1 ∧ x.1 ≤ 8010 ∧ ¬ w.col.toNat < x.1 ∧ x.2 ++ gapN a1 x.1 w = acc ++ gapN a b w, fun x => w.col.toNat - x.1, ?_, ?_⟩
            · exact ⟨(b1, acc1), ⟨q3, q4, by simp only []; omega, q6⟩, ent_of [] [] [] rfl (by (repeat' first | exact trivial | exact rfl | exact ⟨rfl, rfl⟩ | exact .inl rfl | refine ⟨_, rfl, rfl, rfl, ?_⟩ | refine ⟨_, _, rfl, ?_, ?_⟩ | refine ⟨_, rfl, ?_⟩ | refine And.intro ?_ ?_)) (by (repeat' first | exact trivial | exact rfl | exact ⟨rfl, rfl⟩ | exact .inl rfl | refine ⟨_, rfl, rfl, rfl, ?_⟩ | refine ⟨_, _, rfl, ?_, ?_⟩ | refine ⟨_, rfl, ?_⟩ | refine And.intro ?_ ?_)) rfl⟩
            · rintro ⟨b2, acc2⟩ ⟨u1, u2, u3, u4⟩
              simp only [] at u1 u2 u3 u4
              have hl2 := congrArg List.length u4
              simp only [List.length_append] at hl2
              refine And.intro (fun h4 => ?_) (fun h4 => ?_)
              · have h4 : (b2 : Int) < w.col := h4
                refine (writeByte_c true acc2 32 (by omega)).useE [] [] rfl ⟨⟨_, rfl, rfl, rfl, rfl⟩, ⟨_, rfl, rfl, rfl, _, rfl, _, _, rfl, ⟨rfl, rfl⟩, _, _, rfl, rfl, rfl⟩, trivial⟩ ⟨_, _, rfl, ⟨rfl, rfl⟩, _, _, rfl, rfl, rfl⟩ ?_
                refine (pass_c a1 b2 32 60 [] (by omega) (by omega)).useE [] [(0, 2)] rfl ⟨⟨_, rfl, rfl, rfl, _, rfl, _, _, rfl, rfl, _, _, rfl, rfl, rfl⟩, trivial⟩ ⟨_, _, rfl, ⟨rfl, rfl⟩, _, _, rfl, rfl, rfl⟩ ?_
                refine ⟨(b2 + 1, acc2 ++ [32]), ⟨by simp only []; omega, by simp only []; omega, by simp only []; omega, ?_⟩, ent_of [] [(1, 4)] [] rfl (by (repeat' first | exact trivial | exact rfl | exact ⟨rfl, rfl⟩ | exact .inl rfl | refine ⟨_, rfl, rfl, rfl, ?_⟩ | refine ⟨_, _, rfl, ?_, ?_⟩ | refine ⟨_, rfl, ?_⟩ | refine And.intro ?_ ?_)) (by (repeat' first | exact trivial | exact rfl | exact ⟨rfl, rfl⟩ | exact .inl rfl | refine ⟨_, rfl, rfl, rfl, ?_⟩ | refine ⟨_, _, rfl, ?_, ?_⟩ | refine ⟨_, rfl, ?_⟩ | refine And.intro ?_ ?_)) rfl, by simp only []; omega⟩
                simp only []
                rw [← u4, gap_col (l := a1) (c := b2) (by omega) (by omega)]
                simp
              · have h4 : ¬ (b2 : Int) < w.col := h4
                rw [gap_end (by omega) (by omega), List.append_nil] at u4
                refine (writeString_c true acc2 w.text (by omega) (by omega)).useE [] [] rfl ⟨⟨_, rfl, rfl, rfl, rfl⟩, ⟨_, rfl, rfl, rfl, _, rfl, _, _, rfl, ⟨rfl, rfl⟩, _, _, rfl, rfl, rfl⟩, trivial⟩ ⟨_, _, rfl, ⟨rfl, rfl⟩, _, _, rfl, rfl, rfl⟩ ?_
                refine ⟨(b2 : Int) + (w.text.length : Nat), wrap_i64 (by omega) (by omega), ?_⟩
                refine ⟨(k : Int) + 1, wrap_i64 (by omega) (by omega), ?_⟩
                have e1 : w.line.toNat = a1 := by omega
                have e2 : w.col.toNat = b2 := by omega
                rw [e1, e2] at p2
                refine ⟨(k + 1, a1, b2 + w.text.length, acc2 ++ w.text), ⟨hk, q1, q2, by simp only []; omega, by simp only []; omega, r', p2, ?_⟩, ent_of [] [(1, 4)] [] rfl (by (repeat' first | exact trivial | exact rfl | exact ⟨rfl, rfl⟩ | exact .inl rfl | refine ⟨_, rfl, rfl, rfl, ?_⟩ | refine ⟨_, _, rfl, ?_, ?_⟩ | refine ⟨_, rfl, ?_⟩ | refine And.intro ?_ ?_)) (by (repeat' first | exact trivial | exact rfl | exact ⟨rfl, rfl⟩ | exact .inl rfl | refine ⟨_, rfl, rfl, rfl, ?_⟩ | refine ⟨_, _, rfl, ?_, ?_⟩ | refine ⟨_, rfl, ?_⟩ | refine And.intro ?_ ?_)) rfl, by simp only []; omega⟩
                rw [g7, p3, u4]
                simp
      · have h2 : ¬ (k : Int) < ((l.map Wd.cells).length : Nat) := h2
        rw [List.length_map] at h2
        rw [List.drop_eq_nil_of_le (by omega), putN] at g6
        injection g6 with g6
        subst g6
        rw [List.append_nil] at g7
        subst g7
        refine (string_c true T (by intro e; rw [e] at hz; simp at hz) (by omega)).useE [] [] rfl ⟨⟨_, rfl, rfl, rfl, rfl⟩, ⟨_, rfl, rfl, rfl, _, rfl, _, _, rfl, ⟨rfl, rfl⟩, _, _, rfl, rfl, rfl⟩, trivial⟩ ⟨_, _, rfl, ⟨rfl, rfl⟩, rfl⟩ ?_
        exact end1 _ rfl rfl rfl
end Go.Proofs.YtemlkodkohgmmaaDoor

/- Join. -/
namespace Go.Proofs.YtemlkodkohgmmaaDoor
open Go Y
set_option maxRecDepth 100000
set_option maxHeartbeats 4000000

theorem readN_ok : ∀ (f : Nat) (s : List UInt8) (k : Nat) (acc ws : List Wd), acc.length ≤ 1500 → readN f s k acc = .ok ws → ws.length ≤ 1500
  | 0, s, k, acc, ws, ha, h => by simp only [readN, RdR.ok.injEq] at h; subst h; exact ha
  | f + 1, s, k, acc, ws, ha, h => by
    rw [readN] at h
    split at h
    · cases h
    · rw [readB] at h
      split at h
      · injection h with h; subst h; exact ha
      · split at h
        · cases h
        · split at h
          · cases h
          · exact readN_ok f s _ _ ws (by simp; omega) h
theorem readN_err : ∀ (f : Nat) (s : List UInt8) (k : Nat) (acc : List Wd) (p : Nat × Nat) (c : Int), readN f s k acc = .err p c → c = 370 ∨ c = 3
  | 0, s, k, acc, p, c, h => by simp [readN] at h
  | f + 1, s, k, acc, p, c, h => by
    rw [readN] at h
    split at h
    · injection h with h1 h2; exact .inl h2.symm
    · rw [readB] at h
      split at h
      · cases h
      · split at h
        · injection h with h1 h2; exact .inl h2.symm
        · split at h
          · injection h with h1 h2; exact .inr h2.symm
          · exact readN_err f s _ _ p c h
theorem readR_ok {s : List UInt8} {ws : List Wd} (h : readR s = .ok ws) : ws.length ≤ 1500 := readN_ok _ _ _ _ _ (by simp) h
theorem readR_err {s : List UInt8} {p : Nat × Nat} {c : Int} (h : readR s = .err p c) : c = 370 ∨ c = 3 := readN_err _ _ _ _ _ _ h
theorem rdC (r : RdR) : (∃ ws, r = .ok ws) ∨ ∃ p c, r = .err p c := by
  cases r with
  | ok ws => exact .inl ⟨ws, rfl⟩
  | err p c => exact .inr ⟨p, c, rfl⟩
theorem optC {α : Type} (o : Option α) : o = none ∨ ∃ x, o = some x := by cases o <;> simp

/-- What Join returns. -/
def joinN (l : List Wd) : List UInt8 × Int :=
  if 1500 < l.length then ([], 3)
  else if l.all checkN = false then ([], 370)
  else match putN 1 1 l with
    | none => ([], 371)
    | some t => if 8000 < t.length then ([], 3)
      else match readR t with
        | .ok ws => if ws = l then (t, 0) else ([], 371)
        | .err _ _ => ([], 371)
def joinV (l : List Wd) : List PV := [.str (joinN l).1, i64 (joinN l).2]
theorem joinV_of {l : List Wd} {t : List UInt8} {c : Int} (h : joinN l = (t, c)) : PEnd.ret [.str t, i64 c] = .ret (joinV l) := by rw [joinV, h]

theorem all_take {l : List Wd} {k : Nat} (h : ∀ w ∈ l.take k, checkN w = true) (hk : l.length ≤ k) : ∀ w ∈ l, checkN w = true := by
  rw [List.take_of_length_le hk] at h; exact h
theorem all_step {l : List Wd} {k : Nat} (h : ∀ w ∈ l.take k, checkN w = true) (hk : k < l.length) (hw : checkN l[k] = true) : ∀ w ∈ l.take (k + 1), checkN w = true := by
  intro w hm
  rw [List.take_add_one, List.getElem?_eq_getElem hk] at hm
  rcases List.mem_append.1 hm with hm | hm
  · exact h w hm
  · simp at hm; subst hm; exact hw

/-- Behind the text. -/

theorem join_c (l : List Wd) (ht : ∀ w ∈ l, w.text.length ≤ 100000) : Pure cx 16 [.lsts 4 (l.map Wd.cells)] (· = .ret (joinV l)) := by
  refine pure_of_vc Tryd.func16 rfl rfl rfl ?_
  refine And.intro (fun h1 => ?_) (fun h1 => ?_)
  · have h1 : (1500 : Int) < ((l.map Wd.cells).length : Nat) := h1
    rw [List.length_map] at h1
    exact end2 _ _ rfl rfl rfl (joinV_of (by rw [joinN, if_pos (by omega)]))
  · have h1 : ¬ (1500 : Int) < ((l.map Wd.cells).length : Nat) := h1
    rw [List.length_map] at h1
    refine ⟨Nat, fun k => [(0, .p (.lsts 4 (l.map Wd.cells))), (16, .p (.lsts 4 (l.map Wd.cells))), (17, .p (i64 (l.map Wd.cells).length)), (18, .p (i64 k))], fun _ => ⟨0, []⟩, fun k => k ≤ l.length ∧ ∀ w ∈ l.take k, checkN w = true, fun k => l.length - k, ?_, ?_⟩
    · exact ⟨0, ⟨by omega, by simp⟩, ent0 rfl ⟨rfl, rfl, rfl, rfl, trivial⟩ trivial rfl⟩
    · rintro k ⟨hk0, hall⟩
      refine And.intro (fun h2 => ?_) (fun h2 => ?_)
      · have h2 : (k : Int) < ((l.map Wd.cells).length : Nat) := h2
        rw [List.length_map] at h2
        have hk : k < l.length := by omega
        refine ⟨_, ⟨by omega, l[k].cells, wcell hk, rfl⟩, ?_⟩
        refine (check_c l[k] (ht _ (List.getElem_mem hk))).eq rfl ?_
        refine And.intro (fun h3 => ?_) (fun h3 => ?_)
        · have h3 : checkV l[k] = 0 := h3
          have hw : checkN l[k] = true := by
            rw [checkV] at h3; split at h3
            · assumption
            · cases h3
          refine ⟨(k : Int) + 1, wrap_i64 (by omega) (by omega), k + 1, ⟨hk, all_step hall hk hw⟩, ent_of [] [] [] rfl ⟨rfl, rfl, rfl, rfl, trivial⟩ trivial rfl, ?_⟩
          show l.length - (k + 1) < l.length - k
          omega
        · have h3 : ¬ checkV l[k] = 0 := h3
          have hw : checkN l[k] = false := by
            cases e : checkN l[k] with
            | false => rfl
            | true => rw [checkV, e] at h3; exact absurd rfl h3
          exact end2 _ _ rfl rfl rfl (joinV_of (by rw [joinN, if_neg (by omega), if_pos]; rw [List.all_eq_false]; exact ⟨_, List.getElem_mem hk, by rw [hw]; simp⟩))
      · have h2 : ¬ (k : Int) < ((l.map Wd.cells).length : Nat) := h2
        rw [List.length_map] at h2
        have hall := all_take hall (by omega)
        have hall' : ¬ l.all checkN = false := by rw [Bool.not_eq_false, List.all_eq_true]; exact hall
        have hM := measure_c l (by omega) hall
        refine Or.elim (optC (putN 1 1 l)) (fun hput => ?_) (fun hn => Exists.elim hn fun T hput => ?_)
        · rw [measV, hput] at hM
          refine hM.eq rfl ?_
          exact end2 _ _ rfl rfl rfl (joinV_of (by rw [joinN, if_neg (by omega), if_neg hall', hput]))
        · rw [measV, hput] at hM
          refine hM.eq rfl ?_
          refine And.intro (fun h4 => ?_) (fun h4 => ?_)
          · have h4 : (8000 : Int) < T.length := h4
            exact end2 _ _ rfl rfl rfl (joinV_of (by rw [joinN, if_neg (by omega), if_neg hall', hput]; simp only []; rw [if_pos (by omega)]))
          · have h4 : ¬ (8000 : Int) < T.length := h4
            refine (spread_c l (by omega) hall T hput (by omega)).eq rfl ?_
            refine Or.elim (rdC (readR T)) (fun hn => Exists.elim hn fun ws hrd => ?_) (fun hn => Exists.elim hn fun p hn => Exists.elim hn fun c hrd => ?_)
            · have hR := read_c T
              rw [show readV T = [.lsts 4 (ws.map Wd.cells), i64 0, i64 0, i64 0] by rw [readV, if_neg (by omega), hrd]] at hR
              refine hR.eq rfl ?_
              refine And.intro (fun h5 => ?_) (fun h5 => absurd (show (0 : Int) = 0 from rfl) h5)
              have hE := equal_c ws l (by have := readR_ok hrd; omega) (by omega)
              by_cases he : ws = l
              · rw [decide_eq_true he] at hE
                refine hE.eq rfl ?_
                exact end2 _ _ rfl rfl rfl (joinV_of (by rw [joinN, if_neg (by omega), if_neg hall', hput]; simp only []; rw [if_neg (by omega), hrd]; simp only []; rw [if_pos he]))
              · rw [decide_eq_false he] at hE
                refine hE.eq rfl ?_
                exact end2 _ _ rfl rfl rfl (joinV_of (by rw [joinN, if_neg (by omega), if_neg hall', hput]; simp only []; rw [if_neg (by omega), hrd]; simp only []; rw [if_neg he]))
            · have hR := read_c T
              rw [show readV T = [.lsts 4 [], i64 p.1, i64 p.2, i64 c] by rw [readV, if_neg (by omega), hrd]] at hR
              refine hR.eq rfl ?_
              have hc0 := readR_err hrd
              refine And.intro (fun h5 => ?_) (fun h5 => ?_)
              · have h5 : c = 0 := h5
                omega
              · exact end2 _ _ rfl rfl rfl (joinV_of (by rw [joinN, if_neg (by omega), if_neg hall', hput]; simp only []; rw [if_neg (by omega), hrd]))
end Go.Proofs.YtemlkodkohgmmaaDoor

/- The reference's Join. -/
namespace Go.Proofs.YtemlkodkohgmmaaDoor
open Go Y
set_option maxRecDepth 100000
set_option maxHeartbeats 4000000



theorem gap_le (a b : Nat) {w : Wd} (h1 : w.line ≤ 8000) (h2 : w.col ≤ 8000) : (gapN a b w).length ≤ 16000 := by
  rw [gap_len]; split <;> omega
theorem takeUbN {xs : List UInt8} {n : Nat} : (xs.take n).map ub = ((xs.map ub).drop 0).take n := by rw [List.drop_zero, List.map_take]

structure JS where
  k : Nat
  a : Nat
  b : Nat
  lg : Nat
  n : Nat
  xs : List UInt8
  pre : List UInt8
structure JI where
  a : Nat
  b : Nat
  n : Nat
  xs : List UInt8

def jSl (l : List Wd) (k a b lg n : Nat) : List (Nat × AV) := [(0, .p (.lsts 4 (l.map Wd.cells))), (5, .p (i64 a)), (6, .p (i64 b)), (7, .p (i64 lg)), (8, .sl 0 1 0 n), (9, .p (i64 k))]
def jSl' (l : List Wd) (k a b lg n : Nat) : List (Nat × AV) := (10, .ptr 1 0 0) :: jSl l k a b lg n
def jHp (xs : List UInt8) : Hp := ⟨1, [(0, bldO xs)]⟩
def jHp' (xs : List UInt8) (w : Wd) : Hp := ⟨2, [(1, wdO w), (0, bldO xs)]⟩

theorem rJoin_c (l : List Wd) (ht : ∀ w ∈ l, w.text.length ≤ 100000) : Pure cx 17 [.lsts 4 (l.map Wd.cells)] (· = .ret (joinV l)) := by
  refine pure_of_vc Tryd.func17 rfl rfl rfl ?_
  refine And.intro (fun h1 => ?_) (fun h1 => ?_)
  · have h1 : (1500 : Int) < ((l.map Wd.cells).length : Nat) := h1
    rw [List.length_map] at h1
    exact end2 _ _ rfl rfl rfl (joinV_of (by rw [joinN, if_pos (by omega)]))
  · have h1 : ¬ (1500 : Int) < ((l.map Wd.cells).length : Nat) := h1
    rw [List.length_map] at h1
    refine ⟨Nat, fun k => [(0, .p (.lsts 4 (l.map Wd.cells))), (4, .p (i64 k))], fun _ => ⟨0, []⟩, fun k => k ≤ l.length ∧ ∀ w ∈ l.take k, checkN w = true, fun k => l.length - k, ?_, ?_⟩
    · exact ⟨0, ⟨by omega, by simp⟩, ent0 rfl ⟨rfl, rfl, trivial⟩ trivial rfl⟩
    · rintro k ⟨hk0, hall⟩
      refine And.intro (fun h2 => ?_) (fun h2 => ?_)
      · have h2 : (k : Int) < ((l.map Wd.cells).length : Nat) := h2
        rw [List.length_map] at h2
        have hk : k < l.length := by omega
        refine ⟨_, ⟨by omega, l[k].cells, wcell hk, rfl⟩, ?_⟩
        have hP := rRightW_c l[k] (ht _ (List.getElem_mem hk))
        by_cases hw : checkN l[k] = true
        · rw [hw] at hP
          refine hP.eq rfl ?_
          refine ⟨(k : Int) + 1, wrap_i64 (by omega) (by omega), k + 1, ⟨hk, all_step hall hk hw⟩, ent_of [] [] [] rfl ⟨rfl, rfl, trivial⟩ trivial rfl, ?_⟩
          show l.length - (k + 1) < l.length - k
          omega
        · rw [Bool.not_eq_true] at hw
          rw [hw] at hP
          refine hP.eq rfl ?_
          exact end2 _ _ rfl rfl rfl (joinV_of (by rw [joinN, if_neg (by omega), if_pos]; rw [List.all_eq_false]; exact ⟨_, List.getElem_mem hk, by rw [hw]; simp⟩))
      · have h2 : ¬ (k : Int) < ((l.map Wd.cells).length : Nat) := h2
        rw [List.length_map] at h2
        have hall := all_take hall (by omega)
        have hall' : ¬ l.all checkN = false := by rw [Bool.not_eq_false, List.all_eq_true]; exact hall
        clear hk0 h2
        refine ⟨JS, fun x => jSl l x.k x.a x.b x.lg x.n, fun x => jHp x.xs, fun x => x.k ≤ l.length ∧ (1 ≤ x.a ∧ x.a ≤ 8000 ∧ 1 ≤ x.b ∧ x.b ≤ 8010) ∧ x.n ≤ x.xs.length ∧ x.n ≤ 8000 ∧ (x.lg = 0 ∧ x.xs.take x.n = x.pre ∨ x.lg = 1 ∧ 8000 < x.pre.length) ∧ putN 1 1 l = (putN x.a x.b (l.drop x.k)).map (x.pre ++ ·), fun x => l.length - x.k, ?_, ?_⟩
        · exact ⟨⟨0, 1, 1, 0, 0, [], []⟩, ⟨by simp, by simp, by simp, by simp, by simp, by simp⟩, ent_of [] [] [(0, 1)] rfl (by (repeat' first | exact trivial | exact rfl | exact ⟨rfl, rfl⟩ | exact .inl rfl | refine ⟨_, rfl, rfl, rfl, ?_⟩ | refine ⟨_, _, rfl, ?_, ?_⟩ | refine ⟨_, rfl, ?_⟩ | refine And.intro ?_ ?_)) (by (repeat' first | exact trivial | exact rfl | exact ⟨rfl, rfl⟩ | exact .inl rfl | refine ⟨_, rfl, rfl, rfl, ?_⟩ | refine ⟨_, _, rfl, ?_, ?_⟩ | refine ⟨_, rfl, ?_⟩ | refine And.intro ?_ ?_)) rfl⟩
        · rintro ⟨k, a, b, lg, n, xs, pre⟩ ⟨g1, ⟨g2, g3, g4, g5⟩, g6, g7, g8, g9⟩
          simp only [] at g1 g2 g3 g4 g5 g6 g7 g8 g9
          refine And.intro (fun h2 => ?_) (fun h2 => ?_)
          · have h2 : (k : Int) < ((l.map Wd.cells).length : Nat) := h2
            rw [List.length_map] at h2
            have hk : k < l.length := by omega
            refine ⟨_, ⟨by omega, l[k].cells, wcell hk, rfl⟩, ?_⟩
            rw [drop_cons hk] at g9
            obtain ⟨f1, f2, f3, f4, f5, f6⟩ := check_facts (hall l[k] (List.getElem_mem hk))
            generalize l[k] = w at g9 f1 f2 f3 f4 f5 f6 ⊢
            have bad : w.line.toNat < a ∨ w.line.toNat = a ∧ w.col.toNat < b → joinN l = ([], 371) := by
              intro hb
              rw [putN, if_pos hb] at g9
              rw [joinN, if_neg (by omega), if_neg hall', g9]
              rfl
            have hgl := gap_le a b f2 f4
            refine And.intro (fun h3 => ?_) (fun h3 => ?_)
            · have h3 : w.line < a := h3
              exact end2 _ _ rfl rfl rfl (joinV_of (bad (by omega)))
            · have h3 : ¬ w.line < a := h3
              refine And.intro (fun h4 => ?_) (fun h4 => ?_)
              · have h4 : w.line = a := h4
                refine And.intro (fun h5 => ?_) (fun h5 => ?_)
                · have h5 : w.col < b := h5
                  exact end2 _ _ rfl rfl rfl (joinV_of (bad (by omega)))
                · have h5 : ¬ w.col < b := h5
                  have hnb : ¬ (w.line.toNat < a ∨ w.line.toNat = a ∧ w.col.toNat < b) := by omega
                  rw [putN, if_neg hnb, Option.map_map] at g9
                  refine ⟨JI, fun x => jSl' l k x.a x.b lg x.n, fun x => jHp' x.xs w, fun x => (1 ≤ x.a ∧ x.a ≤ 8000 ∧ 1 ≤ x.b ∧ x.b ≤ 8010) ∧ ¬ (w.line.toNat < x.a ∨ w.line.toNat = x.a ∧ w.col.toNat < x.b) ∧ x.n ≤ x.xs.length ∧ x.xs.take x.n ++ gapN x.a x.b w = xs.take n ++ gapN a b w, fun x => w.line.toNat - x.a, ?_, ?_⟩
                  · exact ⟨⟨a, b, n, xs⟩, ⟨⟨g2, g3, g4, g5⟩, hnb, g6, rfl⟩, ent_of [] [] [] rfl (by (repeat' first | exact trivial | exact rfl | exact ⟨rfl, rfl⟩ | exact .inl rfl | refine ⟨_, rfl, rfl, rfl, ?_⟩ | refine ⟨_, _, rfl, ?_, ?_⟩ | refine ⟨_, rfl, ?_⟩ | refine And.intro ?_ ?_)) (by (repeat' first | exact trivial | exact rfl | exact ⟨rfl, rfl⟩ | exact .inl rfl | refine ⟨_, rfl, rfl, rfl, ?_⟩ | refine ⟨_, _, rfl, ?_, ?_⟩ | refine ⟨_, rfl, ?_⟩ | refine And.intro ?_ ?_)) rfl⟩
                  · rintro ⟨a1, b1, n1, xs1⟩ ⟨⟨q1, q2, q3, q4⟩, q5, q6, q7⟩
                    simp only [] at q1 q2 q3 q4 q5 q6 q7
                    have hl1 := congrArg List.length q7
                    simp only [List.length_append, List.length_take, Nat.min_eq_left q6, Nat.min_eq_left g6] at hl1
                    refine And.intro (fun h6 => ?_) (fun h6 => ?_)
                    · have h6 : (a1 : Int) < w.line := h6
                      refine ⟨by show 0 + 1 ≤ 1; omega, [ub 10], rfl, ?_⟩
                      refine ⟨by show 0 + n1 ≤ (xs1.map ub).length; rw [List.length_map]; omega, (xs1.take n1).map ub, takeUbN, by show (n1 + 1) * 1 ≤ 140737488355328; omega, (xs1.take n1 ++ [10]).map ub, by simp, ?_⟩
                      refine ⟨(a1 : Int) + 1, wrap_i64 (by omega) (by omega), ⟨a1 + 1, 1, n1 + 1, xs1.take n1 ++ [10]⟩, ⟨⟨by simp only []; omega, by simp only []; omega, by simp only []; omega, by simp only []; omega⟩, by simp only []; omega, by simp; omega, ?_⟩, ent_of [] [(0, 3)] [] rfl (by (repeat' first | exact trivial | exact rfl | exact ⟨rfl, rfl⟩ | exact .inl rfl | refine ⟨_, rfl, rfl, rfl, ?_⟩ | refine ⟨_, _, rfl, ?_, ?_⟩ | refine ⟨_, rfl, ?_⟩ | refine And.intro ?_ ?_)) (by (repeat' first | exact trivial | exact rfl | exact ⟨rfl, rfl⟩ | exact .inl rfl | refine ⟨_, rfl, rfl, rfl, ?_⟩ | refine ⟨_, _, rfl, ?_, ?_⟩ | refine ⟨_, rfl, ?_⟩ | refine And.intro ?_ ?_)) rfl, by simp only []; omega⟩
                      simp only []
                      rw [← q7, gap_line (l := a1) (c := b1) (by omega), List.take_of_length_le (by simp; omega)]
                      simp
                    · have h6 : ¬ (a1 : Int) < w.line := h6
                      refine ⟨JI, fun x => jSl' l k a1 x.b lg x.n, fun x => jHp' x.xs w, fun x => (1 ≤ x.b ∧ x.b ≤ 8010) ∧ ¬ w.col.toNat < x.b ∧ x.n ≤ x.xs.length ∧ x.xs.take x.n ++ gapN a1 x.b w = xs.take n ++ gapN a b w, fun x => w.col.toNat - x.b, ?_, ?_⟩
                      · exact ⟨⟨a1, b1, n1, xs1⟩, ⟨⟨q3, q4⟩, by simp only []; omega, q6, q7⟩, ent_of [] [] [] rfl (by (repeat' first | exact trivial | exact rfl | exact ⟨rfl, rfl⟩ | exact .inl rfl | refine ⟨_, rfl, rfl, rfl, ?_⟩ | refine ⟨_, _, rfl, ?_, ?_⟩ | refine ⟨_, rfl, ?_⟩ | refine And.intro ?_ ?_)) (by (repeat' first | exact trivial | exact rfl | exact ⟨rfl, rfl⟩ | exact .inl rfl | refine ⟨_, rfl, rfl, rfl, ?_⟩ | refine ⟨_, _, rfl, ?_, ?_⟩ | refine ⟨_, rfl, ?_⟩ | refine And.intro ?_ ?_)) rfl⟩
                      · rintro ⟨a2, b2, n2, xs2⟩ ⟨⟨u1, u2⟩, u3, u4, u5⟩
                        simp only [] at u1 u2 u3 u4 u5
                        have hl2 := congrArg List.length u5
                        simp only [List.length_append, List.length_take, Nat.min_eq_left u4, Nat.min_eq_left g6] at hl2
                        refine And.intro (fun h7 => ?_) (fun h7 => ?_)
                        · have h7 : (b2 : Int) < w.col := h7
                          refine ⟨by show 0 + 1 ≤ 1; omega, [ub 32], rfl, ?_⟩
                          refine ⟨by show 0 + n2 ≤ (xs2.map ub).length; rw [List.length_map]; omega, (xs2.take n2).map ub, takeUbN, by show (n2 + 1) * 1 ≤ 140737488355328; omega, (xs2.take n2 ++ [32]).map ub, by simp, ?_⟩
                          refine ⟨(b2 : Int) + 1, wrap_i64 (by omega) (by omega), ⟨0, b2 + 1, n2 + 1, xs2.take n2 ++ [32]⟩, ⟨⟨by simp only []; omega, by simp only []; omega⟩, by simp only []; omega, by simp; omega, ?_⟩, ent_of [] [(0, 3)] [] rfl (by (repeat' first | exact trivial | exact rfl | exact ⟨rfl, rfl⟩ | exact .inl rfl | refine ⟨_, rfl, rfl, rfl, ?_⟩ | refine ⟨_, _, rfl, ?_, ?_⟩ | refine ⟨_, rfl, ?_⟩ | refine And.intro ?_ ?_)) (by (repeat' first | exact trivial | exact rfl | exact ⟨rfl, rfl⟩ | exact .inl rfl | refine ⟨_, rfl, rfl, rfl, ?_⟩ | refine ⟨_, _, rfl, ?_, ?_⟩ | refine ⟨_, rfl, ?_⟩ | refine And.intro ?_ ?_)) rfl, by simp only []; omega⟩
                          simp only []
                          rw [← u5, gap_col (l := a1) (c := b2) (by omega) (by omega), List.take_of_length_le (by simp; omega)]
                          simp
                        · have h7 : ¬ (b2 : Int) < w.col := h7
                          rw [gap_end (l := a1) (c := b2) (by omega) (by omega), List.append_nil] at u5
                          refine ⟨by show 0 + n2 ≤ (xs2.map ub).length; rw [List.length_map]; omega, (xs2.take n2).map ub, takeUbN, by show (n2 + w.text.length) * 1 ≤ 140737488355328; omega, (xs2.take n2 ++ w.text).map ub, by simp, ?_⟩
                          refine ⟨(b2 : Int) + (w.text.length : Nat), wrap_i64 (by omega) (by omega), ?_⟩
                          have e1 : w.line.toNat = a1 := by omega
                          have e2 : w.col.toNat = b2 := by omega
                          rw [e1, e2] at g9
                          have hcat : (xs2.take n2 ++ w.text).take (n2 + w.text.length) = xs2.take n2 ++ w.text := List.take_of_length_le (by simp; omega)
                          have hnl : (xs2.take n2).length = n2 := by rw [List.length_take]; omega
                          have g9' : putN 1 1 l = (putN a1 (b2 + w.text.length) (l.drop (k + 1))).map ((pre ++ (gapN a b w ++ w.text)) ++ ·) := by rw [g9]; congr 1; funext x; simp
                          refine And.intro (fun h8 => ?_) (fun h8 => ?_)
                          · have h8 : (8000 : Int) < ((n2 + w.text.length : Nat) : Int) := h8
                            refine ⟨by show (0 : Int) ≤ 0 ∧ (0 : Int) ≤ ((n2 + w.text.length : Nat) : Int); omega, ?_⟩
                            refine ⟨(k : Int) + 1, wrap_i64 (by omega) (by omega), ⟨k + 1, a1, b2 + w.text.length, 1, 0, xs2.take n2 ++ w.text, pre ++ (gapN a b w ++ w.text)⟩, ⟨hk, ⟨q1, q2, by simp only []; omega, by simp only []; omega⟩, by simp, by simp, .inr ⟨rfl, ?_⟩, g9'⟩, ent_of [] [(0, 2)] [] rfl (by (repeat' first | exact trivial | exact rfl | exact ⟨rfl, rfl⟩ | exact .inl rfl | refine ⟨_, rfl, rfl, rfl, ?_⟩ | refine ⟨_, _, rfl, ?_, ?_⟩ | refine ⟨_, rfl, ?_⟩ | refine And.intro ?_ ?_)) (by (repeat' first | exact trivial | exact rfl | exact ⟨rfl, rfl⟩ | exact .inl rfl | refine ⟨_, rfl, rfl, rfl, ?_⟩ | refine ⟨_, _, rfl, ?_, ?_⟩ | refine ⟨_, rfl, ?_⟩ | refine And.intro ?_ ?_)) rfl, by simp only []; omega⟩
                            simp only [List.length_append]
                            rcases g8 with ⟨_, g8⟩ | ⟨_, g8⟩
                            · rw [← g8, List.length_take]; omega
                            · omega
                          · have h8 : ¬ (8000 : Int) < ((n2 + w.text.length : Nat) : Int) := h8
                            refine ⟨(k : Int) + 1, wrap_i64 (by omega) (by omega), ⟨k + 1, a1, b2 + w.text.length, lg, n2 + w.text.length, xs2.take n2 ++ w.text, pre ++ (gapN a b w ++ w.text)⟩, ⟨hk, ⟨q1, q2, by simp only []; omega, by simp only []; omega⟩, by simp only [List.length_append]; omega, by simp only []; omega, ?_, g9'⟩, ent_of [] [(0, 2)] [] rfl (by (repeat' first | exact trivial | exact rfl | exact ⟨rfl, rfl⟩ | exact .inl rfl | refine ⟨_, rfl, rfl, rfl, ?_⟩ | refine ⟨_, _, rfl, ?_, ?_⟩ | refine ⟨_, rfl, ?_⟩ | refine And.intro ?_ ?_)) (by (repeat' first | exact trivial | exact rfl | exact ⟨rfl, rfl⟩ | exact .inl rfl | refine ⟨_, rfl, rfl, rfl, ?_⟩ | refine ⟨_, _, rfl, ?_, ?_⟩ | refine ⟨_, rfl, ?_⟩ | refine And.intro ?_ ?_)) rfl, by simp only []; omega⟩
                            simp only []
                            rcases g8 with ⟨g8', g8⟩ | ⟨g8', g8⟩
                            · exact .inl ⟨g8', by rw [hcat, u5, g8]; simp⟩
                            · exact .inr ⟨g8', by simp only [List.length_append]; omega⟩
              · have h4 : ¬ w.line = a := h4
                have hnb : ¬ (w.line.toNat < a ∨ w.line.toNat = a ∧ w.col.toNat < b) := by omega
                rw [putN, if_neg hnb, Option.map_map] at g9
                refine ⟨JI, fun x => jSl' l k x.a x.b lg x.n, fun x => jHp' x.xs w, fun x => (1 ≤ x.a ∧ x.a ≤ 8000 ∧ 1 ≤ x.b ∧ x.b ≤ 8010) ∧ ¬ (w.line.toNat < x.a ∨ w.line.toNat = x.a ∧ w.col.toNat < x.b) ∧ x.n ≤ x.xs.length ∧ x.xs.take x.n ++ gapN x.a x.b w = xs.take n ++ gapN a b w, fun x => w.line.toNat - x.a, ?_, ?_⟩
                · exact ⟨⟨a, b, n, xs⟩, ⟨⟨g2, g3, g4, g5⟩, hnb, g6, rfl⟩, ent_of [] [] [] rfl (by (repeat' first | exact trivial | exact rfl | exact ⟨rfl, rfl⟩ | exact .inl rfl | refine ⟨_, rfl, rfl, rfl, ?_⟩ | refine ⟨_, _, rfl, ?_, ?_⟩ | refine ⟨_, rfl, ?_⟩ | refine And.intro ?_ ?_)) (by (repeat' first | exact trivial | exact rfl | exact ⟨rfl, rfl⟩ | exact .inl rfl | refine ⟨_, rfl, rfl, rfl, ?_⟩ | refine ⟨_, _, rfl, ?_, ?_⟩ | refine ⟨_, rfl, ?_⟩ | refine And.intro ?_ ?_)) rfl⟩
                · rintro ⟨a1, b1, n1, xs1⟩ ⟨⟨q1, q2, q3, q4⟩, q5, q6, q7⟩
                  simp only [] at q1 q2 q3 q4 q5 q6 q7
                  have hl1 := congrArg List.length q7
                  simp only [List.length_append, List.length_take, Nat.min_eq_left q6, Nat.min_eq_left g6] at hl1
                  refine And.intro (fun h6 => ?_) (fun h6 => ?_)
                  · have h6 : (a1 : Int) < w.line := h6
                    refine ⟨by show 0 + 1 ≤ 1; omega, [ub 10], rfl, ?_⟩
                    refine ⟨by show 0 + n1 ≤ (xs1.map ub).length; rw [List.length_map]; omega, (xs1.take n1).map ub, takeUbN, by show (n1 + 1) * 1 ≤ 140737488355328; omega, (xs1.take n1 ++ [10]).map ub, by simp, ?_⟩
                    refine ⟨(a1 : Int) + 1, wrap_i64 (by omega) (by omega), ⟨a1 + 1, 1, n1 + 1, xs1.take n1 ++ [10]⟩, ⟨⟨by simp only []; omega, by simp only []; omega, by simp only []; omega, by simp only []; omega⟩, by simp only []; omega, by simp; omega, ?_⟩, ent_of [] [(0, 3)] [] rfl (by (repeat' first | exact trivial | exact rfl | exact ⟨rfl, rfl⟩ | exact .inl rfl | refine ⟨_, rfl, rfl, rfl, ?_⟩ | refine ⟨_, _, rfl, ?_, ?_⟩ | refine ⟨_, rfl, ?_⟩ | refine And.intro ?_ ?_)) (by (repeat' first | exact trivial | exact rfl | exact ⟨rfl, rfl⟩ | exact .inl rfl | refine ⟨_, rfl, rfl, rfl, ?_⟩ | refine ⟨_, _, rfl, ?_, ?_⟩ | refine ⟨_, rfl, ?_⟩ | refine And.intro ?_ ?_)) rfl, by simp only []; omega⟩
                    simp only []
                    rw [← q7, gap_line (l := a1) (c := b1) (by omega), List.take_of_length_le (by simp; omega)]
                    simp
                  · have h6 : ¬ (a1 : Int) < w.line := h6
                    refine ⟨JI, fun x => jSl' l k a1 x.b lg x.n, fun x => jHp' x.xs w, fun x => (1 ≤ x.b ∧ x.b ≤ 8010) ∧ ¬ w.col.toNat < x.b ∧ x.n ≤ x.xs.length ∧ x.xs.take x.n ++ gapN a1 x.b w = xs.take n ++ gapN a b w, fun x => w.col.toNat - x.b, ?_, ?_⟩
                    · exact ⟨⟨a1, b1, n1, xs1⟩, ⟨⟨q3, q4⟩, by simp only []; omega, q6, q7⟩, ent_of [] [] [] rfl (by (repeat' first | exact trivial | exact rfl | exact ⟨rfl, rfl⟩ | exact .inl rfl | refine ⟨_, rfl, rfl, rfl, ?_⟩ | refine ⟨_, _, rfl, ?_, ?_⟩ | refine ⟨_, rfl, ?_⟩ | refine And.intro ?_ ?_)) (by (repeat' first | exact trivial | exact rfl | exact ⟨rfl, rfl⟩ | exact .inl rfl | refine ⟨_, rfl, rfl, rfl, ?_⟩ | refine ⟨_, _, rfl, ?_, ?_⟩ | refine ⟨_, rfl, ?_⟩ | refine And.intro ?_ ?_)) rfl⟩
                    · rintro ⟨a2, b2, n2, xs2⟩ ⟨⟨u1, u2⟩, u3, u4, u5⟩
                      simp only [] at u1 u2 u3 u4 u5
                      have hl2 := congrArg List.length u5
                      simp only [List.length_append, List.length_take, Nat.min_eq_left u4, Nat.min_eq_left g6] at hl2
                      refine And.intro (fun h7 => ?_) (fun h7 => ?_)
                      · have h7 : (b2 : Int) < w.col := h7
                        refine ⟨by show 0 + 1 ≤ 1; omega, [ub 32], rfl, ?_⟩
                        refine ⟨by show 0 + n2 ≤ (xs2.map ub).length; rw [List.length_map]; omega, (xs2.take n2).map ub, takeUbN, by show (n2 + 1) * 1 ≤ 140737488355328; omega, (xs2.take n2 ++ [32]).map ub, by simp, ?_⟩
                        refine ⟨(b2 : Int) + 1, wrap_i64 (by omega) (by omega), ⟨0, b2 + 1, n2 + 1, xs2.take n2 ++ [32]⟩, ⟨⟨by simp only []; omega, by simp only []; omega⟩, by simp only []; omega, by simp; omega, ?_⟩, ent_of [] [(0, 3)] [] rfl (by (repeat' first | exact trivial | exact rfl | exact ⟨rfl, rfl⟩ | exact .inl rfl | refine ⟨_, rfl, rfl, rfl, ?_⟩ | refine ⟨_, _, rfl, ?_, ?_⟩ | refine ⟨_, rfl, ?_⟩ | refine And.intro ?_ ?_)) (by (repeat' first | exact trivial | exact rfl | exact ⟨rfl, rfl⟩ | exact .inl rfl | refine ⟨_, rfl, rfl, rfl, ?_⟩ | refine ⟨_, _, rfl, ?_, ?_⟩ | refine ⟨_, rfl, ?_⟩ | refine And.intro ?_ ?_)) rfl, by simp only []; omega⟩
                        simp only []
                        rw [← u5, gap_col (l := a1) (c := b2) (by omega) (by omega), List.take_of_length_le (by simp; omega)]
                        simp
                      · have h7 : ¬ (b2 : Int) < w.col := h7
                        rw [gap_end (l := a1) (c := b2) (by omega) (by omega), List.append_nil] at u5
                        refine ⟨by show 0 + n2 ≤ (xs2.map ub).length; rw [List.length_map]; omega, (xs2.take n2).map ub, takeUbN, by show (n2 + w.text.length) * 1 ≤ 140737488355328; omega, (xs2.take n2 ++ w.text).map ub, by simp, ?_⟩
                        refine ⟨(b2 : Int) + (w.text.length : Nat), wrap_i64 (by omega) (by omega), ?_⟩
                        have e1 : w.line.toNat = a1 := by omega
                        have e2 : w.col.toNat = b2 := by omega
                        rw [e1, e2] at g9
                        have hcat : (xs2.take n2 ++ w.text).take (n2 + w.text.length) = xs2.take n2 ++ w.text := List.take_of_length_le (by simp; omega)
                        have hnl : (xs2.take n2).length = n2 := by rw [List.length_take]; omega
                        have g9' : putN 1 1 l = (putN a1 (b2 + w.text.length) (l.drop (k + 1))).map ((pre ++ (gapN a b w ++ w.text)) ++ ·) := by rw [g9]; congr 1; funext x; simp
                        refine And.intro (fun h8 => ?_) (fun h8 => ?_)
                        · have h8 : (8000 : Int) < ((n2 + w.text.length : Nat) : Int) := h8
                          refine ⟨by show (0 : Int) ≤ 0 ∧ (0 : Int) ≤ ((n2 + w.text.length : Nat) : Int); omega, ?_⟩
                          refine ⟨(k : Int) + 1, wrap_i64 (by omega) (by omega), ⟨k + 1, a1, b2 + w.text.length, 1, 0, xs2.take n2 ++ w.text, pre ++ (gapN a b w ++ w.text)⟩, ⟨hk, ⟨q1, q2, by simp only []; omega, by simp only []; omega⟩, by simp, by simp, .inr ⟨rfl, ?_⟩, g9'⟩, ent_of [] [(0, 2)] [] rfl (by (repeat' first | exact trivial | exact rfl | exact ⟨rfl, rfl⟩ | exact .inl rfl | refine ⟨_, rfl, rfl, rfl, ?_⟩ | refine ⟨_, _, rfl, ?_, ?_⟩ | refine ⟨_, rfl, ?_⟩ | refine And.intro ?_ ?_)) (by (repeat' first | exact trivial | exact rfl | exact ⟨rfl, rfl⟩ | exact .inl rfl | refine ⟨_, rfl, rfl, rfl, ?_⟩ | refine ⟨_, _, rfl, ?_, ?_⟩ | refine ⟨_, rfl, ?_⟩ | refine And.intro ?_ ?_)) rfl, by simp only []; omega⟩
                          simp only [List.length_append]
                          rcases g8 with ⟨_, g8⟩ | ⟨_, g8⟩
                          · rw [← g8, List.length_take]; omega
                          · omega
                        · have h8 : ¬ (8000 : Int) < ((n2 + w.text.length : Nat) : Int) := h8
                          refine ⟨(k : Int) + 1, wrap_i64 (by omega) (by omega), ⟨k + 1, a1, b2 + w.text.length, lg, n2 + w.text.length, xs2.take n2 ++ w.text, pre ++ (gapN a b w ++ w.text)⟩, ⟨hk, ⟨q1, q2, by simp only []; omega, by simp only []; omega⟩, by simp only [List.length_append]; omega, by simp only []; omega, ?_, g9'⟩, ent_of [] [(0, 2)] [] rfl (by (repeat' first | exact trivial | exact rfl | exact ⟨rfl, rfl⟩ | exact .inl rfl | refine ⟨_, rfl, rfl, rfl, ?_⟩ | refine ⟨_, _, rfl, ?_, ?_⟩ | refine ⟨_, rfl, ?_⟩ | refine And.intro ?_ ?_)) (by (repeat' first | exact trivial | exact rfl | exact ⟨rfl, rfl⟩ | exact .inl rfl | refine ⟨_, rfl, rfl, rfl, ?_⟩ | refine ⟨_, _, rfl, ?_, ?_⟩ | refine ⟨_, rfl, ?_⟩ | refine And.intro ?_ ?_)) rfl, by simp only []; omega⟩
                          simp only []
                          rcases g8 with ⟨g8', g8⟩ | ⟨g8', g8⟩
                          · exact .inl ⟨g8', by rw [hcat, u5, g8]; simp⟩
                          · exact .inr ⟨g8', by simp only [List.length_append]; omega⟩
          · have h2 : ¬ (k : Int) < ((l.map Wd.cells).length : Nat) := h2
            rw [List.length_map] at h2
            rw [List.drop_eq_nil_of_le (by omega)] at g9
            have hput : putN 1 1 l = some pre := by rw [g9]; simp [putN]
            refine Or.elim g8 (fun g8' => ?_) (fun g8' => ?_)
            · clear g8
              obtain ⟨rfl, g8⟩ := g8'
              refine And.intro (fun h3 => ?_) (fun h3 => ?_)
              · have h3 : (0 : Int) < (0 : Nat) := h3
                omega
              · refine And.intro (fun h4 => ?_) (fun h4 => ?_)
                · have h4 : (8000 : Int) < n := h4
                  omega
                · obtain ⟨T, hTp⟩ : ∃ T, T = pre := ⟨_, rfl⟩
                  rw [← hTp] at hput g8
                  have hTl : T.length = n := by rw [← g8, List.length_take]; omega
                  have hstr : ((xs.map ub).drop 0).take n = T.map ub := by rw [List.drop_zero, ← List.map_take, g8]
                  refine ⟨_, ⟨by show 0 + n ≤ (xs.map ub).length; rw [List.length_map]; omega, T, hstr, rfl⟩, ?_⟩
                  refine Or.elim (rdC (readR T)) (fun hn => Exists.elim hn fun ws hrd => ?_) (fun hn => Exists.elim hn fun p hn => Exists.elim hn fun c hrd => ?_)
                  · have hR := rRead_c T
                    rw [show readV T = [.lsts 4 (ws.map Wd.cells), i64 0, i64 0, i64 0] by rw [readV, if_neg (by omega), hrd]] at hR
                    refine hR.eq rfl ?_
                    refine And.intro (fun h5 => ?_) (fun h5 => absurd (show (0 : Int) = 0 from rfl) h5)
                    have hE := same_c ws l (by have := readR_ok hrd; omega) (by omega)
                    by_cases he : ws = l
                    · rw [decide_eq_true he] at hE
                      refine hE.eq rfl ?_
                      refine ⟨_, ⟨by show 0 + n ≤ (xs.map ub).length; rw [List.length_map]; omega, T, hstr, rfl⟩, ?_⟩
                      exact end2 _ _ rfl rfl rfl (joinV_of (by rw [joinN, if_neg (by omega), if_neg hall', hput]; simp only []; rw [if_neg (by omega), hrd]; simp only []; rw [if_pos he]))
                    · rw [decide_eq_false he] at hE
                      refine hE.eq rfl ?_
                      exact end2 _ _ rfl rfl rfl (joinV_of (by rw [joinN, if_neg (by omega), if_neg hall', hput]; simp only []; rw [if_neg (by omega), hrd]; simp only []; rw [if_neg he]))
                  · have hR := rRead_c T
                    rw [show readV T = [.lsts 4 [], i64 p.1, i64 p.2, i64 c] by rw [readV, if_neg (by omega), hrd]] at hR
                    refine hR.eq rfl ?_
                    have hc0 := readR_err hrd
                    refine And.intro (fun h5 => ?_) (fun h5 => ?_)
                    · have h5 : c = 0 := h5
                      omega
                    · exact end2 _ _ rfl rfl rfl (joinV_of (by rw [joinN, if_neg (by omega), if_neg hall', hput]; simp only []; rw [if_neg (by omega), hrd]))
            · clear g8
              obtain ⟨rfl, g8⟩ := g8'
              refine And.intro (fun h3 => ?_) (fun h3 => ?_)
              · exact end2 _ _ rfl rfl rfl (joinV_of (by rw [joinN, if_neg (by omega), if_neg hall', hput]; simp only []; rw [if_pos (by omega)]))
              · have h3 : ¬ (0 : Int) < (1 : Nat) := h3
                omega
end Go.Proofs.YtemlkodkohgmmaaDoor

/- The statements' helpers, and the chapter's examples. -/
namespace Go.Proofs.YtemlkodkohgmmaaDoor
open Go Y
set_option maxRecDepth 100000
set_option maxHeartbeats 4000000

/-- What Read returns: words, line, column, error. -/
def readT (s : List UInt8) : List Wd × Int × Int × Int :=
  if 8000 < s.length then ([], 0, 0, 3)
  else match readR s with
    | .ok ws => (ws, 0, 0, 0)
    | .err p c => ([], p.1, p.2, c)
theorem readV_T (s : List UInt8) : readV s = [.lsts 4 ((readT s).1.map Wd.cells), i64 (readT s).2.1, i64 (readT s).2.2.1, i64 (readT s).2.2.2] := by
  unfold readV readT
  by_cases h8 : 8000 < s.length
  · rw [if_pos h8, if_pos h8]; rfl
  · rw [if_neg h8, if_neg h8]
    cases readR s <;> rfl
theorem readT_len (s : List UInt8) : (readT s).1.length ≤ 1500 := by
  unfold readT
  split
  · simp
  · split
    · rename_i h; exact readR_ok h
    · simp
theorem readW_c (s : List UInt8) : Pure cx 10 [.str s] (· = .ret [.lsts 4 ((readT s).1.map Wd.cells), i64 (readT s).2.1, i64 (readT s).2.2.1, i64 (readT s).2.2.2]) := by
  rw [← readV_T]; exact read_c s
theorem rReadW_c (s : List UInt8) : Pure cx 11 [.str s] (· = .ret [.lsts 4 ((readT s).1.map Wd.cells), i64 (readT s).2.1, i64 (readT s).2.2.1, i64 (readT s).2.2.2]) := by
  rw [← readV_T]; exact rRead_c s

theorem lawWord_c (k : Int) (t : List UInt8) (l c : Int) : Pure cx 27 [i64 k, .str t, i64 l, i64 c] (· = .ret [.agg (Wd.mk k t l c).cells]) := by
  refine pure_of_vc Tryd.func27 rfl rfl rfl ?_
  exact end1 _ rfl rfl rfl

def givesN (s : List UInt8) (ws : List Wd) : Bool := decide (readT s = (ws, 0, 0, 0))
theorem gives_c (s : List UInt8) (ws : List Wd) (hw : ws.length ≤ 100000) : Pure cx 18 [.str s, .lsts 4 (ws.map Wd.cells)] (· = .ret [.bool (givesN s ws)]) := by
  refine pure_of_vc Tryd.func18 rfl rfl rfl ?_
  have hr := readW_c s
  have hn := readT_len s
  have hg : givesN s ws = decide (readT s = (ws, 0, 0, 0)) := rfl
  generalize readT s = r at hr hg hn
  obtain ⟨us, a, b, e⟩ := r
  simp only [] at hr hn
  refine hr.eq rfl ?_
  refine And.intro (fun h1 => ?_) (fun h1 => ?_)
  · have h1 : e = 0 := h1
    refine And.intro (fun h2 => ?_) (fun h2 => ?_)
    · have h2 : a = 0 := h2
      refine And.intro (fun h3 => ?_) (fun h3 => ?_)
      · have h3 : b = 0 := h3
        refine (same_c us ws (by omega) hw).eq rfl ?_
        exact end1 _ rfl rfl (retB (by rw [hg, h1, h2, h3]; simp))
      · have h3 : ¬ b = 0 := h3
        exact end1 _ rfl rfl (retB (by rw [hg]; simp [h3]))
    · have h2 : ¬ a = 0 := h2
      exact end1 _ rfl rfl (retB (by rw [hg]; simp [h2]))
  · have h1 : ¬ e = 0 := h1
    exact end1 _ rfl rfl (retB (by rw [hg]; simp [h1]))

def refusedN (s : List UInt8) (i j c : Int) : Bool := decide (readT s = ([], i, j, c))
theorem refused_c (s : List UInt8) (i j c : Int) : Pure cx 19 [.str s, i64 i, i64 j, i64 c] (· = .ret [.bool (refusedN s i j c)]) := by
  refine pure_of_vc Tryd.func19 rfl rfl rfl ?_
  have hr := readW_c s
  have hg : refusedN s i j c = decide (readT s = ([], i, j, c)) := rfl
  generalize readT s = r at hr hg
  obtain ⟨us, a, b, e⟩ := r
  simp only [] at hr
  refine hr.eq rfl ?_
  refine And.intro (fun h1 => ?_) (fun h1 => ?_)
  · have h1 : (((us.map Wd.cells).length : Nat) : Int) = 0 := h1
    rw [List.length_map] at h1
    have h1 : us = [] := List.eq_nil_of_length_eq_zero (by omega)
    refine And.intro (fun h2 => ?_) (fun h2 => ?_)
    · have h2 : a = i := h2
      refine And.intro (fun h3 => ?_) (fun h3 => ?_)
      · have h3 : b = j := h3
        refine And.intro (fun h4 => ?_) (fun h4 => ?_)
        · have h4 : e = c := h4
          exact end1 _ rfl rfl (retB (by rw [hg, h1, h2, h3, h4]; simp))
        · have h4 : ¬ e = c := h4
          exact end1 _ rfl rfl (retB (by rw [hg]; simp [h4]))
      · have h3 : ¬ b = j := h3
        exact end1 _ rfl rfl (retB (by rw [hg]; simp [h3]))
    · have h2 : ¬ a = i := h2
      exact end1 _ rfl rfl (retB (by rw [hg]; simp [h2]))
  · have h1 : ¬ (((us.map Wd.cells).length : Nat) : Int) = 0 := h1
    rw [List.length_map] at h1
    exact end1 _ rfl rfl (retB (by rw [hg, eq_comm, decide_eq_false_iff_not]; intro e; injection e with e; subst e; exact h1 rfl))

def joinsN (t : List UInt8) (l : List Wd) : Bool := decide (joinN l = (t, 0))
theorem joins_c (t : List UInt8) (l : List Wd) (ht : ∀ w ∈ l, w.text.length ≤ 100000) : Pure cx 31 [.str t, .lsts 4 (l.map Wd.cells)] (· = .ret [.bool (joinsN t l)]) := by
  refine pure_of_vc Tryd.func31 rfl rfl rfl ?_
  have hr := join_c l ht
  have hg : joinsN t l = decide (joinN l = (t, 0)) := rfl
  rw [joinV] at hr
  generalize joinN l = r at hr hg
  obtain ⟨u, e⟩ := r
  simp only [] at hr
  refine hr.eq rfl ?_
  refine And.intro (fun h1 => ?_) (fun h1 => ?_)
  · have h1 : u = t := h1
    refine And.intro (fun h2 => ?_) (fun h2 => ?_)
    · have h2 : e = 0 := h2
      exact end1 _ rfl rfl (retB (by rw [hg, h1, h2]; simp))
    · have h2 : ¬ e = 0 := h2
      exact end1 _ rfl rfl (retB (by rw [hg]; simp [h2]))
  · have h1 : ¬ u = t := h1
    exact end1 _ rfl rfl (retB (by rw [hg]; simp [h1]))
theorem apart_c (l : List Wd) (ht : ∀ w ∈ l, w.text.length ≤ 100000) : Pure cx 30 [.lsts 4 (l.map Wd.cells)] (· = .ret [i64 (joinN l).2]) := by
  refine pure_of_vc Tryd.func30 rfl rfl rfl ?_
  refine (join_c l ht).eq rfl ?_
  exact end1 _ rfl rfl rfl
end Go.Proofs.YtemlkodkohgmmaaDoor

/- The chapter's examples. -/
namespace Go.Proofs.YtemlkodkohgmmaaDoor
open Go Y
set_option maxRecDepth 100000
set_option maxHeartbeats 4000000

theorem works_c : Pure cx 13 [] (· = .ret [.bool true]) := by
  have e0 : givesN [110, 111, 100, 101, 32, 97, 50, 58, 51] [⟨2, [110, 111, 100, 101], 1, 1⟩, ⟨1, [97, 50], 1, 6⟩, ⟨4, [58], 1, 8⟩, ⟨3, [51], 1, 9⟩] = true := by decide
  have e1 : givesN [120, 45, 45, 121, 10, 32, 40, 42, 97, 40, 42, 98, 42, 41, 99, 42, 41, 60, 61, 46, 46] [⟨1, [120], 1, 1⟩, ⟨4, [60, 61], 2, 13⟩, ⟨4, [46, 46], 2, 15⟩] = true := by decide
  have e2 : givesN [45, 32, 45] [⟨4, [45], 1, 1⟩, ⟨4, [45], 1, 3⟩] = true := by decide
  have e3 : givesN [45, 45] [] = true := by decide
  have e4 : refusedN [97, 32, 40, 42, 32, 98, 32, 40, 42, 32, 99, 32, 42, 41] 1 3 370 = true := by decide
  have e5 : refusedN [40, 42, 41] 1 1 370 = true := by decide
  have e6 : refusedN [97, 32, 47, 98] 1 3 370 = true := by decide
  have e7 : refusedN [48, 48, 55] 1 1 370 = true := by decide
  have e8 : refusedN [49, 97] 1 1 370 = true := by decide
  have e9 : refusedN [97, 98, 99, 100, 101, 102, 103, 104, 105, 106, 107] 1 1 370 = true := by decide
  have e10 : joinsN [10, 32, 32, 120, 61] [⟨1, [120], 2, 3⟩, ⟨4, [61], 2, 4⟩] = true := by decide
  have e11 : joinsN [] [] = true := by decide
  have e12 : (joinN [⟨1, [120], 1, 1⟩, ⟨1, [121], 1, 2⟩]).2 = 371 := by decide
  have e13 : (joinN [⟨4, [45], 1, 1⟩, ⟨4, [45], 1, 2⟩]).2 = 371 := by decide
  have e14 : (joinN [⟨1, [120], 1, 2⟩, ⟨1, [121], 1, 1⟩]).2 = 371 := by decide
  have e15 : (joinN [⟨2, [110, 111, 100], 1, 1⟩]).2 = 370 := by decide
  refine pure_of_vc Tryd.func13 rfl rfl rfl ?_
  refine (lawWord_c 2 [110, 111, 100, 101] 1 1).eq rfl ?_
  refine (lawWord_c 1 [97, 50] 1 6).eq rfl ?_
  refine (lawWord_c 4 [58] 1 8).eq rfl ?_
  refine (lawWord_c 3 [51] 1 9).eq rfl ?_
  have g := gives_c [110, 111, 100, 101, 32, 97, 50, 58, 51] [⟨2, [110, 111, 100, 101], 1, 1⟩, ⟨1, [97, 50], 1, 6⟩, ⟨4, [58], 1, 8⟩, ⟨3, [51], 1, 9⟩] (by decide)
  rw [e0] at g
  refine g.lends [0] rfl ⟨_, _, rfl, rfl, _, _, rfl, ⟨_, rfl, by decide, rfl⟩, rfl⟩ ?_
  clear g
  refine (lawWord_c 1 [120] 1 1).eq rfl ?_
  refine (lawWord_c 4 [60, 61] 2 13).eq rfl ?_
  refine (lawWord_c 4 [46, 46] 2 15).eq rfl ?_
  have g := gives_c [120, 45, 45, 121, 10, 32, 40, 42, 97, 40, 42, 98, 42, 41, 99, 42, 41, 60, 61, 46, 46] [⟨1, [120], 1, 1⟩, ⟨4, [60, 61], 2, 13⟩, ⟨4, [46, 46], 2, 15⟩] (by decide)
  rw [e1] at g
  refine g.lends [1] rfl ⟨_, _, rfl, rfl, _, _, rfl, ⟨_, rfl, by decide, rfl⟩, rfl⟩ ?_
  clear g
  refine (lawWord_c 4 [45] 1 1).eq rfl ?_
  refine (lawWord_c 4 [45] 1 3).eq rfl ?_
  have g := gives_c [45, 32, 45] [⟨4, [45], 1, 1⟩, ⟨4, [45], 1, 3⟩] (by decide)
  rw [e2] at g
  refine g.lends [2] rfl ⟨_, _, rfl, rfl, _, _, rfl, ⟨_, rfl, by decide, rfl⟩, rfl⟩ ?_
  clear g
  have g := gives_c [45, 45] [] (by decide)
  rw [e3] at g
  refine g.lends [] rfl ⟨_, _, rfl, rfl, _, _, rfl, .inr (.inr ⟨4, rfl⟩), rfl⟩ ?_
  clear g
  have g := refused_c [97, 32, 40, 42, 32, 98, 32, 40, 42, 32, 99, 32, 42, 41] 1 3 370
  rw [e4] at g
  refine g.eq rfl ?_
  clear g
  have g := refused_c [40, 42, 41] 1 1 370
  rw [e5] at g
  refine g.eq rfl ?_
  clear g
  have g := refused_c [97, 32, 47, 98] 1 3 370
  rw [e6] at g
  refine g.eq rfl ?_
  clear g
  have g := refused_c [48, 48, 55] 1 1 370
  rw [e7] at g
  refine g.eq rfl ?_
  clear g
  have g := refused_c [49, 97] 1 1 370
  rw [e8] at g
  refine g.eq rfl ?_
  clear g
  have g := refused_c [97, 98, 99, 100, 101, 102, 103, 104, 105, 106, 107] 1 1 370
  rw [e9] at g
  refine g.eq rfl ?_
  clear g
  refine (lawWord_c 1 [120] 2 3).eq rfl ?_
  refine (lawWord_c 4 [61] 2 4).eq rfl ?_
  have g := joins_c [10, 32, 32, 120, 61] [⟨1, [120], 2, 3⟩, ⟨4, [61], 2, 4⟩] (by decide)
  rw [e10] at g
  refine g.lends [3] rfl ⟨_, _, rfl, rfl, _, _, rfl, ⟨_, rfl, by decide, rfl⟩, rfl⟩ ?_
  clear g
  have g := joins_c [] [] (by decide)
  rw [e11] at g
  refine g.lends [] rfl ⟨_, _, rfl, rfl, _, _, rfl, .inr (.inr ⟨4, rfl⟩), rfl⟩ ?_
  clear g
  refine (lawWord_c 1 [120] 1 1).eq rfl ?_
  refine (lawWord_c 1 [121] 1 2).eq rfl ?_
  have g := apart_c [⟨1, [120], 1, 1⟩, ⟨1, [121], 1, 2⟩] (by decide)
  rw [e12] at g
  refine g.lends [4] rfl ⟨_, _, rfl, ⟨_, rfl, by decide, rfl⟩, rfl⟩ ?_
  refine And.intro (fun h => ?_) (fun h => absurd (show (371 : Int) = 371 from rfl) h)
  clear g h
  refine (lawWord_c 4 [45] 1 1).eq rfl ?_
  refine (lawWord_c 4 [45] 1 2).eq rfl ?_
  have g := apart_c [⟨4, [45], 1, 1⟩, ⟨4, [45], 1, 2⟩] (by decide)
  rw [e13] at g
  refine g.lends [5] rfl ⟨_, _, rfl, ⟨_, rfl, by decide, rfl⟩, rfl⟩ ?_
  refine And.intro (fun h => ?_) (fun h => absurd (show (371 : Int) = 371 from rfl) h)
  clear g h
  refine (lawWord_c 1 [120] 1 2).eq rfl ?_
  refine (lawWord_c 1 [121] 1 1).eq rfl ?_
  have g := apart_c [⟨1, [120], 1, 2⟩, ⟨1, [121], 1, 1⟩] (by decide)
  rw [e14] at g
  refine g.lends [6] rfl ⟨_, _, rfl, ⟨_, rfl, by decide, rfl⟩, rfl⟩ ?_
  refine And.intro (fun h => ?_) (fun h => absurd (show (371 : Int) = 371 from rfl) h)
  clear g h
  refine (lawWord_c 2 [110, 111, 100] 1 1).eq rfl ?_
  have g := apart_c [⟨2, [110, 111, 100], 1, 1⟩] (by decide)
  rw [e15] at g
  refine g.lends [7] rfl ⟨_, _, rfl, ⟨_, rfl, by decide, rfl⟩, rfl⟩ ?_
  refine And.intro (fun h => ?_) (fun h => absurd (show (370 : Int) = 370 from rfl) h)
  clear g h
  exact end1 _ rfl rfl rfl
end Go.Proofs.YtemlkodkohgmmaaDoor

/- Arguments and listed variables, read as data. -/
namespace Go.Proofs.YtemlkodkohgmmaaDoor.Y
open Go

/-- The parts of a struct or an array, with their offsets. -/
def partsOf (P : Program) (t : TypeId) : Option (List (TypeId × Nat)) :=
  match P.underlying t with
  | some (.struct fs) => some (fs.toList.map fun f => (f.type, f.offset))
  | some (.array k e) => some ((List.range k).map fun i => (e, i * P.cellsOf e))
  | _ => none
def tiles (P : Program) : List (TypeId × Nat) → Nat → Option Nat
  | [], o => some o
  | f :: r, o => if f.2 = o then tiles P r (o + P.cellsOf f.1) else none
theorem tiles_le {P : Program} : ∀ {l : List (TypeId × Nat)} {o n : Nat}, tiles P l o = some n → o ≤ n
  | [], o, n, h => by simp only [tiles, Option.some.injEq] at h; omega
  | f :: r, o, n, h => by
    simp only [tiles] at h
    split at h
    · have := tiles_le h; omega
    · cases h

def basic : TypeDesc → Bool
  | .bool => true
  | .int _ => true
  | .string => true
  | _ => false

/-- Types of plain data: what the readings below cover. -/
def supp (P : Program) : Nat → TypeId → Bool
  | 0, _ => false
  | n + 1, t => match partsOf P t with
    | some l => decide (tiles P l 0 = some (P.cellsOf t)) && l.all fun f => supp P n f.1
    | none => match P.underlying t with
      | some (.slice e) => decide (0 < P.cellsOf e) && supp P n e
      | some d => basic d
      | none => false

def Flds (P : Program) (p : TypeId → List PV → Prop) : List (TypeId × Nat) → List PV → Prop
  | [], xs => xs = []
  | f :: r, xs => ∃ ys zs, xs = ys ++ zs ∧ ys.length = P.cellsOf f.1 ∧ p f.1 ys ∧ Flds P p r zs

/-- The cells of a value of a type. -/
def TyT (P : Program) : Nat → TypeId → List PV → Prop
  | 0, _, _ => False
  | m + 1, t, xs => match partsOf P t with
    | some l => Flds P (TyT P m) l xs
    | none => match P.underlying t with
      | some .bool => ∃ b, xs = [.bool b]
      | some (.int k) => ∃ n, xs = [.int k n] ∧ (Lit.int k n).wf = true
      | some .string => ∃ s, xs = [.str s] ∧ s.length ≤ maxLen
      | some (.slice e) => match Nat.beq (P.cellsOf e) 1 with
        | true => ∃ ys, xs = [.lst ys] ∧ ys.length ≤ maxLen ∧ ∀ y ∈ ys, TyT P m e [y]
        | false => ∃ yss, xs = [.lsts (P.cellsOf e) yss] ∧ yss.length ≤ maxLen ∧ ∀ ys ∈ yss, TyT P m e ys
      | _ => False

section
variable {H : Type} {enc : TypeId × Value → H} {P : Program} {W : World} {sp : Nat → Bool} {held : Bool}

/-- Cells of a block, one after the other. -/
theorem cells_take {a : Addr} {n : Nat} {cs : List Value} (hn : 0 < n) (h : W.cells? 0 a n = some cs) :
    ∃ c t z, W.heap[a.block]? = some (.cells c t z) ∧ a.spot = none ∧ cs.length = n ∧ a.off + n ≤ c.toList.length ∧ cs = (c.toList.drop a.off).take n := by
  unfold World.cells? at h
  rw [if_pos (Nat.zero_le _)] at h
  have hl := mapM_some_length h
  rw [List.length_range] at hl
  have hg : ∀ i, i < n → W.cell? (a.add i) = cs[i]? := fun i hi => mapM_some_get h i i (by simp [hi])
  have h0 := hg 0 hn
  have ha : a.add 0 = a := by simp [Addr.add]
  rw [ha, List.getElem?_eq_getElem (by omega)] at h0
  unfold World.cell? at h0
  split at h0
  · rename_i c t z hb
    have hs : a.spot = none := by
      cases hs : a.spot with
      | none => rfl
      | some _ => simp [hs] at h0
    have hcell : ∀ i, i < n → c[a.off + i]? = cs[i]? := by
      intro i hi
      have := hg i hi
      unfold World.cell? at this
      have hblk : (a.add i).block = a.block := by unfold Addr.add; split <;> rfl
      have hsp : (a.add i).spot = none := by unfold Addr.add; split <;> first | exact hs | rfl
      have hoff : (a.add i).off = a.off + i := by unfold Addr.add; split <;> simp_all
      rw [hblk, hb] at this
      simp only [hsp, hoff] at this
      simpa using this
    have hlen : a.off + n ≤ c.toList.length := by
      have := hcell (n - 1) (by omega)
      rw [List.getElem?_eq_getElem (by omega)] at this
      have := (Array.getElem?_eq_some_iff.1 this).1
      simp
      omega
    refine ⟨c, t, z, hb, hs, hl, hlen, ?_⟩
    refine List.ext_getElem? fun i => ?_
    by_cases hi : i < n
    · rw [← hcell i hi, List.getElem?_take_of_lt hi, List.getElem?_drop]
      simp
    · rw [List.getElem?_eq_none (by omega), List.getElem?_eq_none (by simp; omega)]
  · cases h0

def AllCells (fz : Fzn) (W : World) : Prop := ∀ b c t z, W.heap[b]? = some (.cells c t z) → fz b = some c.toList

/-- What a reading says of the cells. -/
def Rd (P : Program) (fz : Fzn) (m : Nat) (t : TypeId) (cs : List Value) : Prop := ∃ xs, VPL fz xs cs ∧ (∀ u ∈ cs, plainV u = true) ∧ TyT P m t xs

theorem flds_of {fz : Fzn} {m : Nat} {cs : List Value} : ∀ (l : List (TypeId × Nat)) (o : Nat), tiles P l o = some cs.length → (∀ f ∈ l, Rd P fz m f.1 ((cs.drop f.2).take (P.cellsOf f.1))) →
    ∃ xs, VPL fz xs (cs.drop o) ∧ (∀ u ∈ cs.drop o, plainV u = true) ∧ Flds P (TyT P m) l xs
  | [], o, ht, _ => by
    simp only [tiles, Option.some.injEq] at ht
    subst ht
    exact ⟨[], by simp [VPL], by simp, rfl⟩
  | f :: r, o, ht, hr => by
    simp only [tiles] at ht
    split at ht
    · rename_i ho
      have hle := tiles_le ht
      obtain ⟨ys, h1, h2, h3⟩ := hr f (by simp)
      obtain ⟨zs, k1, k2, k3⟩ := flds_of r (o + P.cellsOf f.1) ht fun g hg => hr g (by simp [hg])
      rw [ho] at h1 h2
      have e : cs.drop o = (cs.drop o).take (P.cellsOf f.1) ++ cs.drop (o + P.cellsOf f.1) := by
        rw [← List.drop_drop, List.take_append_drop]
      refine ⟨ys ++ zs, ?_, ?_, ys, zs, rfl, ?_, h3, k3⟩
      · rw [e]; exact VPL_append h1 k1
      · rw [e]; intro u hu; rcases List.mem_append.1 hu with hu | hu
        · exact h2 u hu
        · exact k2 u hu
      · rw [← VPL_length h1, List.length_take, List.length_drop]; omega
    · cases ht

theorem parts_trod {t : TypeId} {l : List (TypeId × Nat)} (hp : partsOf P t = some l) {n : Nat} {cs : List Value} {x : DataW H × List MemPlace} (h : DataW.trod enc P W 0 sp held n t cs = some x) :
    ∃ (xs : List (DataW H × List MemPlace)) (k : Nat), n = k + 1 ∧ x = (.agg (xs.map (·.1)), xs.flatMap (·.2)) ∧ cs.length = P.cellsOf t ∧ xs.length = l.length ∧
      ∀ (i : Nat) (f : TypeId × Nat), l[i]? = some f → DataW.trod enc P W 0 sp held k f.1 ((cs.drop f.2).take (P.cellsOf f.1)) = xs[i]? := by
  unfold partsOf at hp
  split at hp
  · rename_i fs hu
    injection hp with hp
    subst hp
    obtain ⟨xs, k, h1, h2, h3, h4, h5⟩ := DataW.trod_struct hu h
    refine ⟨xs, k, h1, h2, h3, by simpa using h4, fun i f hf => ?_⟩
    rw [List.getElem?_map, Option.map_eq_some_iff] at hf
    obtain ⟨g, hg, rfl⟩ := hf
    exact h5 i g (by simpa using hg)
  · rename_i k' e hu
    injection hp with hp
    subst hp
    obtain ⟨xs, k, h1, h2, h3, h4, h5⟩ := DataW.trod_array hu h
    refine ⟨xs, k, h1, h2, h3, by simpa using h4, fun i f hf => ?_⟩
    rw [List.getElem?_map, Option.map_eq_some_iff] at hf
    obtain ⟨j, hj, rfl⟩ := hf
    have hi := (List.getElem?_eq_some_iff.1 hj)
    obtain ⟨hi, hj⟩ := hi
    simp at hi hj
    subst hj
    exact h5 i hi
  · cases hp

theorem flat_singles {l : List (List PV)} (h : ∀ cs ∈ l, cs.length = 1) : l.flatten.length = l.length ∧ ∀ y ∈ l.flatten, [y] ∈ l := by
  induction l with
  | nil => simp
  | cons x r ih =>
    have hx := h x (by simp)
    obtain ⟨y, rfl⟩ : ∃ y, x = [y] := by
      match x, hx with
      | [y], _ => exact ⟨y, rfl⟩
    obtain ⟨h1, h2⟩ := ih fun c hc => h c (by simp [hc])
    refine ⟨by simp [h1], fun z hz => ?_⟩
    simp at hz
    rcases hz with rfl | hz
    · simp
    · have := h2 z (by simpa using hz)
      simp [this]

/-- A READING OF PLAIN DATA is a value of its type. -/
theorem typed_of_trod {fz : Fzn} (hfz : AllCells fz W) : ∀ (m : Nat) (t : TypeId) (n : Nat) (cs : List Value) (x : DataW H × List MemPlace), supp P m t = true → DataW.trod enc P W 0 sp held n t cs = some x → Rd P fz m t cs
  | 0, _, _, _, _, hs, _ => by simp [supp] at hs
  | m + 1, t, n, cs, x, hs, h => by
    have ih := typed_of_trod hfz m
    simp only [supp] at hs
    cases hp : partsOf P t with
    | some l =>
      simp only [hp, Bool.and_eq_true, decide_eq_true_eq, List.all_eq_true] at hs
      obtain ⟨xs, k, h1, h2, h3, h4, h5⟩ := parts_trod hp h
      obtain ⟨ys, g1, g2, g3⟩ := flds_of (fz := fz) (m := m) (cs := cs) l 0 (by rw [h3]; exact hs.1) fun f hf => by
        obtain ⟨i, hi, rfl⟩ := List.getElem_of_mem hf
        have := h5 i _ (List.getElem?_eq_getElem hi)
        rw [List.getElem?_eq_getElem (by omega)] at this
        exact ih _ _ _ _ (hs.2 _ hf) this
      exact ⟨ys, by simpa using g1, by simpa using g2, by simp only [TyT, hp]; exact g3⟩
    | none =>
      simp only [hp] at hs
      cases hu : P.underlying t with
      | none => simp [hu] at hs
      | some d =>
        simp only [hu] at hs
        cases d with
        | bool =>
          obtain ⟨b, rfl, _⟩ := DataW.trod_bool hu h
          exact ⟨[.bool b], by simp [VPL, VP], by simp [plainV], by simp [TyT, hp, hu]⟩
        | int k =>
          obtain ⟨b, rfl, _, hw⟩ := DataW.trod_int hu h
          exact ⟨[.int k b], by simp [VPL, VP], by simp [plainV], by simp [TyT, hp, hu, hw]⟩
        | string =>
          obtain ⟨⟨⟨s⟩⟩, rfl, _, hw⟩ := DataW.trod_string hu h
          exact ⟨[.str s], by simp [VPL, VP], by simp [plainV], by simp only [TyT, hp, hu]; exact ⟨s, rfl, hw⟩⟩
        | slice e =>
          simp only [Bool.and_eq_true, decide_eq_true_eq] at hs
          obtain ⟨hs0, hse⟩ := hs
          have fin : ∀ (v : Value) (len : Nat) (yss : List (List PV)), len ≤ maxLen → yss.length = len → (∀ ys ∈ yss, ys.length = P.cellsOf e ∧ TyT P m e ys) → plainV v = true →
              (yss = [] → ∃ a c, v = .slice a 0 c) → (yss ≠ [] → ∃ b o c arr us, v = .slice (some ⟨b, o, none⟩) len c ∧ len ≤ c ∧ fz b = some arr ∧ VPLL fz (P.cellsOf e) yss us ∧ Seg arr o us) → Rd P fz (m + 1) t [v] := by
            intro v len yss hml hlen hty hpl hnil hcons
            by_cases h1 : P.cellsOf e = 1
            · have hfl := flat_singles (l := yss) fun c hc => by rw [(hty c hc).1, h1]
              refine ⟨[.lst yss.flatten], ?_, by simpa using hpl, ?_⟩
              · simp only [VPL]
                refine ⟨v, [], rfl, ?_, rfl⟩
                simp only [VP]
                by_cases hy : yss = []
                · exact .inl ⟨by simp [hy], hnil hy⟩
                · obtain ⟨b, o, c, arr, us, k1, k2, k3, k4, k5⟩ := hcons hy
                  exact .inr ⟨b, o, c, arr, us, by rw [hfl.1, hlen]; exact k1, by rw [hfl.1, hlen]; exact k2, k3, (VPLL_flat.1 k4).1, k5⟩
              · simp only [TyT, hp, hu, h1]
                exact ⟨_, rfl, by rw [hfl.1, hlen]; exact hml, fun y hy => (hty _ (hfl.2 y hy)).2⟩
            · refine ⟨[.lsts (P.cellsOf e) yss], ?_, by simpa using hpl, ?_⟩
              · simp only [VPL]
                refine ⟨v, [], rfl, ?_, rfl⟩
                simp only [VP]
                by_cases hy : yss = []
                · exact .inl ⟨hy, hnil hy⟩
                · obtain ⟨b, o, c, arr, us, k1, k2, k3, k4, k5⟩ := hcons hy
                  exact .inr ⟨b, o, c, arr, us, by rw [hlen]; exact k1, by rw [hlen]; exact k2, k3, k4, k5⟩
              · have hb : Nat.beq (P.cellsOf e) 1 = false := beq_ne h1
                simp only [TyT, hp, hu, hb]
                exact ⟨_, rfl, by rw [hlen]; exact hml, fun y hy => (hty _ hy).2⟩
          rcases DataW.trod_slice hu h with ⟨rfl, _⟩ | ⟨a, len, cap, elems, rest, n', rfl, rfl, _, _, hlc, hcm, hel, hE, _, _⟩
          · exact fin _ 0 [] (by simp [maxLen]) rfl (by simp) rfl (fun _ => ⟨none, 0, rfl⟩) (by simp)
          · have hcs : ∀ i, i < len → ∃ cs', W.cells? 0 (a.add (i * P.cellsOf e)) (P.cellsOf e) = some cs' ∧ Rd P fz m e cs' := by
              intro i hi
              have := hE i hi
              rw [List.getElem?_eq_getElem (by omega), Option.bind_eq_some_iff] at this
              obtain ⟨cs', h1, h2⟩ := this
              exact ⟨cs', h1, ih _ _ _ _ hse h2⟩
            by_cases hl0 : len = 0
            · subst hl0
              exact fin _ 0 [] (by simp [maxLen]) rfl (by simp) rfl (fun _ => ⟨_, _, rfl⟩) (by simp)
            · obtain ⟨cs0, c1, _⟩ := hcs 0 (by omega)
              have ha : a.add (0 * P.cellsOf e) = a := by simp [Addr.add]
              rw [ha] at c1
              obtain ⟨c, tt, z, hb, hsp, _, _, _⟩ := cells_take hs0 c1
              have key : ∀ k, k ≤ len → ∃ yss us, yss.length = k ∧ VPLL fz (P.cellsOf e) yss us ∧ (∀ u ∈ us, plainV u = true) ∧ (∀ ys ∈ yss, ys.length = P.cellsOf e ∧ TyT P m e ys) ∧ (k ≠ 0 → a.off + k * P.cellsOf e ≤ c.toList.length) ∧ us = (c.toList.drop a.off).take (k * P.cellsOf e) := by
                intro k
                induction k with
                | zero => intro _; exact ⟨[], [], rfl, by simp [VPLL], by simp, by simp, by simp, by simp⟩
                | succ k ihk =>
                  intro hk
                  obtain ⟨yss, us, k1, k2, k3, k4, k5, k6⟩ := ihk (by omega)
                  obtain ⟨cs', d1, ys, d2, d3, d4⟩ := hcs k (by omega)
                  obtain ⟨c', tt', z', e1, e2, e3, e4, e5⟩ := cells_take hs0 d1
                  have hblk : (a.add (k * P.cellsOf e)).block = a.block := by unfold Addr.add; split <;> rfl
                  have hoff : (a.add (k * P.cellsOf e)).off = a.off + k * P.cellsOf e := by unfold Addr.add; split <;> simp_all
                  rw [hblk, hb] at e1
                  simp only [Option.some.injEq, Obj.cells.injEq] at e1
                  obtain ⟨rfl, _, _⟩ := e1
                  rw [hoff] at e4 e5
                  have hys : ys.length = P.cellsOf e := by rw [← VPL_length d2, e3]
                  have hf := VPLL_flat.1 k2
                  refine ⟨yss ++ [ys], us ++ cs', by simp [k1], VPLL_flat.2 ⟨?_, ?_⟩, ?_, ?_, fun _ => by rw [Nat.succ_mul]; omega, ?_⟩
                  · simpa using VPL_append hf.1 d2
                  · intro q hq; rcases List.mem_append.1 hq with hq | hq
                    · exact hf.2 q hq
                    · simp at hq; subst hq; exact hys
                  · intro u hu; rcases List.mem_append.1 hu with hu | hu
                    · exact k3 u hu
                    · exact d3 u hu
                  · intro q hq; rcases List.mem_append.1 hq with hq | hq
                    · exact k4 q hq
                    · simp at hq; subst hq; exact ⟨hys, d4⟩
                  · rw [k6, e5, Nat.succ_mul, List.take_add, List.drop_drop]
              obtain ⟨yss, us, k1, k2, k3, k4, k5, k6⟩ := key len (Nat.le_refl _)
              have k5 := k5 hl0
              have hne : yss ≠ [] := by intro e; subst e; simp at k1; omega
              refine fin _ len yss (by omega) k1 k4 rfl (fun e => absurd e hne) fun _ => ⟨a.block, a.off, cap, c.toList, us, ?_, hlc, hfz _ _ _ _ hb, k2, ?_⟩
              · obtain ⟨ab, ao, asp⟩ := a; simp only [] at hsp; subst hsp; rfl
              · refine ⟨c.toList.take a.off, c.toList.drop (a.off + len * P.cellsOf e), ?_, ?_, k3⟩
                · rw [k6, List.append_assoc, ← List.drop_drop, List.take_append_drop, List.take_append_drop]
                · rw [List.length_take]; omega
        | _ => simp [basic] at hs

/-! ### Listed variables -/
mutual
def flatD : DataW H → Option (List PV)
  | .lit (.bool b) => some [.bool b]
  | .lit (.int k n) => some [.int k n]
  | .lit (.string s) => some [.str s]
  | .agg ps => flatDL ps
  | _ => none
def flatDL : List (DataW H) → Option (List PV)
  | [] => some []
  | d :: r => match flatD d, flatDL r with
    | some xs, some ys => some (xs ++ ys)
    | _, _ => none
end

theorem fldsD_of {fz : Fzn} {cs : List Value} {Q : DataW H → List Value → Prop} (hQ : ∀ d us xs, Q d us → flatD d = some xs → VPL fz xs us ∧ ∀ u ∈ us, plainV u = true) : ∀ (l : List (TypeId × Nat)) (ds : List (DataW H)) (o : Nat) (xs : List PV), tiles P l o = some cs.length → ds.length = l.length →
    (∀ (i : Nat) f d, l[i]? = some f → ds[i]? = some d → Q d ((cs.drop f.2).take (P.cellsOf f.1))) → flatDL ds = some xs → VPL fz xs (cs.drop o) ∧ ∀ u ∈ cs.drop o, plainV u = true
  | [], ds, o, xs, ht, hl, _, hd => by
    simp only [tiles, Option.some.injEq] at ht
    subst ht
    obtain rfl := List.eq_nil_of_length_eq_zero hl
    simp only [flatDL, Option.some.injEq] at hd
    subst hd
    simp [VPL]
  | f :: r, [], o, xs, ht, hl, _, hd => by simp at hl
  | f :: r, d :: ds, o, xs, ht, hl, hr, hd => by
    simp only [tiles] at ht
    split at ht
    · rename_i ho
      simp only [flatDL] at hd
      split at hd
      · rename_i ys zs e1 e2
        injection hd with hd
        subst hd
        have h1 := hQ d _ ys (hr 0 f d rfl rfl) e1
        have h2 := fldsD_of hQ r ds (o + P.cellsOf f.1) zs ht (by simpa using hl) (fun i g e hg he => hr (i + 1) g e hg he) e2
        rw [ho] at h1
        have e : cs.drop o = (cs.drop o).take (P.cellsOf f.1) ++ cs.drop (o + P.cellsOf f.1) := by
          rw [← List.drop_drop, List.take_append_drop]
        rw [e]
        refine ⟨VPL_append h1.1 h2.1, fun u hu => ?_⟩
        rcases List.mem_append.1 hu with hu | hu
        · exact h1.2 u hu
        · exact h2.2 u hu
      · cases hd
    · cases ht

theorem laid_of_trod {fz : Fzn} : ∀ (m : Nat) (t : TypeId) (n : Nat) (cs : List Value) (x : DataW H × List MemPlace) (xs : List PV), supp P m t = true → DataW.trod enc P W 0 sp held n t cs = some x → flatD x.1 = some xs → VPL fz xs cs ∧ ∀ u ∈ cs, plainV u = true
  | 0, _, _, _, _, _, hs, _, _ => by simp [supp] at hs
  | m + 1, t, n, cs, x, xs, hs, h, hd => by
    have ih := laid_of_trod (fz := fz) m
    simp only [supp] at hs
    cases hp : partsOf P t with
    | some l =>
      simp only [hp, Bool.and_eq_true, decide_eq_true_eq, List.all_eq_true] at hs
      obtain ⟨ys, k, h1, h2, h3, h4, h5⟩ := parts_trod hp h
      rw [h2] at hd
      simp only [flatD] at hd
      have := fldsD_of (fz := fz) (P := P) (cs := cs) (Q := fun d us => ∀ xs, flatD d = some xs → VPL fz xs us ∧ ∀ u ∈ us, plainV u = true) (fun d us xs hq hx => hq xs hx) l (ys.map (·.1)) 0 xs (by rw [h3]; exact hs.1) (by simpa using h4) (fun i f d hf hd' => by
        rw [List.getElem?_map, Option.map_eq_some_iff] at hd'
        obtain ⟨y, hy, rfl⟩ := hd'
        have e := h5 i f hf
        rw [hy] at e
        intro xs hx
        exact ih _ _ _ _ xs (hs.2 _ (List.mem_of_getElem? hf)) e hx) hd
      simpa using this
    | none =>
      simp only [hp] at hs
      cases hu : P.underlying t with
      | none => simp [hu] at hs
      | some d =>
        simp only [hu] at hs
        cases d with
        | bool =>
          obtain ⟨b, rfl, rfl⟩ := DataW.trod_bool hu h
          simp only [flatD, Option.some.injEq] at hd
          subst hd
          exact ⟨by simp [VPL, VP], by simp [plainV]⟩
        | int k =>
          obtain ⟨b, rfl, rfl, hw⟩ := DataW.trod_int hu h
          simp only [flatD, Option.some.injEq] at hd
          subst hd
          exact ⟨by simp [VPL, VP], by simp [plainV]⟩
        | string =>
          obtain ⟨⟨⟨s⟩⟩, rfl, rfl, hw⟩ := DataW.trod_string hu h
          simp only [flatD, Option.some.injEq] at hd
          subst hd
          exact ⟨by simp [VPL, VP], by simp [plainV]⟩
        | slice e =>
          rcases DataW.trod_slice hu h with ⟨rfl, rfl⟩ | ⟨a, len, cap, elems, rest, n', rfl, rfl, rfl, _⟩
          · simp [flatD] at hd
          · simp [flatD] at hd
        | _ => simp [basic] at hs
end
end Go.Proofs.YtemlkodkohgmmaaDoor.Y

/- From contracts on data to the statements of rows. -/
namespace Go.Proofs.YtemlkodkohgmmaaDoor.Y
open Go

theorem mapM_mono {α β : Type} {f g : α → Option β} : ∀ {l : List α} {r : List β}, (∀ x ∈ l, ∀ y, f x = some y → g x = some y) → l.mapM f = some r → l.mapM g = some r
  | [], r, _, h => by simpa using h
  | x :: l, r, hfg, h => by
    simp only [List.mapM_cons, Option.bind_eq_bind, Option.bind_eq_some_iff, Option.pure_def, Option.some.injEq] at h ⊢
    obtain ⟨y, h1, ys, h2, h3⟩ := h
    exact ⟨y, hfg x (by simp) y h1, ys, mapM_mono (fun z hz => hfg z (by simp [hz])) h2, h3⟩

/-- All that was there is there as it was. -/
def Kept (W W' : World) : Prop := ∀ (b : Nat) (o : Obj), W.heap[b]? = some o → W'.heap[b]? = some o

section
variable {H : Type} {enc : TypeId × Value → H} {P : Program} {W W' : World} {sp' : Nat → Bool} {held : Bool}

theorem Kept.cell (hk : Kept W W') {a : Addr} {v : Value} (h : W.cell? a = some v) : W'.cell? a = some v := by
  unfold World.cell? at h ⊢
  split at h
  · rename_i c t z hb
    rw [hk _ _ hb]
    exact h
  · cases h
theorem Kept.cells (hk : Kept W W') {a : Addr} {n : Nat} {cs : List Value} (h : W.cells? 0 a n = some cs) : W'.cells? 0 a n = some cs := by
  unfold World.cells? at h ⊢
  rw [if_pos (Nat.zero_le _)] at h ⊢
  exact mapM_mono (fun _ _ _ hx => hk.cell hx) h

theorem trod_kept (hk : Kept W W') (hsp : ∀ b, b < W.heap.size → sp' b = true) : ∀ (m : Nat) (t : TypeId) (n : Nat) (cs : List Value) (x : DataW H × List MemPlace), supp P m t = true → DataW.trod enc P W 0 (fun _ => true) held n t cs = some x → DataW.trod enc P W' 0 sp' held n t cs = some x
  | 0, _, _, _, _, hs, _ => by simp [supp] at hs
  | m + 1, t, 0, cs, x, hs, h => by simp [DataW.trod] at h
  | m + 1, t, n + 1, cs, x, hs, h => by
    have ih := trod_kept hk hsp m
    simp only [supp] at hs
    cases hu : P.underlying t with
    | none =>
      have hp : partsOf P t = none := by simp [partsOf, hu]
      simp [hp, hu] at hs
    | some d =>
      cases d with
      | struct fs =>
        have hp : partsOf P t = some (fs.toList.map fun f => (f.type, f.offset)) := by simp [partsOf, hu]
        simp only [hp, Bool.and_eq_true, List.all_eq_true] at hs
        unfold DataW.trod at h ⊢
        rw [hu] at h ⊢
        simp only [] at h ⊢
        split at h
        · rename_i hl
          rw [if_pos hl]
          rw [Option.map_eq_some_iff] at h ⊢
          obtain ⟨xs, h1, h2⟩ := h
          exact ⟨xs, mapM_mono (fun f hf y hy => ih _ _ _ _ (hs.2 (f.type, f.offset) (List.mem_map_of_mem hf)) hy) h1, h2⟩
        · cases h
      | array k e =>
        have hp : partsOf P t = some ((List.range k).map fun i => (e, i * P.cellsOf e)) := by simp [partsOf, hu]
        simp only [hp, Bool.and_eq_true, List.all_eq_true] at hs
        unfold DataW.trod at h ⊢
        rw [hu] at h ⊢
        simp only [] at h ⊢
        split at h
        · rename_i hl
          rw [if_pos hl]
          rw [Option.map_eq_some_iff] at h ⊢
          obtain ⟨xs, h1, h2⟩ := h
          exact ⟨xs, mapM_mono (fun i hi y hy => ih _ _ _ _ (hs.2 (e, i * P.cellsOf e) (List.mem_map_of_mem hi)) hy) h1, h2⟩
        · cases h
      | bool =>
        obtain ⟨b, rfl, rfl⟩ := DataW.trod_bool hu h
        unfold DataW.trod; rw [hu]
      | int k =>
        obtain ⟨b, rfl, rfl, hw⟩ := DataW.trod_int hu h
        unfold DataW.trod; rw [hu]; simp [hw]
      | string =>
        obtain ⟨s, rfl, rfl, hw⟩ := DataW.trod_string hu h
        unfold DataW.trod; rw [hu]; simp [hw]
      | slice e =>
        have hp : partsOf P t = none := by simp [partsOf, hu]
        simp only [hp, hu, Bool.and_eq_true, decide_eq_true_eq] at hs
        rcases DataW.trod_slice hu h with ⟨rfl, rfl⟩ | ⟨a, len, cap, _, _, _, _, rfl, _⟩
        · unfold DataW.trod; rw [hu]; rfl
        unfold DataW.trod at h ⊢
        rw [hu] at h ⊢
        simp only [if_true] at h ⊢
        split at h
        rotate_left
        · cases h
        rename_i hc
        rw [if_pos hc]
        rw [Option.bind_eq_some_iff] at h ⊢
        obtain ⟨elems, h1, h2⟩ := h
        rw [Option.map_eq_some_iff] at h2
        obtain ⟨rest, h2, h3⟩ := h2
        have el : ∀ i y, (W.cells? 0 (a.add (i * P.cellsOf e)) (P.cellsOf e)).bind (DataW.trod enc P W 0 (fun _ => true) held n e) = some y → (W'.cells? 0 (a.add (i * P.cellsOf e)) (P.cellsOf e)).bind (DataW.trod enc P W' 0 sp' held n e) = some y := by
          intro i y hy
          rw [Option.bind_eq_some_iff] at hy ⊢
          obtain ⟨cs', g1, g2⟩ := hy
          exact ⟨cs', hk.cells g1, ih _ _ _ _ hs.2 g2⟩
        refine ⟨elems, mapM_mono (fun i _ y hy => el i y hy) h1, ?_⟩
        rw [Option.map_eq_some_iff]
        refine ⟨rest, ?_, h3⟩
        by_cases hd : cap - len = 0
        · rw [hd] at h2 ⊢
          simp at h2
          subst h2
          cases sp' a.block <;> simp
        · have hb : a.block < W.heap.size := by
            have hl := mapM_some_length h2
            rw [List.length_range] at hl
            have := mapM_some_get h2 0 0 (by rw [List.getElem?_eq_getElem (by simp; omega)]; simp)
            rw [List.getElem?_eq_getElem (by omega), Option.bind_eq_some_iff] at this
            obtain ⟨cs', g1, _⟩ := this
            obtain ⟨c, t', z, g3, _⟩ := cells_take hs.1 g1
            have hblk : (a.add ((len + 0) * P.cellsOf e)).block = a.block := by unfold Addr.add; split <;> rfl
            rw [hblk] at g3
            exact (Array.getElem?_eq_some_iff.1 g3).1
          rw [if_pos (hsp _ hb)]
          exact mapM_mono (fun i _ y hy => el (len + i) y hy) h2
      | _ =>
        have hp : partsOf P t = none := by simp [partsOf, hu]
        simp [hp, hu, basic] at hs

theorem trodAll_kept (hk : Kept W W') (hsp : ∀ b, b < W.heap.size → sp' b = true) (m : Nat) : ∀ {ts : List TypeId} {vs : List Value} {ds : List (DataW H)} {ps : List MemPlace}, ts.all (supp P m) = true → DataW.TrodAll enc P W 0 (fun _ => true) held ts vs ds ps → DataW.TrodAll enc P W' 0 sp' held ts vs ds ps
  | [], [], [], ps, _, h => h
  | t :: ts, v :: vs, d :: ds, ps, hs, h => by
    simp only [List.all_cons, Bool.and_eq_true] at hs
    obtain ⟨p, q, ⟨fuel, h1⟩, h2, h3⟩ := h
    exact ⟨p, q, ⟨fuel, trod_kept hk hsp m _ _ _ _ hs.1 h1⟩, trodAll_kept hk hsp m hs.2 h2, h3⟩
  | [], [], _ :: _, ps, _, h => by simp [DataW.TrodAll] at h
  | [], _ :: _, _, ps, _, h => by simp [DataW.TrodAll] at h
  | _ :: _, [], _, ps, _, h => by simp [DataW.TrodAll] at h
  | _ :: _, _ :: _, [], ps, _, h => by simp [DataW.TrodAll] at h

/-- An argument of a type. -/
def ArgT (P : Program) (m : Nat) (t : TypeId) (x : PV) : Prop := match partsOf P t with
  | some _ => ∃ xs, x = .agg xs ∧ TyT P m t xs
  | none => TyT P m t [x]
def ArgsT (P : Program) (m : Nat) : List TypeId → List PV → Prop
  | [], xs => xs = []
  | t :: ts, xs => ∃ x r, xs = x :: r ∧ ArgT P m t x ∧ ArgsT P m ts r

def fzOf (W : World) : Fzn := fun b => match W.heap[b]? with
  | some (.cells c _ _) => some c.toList
  | _ => none
theorem fzOf_all (W : World) : AllCells (fzOf W) W := fun b c t z h => by simp [fzOf, h]
theorem fzOf_some {b : Nat} {arr : List Value} (h : fzOf W b = some arr) : ∃ c t z, W.heap[b]? = some (.cells c t z) ∧ arr = c.toList := by
  unfold fzOf at h
  split at h
  · rename_i c t z hb
    injection h with h
    exact ⟨c, t, z, hb, h.symm⟩
  · cases h

theorem arg_of {m : Nat} {base : Nat} {t : TypeId} {v : Value} {d : DataW H} {ps : List MemPlace} (hs : supp P m t = true) (hval : Value.okWide P W .any base t v) (h : DataW.Trod enc P W 0 (fun _ => true) true t v d ps) : ∃ x, VP (fzOf W) x v ∧ ArgT P m t x := by
  obtain ⟨fuel, h⟩ := h
  obtain ⟨xs, h1, h2, h3⟩ := typed_of_trod (fzOf_all W) m t fuel _ _ hs h
  unfold Value.okWide at hval
  cases hp : partsOf P t with
  | some l =>
    have : ∃ cs, v = .agg cs := by
      unfold partsOf at hp
      split at hp
      · rename_i fs hu; simp only [hu] at hval; obtain ⟨cs, h, _⟩ := hval; exact ⟨cs, h⟩
      · rename_i k e hu; simp only [hu] at hval; obtain ⟨cs, h, _⟩ := hval; exact ⟨cs, h⟩
      · cases hp
    obtain ⟨cs, rfl⟩ := this
    exact ⟨.agg xs, by simp only [VP]; exact ⟨cs, rfl, h1⟩, by simp only [ArgT, hp]; exact ⟨xs, rfl, h3⟩⟩
  | none =>
    have hv : v.cells = #[v] := by
      cases m with
      | zero => simp [supp] at hs
      | succ m =>
        simp only [supp, hp] at hs
        cases hu : P.underlying t with
        | none => simp [hu] at hs
        | some d =>
          simp only [hu] at hs hval
          cases d with
          | struct fs => simp [partsOf, hu] at hp
          | array k e => simp [partsOf, hu] at hp
          | bool => cases v <;> simp_all [Cell.okWide, Cell.ok, Value.cells]
          | int k => cases v <;> simp_all [Cell.okWide, Cell.ok, Value.cells]
          | string => cases v <;> simp_all [Cell.okWide, Cell.ok, Value.cells]
          | slice e => cases v <;> simp_all [Cell.okWide, Cell.ok, Value.cells]
          | _ => simp [basic] at hs
    rw [hv] at h1
    obtain ⟨x, rfl, h4⟩ : ∃ x, xs = [x] ∧ VP (fzOf W) x v := by
      match xs, h1 with
      | [], h1 => simp [VPL] at h1
      | x :: r, h1 =>
        simp only [VPL] at h1
        obtain ⟨u, us, e, g1, g2⟩ := h1
        simp only [List.cons.injEq] at e
        obtain ⟨rfl, rfl⟩ := e
        match r, g2 with
        | [], _ => exact ⟨x, rfl, g1⟩
        | y :: r, g2 => simp [VPL] at g2
    exact ⟨x, h4, by simp only [ArgT, hp]; exact h3⟩

theorem args_of {m base : Nat} : ∀ {ts : List TypeId} {vs : List Value} {ds : List (DataW H)} {ps : List MemPlace}, ts.all (supp P m) = true → (∀ (j : Nat) t v, ts[j]? = some t → vs[j]? = some v → Value.okWide P W .any base t v) → DataW.TrodAll enc P W 0 (fun _ => true) true ts vs ds ps →
    ∃ xs, VPL (fzOf W) xs vs ∧ ArgsT P m ts xs ∧ ds.length = ts.length
  | [], [], [], ps, _, _, _ => ⟨[], by simp [VPL], rfl, rfl⟩
  | t :: ts, v :: vs, d :: ds, ps, hs, hv, h => by
    simp only [List.all_cons, Bool.and_eq_true] at hs
    obtain ⟨p, q, h1, h2, h3⟩ := h
    obtain ⟨x, g1, g2⟩ := arg_of hs.1 (hv 0 t v rfl rfl) h1
    obtain ⟨xs, k1, k2, k3⟩ := args_of hs.2 (fun j t v ht hv' => hv (j + 1) t v ht hv') h2
    exact ⟨x :: xs, by simp only [VPL]; exact ⟨v, vs, rfl, g1, k1⟩, ⟨x, xs, rfl, g2, k2⟩, by simp [k3]⟩
  | [], [], _ :: _, ps, _, _, h => by simp [DataW.TrodAll] at h
  | [], _ :: _, _, ps, _, _, h => by simp [DataW.TrodAll] at h
  | _ :: _, [], _, ps, _, _, h => by simp [DataW.TrodAll] at h
  | _ :: _, _ :: _, [], ps, _, _, h => by simp [DataW.TrodAll] at h
end

/-- The tables of the context are those that the row lists. -/
def gtOK (P : Program) (m : Nat) : List (Nat × List PV) → List (String × DataW Unit) → Prop
  | [], _ => True
  | (g, cs) :: r, (n, d) :: r' => P.globalNamed n = some g ∧ (∃ t, (P.globals[g]?).map (·.type) = some t ∧ supp P m t = true) ∧ flatD d = some cs ∧ gtOK P m r r'
  | _ :: _, [] => False

theorem glob_of_laid {P : Program} {m : Nat} {W : World} : ∀ {gt : List (Nat × List PV)} {laid : List (String × DataW Unit)} {ps : List MemPlace}, gtOK P m gt laid → DataW.LaidVars P W laid ps → ∀ g cs, gget gt g = some cs → VP (fzOf W) (.fp cs) (.pointer (some ⟨g, 0, none⟩))
  | [], _, _, _, _, g, cs, h => by simp [gget] at h
  | (g', cs') :: r, [], _, hg, _, g, cs, h => by simp [gtOK] at hg
  | (g', cs') :: r, (n, d) :: r', ps, hg, hl, g, cs, h => by
    obtain ⟨h1, ⟨t, h2, h3⟩, h4, h5⟩ := hg
    obtain ⟨g0, t0, cs0, fuel, p, q, k1, k2, k3, k4, k5, k6⟩ := hl
    rw [h1] at k1
    injection k1 with k1
    subst k1
    rw [h2] at k2
    injection k2 with k2
    subst k2
    simp only [gget] at h
    split at h
    · rename_i he
      have he := Nat.eq_of_beq_eq_true he
      subst he
      injection h with h
      subst h
      obtain ⟨g1, g2⟩ := laid_of_trod (fz := fzOf W) m t fuel _ _ _ h3 k4 h4
      have hb : ∃ ty z, W.heap[g']? = some (.cells cs0 ty z) := by
        unfold World.var? at k3
        rw [h1] at k3
        simp only [Option.bind_some] at k3
        split at k3
        · rename_i c ty z hb
          injection k3 with k3
          subst k3
          exact ⟨ty, z, hb⟩
        · cases k3
      obtain ⟨ty, z, hb⟩ := hb
      simp only [VP]
      exact ⟨g', 0, cs0.toList, cs0.toList, rfl, fzOf_all W _ _ _ _ hb, g1, [], [], by simp, rfl, g2⟩
    · exact glob_of_laid h5 k5 g cs h

section
variable {cx : Cx}

/-- A law on data, called in a world. -/
theorem calls_of_pure {H : Type} {enc : TypeId × Value → H} {W : World} {f : FuncId} {fn : Func} {c : Code} {m base : Nat} {args : Array Value} {ds : List (DataW H)} {ps : List MemPlace}
    (hf : cx.P.funcs[f]? = some fn) (hname : (fn.name == "runtime.NumGoroutine") = false) (hb : fn.body = some c) (hs : fn.params.toList.all (supp cx.P m) = true)
    (hpure : ∀ xs, ArgsT cx.P m fn.params.toList xs → Pure cx f xs (· = .ret [.bool true]))
    (hval : ∀ (j : Nat) t v, fn.params[j]? = some t → args[j]? = some v → Value.okWide cx.P W .any base t v)
    (hA : DataW.TrodAll enc cx.P W 0 (fun _ => true) true fn.params.toList args.toList ds ps)
    (hglob : ∀ g cs, gget cx.gt g = some cs → VP (fzOf W) (.fp cs) (.pointer (some ⟨g, 0, none⟩))) :
    Calls cx.P f args W fun e W' => e = .returned (.bool true) ∧ W'.os = W.os ∧ W'.output = W.output ∧ ∀ k, k < W.heap.size → W'.heap[k]? = W.heap[k]? := by
  obtain ⟨xs, h1, h2, _⟩ := args_of hs (fun j t v ht hv => hval j t v (by simpa using ht) (by simpa using hv)) hA
  have hR : R cx ⟨fun _ => none, fzOf W⟩ ⟨0, []⟩ W := by
    refine ⟨hglob, fun _ _ => rfl, fun b arr hb => ?_, fun n o hn => by simp [lget] at hn, fun n o q hn => by simp [lget] at hn, fun n o m p q q' hn => by simp [lget] at hn⟩
    obtain ⟨c, t, z, g1, rfl⟩ := fzOf_some hb
    exact ⟨t, z, g1⟩
  have key : ∀ e w', Post cx ⟨fun _ => none, fzOf W⟩ ⟨0, []⟩ W (EndP (· = .ret [.bool true])) e w' → e = .returned (.bool true) ∧ w'.os = W.os ∧ w'.output = W.output ∧ ∀ k, k < W.heap.size → w'.heap[k]? = W.heap[k]? := by
    intro e w' hP
    obtain ⟨r, Γ', hq, _, hE, _, hT, _⟩ := pure_post hR hP
    subst hq
    obtain ⟨v', rfl, hv⟩ := hE
    simp only [VR, VP] at hv
    subst hv
    exact ⟨rfl, hT.os, hT.output, fun k hk => hT.kept k hk own_nil⟩
  have hrun := run_enter hf hname hb args W
  rcases hpure xs h2 ⟨fun _ => none, fzOf W⟩ W args.toList hR (VRL_p.2 h1) with ⟨_, h4⟩ | ⟨v', w', h4, _⟩
  · exact h4.mono key
  · rw [hrun] at h4
    injection h4 with h4
    cases h4

/-- What a law's row asks behind the call. -/
theorem post_of_kept {H : Type} {enc : TypeId × Value → H} {W W' : World} {fn : Func} {s : ChangeSpec} {m : Nat} {bt : TypeId} {apart fresh handsOn : Bool} {args : Array Value} {ds gs : List (DataW H)} {before : List MemPlace}
    (hs : fn.params.toList.all (supp cx.P m) = true) (hvars : s.vars = []) (hres : fn.resultTypes = #[bt]) (hbt : cx.P.underlying bt = some .bool)
    (hfn : ∀ ds : List (DataW H), ds.length = fn.params.toList.length → s.fn H ds = { results := [.lit (.bool true)], args := ds })
    (hW : DataW.Whole enc cx.P fn.params.toList s.vars apart W args.toList ds gs before) (hlen : ds.length = fn.params.toList.length)
    (hos : W'.os = W.os) (hout : W'.output = W.output) (hkept : ∀ k, k < W.heap.size → W'.heap[k]? = W.heap[k]?) :
    s.post enc cx.P fn apart fresh handsOn false W args (.bool true) W' := by
  have hk : Kept W W' := fun b o hb => by rw [hkept b (Array.getElem?_eq_some_iff.1 hb).1]; exact hb
  have hW' := hW
  obtain ⟨p, q, h1, h2, _, _, _⟩ := hW'
  rw [hvars] at h2
  obtain ⟨rfl, rfl⟩ := Go.ChangeShapes.trodVars_none h2
  have e : s.fn H (ds ++ []) = { results := [.lit (.bool true)], args := ds } := by rw [List.append_nil]; exact hfn ds hlen
  refine ⟨ds, [], before, [], p, [], hW, ?_, ?_, ?_, ?_, fun h => by cases h⟩
  · rw [e, hres]
    exact Go.ChangeShapes.trodAll_mk1 (Go.RowKit.shut_bool hbt true)
  · rw [e]
    exact trodAll_kept hk (fun b hb => by simpa using hb) m hs h1
  · rw [e, hvars]
    rfl
  · refine ⟨hos, hout, fun i hi => ?_⟩
    rw [hkept i hi]
    have := Array.getElem?_eq_getElem hi
    rw [this]
    cases W.heap[i] <;> simp
end
end Go.Proofs.YtemlkodkohgmmaaDoor.Y

/- The statement on reading. -/
namespace Go.Proofs.YtemlkodkohgmmaaDoor
open Go Y
set_option maxRecDepth 100000
set_option maxHeartbeats 4000000

/-! ### Arguments -/
theorem ty_u8 {m : Nat} {xs : List PV} (h : TyT Tryd.prog (m + 1) 5 xs) : ∃ b : UInt8, xs = [u8 b] := by
  have hp : partsOf Tryd.prog 5 = none := by simp [partsOf, Tryd.underlying5]
  simp only [TyT, hp, Tryd.underlying5] at h
  obtain ⟨n, rfl, hw⟩ := h
  have := bounds_u8 hw
  refine ⟨UInt8.ofNat n.toNat, ?_⟩
  have e : ((UInt8.ofNat n.toNat).toNat : Int) = n := by
    simp
    omega
  rw [u8, e]
theorem ty_int {m : Nat} {xs : List PV} (h : TyT Tryd.prog (m + 1) 3 xs) : ∃ n, xs = [i64 n] ∧ -9223372036854775808 ≤ n ∧ n ≤ 9223372036854775807 := by
  have hp : partsOf Tryd.prog 3 = none := by simp [partsOf, Tryd.underlying3]
  simp only [TyT, hp, Tryd.underlying3] at h
  obtain ⟨n, rfl, hw⟩ := h
  exact ⟨n, rfl, bounds_i64 hw⟩
theorem ty_str {m : Nat} {xs : List PV} (h : TyT Tryd.prog (m + 1) 9 xs) : ∃ s, xs = [.str s] := by
  have hp : partsOf Tryd.prog 9 = none := by simp [partsOf, Tryd.underlying9]
  simp only [TyT, hp, Tryd.underlying9] at h
  obtain ⟨n, rfl, hw⟩ := h
  exact ⟨n, rfl⟩
theorem lift_list {α : Type} {f : α → PV} {ys : List PV} (h : ∀ y ∈ ys, ∃ a, y = f a) : ∃ zs : List α, ys = zs.map f := by
  induction ys with
  | nil => exact ⟨[], rfl⟩
  | cons y r ih =>
    obtain ⟨a, rfl⟩ := h y (by simp)
    obtain ⟨zs, rfl⟩ := ih fun z hz => h z (by simp [hz])
    exact ⟨a :: zs, rfl⟩
theorem ty_bytes {m : Nat} {xs : List PV} (h : TyT Tryd.prog (m + 2) 22 xs) : ∃ bs : List UInt8, xs = [.lst (bs.map u8)] := by
  have hp : partsOf Tryd.prog 22 = none := by simp [partsOf, Tryd.underlying22]
  have hc : Tryd.prog.cellsOf 5 = 1 := by kernel_rfl
  rw [TyT] at h
  simp only [hp, Tryd.underlying22, hc] at h
  obtain ⟨ys, rfl, _, hy⟩ := h
  obtain ⟨bs, rfl⟩ := lift_list (f := u8) fun y hy' => by
    obtain ⟨b, hb⟩ := ty_u8 (hy y hy')
    simp at hb
    exact ⟨b, hb⟩
  exact ⟨bs, rfl⟩
theorem arg_plain {t : TypeId} {m : Nat} {x : PV} (hp : partsOf Tryd.prog t = none) (h : ArgT Tryd.prog m t x) : TyT Tryd.prog m t [x] := by
  simpa only [ArgT, hp] using h

def someL : List (List UInt8) := [[97], [90], [48], [55], [32], [10], [40, 42], [42, 41], [45, 45], [40], [41], [42], [45], [47, 61], [60], [61], [46], [46, 46], [110, 111, 100, 101], [105, 110], [123], [63], [120, 49], [32, 32]]
theorem someL_le : ∀ s ∈ someL, s.length ≤ 4 := by decide

/-- The index into a table of n. -/
theorem tmod_range (b : UInt8) (n : Int) (hn : 0 < n) : 0 ≤ (b.toNat : Int).tmod n ∧ (b.toNat : Int).tmod n < n := ⟨Int.tmod_nonneg _ (by omega), Int.tmod_lt_of_pos _ hn⟩


theorem lexReads_c (s : List UInt8) (l : List UInt8) (times : UInt8) : Pure cx 3 [.str s, .lst (l.map u8), u8 times] (· = .ret [.bool true]) := by
  refine pure_of_vc Tryd.func3 rfl rfl rfl ?_
  obtain ⟨c, hc⟩ : ∃ c, c = (if (200 : Int) < (s.length : Nat) then (200 : Int) else (s.length : Nat)) := ⟨_, rfl⟩
  have hc' : 0 ≤ c ∧ c ≤ s.length ∧ c ≤ 200 := by rw [hc]; split <;> omega
  refine ⟨by show 0 ≤ (if (200 : Int) < (s.length : Nat) then (200 : Int) else (s.length : Nat)) ∧ (if (200 : Int) < (s.length : Nat) then (200 : Int) else (s.length : Nat)) ≤ _; rw [← hc]; exact ⟨hc'.1, hc'.2.1⟩, ?_⟩
  obtain ⟨s', hs'⟩ : ∃ s', s' = s.take (if (200 : Int) < (s.length : Nat) then (200 : Int) else (s.length : Nat)).toNat := ⟨_, rfl⟩
  have hs'l : s'.length ≤ 200 := by rw [hs', ← hc, List.length_take]; omega
  refine ⟨Nat × List UInt8, fun x => [(0, vS s'), (1, .p (.lst (l.map u8))), (2, .p (u8 times)), (7, .ptr 0 0 0), (8, vS x.2), (9, .p (i64 x.1))], fun _ => ⟨1, [(0, ⟨23, false, .bx (someL.map vS)⟩)]⟩, fun x => x.1 ≤ 60 ∧ x.2.length ≤ 4 * x.1, fun x => 60 - x.1, ?_, ?_⟩
  · refine ⟨(0, []), ⟨by simp, by simp⟩, ent_of [] [] [] rfl ⟨?_, rfl, rfl, ⟨rfl, rfl⟩, rfl, rfl, trivial⟩ (by (repeat' first | exact trivial | exact rfl | exact ⟨rfl, rfl⟩ | exact .inl rfl | refine ⟨_, rfl, rfl, rfl, ?_⟩ | refine ⟨_, _, rfl, ?_, ?_⟩ | refine ⟨_, rfl, ?_⟩ | refine And.intro ?_ ?_)) rfl⟩
    exact congrArg PV.str hs'
  · rintro ⟨k, t⟩ ⟨g1, g2⟩
    simp only [] at g1 g2
    refine And.intro (fun h1 => ?_) (fun h1 => ?_)
    · have h1 : (k : Int) < ((l.map u8).length : Nat) := h1
      rw [List.length_map] at h1
      have hk : k < l.length := by omega
      refine And.intro (fun h2 => ?_) (fun h2 => ?_)
      · have h2 : (k : Int) < 60 := h2
        refine ⟨_, ⟨by omega, u8 l[k], by show (l.map u8)[k]? = _; rw [List.getElem?_map, List.getElem?_eq_getElem hk]; rfl, rfl⟩, ?_⟩
        generalize l[k] = b
        have hb := b.toNat_lt
        have hr := tmod_range b 24 (by decide)
        refine ⟨(b.toNat : Int), wrap_i64 (by omega) (by omega), ?_⟩
        refine ⟨by decide, ?_⟩
        refine ⟨hr, ?_⟩
        have hj : ((b.toNat : Int).tmod 24).toNat < someL.length := by show _ < 24; omega
        refine ⟨_, ldIn1 rfl (by show (someL.map vS)[0 + ((b.toNat : Int).tmod 24).toNat * 1]? = _; rw [Nat.zero_add, Nat.mul_one, List.getElem?_map, List.getElem?_eq_getElem hj]; rfl), ?_⟩
        have hl4 := someL_le _ (List.getElem_mem hj)
        generalize someL[((b.toNat : Int).tmod 24).toNat] = u at hl4 ⊢
        refine ⟨by show t.length + u.length ≤ _; omega, ?_⟩
        refine ⟨(k : Int) + 1, wrap_i64 (by omega) (by omega), (k + 1, t ++ u), ⟨by simp only []; omega, by simp; omega⟩, ent_of [] [] [] rfl ⟨rfl, rfl, rfl, ⟨rfl, rfl⟩, rfl, rfl, trivial⟩ (by (repeat' first | exact trivial | exact rfl | exact ⟨rfl, rfl⟩ | exact .inl rfl | refine ⟨_, rfl, rfl, rfl, ?_⟩ | refine ⟨_, _, rfl, ?_, ?_⟩ | refine ⟨_, rfl, ?_⟩ | refine And.intro ?_ ?_)) rfl, by simp only []; omega⟩
      · refine ⟨Nat × List UInt8, fun x => [(0, vS s'), (2, .p (u8 times)), (8, vS t), (10, vS x.2), (11, .p (i64 x.1))], fun _ => ⟨0, []⟩, fun x => x.1 ≤ times.toNat ∧ x.2.length ≤ 300 * x.1, fun x => times.toNat - x.1, ?_, ?_⟩
        · exact ⟨(0, []), ⟨by simp, by simp⟩, ent_of [] [] [] rfl ⟨rfl, rfl, rfl, rfl, rfl, trivial⟩ trivial rfl⟩
        · rintro ⟨n, u⟩ ⟨q1, q2⟩
          simp only [] at q1 q2
          have ht := times.toNat_lt
          refine ⟨(times.toNat : Int), wrap_i64 (by omega) (by omega), ?_⟩
          refine And.intro (fun h5 => ?_) (fun h5 => ?_)
          · have h5 : (n : Int) < (times.toNat : Nat) := h5
            refine ⟨by show u.length + t.length ≤ _; omega, ?_⟩
            refine ⟨by show (u ++ t).length + 1 ≤ _; rw [List.length_append]; omega, ?_⟩
            refine ⟨(n : Int) + 1, wrap_i64 (by omega) (by omega), (n + 1, (u ++ t) ++ [32]), ⟨by simp only []; omega, by simp; omega⟩, ent_of [] [] [] rfl ⟨rfl, rfl, rfl, rfl, rfl, trivial⟩ trivial rfl, by simp only []; omega⟩
          · refine ⟨by show t.length + s'.length ≤ _; omega, ?_⟩
            obtain ⟨L, hL⟩ : ∃ L : List (List UInt8), L = [s', t, u, t ++ s'] := ⟨_, rfl⟩
            have hL4 : L.length = 4 := by rw [hL]; rfl
            have e : PV.agg (L.map .str) = .agg [.str s', .str t, .str u, .str (t ++ s')] := by rw [hL]; rfl
            refine ⟨Nat, fun x => [(64, .p (.agg (L.map .str))), (65, .p (i64 x))], fun _ => ⟨0, []⟩, fun x => x ≤ 4, fun x => 4 - x, ?_, ?_⟩
            · exact ⟨0, by decide, ent_of [] [] [] rfl ⟨e, rfl, trivial⟩ trivial rfl⟩
            · intro j hj
              refine And.intro (fun h6 => ?_) (fun h6 => ?_)
              · have h6 : (j : Int) < 4 := h6
                have hj' : j < L.length := by omega
                refine ⟨_, ⟨⟨by omega, by omega⟩, .str L[j], ldInP1 rfl (by show (L.map PV.str)[(j : Int).toNat * 1]? = _; rw [Nat.mul_one, List.getElem?_map]; show (L[j]?).map PV.str = _; rw [List.getElem?_eq_getElem hj']; rfl), rfl⟩, ?_⟩
                generalize L[j] = x
                have hA := readW_c x
                have hB := rReadW_c x
                have hn := readT_len x
                generalize readT x = r at hA hB hn
                obtain ⟨us, a, b, e⟩ := r
                simp only [] at hA hB hn
                refine hA.eq rfl ?_
                refine hB.eq rfl ?_
                refine And.intro (fun _ => ?_) (fun h => absurd rfl h)
                refine And.intro (fun _ => ?_) (fun h => absurd rfl h)
                refine And.intro (fun _ => ?_) (fun h => absurd rfl h)
                have hS := same_c us us (by omega) (by omega)
                rw [decide_eq_true rfl] at hS
                refine hS.eq rfl ?_
                refine ⟨(j : Int) + 1, wrap_i64 (by omega) (by omega), j + 1, by omega, ent_of [] [] [] rfl ⟨rfl, rfl, trivial⟩ trivial rfl, ?_⟩
                show 4 - (j + 1) < 4 - j
                omega
              · refine works_c.eq rfl ?_
                exact end1 _ rfl rfl rfl
    · refine ⟨Nat × List UInt8, fun x => [(0, vS s'), (2, .p (u8 times)), (8, vS t), (10, vS x.2), (11, .p (i64 x.1))], fun _ => ⟨0, []⟩, fun x => x.1 ≤ times.toNat ∧ x.2.length ≤ 300 * x.1, fun x => times.toNat - x.1, ?_, ?_⟩
      · exact ⟨(0, []), ⟨by simp, by simp⟩, ent_of [] [] [] rfl ⟨rfl, rfl, rfl, rfl, rfl, trivial⟩ trivial rfl⟩
      · rintro ⟨n, u⟩ ⟨q1, q2⟩
        simp only [] at q1 q2
        have ht := times.toNat_lt
        refine ⟨(times.toNat : Int), wrap_i64 (by omega) (by omega), ?_⟩
        refine And.intro (fun h5 => ?_) (fun h5 => ?_)
        · have h5 : (n : Int) < (times.toNat : Nat) := h5
          refine ⟨by show u.length + t.length ≤ _; omega, ?_⟩
          refine ⟨by show (u ++ t).length + 1 ≤ _; rw [List.length_append]; omega, ?_⟩
          refine ⟨(n : Int) + 1, wrap_i64 (by omega) (by omega), (n + 1, (u ++ t) ++ [32]), ⟨by simp only []; omega, by simp; omega⟩, ent_of [] [] [] rfl ⟨rfl, rfl, rfl, rfl, rfl, trivial⟩ trivial rfl, by simp only []; omega⟩
        · refine ⟨by show t.length + s'.length ≤ _; omega, ?_⟩
          obtain ⟨L, hL⟩ : ∃ L : List (List UInt8), L = [s', t, u, t ++ s'] := ⟨_, rfl⟩
          have hL4 : L.length = 4 := by rw [hL]; rfl
          have e : PV.agg (L.map .str) = .agg [.str s', .str t, .str u, .str (t ++ s')] := by rw [hL]; rfl
          refine ⟨Nat, fun x => [(64, .p (.agg (L.map .str))), (65, .p (i64 x))], fun _ => ⟨0, []⟩, fun x => x ≤ 4, fun x => 4 - x, ?_, ?_⟩
          · exact ⟨0, by decide, ent_of [] [] [] rfl ⟨e, rfl, trivial⟩ trivial rfl⟩
          · intro j hj
            refine And.intro (fun h6 => ?_) (fun h6 => ?_)
            · have h6 : (j : Int) < 4 := h6
              have hj' : j < L.length := by omega
              refine ⟨_, ⟨⟨by omega, by omega⟩, .str L[j], ldInP1 rfl (by show (L.map PV.str)[(j : Int).toNat * 1]? = _; rw [Nat.mul_one, List.getElem?_map]; show (L[j]?).map PV.str = _; rw [List.getElem?_eq_getElem hj']; rfl), rfl⟩, ?_⟩
              generalize L[j] = x
              have hA := readW_c x
              have hB := rReadW_c x
              have hn := readT_len x
              generalize readT x = r at hA hB hn
              obtain ⟨us, a, b, e⟩ := r
              simp only [] at hA hB hn
              refine hA.eq rfl ?_
              refine hB.eq rfl ?_
              refine And.intro (fun _ => ?_) (fun h => absurd rfl h)
              refine And.intro (fun _ => ?_) (fun h => absurd rfl h)
              refine And.intro (fun _ => ?_) (fun h => absurd rfl h)
              have hS := same_c us us (by omega) (by omega)
              rw [decide_eq_true rfl] at hS
              refine hS.eq rfl ?_
              refine ⟨(j : Int) + 1, wrap_i64 (by omega) (by omega), j + 1, by omega, ent_of [] [] [] rfl ⟨rfl, rfl, trivial⟩ trivial rfl, ?_⟩
              show 4 - (j + 1) < 4 - j
              omega
            · refine works_c.eq rfl ?_
              exact end1 _ rfl rfl rfl
end Go.Proofs.YtemlkodkohgmmaaDoor

/- Drafts, and the words that they describe. -/
namespace Go.Proofs.YtemlkodkohgmmaaDoor
open Go Y
set_option maxRecDepth 100000
set_option maxHeartbeats 4000000

def tenL : List UInt8 := [48, 49, 50, 51, 52, 53, 54, 55, 56, 57]
theorem ten_at : ∀ n < 10, (tenL.drop n).take (n + 1 - n) = [tenL.getD n 0] := by decide
/-- A number in decimal. -/
def digN : Nat → Nat → List UInt8
  | 0, _ => []
  | f + 1, n => if n < 10 then [tenL.getD n 0] else digN f (n / 10) ++ [tenL.getD (n % 10) 0]
theorem dig_len : ∀ f n, (digN f n).length ≤ f
  | 0, _ => by simp [digN]
  | f + 1, n => by
    simp only [digN]
    split
    · simp
    · have := dig_len f (n / 10)
      simp
      omega

theorem digits_c : ∀ (f n : Nat), f ≤ 8 → n < 10 ^ (f + 1) → Pure cx 62 [i64 n] (· = .ret [.str (digN (f + 1) n)]) := by
  intro f
  induction f with
  | zero =>
    intro n _ h
    refine pure_of_vc Tryd.func62 rfl rfl rfl ?_
    refine And.intro (fun h1 => ?_) (fun h1 => ?_)
    · have h1 : (n : Int) < 10 := h1
      refine ⟨(n : Int) + 1, wrap_i64 (by omega) (by omega), ?_⟩
      refine ⟨by show (0 : Int) ≤ n ∧ (n : Int) ≤ (n : Int) + 1 ∧ (n : Int) + 1 ≤ 10; omega, ?_⟩
      refine end1 _ rfl rfl ?_
      show PEnd.ret [.str ((tenL.drop n).take (n + 1 - n))] = _
      rw [ten_at n (by omega), digN.eq_def]
      simp only []
      rw [if_pos (by omega)]
    · have h1 : ¬ (n : Int) < 10 := h1
      omega
  | succ f ih =>
    intro n hf h
    have hn : n < 10 ^ 10 := Nat.lt_of_lt_of_le h (Nat.pow_le_pow_right (by decide) (by omega))
    refine pure_of_vc Tryd.func62 rfl rfl rfl ?_
    refine And.intro (fun h1 => ?_) (fun h1 => ?_)
    · have h1 : (n : Int) < 10 := h1
      refine ⟨(n : Int) + 1, wrap_i64 (by omega) (by omega), ?_⟩
      refine ⟨by show (0 : Int) ≤ n ∧ (n : Int) ≤ (n : Int) + 1 ∧ (n : Int) + 1 ≤ 10; omega, ?_⟩
      refine end1 _ rfl rfl ?_
      show PEnd.ret [.str ((tenL.drop n).take (n + 1 - n))] = _
      rw [ten_at n (by omega), digN.eq_def]
      simp only []
      rw [if_pos (by omega)]
    · have h1 : ¬ (n : Int) < 10 := h1
      refine VDraw.seq rfl ?_
      refine ⟨by decide, ((n / 10 : Nat) : Int), ?_, ?_⟩
      · show ((n / 10 : Nat) : Int) = IntKind.i64.wrap ((n / 10 : Nat) : Int)
        exact wrap_i64 (by omega) (by omega)
      refine ⟨by decide, ?_⟩
      refine ⟨by decide, ?_⟩
      refine ⟨((n % 10 : Nat) : Int) + 1, ?_, ?_⟩
      · show _ = IntKind.i64.wrap (((n % 10 : Nat) : Int) + 1)
        exact wrap_i64 (by omega) (by omega)
      refine ⟨by show (0 : Int) ≤ (n % 10 : Nat) ∧ ((n % 10 : Nat) : Int) ≤ ((n % 10 : Nat) : Int) + 1 ∧ ((n % 10 : Nat) : Int) + 1 ≤ 10; omega, ?_⟩
      refine (ih (n / 10) (by omega) (by rw [Nat.pow_succ] at h; omega)).eq rfl ?_
      have hd := dig_len (f + 1) (n / 10)
      refine ⟨by show (digN (f + 1) (n / 10)).length + ((tenL.drop (n % 10)).take (n % 10 + 1 - n % 10)).length ≤ _; rw [ten_at _ (by omega)]; simp; omega, ?_⟩
      refine end1 _ rfl rfl ?_
      show PEnd.ret [.str (digN (f + 1) (n / 10) ++ (tenL.drop (n % 10)).take (n % 10 + 1 - n % 10))] = _
      rw [ten_at _ (by omega), digN.eq_def (f + 1 + 1)]
      simp only []
      rw [if_neg (by omega)]

structure Dr where
  kind : UInt8
  which : UInt8
  letters : List UInt8
  n : UInt16
  down : UInt8
  over : UInt8
abbrev Dr.cells (d : Dr) : List PV := [u8 d.kind, u8 d.which, .lst (d.letters.map u8), .int .u16 (d.n.toNat : Int), u8 d.down, u8 d.over]

def abcL : List UInt8 := [97, 98, 88, 89, 48, 57, 110, 122]
theorem abc_at : ∀ n < 8, (abcL.drop n).take (n + 1 - n) = [abcL.getD n 0] := by decide
def nameT (l : List UInt8) : List UInt8 := 120 :: (l.take 9).map fun b => abcL.getD (b.toNat % 8) 0
def textN (d : Dr) (k : Int) : List UInt8 :=
  if k = 2 then keysL.getD (d.which.toNat % 14) [] else if k = 4 then marksL.getD (d.which.toNat % 16) [] else if k = 3 then digN 5 (d.n.toNat % 10000) else nameT d.letters

theorem getD_get {α : Type} {l : List α} {n : Nat} {d : α} (h : n < l.length) : l[n]? = some (l.getD n d) := by
  rw [List.getElem?_eq_getElem h, List.getD_eq_getElem?_getD, List.getElem?_eq_getElem h]; rfl

theorem text_c (d : Dr) (k : Int) : Pure cx 39 [.agg d.cells, i64 k] (· = .ret [.str (textN d k)]) := by
  refine pure_of_vc Tryd.func39 rfl rfl rfl ?_
  have hw := d.which.toNat_lt
  have hn := d.n.toNat_lt
  refine And.intro (fun h1 => ?_) (fun h1 => ?_)
  · have h1 : k = 2 := h1
    refine VDraw.seq rfl ?_
    refine ⟨(d.which.toNat : Int), wrap_i64 (by omega) (by omega), ?_⟩
    refine rKeys_c.eq rfl ?_
    refine ⟨⟨congrArg (fun z => AV.p (.int .i64 z)) (wrap_i64 (by omega) (by omega)), rfl, trivial⟩, ?_⟩
    refine rKeys_c.eq rfl ?_
    refine ⟨⟨congrArg (fun z => AV.p (.int .i64 z)) (wrap_i64 (by omega) (by omega)), rfl, trivial⟩, ?_⟩
    refine ⟨by decide, ?_⟩
    have hk : d.which.toNat % 14 < keysL.length := by show _ < 14; omega
    refine ⟨_, ⟨by show (0 : Int) ≤ ((d.which.toNat % 14 : Nat) : Int); omega, .str (keysL.getD (d.which.toNat % 14) []), by show (keysL.map PV.str)[d.which.toNat % 14]? = _; rw [List.getElem?_map, getD_get hk]; rfl, rfl⟩, ?_⟩
    exact end1 _ rfl rfl (by rw [textN, if_pos h1])
  · have h1 : ¬ k = 2 := h1
    refine And.intro (fun h2 => ?_) (fun h2 => ?_)
    · have h2 : k = 4 := h2
      refine VDraw.seq rfl ?_
      refine ⟨(d.which.toNat : Int), wrap_i64 (by omega) (by omega), ?_⟩
      refine rMarks_c.eq rfl ?_
      refine ⟨⟨congrArg (fun z => AV.p (.int .i64 z)) (wrap_i64 (by omega) (by omega)), rfl, trivial⟩, ?_⟩
      refine rMarks_c.eq rfl ?_
      refine ⟨⟨congrArg (fun z => AV.p (.int .i64 z)) (wrap_i64 (by omega) (by omega)), rfl, trivial⟩, ?_⟩
      refine ⟨by decide, ?_⟩
      have hk : d.which.toNat % 16 < marksL.length := by show _ < 16; omega
      refine ⟨_, ⟨by show (0 : Int) ≤ ((d.which.toNat % 16 : Nat) : Int); omega, .str (marksL.getD (d.which.toNat % 16) []), by show (marksL.map PV.str)[d.which.toNat % 16]? = _; rw [List.getElem?_map, getD_get hk]; rfl, rfl⟩, ?_⟩
      exact end1 _ rfl rfl (by rw [textN, if_neg h1, if_pos h2])
    · have h2 : ¬ k = 4 := h2
      refine And.intro (fun h3 => ?_) (fun h3 => ?_)
      · have h3 : k = 3 := h3
        refine ⟨(d.n.toNat : Int), wrap_i64 (by omega) (by omega), ?_⟩
        refine ⟨by decide, ?_⟩
        refine (digits_c 4 (d.n.toNat % 10000) (by omega) (by omega)).eq rfl ?_
        exact end1 _ rfl rfl (by rw [textN, if_neg h1, if_neg h2, if_pos h3])
      · have h3 : ¬ k = 3 := h3
        have e : textN d k = nameT d.letters := by rw [textN, if_neg h1, if_neg h2, if_neg h3]
        rw [e]
        refine ⟨Nat, fun x => [(2, .ptr 0 0 0), (5, vS (nameT (d.letters.take x))), (6, .p (i64 x))], fun _ => ⟨1, [(0, ⟨79, false, .bx (d.cells.map .p)⟩)]⟩, fun x => x ≤ 9 ∧ x ≤ d.letters.length, fun x => 9 - x, ?_, ?_⟩
        · exact ⟨0, ⟨by omega, by omega⟩, ent_of [] [] [] rfl (by (repeat' first | exact trivial | exact rfl | exact ⟨rfl, rfl⟩ | exact .inl rfl | refine ⟨_, rfl, rfl, rfl, ?_⟩ | refine ⟨_, _, rfl, ?_, ?_⟩ | refine ⟨_, rfl, ?_⟩ | refine And.intro ?_ ?_)) (by (repeat' first | exact trivial | exact rfl | exact ⟨rfl, rfl⟩ | exact .inl rfl | refine ⟨_, rfl, rfl, rfl, ?_⟩ | refine ⟨_, _, rfl, ?_, ?_⟩ | refine ⟨_, rfl, ?_⟩ | refine And.intro ?_ ?_)) rfl⟩
        · rintro x ⟨g1, g2⟩
          refine And.intro (fun h4 => ?_) (fun h4 => ?_)
          · have h4 : (x : Int) < ((d.letters.map u8).length : Nat) := h4
            rw [List.length_map] at h4
            have hx : x < d.letters.length := by omega
            refine And.intro (fun h5 => ?_) (fun h5 => ?_)
            · have h5 : (x : Int) < 9 := h5
              refine ⟨_, ⟨by omega, u8 d.letters[x], by show (d.letters.map u8)[x]? = _; rw [List.getElem?_map, List.getElem?_eq_getElem hx]; rfl, rfl⟩, ?_⟩
              have hb := d.letters[x].toNat_lt
              have hs : nameT (d.letters.take (x + 1)) = nameT (d.letters.take x) ++ [abcL.getD (d.letters[x].toNat % 8) 0] := by
                rw [nameT, nameT, List.take_take, List.take_take, Nat.min_eq_right (by omega), Nat.min_eq_right (by omega), List.take_add_one (l := d.letters), List.getElem?_eq_getElem hx, List.map_append]
                rfl
              have hl : (nameT (d.letters.take x)).length ≤ 10 := by simp [nameT]; omega
              generalize d.letters[x] = b at hb hs ⊢
              refine ⟨(b.toNat : Int), wrap_i64 (by omega) (by omega), ?_⟩
              refine ⟨by decide, ?_⟩
              refine ⟨((b.toNat % 8 : Nat) : Int) + 1, ?_, ?_⟩
              · show _ = IntKind.i64.wrap (((b.toNat % 8 : Nat) : Int) + 1)
                exact wrap_i64 (by omega) (by omega)
              refine ⟨by show (0 : Int) ≤ (b.toNat % 8 : Nat) ∧ ((b.toNat % 8 : Nat) : Int) ≤ ((b.toNat % 8 : Nat) : Int) + 1 ∧ ((b.toNat % 8 : Nat) : Int) + 1 ≤ 8; omega, ?_⟩
              refine ⟨by show (nameT (d.letters.take x)).length + ((abcL.drop (b.toNat % 8)).take (b.toNat % 8 + 1 - b.toNat % 8)).length ≤ _; rw [abc_at _ (by omega)]; simp; omega, ?_⟩
              refine ⟨(x : Int) + 1, wrap_i64 (by omega) (by omega), x + 1, ⟨by omega, by omega⟩, ent_of [] [] [] rfl ⟨⟨rfl, rfl⟩, ?_, rfl, trivial⟩ (by (repeat' first | exact trivial | exact rfl | exact ⟨rfl, rfl⟩ | exact .inl rfl | refine ⟨_, rfl, rfl, rfl, ?_⟩ | refine ⟨_, _, rfl, ?_, ?_⟩ | refine ⟨_, rfl, ?_⟩ | refine And.intro ?_ ?_)) rfl, ?_⟩
              · show PV.str (nameT (d.letters.take (x + 1))) = .str (nameT (d.letters.take x) ++ (abcL.drop (b.toNat % 8)).take (b.toNat % 8 + 1 - b.toNat % 8))
                rw [hs, abc_at _ (by omega)]
              · show 9 - (x + 1) < 9 - x
                omega
            · have h5 : ¬ (x : Int) < 9 := h5
              have : x = 9 := by omega
              subst this
              refine end1 _ rfl rfl ?_
              show PEnd.ret [.str (nameT (d.letters.take 9))] = _
              rw [nameT, nameT, List.take_take, Nat.min_self]
          · have h4 : ¬ (x : Int) < ((d.letters.map u8).length : Nat) := h4
            rw [List.length_map] at h4
            refine end1 _ rfl rfl ?_
            show PEnd.ret [.str (nameT (d.letters.take x))] = _
            rw [List.take_of_length_le (by omega)]
end Go.Proofs.YtemlkodkohgmmaaDoor

/- Words: the words that drafts describe. -/
namespace Go.Proofs.YtemlkodkohgmmaaDoor
open Go Y
set_option maxRecDepth 100000
set_option maxHeartbeats 4000000

theorem text_len (d : Dr) (k : Int) : (textN d k).length ≤ 10 := by
  have hg : ∀ (L : List (List UInt8)) (n : Nat), (∀ s ∈ L, s.length ≤ 10) → (L.getD n []).length ≤ 10 := by
    intro L n h
    rw [List.getD_eq_getElem?_getD]
    cases e : L[n]? with
    | none => simp
    | some s => exact h s (List.mem_of_getElem? e)
  unfold textN
  split
  · exact hg _ _ (by decide)
  · split
    · exact hg _ _ (by decide)
    · split
      · have := dig_len 5 (d.n.toNat % 10000); omega
      · simp [nameT]; omega

def kindD (d : Dr) : Nat := 1 + d.kind.toNat % 4
def newL (d : Dr) : Prop := 0 < d.down.toNat % 3 ∧ d.down.toNat < 100
instance (d : Dr) : Decidable (newL d) := inferInstanceAs (Decidable (_ ∧ _))
def lineD (d : Dr) (l : Nat) : Nat := if newL d then l + d.down.toNat % 3 else l
def colD (d : Dr) (c : Nat) : Nat := (if newL d then 1 else c) + d.over.toNat % 4
def wordD (d : Dr) (l c : Nat) : Wd := ⟨kindD d, textN d (kindD d), lineD d l, colD d c⟩
def wordsN : Nat → Nat → List Dr → List Wd
  | _, _, [] => []
  | l, c, d :: r => wordD d l c :: wordsN (lineD d l) (colD d c + (textN d (kindD d)).length + 1) r

theorem dcell {l : List Dr} {k : Nat} (h : k < l.length) : (l.map Dr.cells)[k]? = some l[k].cells := by
  rw [List.getElem?_map, List.getElem?_eq_getElem h]; rfl

structure WS where
  k : Nat
  a : Nat
  b : Nat
  out : List Wd


theorem words37_c (l : List Dr) : Pure cx 14 [.lsts 6 (l.map Dr.cells)] (· = .ret [.lsts 4 ((wordsN 1 1 (l.take 200)).map Wd.cells)]) := by
  refine pure_of_vc Tryd.func14 rfl rfl rfl ?_
  refine ⟨WS, fun x => [(0, .p (.lsts 6 (l.map Dr.cells))), (3, .sl 0 4 0 x.out.length), (4, .p (i64 x.a)), (5, .p (i64 x.b)), (6, .p (i64 x.k))], fun x => ⟨1, [(0, ⟨34, false, .pus (x.out.map Wd.cells)⟩)]⟩,
    fun x => x.k ≤ 200 ∧ x.k ≤ l.length ∧ x.a ≤ 1 + 2 * x.k ∧ x.b ≤ 1 + 20 * x.k ∧ x.out.length = x.k ∧ wordsN 1 1 (l.take 200) = x.out ++ wordsN x.a x.b ((l.take 200).drop x.k), fun x => 200 - x.k, ?_, ?_⟩
  · exact ⟨⟨0, 1, 1, []⟩, ⟨by simp, by simp, by simp, by simp, by simp, by simp⟩, ent_of [] [] [(0, 4)] rfl (by (repeat' first | exact trivial | exact rfl | exact ⟨rfl, rfl⟩ | exact .inl rfl | refine ⟨_, rfl, rfl, rfl, ?_⟩ | refine ⟨_, _, rfl, ?_, ?_⟩ | refine ⟨_, rfl, ?_⟩ | refine And.intro ?_ ?_)) (by (repeat' first | exact trivial | exact rfl | exact ⟨rfl, rfl⟩ | exact .inl rfl | refine ⟨_, rfl, rfl, rfl, ?_⟩ | refine ⟨_, _, rfl, ?_, ?_⟩ | refine ⟨_, rfl, ?_⟩ | refine And.intro ?_ ?_)) rfl⟩
  · rintro ⟨k, a, b, out⟩ ⟨g1, g2, g3, g4, g5, g6⟩
    simp only [] at g1 g2 g3 g4 g5 g6
    have fin : (l.take 200).length ≤ k → PEnd.ret [.lsts 4 (out.map Wd.cells)] = .ret [.lsts 4 ((wordsN 1 1 (l.take 200)).map Wd.cells)] := by
      intro h
      rw [g6, List.drop_eq_nil_of_le h, wordsN, List.append_nil]
    have res : Y.Res (Y.marks [(0, (⟨34, false, .pus (out.map Wd.cells)⟩ : AObj))] [0]) 5 (.sl 0 4 0 out.length) (.lsts 4 (out.map Wd.cells)) := ⟨_, rfl, by simp, takeAll (by simp)⟩
    refine And.intro (fun h1 => ?_) (fun h1 => ?_)
    · have h1 : (k : Int) < ((l.map Dr.cells).length : Nat) := h1
      rw [List.length_map] at h1
      have hk : k < l.length := by omega
      refine And.intro (fun h2 => ?_) (fun h2 => ?_)
      · have h2 : (k : Int) < 200 := h2
        have hkt : k < (l.take 200).length := by rw [List.length_take]; omega
        rw [drop_cons hkt, wordsN] at g6
        obtain ⟨d, hd⟩ : ∃ d, l[k] = d := ⟨_, rfl⟩
        rw [List.getElem_take, hd] at g6
        have b1 := d.kind.toNat_lt
        have b2 := d.down.toNat_lt
        have b3 := d.over.toNat_lt
        have b4 := text_len d (kindD d)
        refine ⟨_, ⟨by omega, d.cells, by show (l.map Dr.cells)[k]? = _; rw [dcell hk, hd], rfl⟩, ?_⟩
        refine ⟨by decide, ?_⟩
        refine ⟨((d.kind.toNat % 4 : Nat) : Int), by show _ = IntKind.i64.wrap ((d.kind.toNat % 4 : Nat) : Int); exact wrap_i64 (by omega) (by omega), ?_⟩
        refine ⟨1 + ((d.kind.toNat % 4 : Nat) : Int), wrap_i64 (by omega) (by omega), ?_⟩
        refine VDraw.seq rfl ?_
        refine ⟨_, ⟨by omega, d.cells, by show (l.map Dr.cells)[k]? = _; rw [dcell hk, hd], rfl⟩, ?_⟩
        have hkd : 1 + ((d.kind.toNat % 4 : Nat) : Int) = ((kindD d : Nat) : Int) := by rw [kindD]; omega
        have hT : Pure cx 39 [.agg d.cells, i64 (1 + ((d.kind.toNat % 4 : Nat) : Int))] (· = .ret [.str (textN d (kindD d))]) := by rw [hkd]; exact text_c d (kindD d)
        refine hT.eq rfl ?_
        refine ⟨_, ⟨by omega, d.cells, by show (l.map Dr.cells)[k]? = _; rw [dcell hk, hd], rfl⟩, ?_⟩
        refine ⟨by decide, ?_⟩
        refine ⟨((d.down.toNat % 3 : Nat) : Int), by show _ = IntKind.i64.wrap ((d.down.toNat % 3 : Nat) : Int); exact wrap_i64 (by omega) (by omega), ?_⟩
        refine And.intro (fun h3 => ?_) (fun h3 => ?_)
        · have h3 : (0 : Int) < ((d.down.toNat % 3 : Nat) : Int) := h3
          refine ⟨_, ⟨by omega, d.cells, by show (l.map Dr.cells)[k]? = _; rw [dcell hk, hd], rfl⟩, ?_⟩
          refine And.intro (fun h4 => ?_) (fun h4 => ?_)
          · have h4 : (d.down.toNat : Int) < 100 := h4
            have hn : newL d := ⟨by omega, by omega⟩
            have hL : lineD d a = a + d.down.toNat % 3 := if_pos hn
            have hC : colD d b = 1 + d.over.toNat % 4 := congrArg (· + _) (if_pos hn)
            refine ⟨(a : Int) + ((d.down.toNat % 3 : Nat) : Int), wrap_i64 (by omega) (by omega), ?_⟩
            refine ⟨_, ⟨by omega, d.cells, by show (l.map Dr.cells)[k]? = _; rw [dcell hk, hd], rfl⟩, ?_⟩
            refine ⟨by decide, ?_⟩
            refine ⟨((d.over.toNat % 4 : Nat) : Int), by show _ = IntKind.i64.wrap ((d.over.toNat % 4 : Nat) : Int); exact wrap_i64 (by omega) (by omega), ?_⟩
            refine ⟨((1 : Int) : Int) + ((d.over.toNat % 4 : Nat) : Int), wrap_i64 (by omega) (by omega), ?_⟩
            refine ⟨((1 : Int) : Int) + ((d.over.toNat % 4 : Nat) : Int) + ((textN d (kindD d)).length : Nat), wrap_i64 (by omega) (by omega), ?_⟩
            refine ⟨((1 : Int) : Int) + ((d.over.toNat % 4 : Nat) : Int) + ((textN d (kindD d)).length : Nat) + 1, wrap_i64 (by omega) (by omega), ?_⟩
            have ew : (wordD d a b).cells = [i64 (1 + ((d.kind.toNat % 4 : Nat) : Int)), .str (textN d (kindD d)), i64 ((a : Int) + ((d.down.toNat % 3 : Nat) : Int)), i64 (((1 : Int) : Int) + ((d.over.toNat % 4 : Nat) : Int))] := by
              rw [Wd.cells, wordD, hL, hC, hkd]
              simp
            refine ⟨by show 0 + 1 ≤ 1; omega, [(wordD d a b).cells], by rw [ew]; rfl, ?_⟩
            refine ⟨by show 0 + out.length ≤ (out.map Wd.cells).length; simp, out.map Wd.cells, takeAll (by simp), ?_⟩
            refine ⟨by show (out.length + 1) * 40 ≤ 140737488355328; omega, (out ++ [wordD d a b]).map Wd.cells, by simp, ?_⟩
            refine ⟨(k : Int) + 1, wrap_i64 (by omega) (by omega), ⟨k + 1, lineD d a, colD d b + (textN d (kindD d)).length + 1, out ++ [wordD d a b]⟩, ⟨by simp only []; omega, by simp only []; omega, by simp only []; omega, by simp only []; omega, by simp only [List.length_append, List.length_cons, List.length_nil]; omega, by simp only []; rw [g6, List.append_assoc]; rfl⟩, ent_of [] [(0, 3)] [] rfl ⟨rfl, ?_, ?_, ?_, rfl, trivial⟩ (by (repeat' first | exact trivial | exact rfl | exact ⟨rfl, rfl⟩ | exact .inl rfl | refine ⟨_, rfl, rfl, rfl, ?_⟩ | refine ⟨_, _, rfl, ?_, ?_⟩ | refine ⟨_, rfl, ?_⟩ | refine And.intro ?_ ?_)) rfl, by simp only []; omega⟩
            · exact congrArg (fun n => AV.sl _ 4 0 n) (by simp)
            · exact congrArg (fun z => i64 z) (by rw [hL] <;> simp)
            · exact congrArg (fun z => i64 z) (by rw [hC] <;> simp)
          · have h4 : ¬ (d.down.toNat : Int) < 100 := h4
            have hn : ¬ newL d := fun h => by have := h.2; omega
            have hL : lineD d a = a := if_neg hn
            have hC : colD d b = b + d.over.toNat % 4 := congrArg (· + _) (if_neg hn)
            refine ⟨_, ⟨by omega, d.cells, by show (l.map Dr.cells)[k]? = _; rw [dcell hk, hd], rfl⟩, ?_⟩
            refine ⟨by decide, ?_⟩
            refine ⟨((d.over.toNat % 4 : Nat) : Int), by show _ = IntKind.i64.wrap ((d.over.toNat % 4 : Nat) : Int); exact wrap_i64 (by omega) (by omega), ?_⟩
            refine ⟨((b : Int) : Int) + ((d.over.toNat % 4 : Nat) : Int), wrap_i64 (by omega) (by omega), ?_⟩
            refine ⟨((b : Int) : Int) + ((d.over.toNat % 4 : Nat) : Int) + ((textN d (kindD d)).length : Nat), wrap_i64 (by omega) (by omega), ?_⟩
            refine ⟨((b : Int) : Int) + ((d.over.toNat % 4 : Nat) : Int) + ((textN d (kindD d)).length : Nat) + 1, wrap_i64 (by omega) (by omega), ?_⟩
            have ew : (wordD d a b).cells = [i64 (1 + ((d.kind.toNat % 4 : Nat) : Int)), .str (textN d (kindD d)), i64 (a : Int), i64 (((b : Int) : Int) + ((d.over.toNat % 4 : Nat) : Int))] := by
              rw [Wd.cells, wordD, hL, hC, hkd]
              simp
            refine ⟨by show 0 + 1 ≤ 1; omega, [(wordD d a b).cells], by rw [ew]; rfl, ?_⟩
            refine ⟨by show 0 + out.length ≤ (out.map Wd.cells).length; simp, out.map Wd.cells, takeAll (by simp), ?_⟩
            refine ⟨by show (out.length + 1) * 40 ≤ 140737488355328; omega, (out ++ [wordD d a b]).map Wd.cells, by simp, ?_⟩
            refine ⟨(k : Int) + 1, wrap_i64 (by omega) (by omega), ⟨k + 1, lineD d a, colD d b + (textN d (kindD d)).length + 1, out ++ [wordD d a b]⟩, ⟨by simp only []; omega, by simp only []; omega, by simp only []; omega, by simp only []; omega, by simp only [List.length_append, List.length_cons, List.length_nil]; omega, by simp only []; rw [g6, List.append_assoc]; rfl⟩, ent_of [] [(0, 3)] [] rfl ⟨rfl, ?_, ?_, ?_, rfl, trivial⟩ (by (repeat' first | exact trivial | exact rfl | exact ⟨rfl, rfl⟩ | exact .inl rfl | refine ⟨_, rfl, rfl, rfl, ?_⟩ | refine ⟨_, _, rfl, ?_, ?_⟩ | refine ⟨_, rfl, ?_⟩ | refine And.intro ?_ ?_)) rfl, by simp only []; omega⟩
            · exact congrArg (fun n => AV.sl _ 4 0 n) (by simp)
            · exact congrArg (fun z => i64 z) (by rw [hL] <;> simp)
            · exact congrArg (fun z => i64 z) (by rw [hC] <;> simp)
        · have h3 : ¬ (0 : Int) < ((d.down.toNat % 3 : Nat) : Int) := h3
          have hn : ¬ newL d := fun h => by have := h.1; omega
          have hL : lineD d a = a := if_neg hn
          have hC : colD d b = b + d.over.toNat % 4 := congrArg (· + _) (if_neg hn)
          refine ⟨_, ⟨by omega, d.cells, by show (l.map Dr.cells)[k]? = _; rw [dcell hk, hd], rfl⟩, ?_⟩
          refine ⟨by decide, ?_⟩
          refine ⟨((d.over.toNat % 4 : Nat) : Int), by show _ = IntKind.i64.wrap ((d.over.toNat % 4 : Nat) : Int); exact wrap_i64 (by omega) (by omega), ?_⟩
          refine ⟨((b : Int) : Int) + ((d.over.toNat % 4 : Nat) : Int), wrap_i64 (by omega) (by omega), ?_⟩
          refine ⟨((b : Int) : Int) + ((d.over.toNat % 4 : Nat) : Int) + ((textN d (kindD d)).length : Nat), wrap_i64 (by omega) (by omega), ?_⟩
          refine ⟨((b : Int) : Int) + ((d.over.toNat % 4 : Nat) : Int) + ((textN d (kindD d)).length : Nat) + 1, wrap_i64 (by omega) (by omega), ?_⟩
          have ew : (wordD d a b).cells = [i64 (1 + ((d.kind.toNat % 4 : Nat) : Int)), .str (textN d (kindD d)), i64 (a : Int), i64 (((b : Int) : Int) + ((d.over.toNat % 4 : Nat) : Int))] := by
            rw [Wd.cells, wordD, hL, hC, hkd]
            simp
          refine ⟨by show 0 + 1 ≤ 1; omega, [(wordD d a b).cells], by rw [ew]; rfl, ?_⟩
          refine ⟨by show 0 + out.length ≤ (out.map Wd.cells).length; simp, out.map Wd.cells, takeAll (by simp), ?_⟩
          refine ⟨by show (out.length + 1) * 40 ≤ 140737488355328; omega, (out ++ [wordD d a b]).map Wd.cells, by simp, ?_⟩
          refine ⟨(k : Int) + 1, wrap_i64 (by omega) (by omega), ⟨k + 1, lineD d a, colD d b + (textN d (kindD d)).length + 1, out ++ [wordD d a b]⟩, ⟨by simp only []; omega, by simp only []; omega, by simp only []; omega, by simp only []; omega, by simp only [List.length_append, List.length_cons, List.length_nil]; omega, by simp only []; rw [g6, List.append_assoc]; rfl⟩, ent_of [] [(0, 3)] [] rfl ⟨rfl, ?_, ?_, ?_, rfl, trivial⟩ (by (repeat' first | exact trivial | exact rfl | exact ⟨rfl, rfl⟩ | exact .inl rfl | refine ⟨_, rfl, rfl, rfl, ?_⟩ | refine ⟨_, _, rfl, ?_, ?_⟩ | refine ⟨_, rfl, ?_⟩ | refine And.intro ?_ ?_)) rfl, by simp only []; omega⟩
          · exact congrArg (fun n => AV.sl _ 4 0 n) (by simp)
          · exact congrArg (fun z => i64 z) (by rw [hL] <;> simp)
          · exact congrArg (fun z => i64 z) (by rw [hC] <;> simp)
      · have h2 : ¬ (k : Int) < 200 := h2
        exact end1 _ rfl res (fin (by rw [List.length_take]; omega))
    · have h1 : ¬ (k : Int) < ((l.map Dr.cells).length : Nat) := h1
      rw [List.length_map] at h1
      exact end1 _ rfl res (fin (by rw [List.length_take]; omega))
end Go.Proofs.YtemlkodkohgmmaaDoor

/- Plain laws: reading a text in which words stand. -/
namespace Go.Proofs.YtemlkodkohgmmaaDoor
open Go Y
set_option maxRecDepth 100000
set_option maxHeartbeats 4000000

def isBl (c : UInt8) : Prop := c.toNat = 32 ∨ c.toNat = 10
/-- Neither blank nor a comment begins here. -/
def stopB (r : List UInt8) : Bool := match r with
  | [] => true
  | c :: _ => !(decide (c.toNat = 32) || decide (c.toNat = 10)) && !List.isPrefixOf [45, 45] r && !List.isPrefixOf [40, 42] r

theorem skip_stop {r : List UInt8} (h : stopB r = true) : ∀ f, skipN f r = .inl 0
  | 0 => rfl
  | f + 1 => by
    cases r with
    | nil => rfl
    | cons c r =>
      simp only [stopB, Bool.and_eq_true, Bool.not_eq_true', Bool.or_eq_false_iff, decide_eq_false_iff_not] at h
      obtain ⟨⟨h1, h2⟩, h3⟩ := h
      rw [skipN]
      rw [if_neg (by omega), if_neg (by rw [h2]; simp), if_neg (by rw [h3]; simp)]
theorem stop_skip {r : List UInt8} {f : Nat} (h : skipN (f + 1) r = .inl 0) : stopB r = true := by
  cases r with
  | nil => rfl
  | cons c r =>
    rw [skipN] at h
    split at h
    · exfalso
      cases e : skipN f ((c :: r).drop 1) <;> rw [e] at h <;> simp [shift] at h
    · split at h
      · exfalso
        rename_i h2
        have := span2 h2
        cases e : skipN f ((c :: r).drop (spanN notNl (c :: r))) <;> rw [e] at h <;> simp [shift] at h
        omega
      · split at h
        · exfalso
          split at h
          · cases h
          · rename_i n _
            cases e : skipN f ((c :: r).drop (2 + n)) <;> rw [e] at h <;> simp [shift] at h
        · rename_i h1 h2 h3
          simp only [stopB, Bool.and_eq_true, Bool.not_eq_true', Bool.or_eq_false_iff, decide_eq_false_iff_not]
          exact ⟨⟨⟨by omega, by omega⟩, Bool.not_eq_true _ ▸ h2⟩, Bool.not_eq_true _ ▸ h3⟩

def Skips (g r : List UInt8) : Prop := ∀ f, (g ++ r).length ≤ f → skipN f (g ++ r) = .inl g.length

theorem skips_blank {r : List UInt8} (hr : stopB r = true) : ∀ {g : List UInt8}, (∀ c ∈ g, isBl c) → Skips g r
  | [], _, f, _ => skip_stop hr f
  | c :: g, hg, f, hf => by
    cases f with
    | zero => simp at hf
    | succ f =>
      have hc : isBl c := hg c (by simp)
      have ih := skips_blank hr (g := g) (fun x hx => hg x (List.mem_cons_of_mem _ hx)) f (by simpa using hf)
      rw [List.cons_append, skipN]
      simp only [List.drop_succ_cons, List.drop_zero]
      rw [if_pos (show c.toNat = 32 ∨ c.toNat = 10 from hc), ih]
      simp [shift]

theorem spanN_append (f : UInt8 → Bool) : ∀ (t u : List UInt8), spanN f (t ++ u) = if spanN f t = t.length then t.length + spanN f u else spanN f t
  | [], u => by simp [spanN]
  | c :: t, u => by
    have ih := spanN_append f t u
    have hl := spanN_le f t
    by_cases h : f c = true
    · have h1 : spanN f (c :: t ++ u) = spanN f (t ++ u) + 1 := by simp [spanN, h]
      have h2 : spanN f (c :: t) = spanN f t + 1 := by simp [spanN, h]
      rw [h1, h2, ih, List.length_cons]
      by_cases e : spanN f t = t.length
      · rw [if_pos e, if_pos (by omega)]; omega
      · rw [if_neg e, if_neg (by omega)]
    · have h1 : spanN f (c :: t ++ u) = 0 := by simp [spanN, h]
      have h2 : spanN f (c :: t) = 0 := by simp [spanN, h]
      rw [h1, h2, List.length_cons, if_neg (by omega)]
theorem spanN_all {f : UInt8 → Bool} {t : List UInt8} : spanN f t = t.length ↔ ∀ c ∈ t, f c = true := by
  induction t with
  | nil => simp [spanN]
  | cons c t ih =>
    have hl := spanN_le f t
    simp only [spanN, List.length_cons]
    by_cases h : f c = true
    · rw [if_pos h]
      constructor
      · intro e x hx
        rcases List.mem_cons.1 hx with rfl | hx
        · exact h
        · exact ih.1 (by omega) x hx
      · intro e; rw [ih.2 fun x hx => e x (by simp [hx])]
    · rw [if_neg h]
      constructor
      · intro e; omega
      · intro e; exact absurd (e c (by simp)) h
theorem spanN_take (f : UInt8 → Bool) (r : List UInt8) : ∀ c ∈ r.take (spanN f r), f c = true := by
  induction r with
  | nil => simp [spanN]
  | cons c r ih =>
    simp only [spanN]
    split
    · rename_i h
      intro x hx
      simp only [List.take_succ_cons, List.mem_cons] at hx
      rcases hx with rfl | hx
      · exact h
      · exact ih x hx
    · simp

/-- A blank, or the beginning of a comment. -/
def isSep (c : UInt8) : Prop := isBl c ∨ c.toNat = 40

/-- What follows a word: nothing, a blank or a comment, or an octet. -/
inductive Fol : List UInt8 → List UInt8 → Prop
  | nil (a : List UInt8) : Fol a []
  | bl (a : List UInt8) (c : UInt8) (b : List UInt8) (h : isSep c) : Fol a (c :: b)
  | same (c : UInt8) (a b : List UInt8) : Fol (c :: a) (c :: b)

theorem bl_aln {c : UInt8} (h : isSep c) : isAln c = false := by
  unfold isSep isBl at h
  simp [isAln, isDig, isLet]
  omega
theorem bl_mark2 {c d : UInt8} (h : isSep d) : inL marksL [c, d] = false := by
  cases e : inL marksL [c, d] with
  | false => rfl
  | true =>
    have := inL_mem e
    have hd : d = 32 ∨ d = 10 ∨ d = 40 := by
      rcases h with (h | h) | h
      · left; exact UInt8.toNat_inj.1 h
      · right; left; exact UInt8.toNat_inj.1 h
      · right; right; exact UInt8.toNat_inj.1 h
    simp [marksL] at this
    rcases hd with rfl | rfl | rfl <;> simp at this

/-- Kind and text of a word depend on what follows by one octet. -/
theorem one_fol {tx a b : List UInt8} {kd : Int} (hr : rightN kd tx = true) (h : oneN (tx ++ a) = (kd, tx)) (hf : Fol a b) : oneN (tx ++ b) = (kd, tx) := by
  have hlen := right_len hr
  have hne : tx ≠ [] := by intro e; subst e; simp at hlen
  unfold oneN at h
  split at h
  · rename_i hpos
    have htk : (tx ++ a).take (spanN isAln (tx ++ a)) = tx := by
      split at h
      · exact (Prod.mk.inj h).2
      · split at h <;> exact (Prod.mk.inj h).2
    have hall : spanN isAln tx = tx.length := spanN_all.2 (by rw [← htk]; exact spanN_take _ _)
    have hsp : spanN isAln (tx ++ a) = tx.length := by
      have := congrArg List.length htk
      have hle := spanN_le isAln (tx ++ a)
      rw [List.length_take] at this
      omega
    have hsa : spanN isAln a = 0 := by rw [spanN_append, if_pos hall] at hsp; omega
    have hsb : spanN isAln b = 0 := by
      cases hf with
      | nil => rfl
      | bl _ c b' hc => simp [spanN, bl_aln hc]
      | same c a' b' =>
        simp only [spanN] at hsa ⊢
        split at hsa
        · omega
        · rename_i hc; rw [if_neg hc]
    have hspb : spanN isAln (tx ++ b) = tx.length := by rw [spanN_append, if_pos hall, hsb]; rfl
    unfold oneN
    rw [hspb, if_pos (by omega), List.take_left]
    rw [htk] at h
    exact h
  · rename_i hz
    have hsz : spanN isAln (tx ++ a) = 0 := by omega
    obtain ⟨c, tx', rfl⟩ : ∃ c t, tx = c :: t := by cases tx with
      | nil => exact absurd rfl hne
      | cons c t => exact ⟨c, t, rfl⟩
    have hc : isAln c = false := by
      simp only [List.cons_append, spanN] at hsz
      split at hsz
      · omega
      · rename_i h; simpa using h
    have hszb : ¬ 0 < spanN isAln (c :: tx' ++ b) := by simp [spanN, hc]
    unfold oneN
    rw [if_neg hszb]
    split at h
    · rename_i h2
      have e := (Prod.mk.inj h).2
      have hk := (Prod.mk.inj h).1
      simp only [Bool.and_eq_true, decide_eq_true_eq] at h2
      have hl2 : tx'.length = 1 := by
        have := congrArg List.length e
        rw [List.length_take] at this
        simp at this h2
        omega
      obtain ⟨d, rfl⟩ : ∃ d, tx' = [d] := by
        match tx', hl2 with
        | [d], _ => exact ⟨d, rfl⟩
      have ht : ([c, d] ++ b).take 2 = [c, d] := rfl
      have ha : ([c, d] ++ a).take 2 = [c, d] := rfl
      rw [ha] at h2
      rw [ht, if_pos (by simp [h2.2]), hk]
    · rename_i h2
      have e := (Prod.mk.inj h).2
      have hk := (Prod.mk.inj h).1
      have hl1 : tx' = [] := by
        have := congrArg List.length e
        rw [List.length_take] at this
        simp only [List.length_append, List.length_cons] at this
        exact List.eq_nil_of_length_eq_zero (by omega)
      subst hl1
      rw [if_neg, hk]
      · rfl
      · intro h3
        simp only [Bool.and_eq_true, decide_eq_true_eq] at h3
        cases hf with
        | nil => simp at h3
        | bl _ x b' hx =>
          have : ([c] ++ x :: b').take 2 = [c, x] := rfl
          rw [this, bl_mark2 hx] at h3
          simp at h3
        | same x a' b' =>
          apply h2
          simp only [Bool.and_eq_true, decide_eq_true_eq]
          exact ⟨by simp, h3.2⟩

theorem stop_fol {tx a b : List UInt8} (hne : tx ≠ []) (h : stopB (tx ++ a) = true) (hf : Fol a b) : stopB (tx ++ b) = true := by
  cases tx with
  | nil => exact absurd rfl hne
  | cons c t =>
    simp only [List.cons_append, stopB, Bool.and_eq_true, Bool.not_eq_true', Bool.or_eq_false_iff, decide_eq_false_iff_not] at h ⊢
    obtain ⟨⟨h1, h2⟩, h3⟩ := h
    refine ⟨⟨h1, ?_⟩, ?_⟩
    · cases t with
      | cons d t => simpa [List.isPrefixOf] using h2
      | nil =>
        cases hf with
        | nil => simp [List.isPrefixOf]
        | bl _ x b' hx =>
          unfold isSep isBl at hx
          simp [List.isPrefixOf]
          rintro _ rfl
          simp at hx
        | same x a' b' => simpa [List.isPrefixOf] using h2
    · cases t with
      | cons d t => simpa [List.isPrefixOf] using h3
      | nil =>
        cases hf with
        | nil => simp [List.isPrefixOf]
        | bl _ x b' hx =>
          unfold isSep isBl at hx
          simp [List.isPrefixOf]
          rintro _ rfl
          simp at hx
        | same x a' b' => simpa [List.isPrefixOf] using h3

theorem key_aln : ∀ t ∈ keysL, spanN isAln t = t.length ∧ isDig (t.headD 0) = false ∧ t ≠ [] := by decide
theorem mark_one : ∀ t ∈ marksL, oneN t = (4, t) ∧ stopB t = true := by decide
/-- A valid word, alone. -/
theorem right_one {kd : Int} {tx : List UInt8} (h : rightN kd tx = true) : oneN tx = (kd, tx) ∧ stopB tx = true := by
  have hlen := right_len h
  have alnStop : ∀ {t : List UInt8}, spanN isAln t = t.length → t ≠ [] → stopB t = true := by
    intro t ha hne
    cases t with
    | nil => rfl
    | cons c t =>
      have hc := spanN_all.1 ha c (by simp)
      simp only [stopB, Bool.and_eq_true, Bool.not_eq_true', Bool.or_eq_false_iff, decide_eq_false_iff_not]
      have : c.toNat ≠ 32 ∧ c.toNat ≠ 10 ∧ c.toNat ≠ 45 ∧ c.toNat ≠ 40 := by
        simp [isAln, isDig, isLet] at hc
        omega
      refine ⟨⟨⟨this.1, this.2.1⟩, ?_⟩, ?_⟩
      · simp [List.isPrefixOf]
        rintro rfl
        exact absurd rfl this.2.2.1
      · simp [List.isPrefixOf]
        rintro rfl
        exact absurd rfl this.2.2.2
  have one : ∀ {t : List UInt8}, spanN isAln t = t.length → t ≠ [] → oneN t = (if inL keysL t then (2, t) else if isDig (t.headD 0) then (3, t) else (1, t)) := by
    intro t ha hne
    unfold oneN
    have : 0 < t.length := by cases t <;> simp at hne ⊢
    rw [ha, if_pos this, List.take_length]
  unfold rightN at h
  split at h
  · rename_i hk
    subst hk
    simp [nameN] at h
    obtain ⟨⟨⟨⟨h1, h2⟩, h3⟩, h4⟩, h5⟩ := h
    refine ⟨?_, alnStop h4 h1⟩
    rw [one h4 h1, h5]
    have : isDig (tx.headD 0) = false := by
      cases tx with
      | nil => exact absurd rfl h1
      | cons c t =>
        have h3 : isLet c = true := h3
        show isDig c = false
        simp [isLet, isDig] at h3 ⊢
        omega
    rw [this]
    rfl
  · split at h
    · rename_i hk
      subst hk
      obtain ⟨h1, h2, h3⟩ := key_aln tx (inL_mem h)
      refine ⟨?_, alnStop h1 h3⟩
      rw [one h1 h3, h]
      rfl
    · split at h
      · rename_i hk
        subst hk
        simp [numN] at h
        obtain ⟨⟨⟨h1, h2⟩, h3⟩, h4⟩ := h
        have ha : spanN isAln tx = tx.length := spanN_all.2 fun c hc => by simp [isAln, spanN_all.1 h3 c hc]
        have hd : isDig (tx.headD 0) = true := by
          cases tx with
          | nil => exact absurd rfl h1
          | cons c t => exact spanN_all.1 h3 c (by simp)
        have hk : inL keysL tx = false := by
          cases e : inL keysL tx with
          | false => rfl
          | true => rw [(key_aln tx (inL_mem e)).2.1] at hd; cases hd
        refine ⟨?_, alnStop ha h1⟩
        rw [one ha h1, hk, hd]
        rfl
      · split at h
        · rename_i hk
          subst hk
          exact mark_one tx (inL_mem h)
        · cases h

/-! ### Places -/
theorem advs_text {p : Nat × Nat} {t : List UInt8} (h : ∀ c ∈ t, c.toNat ≠ 10) : advs p t = (p.1, p.2 + t.length) := by
  induction t generalizing p with
  | nil => rfl
  | cons c t ih =>
    rw [advs_cons, ih fun x hx => h x (by simp [hx])]
    simp [adv, h c (by simp)]
    omega
theorem right_noNl {kd : Int} {tx : List UInt8} (h : rightN kd tx = true) : ∀ c ∈ tx, c.toNat ≠ 10 := by
  have aln : ∀ {t : List UInt8}, spanN isAln t = t.length → ∀ c ∈ t, c.toNat ≠ 10 := by
    intro t ha c hc
    have := spanN_all.1 ha c hc
    simp [isAln, isDig, isLet] at this
    omega
  unfold rightN at h
  split at h
  · simp [nameN] at h
    exact aln h.1.2
  · split at h
    · exact aln (key_aln tx (inL_mem h)).1
    · split at h
      · simp [numN] at h
        exact aln (spanN_all.2 fun c hc => by simp [isAln, spanN_all.1 h.1.2 c hc])
      · split at h
        · exact (by decide : ∀ t ∈ marksL, ∀ c ∈ t, c.toNat ≠ 10) tx (inL_mem h)
        · cases h

/-- A text in which words stand, from a place on; 'suf' follows. -/
inductive Lay : Nat × Nat → List UInt8 → List Wd → List UInt8 → Prop
  | nil (p : Nat × Nat) (suf : List UInt8) : Lay p [] [] suf
  | cons {p : Nat × Nat} {g T : List UInt8} {w : Wd} {ws : List Wd} {suf : List UInt8} {l c : Nat} (hsk : Skips g (w.text ++ (T ++ suf))) (h1 : oneN (w.text ++ (T ++ suf)) = (w.kind, w.text)) (hr : rightN w.kind w.text = true)
      (hp : advs p g = (l, c)) (hl : w.line = l) (hc : w.col = c) (h : Lay (l, c + w.text.length) T ws suf) : Lay p (g ++ (w.text ++ T)) (w :: ws) suf

theorem at_app (pre s : List UInt8) : at_ (pre ++ s) pre.length = advs (1, 1) pre := by simp [at_]

theorem read_lay {p : Nat × Nat} {T : List UInt8} {ws : List Wd} {suf : List UInt8} (h : Lay p T ws suf) : ∀ (pre : List UInt8) (acc : List Wd) (f : Nat), advs (1, 1) pre = p → acc.length + ws.length ≤ 1500 →
    readN (f + ws.length) (pre ++ (T ++ suf)) pre.length acc = readN f (pre ++ (T ++ suf)) (pre ++ T).length (acc ++ ws) := by
  induction h with
  | nil p suf => intro pre acc f _ _; simp
  | @cons p g T w ws suf l c hsk h1 hr hp hl hc h ih =>
    intro pre acc f hpre hlen
    simp only [List.length_cons] at hlen ⊢
    obtain ⟨s, hs⟩ : ∃ s, s = pre ++ (g ++ (w.text ++ T) ++ suf) := ⟨_, rfl⟩
    have hd : s.drop pre.length = g ++ (w.text ++ (T ++ suf)) := by rw [hs]; simp
    have hd2 : s.drop (pre.length + g.length) = w.text ++ (T ++ suf) := by rw [← List.drop_drop, hd]; simp
    have hwl := right_len hr
    have hsl : s.length = pre.length + (g ++ (w.text ++ (T ++ suf))).length := by rw [hs]; simp
    have hat : at_ s (pre.length + g.length) = (l, c) := by
      have : s = (pre ++ g) ++ (w.text ++ (T ++ suf)) := by rw [hs]; simp
      rw [this, ← List.length_append, at_app, advs_append, hpre, hp]
    have hsk' : skipN s.length (s.drop pre.length) = .inl g.length := by rw [hd]; exact hsk _ (by omega)
    rw [← hs, show f + (ws.length + 1) = (f + ws.length) + 1 by omega, readN, hsk']
    simp only []
    rw [readB, if_neg (by rw [hsl]; simp; omega), hd2, h1]
    simp only [hr]
    rw [if_neg (by omega), hat]
    have hw : (⟨w.kind, w.text, ((l, c) : Nat × Nat).1, ((l, c) : Nat × Nat).2⟩ : Wd) = w := by
      obtain ⟨a, b, c', d⟩ := w
      simp only [] at hl hc
      subst hl hc
      rfl
    have hw' : (⟨w.kind, w.text, (l : Int), (c : Int)⟩ : Wd) = w := hw
    simp only []
    rw [hw']
    have := ih (pre ++ g ++ w.text) (acc ++ [w]) f (by rw [advs_append, advs_append, hpre, hp, advs_text (right_noNl hr)]) (by simp; omega)
    have e1 : pre ++ g ++ w.text ++ (T ++ suf) = s := by rw [hs]; simp
    have e2 : (pre ++ g ++ w.text).length = pre.length + g.length + w.text.length := by simp; omega
    have e3 : (pre ++ g ++ w.text ++ T).length = (pre ++ (g ++ (w.text ++ T))).length := by simp
    rw [e1, e2, e3] at this
    rw [this]
    simp
end Go.Proofs.YtemlkodkohgmmaaDoor

/- Plain laws: joining the words of a text. -/
namespace Go.Proofs.YtemlkodkohgmmaaDoor
open Go Y
set_option maxRecDepth 100000
set_option maxHeartbeats 4000000

/-- How a place moves on. -/
theorem advs_move (u : List UInt8) : ∀ (p : Nat × Nat), 1 ≤ p.2 → 1 ≤ (advs p u).2 ∧ p.1 ≤ (advs p u).1 ∧ ((advs p u).1 = p.1 → (advs p u).2 = p.2 + u.length) ∧ (p.1 < (advs p u).1 → (advs p u).1 - p.1 + ((advs p u).2 - 1) ≤ u.length) := by
  induction u with
  | nil => intro p hp; simp [advs, hp]
  | cons c u ih =>
    intro p hp
    rw [advs_cons]
    by_cases h : c.toNat = 10
    · have e : adv p c = (p.1 + 1, 1) := by simp [adv, h]
      obtain ⟨h1, h2, h3, h4⟩ := ih (adv p c) (by rw [e]; simp)
      rw [e] at h1 h2 h3 h4 ⊢
      simp only [] at h1 h2 h3 h4
      refine ⟨h1, by omega, fun h => by omega, fun _ => ?_⟩
      simp only [List.length_cons]
      rcases Nat.lt_or_ge (p.1 + 1) (advs (p.1 + 1, 1) u).1 with h5 | h5
      · have := h4 h5; omega
      · have := h3 (by omega); omega
    · have e : adv p c = (p.1, p.2 + 1) := by simp [adv, h]
      obtain ⟨h1, h2, h3, h4⟩ := ih (adv p c) (by rw [e]; simp)
      rw [e] at h1 h2 h3 h4 ⊢
      simp only [] at h1 h2 h3 h4
      simp only [List.length_cons]
      exact ⟨h1, h2, fun h => by have := h3 h; omega, fun h => by have := h4 h; omega⟩

theorem advs_rep (n : Nat) (p : Nat × Nat) : advs p (List.replicate n 10) = (p.1 + n, if n = 0 then p.2 else 1) ∧ advs p (List.replicate n 32) = (p.1, p.2 + n) := by
  induction n generalizing p with
  | zero => simp [advs]
  | succ n ih =>
    constructor
    · rw [List.replicate_succ, advs_cons, (ih _).1]
      simp [adv]
      omega
    · rw [List.replicate_succ, advs_cons, (ih _).2]
      simp [adv]
      omega
/-- The gap leads to the word's place. -/
theorem advs_gap {l c : Nat} {w : Wd} {l' c' : Nat} (hl : w.line = l') (hc : w.col = c') (hc1 : 1 ≤ c') (h : ¬ (l' < l ∨ l' = l ∧ c' < c)) : advs (l, c) (gapN l c w) = (l', c') := by
  rw [gapN, hl, hc, advs_append, (advs_rep _ _).1, (advs_rep _ _).2]
  simp only [Int.toNat_natCast]
  by_cases hlt : l < l'
  · rw [if_neg (by omega), if_pos hlt]
    ext <;> simp <;> omega
  · rw [if_pos (by omega), if_neg hlt]
    ext <;> simp <;> omega
theorem gap_bl (l c : Nat) (w : Wd) : ∀ x ∈ gapN l c w, isBl x := by
  intro x hx
  simp only [gapN, List.mem_append, List.mem_replicate] at hx
  rcases hx with ⟨_, rfl⟩ | ⟨_, rfl⟩
  · exact .inr rfl
  · exact .inl rfl

theorem one_split {r : List UInt8} : (oneN r).2 = r.take (oneN r).2.length := by
  unfold oneN
  split
  · split
    · simp
    · split <;> simp
  · split
    · simp
    · simp

theorem skip_end : ∀ (f : Nat) (s : List UInt8) (n : Nat), s.length ≤ f → skipN f s = .inl n → stopB (s.drop n) = true
  | 0, s, n, hf, h => by
    have : s = [] := List.eq_nil_of_length_eq_zero (by omega)
    subst this
    simp [stopB]
  | f + 1, [], n, _, h => by simp [stopB]
  | f + 1, c :: r, n, hf, h => by
    have sh : ∀ (m : Nat) (x : Nat ⊕ Nat), shift m x = .inl n → ∃ n', x = .inl n' ∧ n = m + n' := by
      intro m x h
      cases x with
      | inl y => simp [shift] at h; exact ⟨y, rfl, by omega⟩
      | inr y => simp [shift] at h
    have h0 := h
    rw [skipN] at h
    split at h
    · obtain ⟨n', h1, rfl⟩ := sh _ _ h
      rw [← List.drop_drop]
      exact skip_end f _ n' (by simp at hf ⊢; omega) h1
    · split at h
      · rename_i h2
        have hs := span2 h2
        obtain ⟨n', h1, rfl⟩ := sh _ _ h
        rw [← List.drop_drop]
        exact skip_end f _ n' (by rw [List.length_drop]; omega) h1
      · split at h
        · split at h
          · cases h
          · rename_i m _
            obtain ⟨n', h1, rfl⟩ := sh _ _ h
            rw [← List.drop_drop]
            exact skip_end f _ n' (by rw [List.length_drop]; omega) h1
        · injection h with h
          subst h
          simpa using stop_skip h0

theorem at_add (t : List UInt8) (k n : Nat) : at_ t (k + n) = advs (at_ t k) ((t.drop k).take n) := by
  rw [at_, at_, List.take_add, advs_append]
theorem at_pos (t : List UInt8) (k : Nat) : 1 ≤ (at_ t k).1 ∧ 1 ≤ (at_ t k).2 := by
  have := advs_move (t.take k) (1, 1) (by simp)
  exact ⟨this.2.1, this.1⟩
theorem advs_bound (u : List UInt8) (p : Nat × Nat) : (advs p u).1 ≤ p.1 + u.length ∧ (advs p u).2 ≤ p.2 + u.length + 1 := by
  induction u generalizing p with
  | nil => simp [advs]
  | cons c u ih =>
    have := ih (adv p c)
    have h2 := adv_le p c
    rw [advs_cons]
    simp only [List.length_cons]
    omega
theorem at_bound (t : List UInt8) (k : Nat) (h : k ≤ t.length) : (at_ t k).1 ≤ 1 + k ∧ (at_ t k).2 ≤ 1 + k := by
  have h1 := advs_bound (t.take k) (1, 1)
  have h2 := advs_move (t.take k) (1, 1) (by simp)
  rw [List.length_take, Nat.min_eq_left h] at h1 h2
  show (advs (1, 1) (t.take k)).1 ≤ 1 + k ∧ (advs (1, 1) (t.take k)).2 ≤ 1 + k
  obtain ⟨a1, a2, a3, a4⟩ := h2
  simp only [] at a1 a2 a3 a4 h1
  rcases Nat.lt_or_ge 1 (advs (1, 1) (t.take k)).1 with h5 | h5
  · have := a4 h5; omega
  · have := a3 (by omega); omega

/-- A word that was read from a text. -/
def From (t : List UInt8) (v : Wd) : Prop := (∃ j, j < t.length ∧ v.line = (at_ t j).1 ∧ v.col = (at_ t j).2) ∧ rightN v.kind v.text = true

/-- What has been read, joined. -/
theorem lay_read (t : List UInt8) : ∀ (f k : Nat) (acc ws : List Wd), k ≤ t.length → readN f t k acc = .ok ws → t.length < k + f →
    ∃ vs T, ws = acc ++ vs ∧ putN (at_ t k).1 (at_ t k).2 vs = some T ∧ T.length ≤ t.length - k ∧ Lay (at_ t k) T vs [] ∧ Fol (t.drop k) T ∧ ∀ v ∈ vs, From t v
  | 0, k, acc, ws, hk, _, hf => by omega
  | f + 1, k, acc, ws, hk, h, hf => by
    rw [readN] at h
    split at h
    · cases h
    · rename_i n hsk
      have hn := skipN_le _ _ _ (.inl hsk)
      rw [List.length_drop] at hn
      have hst := skip_end _ _ _ (by rw [List.length_drop]; omega) hsk
      rw [List.drop_drop] at hst
      rw [readB] at h
      split at h
      · injection h with h
        exact ⟨[], [], by simp [h], rfl, by simp, Lay.nil _ _, Fol.nil _, by simp⟩
      · rename_i hlt
        split at h
        · cases h
        · rename_i hr
          split at h
          · cases h
          · obtain ⟨r, hrd⟩ : ∃ r, r = t.drop (k + n) := ⟨_, rfl⟩
            rw [← hrd] at h hr hst
            have hne : r ≠ [] := by intro e; have := congrArg List.length (hrd.symm.trans e); rw [List.length_drop] at this; simp only [List.length_nil] at this; omega
            have hpos := one_pos hne
            have hspl := one_split (r := r)
            obtain ⟨kd, tx, ho⟩ : ∃ kd tx, oneN r = (kd, tx) := ⟨_, _, rfl⟩
            rw [ho] at h hr hpos hspl
            simp only [] at h hr hpos hspl
            have hrl : r.length = t.length - (k + n) := by rw [hrd, List.length_drop]
            have htl : tx.length ≤ r.length := by have := congrArg List.length hspl; rw [List.length_take] at this; omega
            obtain ⟨vs, T, e1, e2, e3, e4, e5, e6⟩ := lay_read t f (k + n + tx.length) _ ws (by omega) h (by omega)
            have hsplit : r = tx ++ t.drop (k + n + tx.length) := by
              rw [← List.drop_drop, ← hrd]
              conv => lhs; rw [← List.take_append_drop tx.length r]
              rw [← hspl]
            obtain ⟨l', c', hat⟩ : ∃ l' c', at_ t (k + n) = (l', c') := ⟨_, _, rfl⟩
            have hpos' := at_pos t (k + n)
            have hp0 := at_pos t k
            rw [hat] at e1 hpos'
            simp only [] at e1 hpos'
            have hat2 : at_ t (k + n + tx.length) = (l', c' + tx.length) := by
              rw [at_add, hat, ← hrd, ← hspl, advs_text (right_noNl hr)]
            rw [hat2] at e2 e4
            have hmv := advs_move ((t.drop k).take n) (at_ t k) hp0.2
            rw [← at_add, hat, List.length_take, List.length_drop, Nat.min_eq_left (by omega)] at hmv
            simp only [] at hmv
            obtain ⟨m1, m2, m3, m4⟩ := hmv
            obtain ⟨w, hw⟩ : ∃ w : Wd, w = ⟨kd, tx, (l' : Int), (c' : Int)⟩ := ⟨_, rfl⟩
            have hwl : w.line = l' := by rw [hw]
            have hwc : w.col = c' := by rw [hw]
            have hwt : w.text = tx := by rw [hw]
            have hwk : w.kind = kd := by rw [hw]
            rw [← hw] at e1
            have hnb : ¬ (l' < (at_ t k).1 ∨ l' = (at_ t k).1 ∧ c' < (at_ t k).2) := by
              intro hb
              rcases hb with hb | ⟨hb1, hb2⟩
              · omega
              · have := m3 hb1; omega
            have hgl := gap_len (at_ t k).1 (at_ t k).2 w
            rw [hwl, hwc] at hgl
            simp only [Int.toNat_natCast] at hgl
            have hglen : (gapN (at_ t k).1 (at_ t k).2 w).length ≤ n ∧ (0 < n → 0 < (gapN (at_ t k).1 (at_ t k).2 w).length) := by
              rw [hgl]
              by_cases hlt' : (at_ t k).1 < l'
              · rw [if_pos hlt']; have := m4 hlt'; omega
              · rw [if_neg hlt']; have := m3 (by omega); omega
            have hst' : stopB (tx ++ T) = true := stop_fol (by intro e; rw [e] at hpos; simp at hpos) (by rw [← hsplit]; exact hst) e5
            have ho' : oneN (tx ++ T) = (kd, tx) := one_fol hr (by rw [← hsplit]; exact ho) e5
            refine ⟨w :: vs, gapN (at_ t k).1 (at_ t k).2 w ++ (w.text ++ T), by rw [e1]; simp, ?_, ?_, ?_, ?_, ?_⟩
            · rw [putN, hwl, hwc, hwt]
              simp only [Int.toNat_natCast]
              rw [if_neg hnb, e2]
              simp
            · simp only [List.length_append]
              rw [hwt]
              omega
            · have hadv := advs_gap hwl hwc hpos'.2 hnb
              refine Lay.cons ?_ ?_ (by rw [hwk, hwt]; exact hr) hadv hwl hwc (by rw [hwt]; exact e4)
              · rw [hwt, List.append_nil]; exact skips_blank hst' (gap_bl _ _ _)
              · rw [hwt, hwk, List.append_nil]; exact ho'
            · rcases Nat.eq_zero_or_pos n with hn0 | hn0
              · subst hn0
                have : gapN (at_ t k).1 (at_ t k).2 w = [] := List.eq_nil_of_length_eq_zero (by omega)
                rw [this, List.nil_append, hwt]
                rw [Nat.add_zero] at hrd
                rw [← hrd, hsplit]
                cases tx with
                | nil => simp at hpos
                | cons c tx' => exact Fol.same c _ _
              · have hg := hglen.2 hn0
                have hbl := gap_bl (at_ t k).1 (at_ t k).2 w
                cases e : gapN (at_ t k).1 (at_ t k).2 w with
                | nil => rw [e] at hg; simp at hg
                | cons x g => exact Fol.bl _ x _ (.inl (hbl x (by rw [e]; simp)))
            · intro v hv
              rcases List.mem_cons.1 hv with rfl | hv
              · exact ⟨⟨k + n, by omega, by rw [hwl, hat], by rw [hwc, hat]⟩, by rw [hwk, hwt]; exact hr⟩
              · exact e6 v hv

theorem Lay.len {p : Nat × Nat} {T : List UInt8} {ws : List Wd} {suf : List UInt8} (h : Lay p T ws suf) : ws.length ≤ T.length := by
  induction h with
  | nil => simp
  | cons hsk h1 hr hp hl hc h ih =>
    have := right_len hr
    simp only [List.length_cons, List.length_append]
    omega

/-- Reading a text in which words stand. -/
theorem readR_lay {T : List UInt8} {ws : List Wd} (h : Lay (1, 1) T ws []) (hn : ws.length ≤ 1500) : readR T = .ok ws := by
  have hl := h.len
  have := read_lay h [] [] (T.length - ws.length + 1) rfl (by simpa using hn)
  simp only [List.nil_append, List.append_nil, List.length_nil] at this
  rw [readR, show T.length + 1 = T.length - ws.length + 1 + ws.length by omega, this, readN]
  rw [List.drop_length]
  have e : skipN T.length ([] : List UInt8) = .inl 0 := by cases T.length <;> rfl
  rw [e]
  simp [readB]

/-- THE LAW of LexAgain. -/
theorem join_read {t : List UInt8} {ws : List Wd} (ht : t.length ≤ 8000) (h : readR t = .ok ws) : ∃ T, joinN ws = (T, 0) ∧ T.length ≤ t.length ∧ readT T = (ws, 0, 0, 0) := by
  obtain ⟨vs, T, e1, e2, e3, e4, _, e6⟩ := lay_read t _ 0 [] ws (by omega) h (by omega)
  rw [List.nil_append] at e1
  subst e1
  have hn := readR_ok h
  have hat : at_ t 0 = (1, 1) := by simp [at_, advs]
  rw [hat] at e2 e4
  have hrd := readR_lay e4 hn
  have hall : ¬ ws.all checkN = false := by
    rw [Bool.not_eq_false, List.all_eq_true]
    intro v hv
    obtain ⟨⟨j, j1, j2, j3⟩, hr⟩ := e6 v hv
    have hb := at_bound t j (by omega)
    have hp := at_pos t j
    simp only [checkN, Bool.and_eq_true, decide_eq_true_eq]
    refine ⟨by omega, by omega, by omega, by omega, hr⟩
  refine ⟨T, ?_, by omega, ?_⟩
  · rw [joinN, if_neg (by omega), if_neg hall, e2]
    simp only []
    rw [if_neg (by omega), hrd]
    simp
  · rw [readT, if_neg (by omega), hrd]

/-- Few octets do not have many words. -/
theorem read_few (t : List UInt8) : ∀ (f k : Nat) (acc : List Wd) (p : Nat × Nat) (c : Int), acc.length ≤ k → k ≤ t.length → t.length < 1500 → readN f t k acc = .err p c → c = 370 ∧ 1 ≤ p.1 ∧ 1 ≤ p.2
  | 0, k, acc, p, c, _, _, _, h => by simp [readN] at h
  | f + 1, k, acc, p, c, ha, hk, ht, h => by
    rw [readN] at h
    split at h
    · injection h with h1 h2
      subst h1 h2
      exact ⟨rfl, at_pos _ _⟩
    · rename_i n hsk
      have hn := skipN_le _ _ _ (.inl hsk)
      rw [List.length_drop] at hn
      rw [readB] at h
      split at h
      · cases h
      · rename_i hlt
        split at h
        · injection h with h1 h2
          subst h1 h2
          exact ⟨rfl, at_pos _ _⟩
        · split at h
          · omega
          · have hne : t.drop (k + n) ≠ [] := by intro e; have := congrArg List.length e; rw [List.length_drop] at this; simp only [List.length_nil] at this; omega
            have hpos := one_pos hne
            have hspl := congrArg List.length (one_split (r := t.drop (k + n)))
            rw [List.length_take, List.length_drop] at hspl
            exact read_few t f _ _ p c (by simp; omega) (by omega) ht h
end Go.Proofs.YtemlkodkohgmmaaDoor
