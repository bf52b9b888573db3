/- FormatWrites: the row and the card. Lines and Nested return what the reference's do, for arbitrary networks (cut to nine nodes), drafted ones, and such with a change. Conditions: those of the card. -/
import Derived.ChangeArms
import Derived.OpenShut
import Derived.WideHanded
import Derived.ChangeSame
import Derived.ProofKit
import Derived.LaidMore
import Derived.LaidLaws
import Derived.Stop.Joined
import Derived.MakeChecks
import Derived.Test.YtphmmoloegjocaaGreatDoorRows
import Derived.Lay
import Derived.Test.YtphmmoloegjocaaGreatDoorCards
import Derived.Test.YtphmmoloegjocaaGreatDoorTie
import Derived.SevenTiedAt
import Derived.Test.YtphmmoloegjocaaGreatDoorQ4
/- The program's line reader: lines. -/
namespace Go.Proofs.YtphmmoloegjocaaGreatDoor
open Go Y
set_option maxRecDepth 100000
set_option maxHeartbeats 40000000

abbrev TPl : TypeId := 117
def teO (t : List UInt8) : AObj := ⟨9, false, .bx [.p (.str t)]⟩
def bxO : AObj := ⟨TPl, false, .bx [.ptr 0 0 0]⟩

theorem lines_h (t : List UInt8) : HoldsG cx 155 [.p (.str t)] ⟨0, []⟩ fun e H' => e = .returned (.fn (.func 161) [] [.ptr 0 0 0]) ∧ H' = ⟨1, [(0, teO t)]⟩ := by
  refine holds_of_vc Tryz.func155 rfl rfl rfl ?_
  exact ⟨rfl, rfl⟩

theorem cut_x (s : List UInt8) (hs : s.length ≤ 1000000) : ∃ line rest b, Pure cx 162 [.str s, .str [10]] (· = .ret [.str line, .str rest, .bool b]) ∧ (s ≠ [] → linesN s = line :: linesN rest ∧ line.length ≤ s.length ∧ rest.length < s.length) := by
  have h := cut_c s 10 hs
  rw [cutV] at h
  by_cases hc : (10 : UInt8) ∈ s
  · rw [if_pos hc] at h
    have ha := (ahead_split hc).2.2
    refine ⟨_, _, _, h, fun _ => ⟨?_, ?_, ?_⟩⟩
    · rw [linesN, lines_in [] hc, List.nil_append]; rfl
    · rw [List.length_take]; omega
    · rw [List.length_drop]; omega
  · rw [if_neg hc] at h
    refine ⟨_, _, _, h, fun h0 => ⟨?_, ?_, ?_⟩⟩
    · rw [linesN, lines_not [] hc, List.nil_append, if_neg h0]; rfl
    · omega
    · exact List.length_pos_iff.2 h0

/-- The heap of read in its range. -/
def rdS (st : LoopState) (pd : Option Code) (N : Nat) (σ : Sg) (ps : List Tmp) (ac bd : Code) (b : Bool) (n : Ns) (p : Nat) (t : List UInt8) : List (Nat × AObj) :=
  [(7, rO (lastR n.last)), (6, mO (n.rows 7)), (5, lpO st pd 4 N σ ps ac bd), (4, dfO), (3, teO t), (2, bO b), (1, bxO), (0, cmO TLn n.g (.sl 6 3 0 n.len) p [])]
/-- Behind the first line. -/
def rdA (N : Nat) (σ : Sg) (ps : List Tmp) (ac bd : Code) (n : Ns) (p : Nat) (t : List UInt8) : List (Nat × AObj) :=
  [(0, cmO TLn n.g (.sl 6 3 0 n.len) p []), (7, rO (lastR n.last)), (6, mO (n.rows 7)), (5, lpO .ready none 4 N σ ps ac bd), (4, dfO), (3, teO t), (2, bO true), (1, bxO)]
/-- Behind a node. -/
def rdB (N : Nat) (σ : Sg) (ps : List Tmp) (ac bd : Code) (n : Ns) (X : List (List AV)) (p : Nat) (t : List UInt8) : List (Nat × AObj) :=
  [(9, rO (lastR n.last)), (8, mO X), (0, cmO TLn n.g (.sl 8 3 0 n.len) p []), (5, lpO .ready none 4 N σ ps ac bd), (4, dfO), (3, teO t), (2, bO true), (1, bxO)]
/-- Behind a row. -/
def rdC (N : Nat) (σ : Sg) (ps : List Tmp) (ac bd : Code) (n : Ns) (X : List (List AV)) (z : AObj) (m p : Nat) (t : List UInt8) : List (Nat × AObj) :=
  [(9, rO (lastR n.last)), (8, z), (0, cmO TLn n.g (.sl 6 3 0 m) p []), (6, mO X), (5, lpO .ready none 4 N σ ps ac bd), (4, dfO), (3, teO t), (2, bO true), (1, bxO)]

theorem iterL_c (t0 : List UInt8) (ht : t0.length ≤ 50000) (N : Nat) (σ σ1 : Sg) (ds : List AD) (ps : List Tmp) (ac bd : Code) (Q : KQ)
    (hok : ∀ b n p t, runL true ns0 0 (linesN t0) = .inr (!b, n) → OkNs n 50000 → Q .normal σ1 ds ⟨8, rdS .exhausted none N σ ps ac bd b n p t⟩)
    (hno : ∀ k, runL true ns0 0 (linesN t0) = .inl k → Q (.panic [⟨.p (.iface 133 (i64 k)), false⟩]) σ1 ds ⟨6, [(4, dfO)]⟩)
    (hrd : ∀ (b : Bool) (n : Ns) (p k : Nat) (t line : List UInt8) (K : AE → Hp → Prop), OkNs n k → k ≤ 50000 → p ≤ 50000 → line.length ≤ 50000 →
      (passW (wordsN line) = true → K (.returned (vB true)) ⟨8, rdS .ready none N σ ps ac bd b n p t⟩) →
      (¬ passW (wordsN line) = true → stepN (!b) n (wordsN line) = none → ∀ H', lget H'.l 4 = some dfO → K (placeX (k + 1)) H') →
      (∀ n', ¬ passW (wordsN line) = true → stepN (!b) n (wordsN line) = some n' → K (.returned (vB true)) ⟨8, rdA N σ ps ac bd n' (k + 1) t⟩) →
      (∀ n' X, ¬ passW (wordsN line) = true → stepN (!b) n (wordsN line) = some n' → X = n'.rows 9 → K (.returned (vB true)) ⟨10, rdB N σ ps ac bd n' X (k + 1) t⟩) →
      (∀ n' X z m, ¬ passW (wordsN line) = true → stepN (!b) n (wordsN line) = some n' → X = n'.rows 9 → m = n'.len → K (.returned (vB true)) ⟨10, rdC N σ ps ac bd n' X z m (k + 1) t⟩) →
      RoundH cx 5 [.p (i64 ((k + 1 : Nat) : Int)), .p (.str line)] ⟨8, rdS .ready none N σ ps ac bd b n p t⟩ K) :
    HoldsG cx 161 [.fn (.yield 5) [] [], .ptr 3 0 0] ⟨6, [(5, lpO .ready none 4 N σ ps ac bd), (4, dfO), (3, teO t0), (2, bO false), (1, bxO), (0, cmO TLn 0 (.p .nils) 0 [])]⟩ (RangeQ 5 σ1 ds Q) := by
  refine holdsN_of_vc Tryz.func161 rfl rfl rfl ?_
  refine ⟨Bool × Ns × Nat × Nat × List UInt8, fun x => [(0, .fn (.yield 5) [] []), (1, .ptr 3 0 0), (3, .p (i64 ((x.2.2.2.1 + 1 : Nat) : Int)))], fun x => ⟨8, rdS .ready none N σ ps ac bd x.1 x.2.1 x.2.2.1 x.2.2.2.2⟩,
    fun x => x.2.2.2.1 + x.2.2.2.2.length ≤ t0.length ∧ OkNs x.2.1 x.2.2.2.1 ∧ x.2.2.1 ≤ x.2.2.2.1 ∧ runL (!x.1) x.2.1 x.2.2.2.1 (linesN x.2.2.2.2) = runL true ns0 0 (linesN t0), fun x => x.2.2.2.2.length, ?_, ?_⟩
  · refine ⟨(false, ns0, 0, 0, t0), ⟨by simp, ⟨fun _ => rfl, by simp [ns0, Ns.len], fun x hx => by simp [ns0] at hx⟩, by simp, rfl⟩, ent_of [] [] [(6, 3), (7, 1)] rfl (by (repeat' first | exact trivial | exact rfl | exact ⟨rfl, rfl⟩ | exact .inl rfl | refine ⟨_, rfl, rfl, rfl, ?_⟩ | refine ⟨_, _, rfl, ?_, ?_⟩ | refine ⟨_, rfl, ?_⟩ | refine And.intro ?_ ?_)) (by (repeat' first | exact trivial | exact rfl | exact ⟨rfl, rfl⟩ | exact .inl rfl | refine ⟨_, rfl, rfl, rfl, ?_⟩ | refine ⟨_, _, rfl, ?_, ?_⟩ | refine ⟨_, rfl, ?_⟩ | refine And.intro ?_ ?_)) rfl⟩
  rintro ⟨b, n, p, k, s⟩ ⟨g1, g2, g3, g4⟩
  simp only [] at g1 g2 g3 g4
  (first | refine brLt (fun h1 => ?_) (fun h1 => ?_) | refine brLe (fun h1 => ?_) (fun h1 => ?_) | refine brEq (fun h1 => ?_) (fun h1 => ?_))
  · have h1 : s = [] := h1
    subst h1
    have g5 : runL true ns0 0 (linesN t0) = .inr (!b, n) := by rw [← g4]; rfl
    exact ⟨[], [], [], .returned und, ⟨8, rdS .ready none N σ ps ac bd b n p []⟩, rfl, by (repeat' first | exact trivial | exact rfl | exact ⟨rfl, rfl⟩ | exact .inl rfl | refine ⟨_, rfl, rfl, rfl, ?_⟩ | refine ⟨_, _, rfl, ?_, ?_⟩ | refine ⟨_, rfl, ?_⟩ | refine And.intro ?_ ?_), ⟨⟨_, rfl, rfl, rfl, rfl⟩, ⟨_, rfl, rfl, rfl, _, rfl, seeLL_self n 7 7 rfl⟩, ⟨_, rfl, rfl, rfl, rfl, rfl, rfl⟩, ⟨_, rfl, rfl, rfl, rfl⟩, ⟨_, rfl, rfl, rfl, _, rfl, by (repeat' first | exact trivial | exact rfl | exact ⟨rfl, rfl⟩ | exact .inl rfl | refine ⟨_, rfl, rfl, rfl, ?_⟩ | refine ⟨_, _, rfl, ?_, ?_⟩ | refine ⟨_, rfl, ?_⟩ | refine And.intro ?_ ?_)⟩, ⟨_, rfl, rfl, rfl, _, rfl, by (repeat' first | exact trivial | exact rfl | exact ⟨rfl, rfl⟩ | exact .inl rfl | refine ⟨_, rfl, rfl, rfl, ?_⟩ | refine ⟨_, _, rfl, ?_, ?_⟩ | refine ⟨_, rfl, ?_⟩ | refine And.intro ?_ ?_)⟩, ⟨_, rfl, rfl, rfl, _, rfl, by (repeat' first | exact trivial | exact rfl | exact ⟨rfl, rfl⟩ | exact .inl rfl | refine ⟨_, rfl, rfl, rfl, ?_⟩ | refine ⟨_, _, rfl, ?_, ?_⟩ | refine ⟨_, rfl, ?_⟩ | refine And.intro ?_ ?_)⟩, ⟨_, rfl, rfl, rfl, _, rfl, by (repeat' first | exact trivial | exact rfl | exact ⟨rfl, rfl⟩ | exact .inl rfl | refine ⟨_, rfl, rfl, rfl, ?_⟩ | refine ⟨_, _, rfl, ?_, ?_⟩ | refine ⟨_, rfl, ?_⟩ | refine And.intro ?_ ?_)⟩, trivial⟩, hok b n p [] g5 (g2.mono (by omega))⟩
  have h1 : ¬ s = [] := h1
  obtain ⟨line, rest, c, hC, hL⟩ := cut_x s (by omega)
  obtain ⟨l1, l2, l3⟩ := hL h1
  rw [l1, runL] at g4
  obtain ⟨w1, w2⟩ := words_ok line (by omega)
  refine hC.eq rfl ?_
  refine hrd b n p k s line _ g2 (by omega) (by omega) (by omega) (fun hp => ?_) (fun hp hs H' hd => ?_) (fun n' hp hs => ?_) (fun n' X hp hs hX => ?_) (fun n' X z m hp hs hX hm => ?_)
  · rw [if_pos hp] at g4
    refine ⟨((k + 1 : Nat) : Int) + 1, wrap_i64 (by omega) (by omega), ?_⟩
    refine ⟨(b, n, p, k + 1, rest), ⟨?_, ?_, ?_, ?_⟩, ent_of [] [] [] rfl ⟨⟨rfl, _, _, rfl, rfl, rfl⟩, ⟨rfl, rfl⟩, congrArg (fun m : Int => i64 m) (show ((k + 1 : Nat) : Int) + 1 = ((k + 1 + 1 : Nat) : Int) by omega), trivial⟩ ⟨⟨_, rfl, rfl, rfl, rfl⟩, ⟨_, rfl, rfl, rfl, _, rfl, seeLL_self n 7 7 rfl⟩, ⟨_, rfl, rfl, rfl, rfl, rfl, rfl⟩, ⟨_, rfl, rfl, rfl, rfl⟩, ⟨_, rfl, rfl, rfl, _, rfl, by (repeat' first | exact trivial | exact rfl | exact ⟨rfl, rfl⟩ | exact .inl rfl | refine ⟨_, rfl, rfl, rfl, ?_⟩ | refine ⟨_, _, rfl, ?_, ?_⟩ | refine ⟨_, rfl, ?_⟩ | refine And.intro ?_ ?_)⟩, ⟨_, rfl, rfl, rfl, _, rfl, by (repeat' first | exact trivial | exact rfl | exact ⟨rfl, rfl⟩ | exact .inl rfl | refine ⟨_, rfl, rfl, rfl, ?_⟩ | refine ⟨_, _, rfl, ?_, ?_⟩ | refine ⟨_, rfl, ?_⟩ | refine And.intro ?_ ?_)⟩, ⟨_, rfl, rfl, rfl, _, rfl, by (repeat' first | exact trivial | exact rfl | exact ⟨rfl, rfl⟩ | exact .inl rfl | refine ⟨_, rfl, rfl, rfl, ?_⟩ | refine ⟨_, _, rfl, ?_, ?_⟩ | refine ⟨_, rfl, ?_⟩ | refine And.intro ?_ ?_)⟩, ⟨_, rfl, rfl, rfl, _, rfl, by (repeat' first | exact trivial | exact rfl | exact ⟨rfl, rfl⟩ | exact .inl rfl | refine ⟨_, rfl, rfl, rfl, ?_⟩ | refine ⟨_, _, rfl, ?_, ?_⟩ | refine ⟨_, rfl, ?_⟩ | refine And.intro ?_ ?_)⟩, trivial⟩ rfl, by show rest.length < s.length; omega⟩
    · simp only []; omega
    · exact g2.mono (by simp only []; omega)
    · simp only []; omega
    · exact g4
  · rw [if_neg hp, hs] at g4
    exact ⟨[], [], [], placeX (k + 1), ⟨6, [(4, dfO)]⟩, rfl, ⟨_, rfl, _, _, rfl, rfl, rfl⟩, ⟨⟨_, hd, rfl, rfl, rfl⟩, trivial⟩, hno (k + 1) g4.symm⟩
  · rw [if_neg hp, hs] at g4
    refine ⟨((k + 1 : Nat) : Int) + 1, wrap_i64 (by omega) (by omega), ?_⟩
    refine ⟨(true, n', (k + 1), k + 1, rest), ⟨?_, ?_, ?_, ?_⟩, ent_of [] [] [] rfl ⟨⟨rfl, _, _, rfl, rfl, rfl⟩, ⟨rfl, rfl⟩, congrArg (fun m : Int => i64 m) (show ((k + 1 : Nat) : Int) + 1 = ((k + 1 + 1 : Nat) : Int) by omega), trivial⟩ ⟨⟨_, rfl, rfl, rfl, rfl⟩, ⟨_, rfl, rfl, rfl, _, rfl, seeLL_self n' 7 7 rfl⟩, ⟨_, rfl, rfl, rfl, rfl, rfl, rfl⟩, ⟨_, rfl, rfl, rfl, rfl⟩, ⟨_, rfl, rfl, rfl, _, rfl, by (repeat' first | exact trivial | exact rfl | exact ⟨rfl, rfl⟩ | exact .inl rfl | refine ⟨_, rfl, rfl, rfl, ?_⟩ | refine ⟨_, _, rfl, ?_, ?_⟩ | refine ⟨_, rfl, ?_⟩ | refine And.intro ?_ ?_)⟩, ⟨_, rfl, rfl, rfl, _, rfl, by (repeat' first | exact trivial | exact rfl | exact ⟨rfl, rfl⟩ | exact .inl rfl | refine ⟨_, rfl, rfl, rfl, ?_⟩ | refine ⟨_, _, rfl, ?_, ?_⟩ | refine ⟨_, rfl, ?_⟩ | refine And.intro ?_ ?_)⟩, ⟨_, rfl, rfl, rfl, _, rfl, by (repeat' first | exact trivial | exact rfl | exact ⟨rfl, rfl⟩ | exact .inl rfl | refine ⟨_, rfl, rfl, rfl, ?_⟩ | refine ⟨_, _, rfl, ?_, ?_⟩ | refine ⟨_, rfl, ?_⟩ | refine And.intro ?_ ?_)⟩, ⟨_, rfl, rfl, rfl, _, rfl, by (repeat' first | exact trivial | exact rfl | exact ⟨rfl, rfl⟩ | exact .inl rfl | refine ⟨_, rfl, rfl, rfl, ?_⟩ | refine ⟨_, _, rfl, ?_, ?_⟩ | refine ⟨_, rfl, ?_⟩ | refine And.intro ?_ ?_)⟩, trivial⟩ rfl, by show rest.length < s.length; omega⟩
    · simp only []; omega
    · exact step_ok g2 w1 hs
    · simp only []; omega
    · exact g4
  · rw [if_neg hp, hs] at g4
    subst hX
    refine ⟨((k + 1 : Nat) : Int) + 1, wrap_i64 (by omega) (by omega), ?_⟩
    refine ⟨(true, n', (k + 1), k + 1, rest), ⟨?_, ?_, ?_, ?_⟩, ent_of [] [(6, 8), (7, 9)] [] rfl ⟨⟨rfl, _, _, rfl, rfl, rfl⟩, ⟨rfl, rfl⟩, congrArg (fun m : Int => i64 m) (show ((k + 1 : Nat) : Int) + 1 = ((k + 1 + 1 : Nat) : Int) by omega), trivial⟩ ⟨⟨_, rfl, rfl, rfl, rfl⟩, ⟨_, rfl, rfl, rfl, _, rfl, seeLL_self n' 9 7 rfl⟩, ⟨_, rfl, rfl, rfl, rfl, rfl, rfl⟩, ⟨_, rfl, rfl, rfl, rfl⟩, ⟨_, rfl, rfl, rfl, _, rfl, by (repeat' first | exact trivial | exact rfl | exact ⟨rfl, rfl⟩ | exact .inl rfl | refine ⟨_, rfl, rfl, rfl, ?_⟩ | refine ⟨_, _, rfl, ?_, ?_⟩ | refine ⟨_, rfl, ?_⟩ | refine And.intro ?_ ?_)⟩, ⟨_, rfl, rfl, rfl, _, rfl, by (repeat' first | exact trivial | exact rfl | exact ⟨rfl, rfl⟩ | exact .inl rfl | refine ⟨_, rfl, rfl, rfl, ?_⟩ | refine ⟨_, _, rfl, ?_, ?_⟩ | refine ⟨_, rfl, ?_⟩ | refine And.intro ?_ ?_)⟩, ⟨_, rfl, rfl, rfl, _, rfl, by (repeat' first | exact trivial | exact rfl | exact ⟨rfl, rfl⟩ | exact .inl rfl | refine ⟨_, rfl, rfl, rfl, ?_⟩ | refine ⟨_, _, rfl, ?_, ?_⟩ | refine ⟨_, rfl, ?_⟩ | refine And.intro ?_ ?_)⟩, ⟨_, rfl, rfl, rfl, _, rfl, by (repeat' first | exact trivial | exact rfl | exact ⟨rfl, rfl⟩ | exact .inl rfl | refine ⟨_, rfl, rfl, rfl, ?_⟩ | refine ⟨_, _, rfl, ?_, ?_⟩ | refine ⟨_, rfl, ?_⟩ | refine And.intro ?_ ?_)⟩, trivial⟩ rfl, by show rest.length < s.length; omega⟩
    · simp only []; omega
    · exact step_ok g2 w1 hs
    · simp only []; omega
    · exact g4
  · rw [if_neg hp, hs] at g4
    subst hX hm
    refine ⟨((k + 1 : Nat) : Int) + 1, wrap_i64 (by omega) (by omega), ?_⟩
    refine ⟨(true, n', (k + 1), k + 1, rest), ⟨?_, ?_, ?_, ?_⟩, ent_of [] [(7, 9)] [] rfl ⟨⟨rfl, _, _, rfl, rfl, rfl⟩, ⟨rfl, rfl⟩, congrArg (fun m : Int => i64 m) (show ((k + 1 : Nat) : Int) + 1 = ((k + 1 + 1 : Nat) : Int) by omega), trivial⟩ ⟨⟨_, rfl, rfl, rfl, rfl⟩, ⟨_, rfl, rfl, rfl, _, rfl, seeLL_self n' 9 7 rfl⟩, ⟨_, rfl, rfl, rfl, rfl, rfl, rfl⟩, ⟨_, rfl, rfl, rfl, rfl⟩, ⟨_, rfl, rfl, rfl, _, rfl, by (repeat' first | exact trivial | exact rfl | exact ⟨rfl, rfl⟩ | exact .inl rfl | refine ⟨_, rfl, rfl, rfl, ?_⟩ | refine ⟨_, _, rfl, ?_, ?_⟩ | refine ⟨_, rfl, ?_⟩ | refine And.intro ?_ ?_)⟩, ⟨_, rfl, rfl, rfl, _, rfl, by (repeat' first | exact trivial | exact rfl | exact ⟨rfl, rfl⟩ | exact .inl rfl | refine ⟨_, rfl, rfl, rfl, ?_⟩ | refine ⟨_, _, rfl, ?_, ?_⟩ | refine ⟨_, rfl, ?_⟩ | refine And.intro ?_ ?_)⟩, ⟨_, rfl, rfl, rfl, _, rfl, by (repeat' first | exact trivial | exact rfl | exact ⟨rfl, rfl⟩ | exact .inl rfl | refine ⟨_, rfl, rfl, rfl, ?_⟩ | refine ⟨_, _, rfl, ?_, ?_⟩ | refine ⟨_, rfl, ?_⟩ | refine And.intro ?_ ?_)⟩, ⟨_, rfl, rfl, rfl, _, rfl, by (repeat' first | exact trivial | exact rfl | exact ⟨rfl, rfl⟩ | exact .inl rfl | refine ⟨_, rfl, rfl, rfl, ?_⟩ | refine ⟨_, _, rfl, ?_, ?_⟩ | refine ⟨_, rfl, ?_⟩ | refine And.intro ?_ ?_)⟩, trivial⟩ rfl, by show rest.length < s.length; omega⟩
    · simp only []; omega
    · exact step_ok g2 w1 hs
    · simp only []; omega
    · exact g4
end Go.Proofs.YtphmmoloegjocaaGreatDoor

/- The program's line reader: read. -/
namespace Go.Proofs.YtphmmoloegjocaaGreatDoor
open Go Y
set_option maxRecDepth 100000
set_option maxHeartbeats 40000000

theorem renL_p (ρ : Nat → Nat) : ∀ l : List PV, renL ρ (l.map .p) = l.map .p
  | [] => rfl
  | x :: l => by rw [List.map_cons, renL, renL_p ρ l]; rfl
theorem renLL_p (ρ : Nat → Nat) : ∀ l : List (List PV), renLL ρ (mapsP l) = mapsP l
  | [] => rfl
  | x :: l => by rw [mapsP, renLL, renL_p, renLL_p ρ l]
theorem renLL_app (ρ : Nat → Nat) : ∀ a b : List (List AV), renLL ρ (a ++ b) = renLL ρ a ++ renLL ρ b
  | [], b => rfl
  | x :: a, b => by rw [List.cons_append, renLL, renLL_app ρ a b]; rfl
theorem ren_rows (ρ : Nat → Nat) (n : Ns) (r : Nat) : renLL ρ (n.rows r) = n.rows (ρ r) := by
  obtain ⟨g, i, l⟩ := n
  rw [Ns.rows, renLL_app, renLL_p]
  cases l <;> rfl
theorem row_put (n : Ns) {x : Nd} (hx : n.last = some x) (v : List Int) (ρ : Nat → Nat) (r r' : Nat) : (renLL ρ (n.rows r)).set (n.len - 1) [.p (i64 x.card), .p (ints x.parents), .sl r' 1 0 (x.rows.length + 1)] = Ns.rows ⟨n.g, n.init, some { x with rows := x.rows ++ [v] }⟩ r' := by
  have hnl : n.len = n.init.length + 1 := by rw [Ns.len, hx]
  rw [ren_rows, hnl, Nat.add_sub_cancel, rows_put n _ hx, Ns.rows, lastC, snoc_len]
def lineR (t : List UInt8) : Sum Nat (Bool × Ns) := runL true ns0 0 (linesN t)
/-- What reading ends with. -/
def readQ (r : Sum Nat (Bool × Ns)) (e : AE) (H' : Hp) : Prop := match r with
  | .inl k => e = placeX k ∧ H' = ⟨1, []⟩
  | .inr (true, _) => e = placeX 0 ∧ H' = ⟨1, []⟩
  | .inr (false, n) => ∃ p, OkNs n 50000 ∧ e = .returned und ∧ H' = n.heapL p 1 2

theorem read_l (t0 : List UInt8) (ht : t0.length ≤ 50000) : HoldsG cx 154 [.ptr 0 0 0, .p (.str t0)] ⟨1, [(0, cmO TLn 0 (.p .nils) 0 [])]⟩ (readQ (lineR t0)) := by
  refine holdsN_of_vc Tryz.func154 rfl rfl rfl ?_
  refine (lines_h t0).useE [] [] rfl trivial ⟨_, _, rfl, rfl, rfl⟩ ?_
  refine range_of ?_
  intro σ' ps ac bd e1 e2 e3 e4
  refine iterL_c t0 ht _ σ' _ _ ps ac bd _ (fun b n p t hr hn => ?_) (fun k hr => ?_) ?_
  · have hR : lineR t0 = .inr (!b, n) := hr
    cases b
    · refine (fail_h TLn n.g (.sl 1 3 0 n.len) 0 []).holds.useN [] [(1, 6)] rfl (by (repeat' first | exact trivial | exact rfl | exact ⟨rfl, rfl⟩ | exact .inl rfl | refine ⟨_, rfl, rfl, rfl, ?_⟩ | refine ⟨_, _, rfl, ?_, ?_⟩ | refine ⟨_, rfl, ?_⟩ | refine And.intro ?_ ?_)) (by (repeat' first | exact trivial | exact rfl | exact ⟨rfl, rfl⟩ | exact .inl rfl | refine ⟨_, rfl, rfl, rfl, ?_⟩ | refine ⟨_, _, rfl, ?_, ?_⟩ | refine ⟨_, rfl, ?_⟩ | refine And.intro ?_ ?_)) fun e0 H0 hq => ?_
      obtain ⟨rfl, rfl⟩ := hq
      refine ⟨rfl, ?_⟩
      exact ⟨[], [], [], placeX 0, ⟨1, []⟩, rfl, ⟨_, rfl, _, _, rfl, rfl, rfl⟩, trivial, by rw [hR]; exact ⟨rfl, rfl⟩⟩
    · exact ⟨[], [(1, 6), (2, 7)], [], .returned und, n.heapL p 1 2, rfl, by (repeat' first | exact trivial | exact rfl | exact ⟨rfl, rfl⟩ | exact .inl rfl | refine ⟨_, rfl, rfl, rfl, ?_⟩ | refine ⟨_, _, rfl, ?_, ?_⟩ | refine ⟨_, rfl, ?_⟩ | refine And.intro ?_ ?_), ⟨⟨_, rfl, rfl, rfl, rfl⟩, ⟨_, rfl, rfl, rfl, _, rfl, seeLL_self n 7 2 rfl⟩, ⟨_, rfl, rfl, rfl, _, rfl, by (repeat' first | exact trivial | exact rfl | exact ⟨rfl, rfl⟩ | exact .inl rfl | refine ⟨_, rfl, rfl, rfl, ?_⟩ | refine ⟨_, _, rfl, ?_, ?_⟩ | refine ⟨_, rfl, ?_⟩ | refine And.intro ?_ ?_)⟩, trivial⟩, by rw [hR]; exact ⟨p, hn, rfl, rfl⟩⟩
  · have hR : lineR t0 = .inl k := hr
    exact ⟨[], [], [], placeX k, ⟨1, []⟩, rfl, ⟨_, rfl, _, _, rfl, rfl, rfl⟩, trivial, by rw [hR]; exact ⟨rfl, rfl⟩⟩
  intro b n p k t line K g1 g2 g3 hl hS hE hA hB hC
  subst e1 e2 e3 e4
  have hlen := g1.len
  have hlast := g1.last
  have hno := g1.no
  cases b
  · obtain ⟨w1, w2⟩ := words_ok line hl
    have hF := fields_c line (by omega)
    refine round_of_vc rfl rfl rfl ?_
    refine hF.eq rfl ?_
    obtain ⟨ws, hws⟩ : ∃ ws, ws = wordsN line := ⟨_, rfl⟩
    rw [← hws] at w1 w2 hS hE hA hB hC
    rw [← hws]
    (first | refine brLt (fun h4 => ?_) (fun h4 => ?_) | refine brLe (fun h4 => ?_) (fun h4 => ?_) | refine brEq (fun h4 => ?_) (fun h4 => ?_))
    · have h4 : ((ws.map PV.str).length : Int) = 0 := h4
      rw [List.length_map] at h4
      have hnil : ws = [] := List.eq_nil_of_length_eq_zero (by omega)
      exact hS (by rw [passW, hnil]; rfl)
    have h4 : ¬ ((ws.map PV.str).length : Int) = 0 := h4
    rw [List.length_map] at h4
    have hpos : 0 < ws.length := by omega
    obtain ⟨_, hne⟩ := w2 _ (getD_memL [] hpos)
    have hp0 := List.length_pos_iff.2 hne
    have hnn : ¬ ws = [] := List.length_pos_iff.1 hpos
    refine ⟨_, ⟨by omega, .str (ws.getD 0 []), tcell hpos, rfl⟩, ?_⟩
    refine ⟨_, ⟨by omega, (ws.getD 0 []).getD 0 0, scan_at hp0, rfl⟩, ?_⟩
    (first | refine brLt (fun h5 => ?_) (fun h5 => ?_) | refine brLe (fun h5 => ?_) (fun h5 => ?_) | refine brEq (fun h5 => ?_) (fun h5 => ?_))
    · have h5 : (((ws.getD 0 []).getD 0 0).toNat : Int) = 59 := h5
      have h6 : (ws.getD 0 []).getD 0 0 = 59 := UInt8.toNat_inj.1 (by rw [show (59 : UInt8).toNat = 59 from rfl]; omega)
      exact hS (by rw [passW, decide_eq_true h6, Bool.or_true])
    have h5 : ¬ (((ws.getD 0 []).getD 0 0).toNat : Int) = 59 := h5
    have h6 : ¬ (ws.getD 0 []).getD 0 0 = 59 := fun e => h5 (by rw [e]; rfl)
    have hpass : ¬ passW ws = true := by rw [passW, decide_eq_false h6, decide_eq_false hnn]; decide
    have hSn : stepN (!false) n ws = if ws.length = 2 ∧ numB (ws.getD 1 []) = true ∧ ws.getD 0 [] = kNet then some { n with g := valN (ws.getD 1 []) } else none := by rw [stepN]; exact if_pos rfl
    refine ⟨_, ⟨by omega, .str (ws.getD 0 []), tcell hpos, rfl⟩, ?_⟩
    (first | refine brLt (fun h7 => ?_) (fun h7 => ?_) | refine brLe (fun h7 => ?_) (fun h7 => ?_) | refine brEq (fun h7 => ?_) (fun h7 => ?_))
    rotate_left
    · have h7 : ¬ ws.getD 0 [] = kNet := h7
      refine (fail_h TLn n.g (.sl 1 3 0 n.len) (k + 1) []).holds.useN [] [(1, 6)] rfl (by (repeat' first | exact trivial | exact rfl | exact ⟨rfl, rfl⟩ | exact .inl rfl | refine ⟨_, rfl, rfl, rfl, ?_⟩ | refine ⟨_, _, rfl, ?_, ?_⟩ | refine ⟨_, rfl, ?_⟩ | refine And.intro ?_ ?_)) (by (repeat' first | exact trivial | exact rfl | exact ⟨rfl, rfl⟩ | exact .inl rfl | refine ⟨_, rfl, rfl, rfl, ?_⟩ | refine ⟨_, _, rfl, ?_, ?_⟩ | refine ⟨_, rfl, ?_⟩ | refine And.intro ?_ ?_)) fun e0 H0 hq => ?_
      obtain ⟨rfl, rfl⟩ := hq
      refine ⟨rfl, ?_⟩
      exact hE hpass (by rw [hSn]; exact if_neg (fun h => h7 h.2.2)) _ rfl
    have h7 : ws.getD 0 [] = kNet := h7
    (first | refine brLt (fun h8 => ?_) (fun h8 => ?_) | refine brLe (fun h8 => ?_) (fun h8 => ?_) | refine brEq (fun h8 => ?_) (fun h8 => ?_))
    rotate_left
    · have h8 : ¬ ((ws.map PV.str).length : Int) = 2 := h8
      rw [List.length_map] at h8
      refine (fail_h TLn n.g (.sl 1 3 0 n.len) (k + 1) []).holds.useN [] [(1, 6)] rfl (by (repeat' first | exact trivial | exact rfl | exact ⟨rfl, rfl⟩ | exact .inl rfl | refine ⟨_, rfl, rfl, rfl, ?_⟩ | refine ⟨_, _, rfl, ?_, ?_⟩ | refine ⟨_, rfl, ?_⟩ | refine And.intro ?_ ?_)) (by (repeat' first | exact trivial | exact rfl | exact ⟨rfl, rfl⟩ | exact .inl rfl | refine ⟨_, rfl, rfl, rfl, ?_⟩ | refine ⟨_, _, rfl, ?_, ?_⟩ | refine ⟨_, rfl, ?_⟩ | refine And.intro ?_ ?_)) fun e0 H0 hq => ?_
      obtain ⟨rfl, rfl⟩ := hq
      refine ⟨rfl, ?_⟩
      exact hE hpass (by rw [hSn]; exact if_neg (fun h => h8 (by omega))) _ rfl
    have h8 : ((ws.map PV.str).length : Int) = 2 := h8
    rw [List.length_map] at h8
    have hw1 := (w2 _ (getD_memL [] (show 1 < ws.length by omega))).1
    have hN := num_h' TLn n.g (.sl 1 3 0 n.len) (k + 1) [] (self_sl (by omega)) (ws.getD 1 []) hw1
    refine VDraw.seq rfl ?_
    refine ⟨_, ⟨by omega, .str (ws.getD 1 []), tcell (by omega), rfl⟩, ?_⟩
    refine hN.holds.useN [] [(1, 6)] rfl (by (repeat' first | exact trivial | exact rfl | exact ⟨rfl, rfl⟩ | exact .inl rfl | refine ⟨_, rfl, rfl, rfl, ?_⟩ | refine ⟨_, _, rfl, ?_, ?_⟩ | refine ⟨_, rfl, ?_⟩ | refine And.intro ?_ ?_)) (by (repeat' first | exact trivial | exact rfl | exact ⟨rfl, rfl⟩ | exact .inl rfl | refine ⟨_, rfl, rfl, rfl, ?_⟩ | refine ⟨_, _, rfl, ?_, ?_⟩ | refine ⟨_, rfl, ?_⟩ | refine And.intro ?_ ?_)) fun e0 H0 hq => ?_
    obtain ⟨rfl, hq⟩ := hq
    by_cases hn : numB (ws.getD 1 []) = true
    · rw [if_pos hn] at hq
      subst hq
      refine ⟨rfl, ?_⟩
      refine ⟨by (repeat' first | exact trivial | exact rfl | exact ⟨rfl, rfl⟩ | exact .inl rfl | refine ⟨_, rfl, rfl, rfl, ?_⟩ | refine ⟨_, _, rfl, ?_, ?_⟩ | refine ⟨_, rfl, ?_⟩ | refine And.intro ?_ ?_), ?_⟩
      exact hA { n with g := valN (ws.getD 1 []) } hpass (by rw [hSn]; exact if_pos ⟨by omega, hn, h7⟩)
    · rw [if_neg hn] at hq
      subst hq
      refine ⟨rfl, ?_⟩
      exact hE hpass (by rw [hSn]; exact if_neg (fun h => hn h.2.1)) _ rfl
  · obtain ⟨w1, w2⟩ := words_ok line hl
    have hF := fields_c line (by omega)
    refine round_of_vc rfl rfl rfl ?_
    refine hF.eq rfl ?_
    obtain ⟨ws, hws⟩ : ∃ ws, ws = wordsN line := ⟨_, rfl⟩
    rw [← hws] at w1 w2 hS hE hA hB hC
    rw [← hws]
    (first | refine brLt (fun h4 => ?_) (fun h4 => ?_) | refine brLe (fun h4 => ?_) (fun h4 => ?_) | refine brEq (fun h4 => ?_) (fun h4 => ?_))
    · have h4 : ((ws.map PV.str).length : Int) = 0 := h4
      rw [List.length_map] at h4
      have hnil : ws = [] := List.eq_nil_of_length_eq_zero (by omega)
      exact hS (by rw [passW, hnil]; rfl)
    have h4 : ¬ ((ws.map PV.str).length : Int) = 0 := h4
    rw [List.length_map] at h4
    have hpos : 0 < ws.length := by omega
    obtain ⟨_, hne⟩ := w2 _ (getD_memL [] hpos)
    have hp0 := List.length_pos_iff.2 hne
    have hnn : ¬ ws = [] := List.length_pos_iff.1 hpos
    refine ⟨_, ⟨by omega, .str (ws.getD 0 []), tcell hpos, rfl⟩, ?_⟩
    refine ⟨_, ⟨by omega, (ws.getD 0 []).getD 0 0, scan_at hp0, rfl⟩, ?_⟩
    (first | refine brLt (fun h5 => ?_) (fun h5 => ?_) | refine brLe (fun h5 => ?_) (fun h5 => ?_) | refine brEq (fun h5 => ?_) (fun h5 => ?_))
    · have h5 : (((ws.getD 0 []).getD 0 0).toNat : Int) = 59 := h5
      have h6 : (ws.getD 0 []).getD 0 0 = 59 := UInt8.toNat_inj.1 (by rw [show (59 : UInt8).toNat = 59 from rfl]; omega)
      exact hS (by rw [passW, decide_eq_true h6, Bool.or_true])
    have h5 : ¬ (((ws.getD 0 []).getD 0 0).toNat : Int) = 59 := h5
    have h6 : ¬ (ws.getD 0 []).getD 0 0 = 59 := fun e => h5 (by rw [e]; rfl)
    have hpass : ¬ passW ws = true := by rw [passW, decide_eq_false h6, decide_eq_false hnn]; decide
    have hSn : stepN (!true) n ws = stepN false n ws := rfl
    rw [hSn] at hE hA hB hC
    refine ⟨_, ⟨by omega, .str (ws.getD 0 []), tcell hpos, rfl⟩, ?_⟩
    (first | refine brLt (fun h7 => ?_) (fun h7 => ?_) | refine brLe (fun h7 => ?_) (fun h7 => ?_) | refine brEq (fun h7 => ?_) (fun h7 => ?_))
    · have h7 : ws.getD 0 [] = kNode := h7
      have hcons : ws = kNode :: ws.drop 1 := by
        have := drop_cons (k := 0) [] hpos
        rw [List.drop_zero, h7] at this
        exact this
      have hN := node_l n (k + 1) (ws.drop 1) (by omega) (by rw [List.length_drop]; omega) (fun v hv => (w2 v (List.mem_of_mem_drop hv)).1)
      have hst : nodeLn n (ws.drop 1) = stepN false n ws := by rw [step_node, ← hcons]
      rw [hst] at hN
      refine VDraw.seq rfl ?_
      refine ⟨by show (0 : Int) ≤ 1 ∧ (1 : Int) ≤ ((ws.map PV.str).length : Nat); rw [List.length_map]; omega, ?_⟩
      refine hN.holds.useN [] [(1, 6), (2, 7)] rfl ⟨⟨_, rfl, rfl, rfl, rfl⟩, ⟨_, rfl, rfl, rfl, _, rfl, seeLL_self n 7 2 rfl⟩, ⟨_, rfl, rfl, rfl, _, rfl, by (repeat' first | exact trivial | exact rfl | exact ⟨rfl, rfl⟩ | exact .inl rfl | refine ⟨_, rfl, rfl, rfl, ?_⟩ | refine ⟨_, _, rfl, ?_, ?_⟩ | refine ⟨_, rfl, ?_⟩ | refine And.intro ?_ ?_)⟩, trivial⟩ ⟨_, _, rfl, ⟨rfl, rfl⟩, _, _, rfl, (by show PV.lst ((ws.drop 1).map PV.str) = PV.lst ((ws.map PV.str).drop 1); rw [List.map_drop]), rfl⟩ fun e0 H0 hq => ?_
      obtain ⟨S, hSS⟩ : ∃ S, S = stepN false n ws := ⟨_, rfl⟩
      rw [← hSS] at hq
      cases S with
      | none =>
        obtain ⟨rfl, rfl⟩ := hq
        refine ⟨rfl, ?_⟩
        exact hE hpass hSS.symm _ rfl
      | some n' =>
        obtain ⟨rfl, rfl⟩ := hq
        refine ⟨rfl, ?_⟩
        exact hB n' _ hpass hSS.symm (ren_rows _ n' 4)
    have h7 : ¬ ws.getD 0 [] = kNode := h7
    have hSr : stepN false n ws = if ws.getD 0 [] = kRow then (match n.last with
        | none => none
        | some x => if allB (ws.drop 1) = true ∧ 1 < ws.length then some ⟨n.g, n.init, some { x with rows := x.rows ++ [(ws.drop 1).map valN] }⟩ else none) else none := by
      rw [stepN, if_neg (by decide), if_neg h7] <;> rfl
    refine ⟨_, ⟨by omega, .str (ws.getD 0 []), tcell hpos, rfl⟩, ?_⟩
    (first | refine brLt (fun h8 => ?_) (fun h8 => ?_) | refine brLe (fun h8 => ?_) (fun h8 => ?_) | refine brEq (fun h8 => ?_) (fun h8 => ?_))
    rotate_left
    · have h8 : ¬ ws.getD 0 [] = kRow := h8
      refine (fail_h TLn n.g (.sl 1 3 0 n.len) (k + 1) []).holds.useN [] [(1, 6)] rfl (by (repeat' first | exact trivial | exact rfl | exact ⟨rfl, rfl⟩ | exact .inl rfl | refine ⟨_, rfl, rfl, rfl, ?_⟩ | refine ⟨_, _, rfl, ?_, ?_⟩ | refine ⟨_, rfl, ?_⟩ | refine And.intro ?_ ?_)) (by (repeat' first | exact trivial | exact rfl | exact ⟨rfl, rfl⟩ | exact .inl rfl | refine ⟨_, rfl, rfl, rfl, ?_⟩ | refine ⟨_, _, rfl, ?_, ?_⟩ | refine ⟨_, rfl, ?_⟩ | refine And.intro ?_ ?_)) fun e0 H0 hq => ?_
      obtain ⟨rfl, rfl⟩ := hq
      refine ⟨rfl, ?_⟩
      exact hE hpass (by rw [hSr]; exact if_neg h8) _ rfl
    have h8 : ws.getD 0 [] = kRow := h8
    rw [if_pos h8] at hSr
    (first | refine brLt (fun h9 => ?_) (fun h9 => ?_) | refine brLe (fun h9 => ?_) (fun h9 => ?_) | refine brEq (fun h9 => ?_) (fun h9 => ?_))
    rotate_left
    · have h9 : ¬ (1 : Int) < ((ws.map PV.str).length : Nat) := h9
      rw [List.length_map] at h9
      refine (fail_h TLn n.g (.sl 1 3 0 n.len) (k + 1) []).holds.useN [] [(1, 6)] rfl (by (repeat' first | exact trivial | exact rfl | exact ⟨rfl, rfl⟩ | exact .inl rfl | refine ⟨_, rfl, rfl, rfl, ?_⟩ | refine ⟨_, _, rfl, ?_, ?_⟩ | refine ⟨_, rfl, ?_⟩ | refine And.intro ?_ ?_)) (by (repeat' first | exact trivial | exact rfl | exact ⟨rfl, rfl⟩ | exact .inl rfl | refine ⟨_, rfl, rfl, rfl, ?_⟩ | refine ⟨_, _, rfl, ?_, ?_⟩ | refine ⟨_, rfl, ?_⟩ | refine And.intro ?_ ?_)) fun e0 H0 hq => ?_
      obtain ⟨rfl, rfl⟩ := hq
      refine ⟨rfl, ?_⟩
      exact hE hpass (by rw [hSr]; cases n.last with | none => rfl | some x => exact if_neg (fun h => by omega)) _ rfl
    have h9 : (1 : Int) < ((ws.map PV.str).length : Nat) := h9
    rw [List.length_map] at h9
    (first | refine brLt (fun h10 => ?_) (fun h10 => ?_) | refine brLe (fun h10 => ?_) (fun h10 => ?_) | refine brEq (fun h10 => ?_) (fun h10 => ?_))
    rotate_left
    · have h10 : ¬ (0 : Int) < ((n.len : Nat) : Int) := h10
      have hln : n.last = none := by
        cases e : n.last with
        | none => rfl
        | some x => rw [Ns.len, e] at h10; simp only [] at h10; omega
      refine (fail_h TLn n.g (.sl 1 3 0 n.len) (k + 1) []).holds.useN [] [(1, 6)] rfl (by (repeat' first | exact trivial | exact rfl | exact ⟨rfl, rfl⟩ | exact .inl rfl | refine ⟨_, rfl, rfl, rfl, ?_⟩ | refine ⟨_, _, rfl, ?_, ?_⟩ | refine ⟨_, rfl, ?_⟩ | refine And.intro ?_ ?_)) (by (repeat' first | exact trivial | exact rfl | exact ⟨rfl, rfl⟩ | exact .inl rfl | refine ⟨_, rfl, rfl, rfl, ?_⟩ | refine ⟨_, _, rfl, ?_, ?_⟩ | refine ⟨_, rfl, ?_⟩ | refine And.intro ?_ ?_)) fun e0 H0 hq => ?_
      obtain ⟨rfl, rfl⟩ := hq
      refine ⟨rfl, ?_⟩
      exact hE hpass (by rw [hSr, hln]) _ rfl
    have h10 : (0 : Int) < ((n.len : Nat) : Int) := h10
    obtain ⟨x, hx⟩ : ∃ x, n.last = some x := by
      cases e : n.last with
      | none => rw [Ns.len, e] at h10; have := hno e; rw [this] at h10; simp at h10
      | some x => exact ⟨x, rfl⟩
    rw [hx] at hSr
    have hSr : stepN false n ws = if allB (ws.drop 1) = true ∧ 1 < ws.length then some ⟨n.g, n.init, some { x with rows := x.rows ++ [(ws.drop 1).map valN] }⟩ else none := hSr
    have hnl : n.len = n.init.length + 1 := by rw [Ns.len, hx]
    have hX : ∀ ρ r, (renLL ρ (n.rows r))[n.len - 1]? = some [.p (i64 x.card), .p (ints x.parents), .sl (ρ r) 1 0 x.rows.length] := fun ρ r => by
      rw [ren_rows, hnl, Nat.add_sub_cancel]
      exact rows_at n (ρ r) hx
    have hrl : lastR n.last = x.rows := by rw [hx]; rfl
    rw [hrl] at hlast
    refine (last_l n (k + 1) (by omega) (by omega)).useE [] [(1, 6), (2, 7)] rfl ⟨⟨_, rfl, rfl, rfl, rfl⟩, ⟨_, rfl, rfl, rfl, _, rfl, seeLL_self n 7 2 rfl⟩, ⟨_, rfl, rfl, rfl, _, rfl, by (repeat' first | exact trivial | exact rfl | exact ⟨rfl, rfl⟩ | exact .inl rfl | refine ⟨_, rfl, rfl, rfl, ?_⟩ | refine ⟨_, _, rfl, ?_, ?_⟩ | refine ⟨_, rfl, ?_⟩ | refine And.intro ?_ ?_)⟩, trivial⟩ (by (repeat' first | exact trivial | exact rfl | exact ⟨rfl, rfl⟩ | exact .inl rfl | refine ⟨_, rfl, rfl, rfl, ?_⟩ | refine ⟨_, _, rfl, ?_, ?_⟩ | refine ⟨_, rfl, ?_⟩ | refine And.intro ?_ ?_)) ?_
    refine VDraw.seq rfl ?_
    refine ⟨_, ⟨_, hX _ _, rfl⟩, ?_⟩
    refine ⟨by show (0 : Int) ≤ 1 ∧ (1 : Int) ≤ ((ws.map PV.str).length : Nat); rw [List.length_map]; omega, ?_⟩
    have hM := numbers_p n.g n.len (k + 1) (ws.drop 1) (by rw [List.length_drop]; omega) (fun v hv => (w2 v (List.mem_of_mem_drop hv)).1)
    refine hM.holds.useN [] [(1, 6)] rfl (by (repeat' first | exact trivial | exact rfl | exact ⟨rfl, rfl⟩ | exact .inl rfl | refine ⟨_, rfl, rfl, rfl, ?_⟩ | refine ⟨_, _, rfl, ?_, ?_⟩ | refine ⟨_, rfl, ?_⟩ | refine And.intro ?_ ?_)) ⟨_, _, rfl, ⟨rfl, rfl⟩, _, _, rfl, (by show PV.lst ((ws.drop 1).map PV.str) = PV.lst ((ws.map PV.str).drop 1); rw [List.map_drop]), rfl⟩ fun e0 H0 hq => ?_
    rw [numsQ] at hq
    by_cases ha : allB (ws.drop 1) = true
    · rw [if_pos ha] at hq
      rw [if_pos ⟨ha, by omega⟩] at hSr
      obtain ⟨rfl, rfl⟩ := hq
      refine ⟨rfl, ?_⟩
      refine ⟨by (repeat' first | exact trivial | exact ⟨_, hX _ _, rfl⟩ | exact rfl | refine And.intro ?_ ?_), ?_⟩
      refine ⟨by (repeat' first | exact trivial | exact ⟨_, hX _ _, rfl⟩ | exact rfl | refine And.intro ?_ ?_), ?_⟩
      refine ⟨by show 0 + 1 ≤ 1; omega, [ints ((ws.drop 1).map valN)], rfl, ?_⟩
      refine ⟨by show 0 + x.rows.length ≤ ((lastR n.last).map ints).length; rw [hrl]; simp, x.rows.map ints, by show x.rows.map ints = (((lastR n.last).map ints).drop 0).take x.rows.length; rw [hrl]; exact takeAll (by simp), by show (x.rows.length + 1) * 24 ≤ 140737488355328; omega, (x.rows ++ [(ws.drop 1).map valN]).map ints, by simp, ?_⟩
      refine ⟨_, hX _ _, by show 2 + 1 ≤ 3; omega, ?_⟩
      refine hC ⟨n.g, n.init, some { x with rows := x.rows ++ [(ws.drop 1).map valN] }⟩ _ _ _ hpass hSr ?_ (by rw [hnl]; rfl)
      exact row_put n hx _ _ 2 9
    · rw [if_neg ha] at hq
      rw [if_neg (fun h => ha h.1)] at hSr
      obtain ⟨rfl, rfl⟩ := hq
      refine ⟨rfl, ?_⟩
      exact hE hpass hSr _ rfl
end Go.Proofs.YtphmmoloegjocaaGreatDoor

/- The program's ReadLines. -/
namespace Go.Proofs.YtphmmoloegjocaaGreatDoor
open Go Y
set_option maxRecDepth 100000
set_option maxHeartbeats 40000000

theorem rows_done' {L : List (Nat × AObj)} {d : Nat} (n : Ns) (r : Nat) (X : List (List AV)) (e : X = n.rows r) (h : lget L r = some { rO (lastR n.last) with fr := true }) : ResLL (Res L (d + 1)) ((X.drop 0).take n.len) (n.net.nodes.map Nd.cells) := by
  subst e
  exact rows_done n r h
theorem rows_len1 (n : Ns) (r : Nat) (X : List (List AV)) (e : X = n.rows r) : n.len ≤ X.length := by
  subst e
  rw [rows_len']; exact Nat.le_refl _
theorem line_v {s : List UInt8} (h : ¬ 40000 < s.length) : readLV s = match lineR s with
    | .inl k => [znV, i64 (k : Nat), i64 5]
    | .inr (true, _) => [znV, i64 0, i64 5]
    | .inr (false, n) => if validP n.net then [n.net.pv, i64 0, i64 0] else [znV, i64 0, i64 50] := by
  rw [readLV]; exact if_neg h
theorem read_nl (s : List UInt8) (hs : s.length ≤ 50000) : HoldsG cx 55 [.iface TPl (.ptr 0 0 0), .p (.str s)] ⟨1, [(0, cmO TLn 0 (.p .nils) 0 [])]⟩ fun e H' => e = .returned (.tup ((readLV s).map .p)) ∧ H' = ⟨1, []⟩ := by
  refine holdsN_of_vc Tryz.func55 rfl rfl rfl ?_
  (first | refine brLt (fun h0 => ?_) (fun h0 => ?_) | refine brLe (fun h0 => ?_) (fun h0 => ?_) | refine brEq (fun h0 => ?_) (fun h0 => ?_))
  · have h0 : (40000 : Int) < (s.length : Nat) := h0
    have e : readLV s = [znV, i64 0, i64 3] := by rw [readLV, if_pos (by omega)]
    exact ⟨[], [], [], .returned (.tup ([znV, i64 0, i64 3].map .p)), ⟨1, []⟩, rfl, ⟨_, rfl, _, rfl, _, _, rfl, rfl, _, _, rfl, rfl, _, _, rfl, rfl, rfl⟩, trivial, by rw [e], rfl⟩
  have h0 : ¬ (40000 : Int) < (s.length : Nat) := h0
  have hV := line_v (s := s) (by omega)
  refine ⟨154, none, .ptr 0 0 0, by kernel_rfl, rfl, ?_⟩
  refine (read_l s (by omega)).holds.useN [] [] rfl (by (repeat' first | exact trivial | exact rfl | exact ⟨rfl, rfl⟩ | exact .inl rfl | refine ⟨_, rfl, rfl, rfl, ?_⟩ | refine ⟨_, _, rfl, ?_, ?_⟩ | refine ⟨_, rfl, ?_⟩ | refine And.intro ?_ ?_)) (by (repeat' first | exact trivial | exact rfl | exact ⟨rfl, rfl⟩ | exact .inl rfl | refine ⟨_, rfl, rfl, rfl, ?_⟩ | refine ⟨_, _, rfl, ?_, ?_⟩ | refine ⟨_, rfl, ?_⟩ | refine And.intro ?_ ?_)) fun e0 H0 hq => ?_
  rcases hr : lineR s with k | ⟨b, n⟩
  · rw [hr] at hq hV
    obtain ⟨rfl, rfl⟩ := hq
    refine ⟨rfl, ?_⟩
    refine holdsD_rec Tryz.func81 rfl rfl rfl ?_
    refine ⟨[], [], [], .returned und, ⟨4, [(3, erO 5), (2, plO (k : Nat)), (1, znO)]⟩, rfl, by (repeat' first | exact trivial | exact rfl | exact ⟨rfl, rfl⟩ | exact .inl rfl | refine ⟨_, rfl, rfl, rfl, ?_⟩ | refine ⟨_, _, rfl, ?_, ?_⟩ | refine ⟨_, rfl, ?_⟩ | refine And.intro ?_ ?_), by (repeat' first | exact trivial | exact rfl | exact ⟨rfl, rfl⟩ | exact .inl rfl | refine ⟨_, rfl, rfl, rfl, ?_⟩ | refine ⟨_, _, rfl, ?_, ?_⟩ | refine ⟨_, rfl, ?_⟩ | refine And.intro ?_ ?_), ?_⟩
    exact ⟨[], [], [], .returned (.tup ([znV, i64 (k : Nat), i64 5].map .p)), ⟨1, []⟩, rfl, ⟨_, rfl, _, rfl, _, _, rfl, rfl, _, _, rfl, rfl, _, _, rfl, rfl, rfl⟩, trivial, by rw [hV], rfl⟩
  cases b
  rotate_left
  · rw [hr] at hq hV
    obtain ⟨rfl, rfl⟩ := hq
    refine ⟨rfl, ?_⟩
    refine holdsD_rec Tryz.func81 rfl rfl rfl ?_
    refine ⟨[], [], [], .returned und, ⟨4, [(3, erO 5), (2, plO 0), (1, znO)]⟩, rfl, by (repeat' first | exact trivial | exact rfl | exact ⟨rfl, rfl⟩ | exact .inl rfl | refine ⟨_, rfl, rfl, rfl, ?_⟩ | refine ⟨_, _, rfl, ?_, ?_⟩ | refine ⟨_, rfl, ?_⟩ | refine And.intro ?_ ?_), by (repeat' first | exact trivial | exact rfl | exact ⟨rfl, rfl⟩ | exact .inl rfl | refine ⟨_, rfl, rfl, rfl, ?_⟩ | refine ⟨_, _, rfl, ?_, ?_⟩ | refine ⟨_, rfl, ?_⟩ | refine And.intro ?_ ?_), ?_⟩
    exact ⟨[], [], [], .returned (.tup ([znV, i64 0, i64 5].map .p)), ⟨1, []⟩, rfl, ⟨_, rfl, _, rfl, _, _, rfl, rfl, _, _, rfl, rfl, _, _, rfl, rfl, rfl⟩, trivial, by rw [hV], rfl⟩
  rw [hr] at hq hV
  obtain ⟨p, hn, rfl, rfl⟩ := hq
  have hV : readLV s = if validP n.net then [n.net.pv, i64 0, i64 0] else [znV, i64 0, i64 50] := hV
  refine ⟨rfl, ?_⟩
  refine ⟨147, some 0, .ptr 0 0 0, by kernel_rfl, rfl, ?_⟩
  refine (result_h TLn n.g n.len p []).useE [] [(1, 4)] rfl (by (repeat' first | exact trivial | exact rfl | exact ⟨rfl, rfl⟩ | exact .inl rfl | refine ⟨_, rfl, rfl, rfl, ?_⟩ | refine ⟨_, _, rfl, ?_, ?_⟩ | refine ⟨_, rfl, ?_⟩ | refine And.intro ?_ ?_)) (by (repeat' first | exact trivial | exact rfl | exact ⟨rfl, rfl⟩ | exact .inl rfl | refine ⟨_, rfl, rfl, rfl, ?_⟩ | refine ⟨_, _, rfl, ?_, ?_⟩ | refine ⟨_, rfl, ?_⟩ | refine And.intro ?_ ?_)) ?_
  have hC := check_c n.net (hn.big (by omega))
  by_cases hv : validP n.net
  · rw [checkN, if_pos hv] at hC
    have hV : readLV s = [n.net.pv, i64 0, i64 0] := by rw [hV]; exact if_pos hv
    refine hC.uses [4, 5] rfl ⟨_, _, rfl, ⟨_, rfl, _, _, rfl, rfl, _, _, rfl, ⟨n.net.nodes.map Nd.cells, rfl, by rw [Nat.zero_add]; exact rows_len1 n 5 _ (ren_rows _ n 2), rows_done' n 5 _ (ren_rows _ n 2) rfl⟩, rfl⟩, rfl⟩ ?_
    (first | refine brLt (fun h1 => ?_) (fun h1 => ?_) | refine brLe (fun h1 => ?_) (fun h1 => ?_) | refine brEq (fun h1 => ?_) (fun h1 => ?_))
    rotate_left
    · have h1 : ¬ (0 : Int) = 0 := h1
      exact absurd rfl h1
    refine holdsD_rec Tryz.func81 rfl rfl rfl ?_
    refine ⟨[], [], [], .returned und, ⟨6, [(3, erO 0), (2, plO 0), (1, ntO n.net)]⟩, rfl, by (repeat' first | exact trivial | exact rfl | exact ⟨rfl, rfl⟩ | exact .inl rfl | refine ⟨_, rfl, rfl, rfl, ?_⟩ | refine ⟨_, _, rfl, ?_, ?_⟩ | refine ⟨_, rfl, ?_⟩ | refine And.intro ?_ ?_), ⟨⟨_, rfl, rfl, rfl, _, rfl, by (repeat' first | exact trivial | exact rfl | exact ⟨rfl, rfl⟩ | exact .inl rfl | refine ⟨_, rfl, rfl, rfl, ?_⟩ | refine ⟨_, _, rfl, ?_, ?_⟩ | refine ⟨_, rfl, ?_⟩ | refine And.intro ?_ ?_)⟩, ⟨_, rfl, rfl, rfl, _, rfl, by (repeat' first | exact trivial | exact rfl | exact ⟨rfl, rfl⟩ | exact .inl rfl | refine ⟨_, rfl, rfl, rfl, ?_⟩ | refine ⟨_, _, rfl, ?_, ?_⟩ | refine ⟨_, rfl, ?_⟩ | refine And.intro ?_ ?_)⟩, ⟨_, rfl, rfl, rfl, _, rfl, ⟨_, _, rfl, rfl, _, _, rfl, ⟨n.net.nodes.map Nd.cells, rfl, by rw [Nat.zero_add]; exact rows_len1 n 5 _ (ren_rows _ n 2), rows_done' n 5 _ (ren_rows _ n 2) rfl⟩, rfl⟩⟩, trivial⟩, ?_⟩
    exact ⟨[], [], [], .returned (.tup ([n.net.pv, i64 0, i64 0].map .p)), ⟨1, []⟩, rfl, ⟨_, rfl, _, rfl, _, _, rfl, rfl, _, _, rfl, rfl, _, _, rfl, rfl, rfl⟩, trivial, by rw [hV], rfl⟩
  · rw [checkN, if_neg hv] at hC
    have hV : readLV s = [znV, i64 0, i64 50] := by rw [hV]; exact if_neg hv
    refine hC.uses [4, 5] rfl ⟨_, _, rfl, ⟨_, rfl, _, _, rfl, rfl, _, _, rfl, ⟨n.net.nodes.map Nd.cells, rfl, by rw [Nat.zero_add]; exact rows_len1 n 5 _ (ren_rows _ n 2), rows_done' n 5 _ (ren_rows _ n 2) rfl⟩, rfl⟩, rfl⟩ ?_
    (first | refine brLt (fun h1 => ?_) (fun h1 => ?_) | refine brLe (fun h1 => ?_) (fun h1 => ?_) | refine brEq (fun h1 => ?_) (fun h1 => ?_))
    · have h1 : (50 : Int) = 0 := h1
      exact absurd h1 (by decide)
    refine holdsD_rec Tryz.func81 rfl rfl rfl ?_
    refine ⟨[], [], [], .returned und, ⟨6, [(3, erO 50), (2, plO 0), (1, znO)]⟩, rfl, by (repeat' first | exact trivial | exact rfl | exact ⟨rfl, rfl⟩ | exact .inl rfl | refine ⟨_, rfl, rfl, rfl, ?_⟩ | refine ⟨_, _, rfl, ?_, ?_⟩ | refine ⟨_, rfl, ?_⟩ | refine And.intro ?_ ?_), by (repeat' first | exact trivial | exact rfl | exact ⟨rfl, rfl⟩ | exact .inl rfl | refine ⟨_, rfl, rfl, rfl, ?_⟩ | refine ⟨_, _, rfl, ?_, ?_⟩ | refine ⟨_, rfl, ?_⟩ | refine And.intro ?_ ?_), ?_⟩
    exact ⟨[], [], [], .returned (.tup ([znV, i64 0, i64 50].map .p)), ⟨1, []⟩, rfl, ⟨_, rfl, _, rfl, _, _, rfl, rfl, _, _, rfl, rfl, _, _, rfl, rfl, rfl⟩, trivial, by rw [hV], rfl⟩
theorem readLines_p (s : List UInt8) (hs : s.length ≤ 50000) : Pure cx 49 [.str s] (· = .ret (readLV s)) := by
  refine pure_of_vc Tryz.func49 rfl rfl rfl ?_
  have hN := read_nl s hs
  rw [readL_res] at hN
  rw [readL_res]
  rcases hr : readLR s with ⟨p, e⟩ | n
  · rw [hr] at hN
    refine hN.useE [] [(0, 1)] rfl (by (repeat' first | exact trivial | exact rfl | exact ⟨rfl, rfl⟩ | exact .inl rfl | refine ⟨_, rfl, rfl, rfl, ?_⟩ | refine ⟨_, _, rfl, ?_, ?_⟩ | refine ⟨_, rfl, ?_⟩ | refine And.intro ?_ ?_)) (by (repeat' first | exact trivial | exact rfl | exact ⟨rfl, rfl⟩ | exact .inl rfl | refine ⟨_, rfl, rfl, rfl, ?_⟩ | refine ⟨_, _, rfl, ?_, ?_⟩ | refine ⟨_, rfl, ?_⟩ | refine And.intro ?_ ?_)) ?_
    exact end3 znV (i64 (p : Nat)) (i64 e) rfl rfl rfl rfl rfl
  · rw [hr] at hN
    refine hN.useE [] [(0, 1)] rfl (by (repeat' first | exact trivial | exact rfl | exact ⟨rfl, rfl⟩ | exact .inl rfl | refine ⟨_, rfl, rfl, rfl, ?_⟩ | refine ⟨_, _, rfl, ?_, ?_⟩ | refine ⟨_, rfl, ?_⟩ | refine And.intro ?_ ?_)) (by (repeat' first | exact trivial | exact rfl | exact ⟨rfl, rfl⟩ | exact .inl rfl | refine ⟨_, rfl, rfl, rfl, ?_⟩ | refine ⟨_, _, rfl, ?_, ?_⟩ | refine ⟨_, rfl, ?_⟩ | refine And.intro ?_ ?_)) ?_
    exact end3 n.pv (i64 0) (i64 0) rfl rfl rfl rfl rfl
end Go.Proofs.YtphmmoloegjocaaGreatDoor

/- The program's Turn. -/
namespace Go.Proofs.YtphmmoloegjocaaGreatDoor
open Go Y RowKit
set_option maxRecDepth 100000
set_option maxHeartbeats 40000000

theorem trim_c (s : List UInt8) (_hs : s.length ≤ 1000000) : Pure cx 69 [.str s, .str [32, 10]] (· = .ret [.str (Lib.trimLeftS s [32, 10])]) := by
  refine pure_below Tryz.func69 rfl rfl rfl fun Γ w args' hR hA => ?_
  simp only [List.map, VRL, VR, VP] at hA
  obtain ⟨a, as', rfl, rfl, b, bs', rfl, rfl, rfl⟩ := hA
  refine ⟨_, rfl, Any.strings_TrimLeft_laid Tryz.lays161 (by kernel_rfl) ⟨⟨s⟩⟩ ⟨⟨[32, 10]⟩⟩ w (by decide) (fun j b h => ?_)⟩
  have hm : b ∈ ([32, 10] : List UInt8) := List.mem_of_getElem? h
  simp only [List.mem_cons, List.not_mem_nil, or_false] at hm
  rcases hm with rfl | rfl <;> decide
theorem hasPre_c (s p : List UInt8) : Pure cx 68 [.str s, .str p] (· = .ret [.bool (Lib.hasPrefix s p)]) := by
  refine pure_below Tryz.func68 rfl rfl rfl fun Γ w args' hR hA => ?_
  simp only [List.map, VRL, VR, VP] at hA
  obtain ⟨a, as', rfl, rfl, b, bs', rfl, rfl, rfl⟩ := hA
  exact ⟨_, rfl, (Tryz.strings_HasPrefix ⟨⟨s⟩⟩ ⟨⟨p⟩⟩ w).mono fun e w' ⟨h1, h2⟩ => ⟨h1, h2 ▸ Below.refl _ _⟩⟩

theorem bl_fun : (fun b : UInt8 => ([32, 10] : List UInt8).contains b) = isBl := by
  funext b
  rw [isBl]
  by_cases h1 : b = 32
  · subst h1; rfl
  by_cases h2 : b = 10
  · subst h2; rfl
  have h3 : b.toNat ≠ 32 := fun e => h1 (UInt8.toNat_inj.1 e)
  have h4 : b.toNat ≠ 10 := fun e => h2 (UInt8.toNat_inj.1 e)
  simp [h1, h2, h3, h4]
theorem drop_nx (s : List UInt8) : s.drop (nx s 0) = s.dropWhile isBl := by
  rw [nx, scanF, List.drop_zero, Nat.zero_add]
  induction s with
  | nil => rfl
  | cons b r ih =>
    rw [List.takeWhile_cons, List.dropWhile_cons]
    split
    · simpa using ih
    · rfl
theorem tok_open (s : List UInt8) : Lib.hasPrefix (Lib.trimLeftS s [32, 10]) [40] = true ↔ tok s 0 = kOpen := by
  rw [Lib.trimLeftS, bl_fun, ← drop_nx, tok]
  have hle : nx s 0 ≤ s.length := (nx_le (Nat.zero_le _)).2
  rcases Nat.lt_or_ge (nx s 0) s.length with hlt | hge
  · obtain ⟨b, hb⟩ : ∃ b, b = s.getD (nx s 0) 0 := ⟨_, rfl⟩
    have hdr : s.drop (nx s 0) = b :: s.drop (nx s 0 + 1) := by rw [hb]; exact drop_cons 0 hlt
    have hte : nx s 0 < te s 0 := by
      rw [te]
      split
      · omega
      · rename_i h
        have : nx s 0 ≤ scanF isWd s (nx s 0) := Nat.le_add_right _ _
        omega
    constructor
    · intro h
      rw [hdr] at h
      have hb40 : b = 40 := by
        have h : ((40 : UInt8) == b && true) = true := h
        rw [Bool.and_true, beq_iff_eq] at h
        exact h.symm
      have hsc : scanF isWd s (nx s 0) = nx s 0 := by
        rw [scanF, hdr, hb40]; rfl
      have e : te s 0 = nx s 0 + 1 := by rw [te, if_pos ⟨hsc, hlt⟩]
      rw [e, hdr, hb40, Nat.add_sub_cancel_left]; rfl
    · intro h
      rw [hdr, show te s 0 - nx s 0 = (te s 0 - nx s 0 - 1) + 1 by omega, List.take_succ_cons] at h
      injection h with h1 h2
      rw [hdr, h1]; rfl
  · rw [List.drop_eq_nil_of_le (by omega)]
    constructor <;> intro h
    · cases h
    · simp at h
theorem valid_big {n : Nt} (h : validP n) : BigN n := by
  have hs := valid_sm h
  exact ⟨by have := hs.len; omega, fun x hx => by have := (hs.par x hx).2; omega, fun x hx => by have := (hs.rows x hx).2; omega, fun x hx r hr => by have := (hs.row x hx r hr).2.2; omega⟩
theorem turn_p (s : List UInt8) (hs : s.length ≤ 50000) : Pure cx 44 [.str s] (· = .ret (turnV s)) := by
  refine pure_of_vc Tryz.func44 rfl rfl rfl ?_
  have hL := readLines_p s hs
  rw [readL_res] at hL
  have hN := readNested_p s hs
  rw [readN_res] at hN
  have hP := hasPre_c (Lib.trimLeftS s [32, 10]) [40]
  refine (trim_c s (by omega)).eq rfl ?_
  by_cases h1 : tok s 0 = kOpen
  · rw [(tok_open s).2 h1] at hP
    refine hP.eq rfl ?_
    rcases hr : readNR s with ⟨p, e⟩ | n
    · rw [hr] at hN
      have hV : turnV s = [.str [], i64 e] := by
        rw [turnV]
        by_cases hl : s.length ≤ 40000
        · rw [if_pos ⟨hl, h1⟩, hr]
        · rw [if_neg (fun h => hl h.1)]
          rw [readNR, if_pos (by omega)] at hr
          rw [readLR, if_pos (by omega)]
          injection hr with hr
          injection hr with _ he
          rw [← he]
      have he := readN_err hr
      refine hN.eq rfl ?_
      (first | refine brLt (fun h2 => ?_) (fun h2 => ?_) | refine brLe (fun h2 => ?_) (fun h2 => ?_) | refine brEq (fun h2 => ?_) (fun h2 => ?_))
      · have h2 : e = 0 := h2
        omega
      · exact end2 (.str []) (i64 e) rfl rfl rfl (by rw [hV])
    · rw [hr] at hN
      have hl : s.length ≤ 40000 := by
        rcases Nat.lt_or_ge 40000 s.length with h | h
        · rw [readNR, if_pos h] at hr; cases hr
        · exact h
      have hv := readN_ok hr
      have hV : turnV s = [.str (byLines n), i64 0] := by rw [turnV, if_pos ⟨hl, h1⟩, hr]
      refine hN.eq rfl ?_
      (first | refine brLt (fun h2 => ?_) (fun h2 => ?_) | refine brLe (fun h2 => ?_) (fun h2 => ?_) | refine brEq (fun h2 => ?_) (fun h2 => ?_))
      rotate_left
      · have h2 : ¬ (0 : Int) = 0 := h2
        exact absurd rfl h2
      have hC := lines_c n (valid_big hv)
      rw [linesP, if_pos hv] at hC
      refine hC.eq rfl ?_
      exact end2 (.str (byLines n)) (i64 0) rfl rfl rfl (by rw [hV])
  · rw [Bool.eq_false_iff.2 (fun h => h1 ((tok_open s).1 h))] at hP
    refine hP.eq rfl ?_
    have hV : turnV s = match readLR s with
        | .inl (_, e) => [.str [], i64 e]
        | .inr n => [.str (nested n), i64 0] := by rw [turnV]; exact if_neg (fun h => h1 h.2)
    rcases hr : readLR s with ⟨p, e⟩ | n
    · rw [hr] at hL hV
      have he := readL_err hr
      refine hL.eq rfl ?_
      (first | refine brLt (fun h2 => ?_) (fun h2 => ?_) | refine brLe (fun h2 => ?_) (fun h2 => ?_) | refine brEq (fun h2 => ?_) (fun h2 => ?_))
      · have h2 : e = 0 := h2
        omega
      · exact end2 (.str []) (i64 e) rfl rfl rfl (by rw [hV])
    · rw [hr] at hL hV
      have hv := readL_ok hr
      refine hL.eq rfl ?_
      (first | refine brLt (fun h2 => ?_) (fun h2 => ?_) | refine brLe (fun h2 => ?_) (fun h2 => ?_) | refine brEq (fun h2 => ?_) (fun h2 => ?_))
      rotate_left
      · have h2 : ¬ (0 : Int) = 0 := h2
        exact absurd rfl h2
      have hC := nestedE_c n (valid_big hv)
      rw [nestedP, if_pos hv] at hC
      refine hC.eq rfl ?_
      exact end2 (.str (nested n)) (i64 0) rfl rfl rfl (by rw [hV])
end Go.Proofs.YtphmmoloegjocaaGreatDoor

/- The statements' own functions: ints, equal. -/
namespace Go.Proofs.YtphmmoloegjocaaGreatDoor
open Go Y
set_option maxRecDepth 100000
set_option maxHeartbeats 40000000

theorem ints_eq (a b : List Int) (ha : a.length ≤ 9223372036854775807) : Pure cx 56 [ints a, ints b] (· = .ret [.bool (decide (a = b))]) := by
  refine pure_of_vc Tryz.func56 rfl rfl rfl ?_
  (first | refine brLt (fun h1 => ?_) (fun h1 => ?_) | refine brLe (fun h1 => ?_) (fun h1 => ?_) | refine brEq (fun h1 => ?_) (fun h1 => ?_))
  rotate_left
  · have h1 : ¬ ((a.map i64).length : Int) = ((b.map i64).length : Nat) := h1
    rw [List.length_map, List.length_map] at h1
    refine end1 _ rfl rfl (retB ?_)
    rw [eq_comm, decide_eq_false_iff_not]
    rintro rfl
    exact h1 rfl
  have h1 : ((a.map i64).length : Int) = ((b.map i64).length : Nat) := h1
  rw [List.length_map, List.length_map] at h1
  have hl : a.length = b.length := by omega
  refine ⟨Nat, fun k => [(0, .p (ints a)), (1, .p (ints b)), (12, .p (i64 a.length)), (13, .p (i64 k))], fun _ => ⟨0, []⟩, fun k => k ≤ a.length ∧ a.take k = b.take k, fun k => a.length - k, ?_, ?_⟩
  · exact ⟨0, ⟨by omega, by simp⟩, ent0 rfl ⟨rfl, rfl, lenM i64 a, rfl, trivial⟩ trivial rfl⟩
  rintro k ⟨g1, g2⟩
  (first | refine brLt (fun h2 => ?_) (fun h2 => ?_) | refine brLe (fun h2 => ?_) (fun h2 => ?_) | refine brEq (fun h2 => ?_) (fun h2 => ?_))
  · have h2 : (k : Int) < (a.length : Nat) := h2
    refine VDraw.seq rfl ?_
    refine ⟨_, ⟨by omega, i64 (a.getD k 0), icell (by omega), rfl⟩, ?_⟩
    refine ⟨_, ⟨by omega, i64 (b.getD k 0), icell (by omega), rfl⟩, ?_⟩
    (first | refine brLt (fun h3 => ?_) (fun h3 => ?_) | refine brLe (fun h3 => ?_) (fun h3 => ?_) | refine brEq (fun h3 => ?_) (fun h3 => ?_))
    · have h3 : a.getD k 0 = b.getD k 0 := h3
      refine ⟨(k : Int) + 1, wrap_i64 (by omega) (by omega), k + 1, ⟨by omega, ?_⟩, ent0 rfl ⟨rfl, rfl, rfl, rfl, trivial⟩ trivial rfl, ?_⟩
      · rw [take_succ_getD 0 (by omega), take_succ_getD 0 (by omega), g2, h3]
      · show a.length - (k + 1) < a.length - k
        omega
    · have h3 : ¬ a.getD k 0 = b.getD k 0 := h3
      refine end1 _ rfl rfl (retB ?_)
      rw [eq_comm, decide_eq_false_iff_not]
      rintro rfl
      exact h3 rfl
  · have h2 : ¬ (k : Int) < (a.length : Nat) := h2
    refine end1 _ rfl rfl (retB ?_)
    rw [take_all (by omega), take_all (by omega)] at g2
    rw [eq_comm, decide_eq_true_iff]
    exact g2

noncomputable instance (n m : Nt) : Decidable (n = m) := Classical.propDecidable _
theorem nd_ext {x y : Nd} (h1 : x.card = y.card) (h2 : x.parents = y.parents) (h3 : x.rows = y.rows) : x = y := by
  obtain ⟨a, b, c⟩ := x
  obtain ⟨d, e, f⟩ := y
  simp only [] at h1 h2 h3
  rw [h1, h2, h3]
theorem nt_ext {n m : Nt} (h1 : n.grain = m.grain) (h2 : n.nodes = m.nodes) : n = m := by
  obtain ⟨a, b⟩ := n
  obtain ⟨d, e⟩ := m
  simp only [] at h1 h2
  rw [h1, h2]
theorem equal_c (n m : Nt) (hn : BigN n) : Pure cx 23 [n.pv, m.pv] (· = .ret [.bool (decide (n = m))]) := by
  refine pure_of_vc Tryz.func23 rfl rfl rfl ?_
  have hnl := hn.nodes
  (first | refine brLt (fun h1 => ?_) (fun h1 => ?_) | refine brLe (fun h1 => ?_) (fun h1 => ?_) | refine brEq (fun h1 => ?_) (fun h1 => ?_))
  rotate_left
  · have h1 : ¬ n.grain = m.grain := h1
    refine end1 (.bool false) rfl rfl (retB ?_)
    rw [eq_comm, decide_eq_false_iff_not]
    rintro rfl
    exact h1 rfl
  have h1 : n.grain = m.grain := h1
  (first | refine brLt (fun h2 => ?_) (fun h2 => ?_) | refine brLe (fun h2 => ?_) (fun h2 => ?_) | refine brEq (fun h2 => ?_) (fun h2 => ?_))
  rotate_left
  · have h2 : ¬ ((n.nodes.map Nd.cells).length : Int) = ((m.nodes.map Nd.cells).length : Nat) := h2
    refine end1 (.bool false) rfl rfl (retB ?_)
    rw [eq_comm, decide_eq_false_iff_not]
    rintro rfl
    exact h2 rfl
  have h2 : ((n.nodes.map Nd.cells).length : Int) = ((m.nodes.map Nd.cells).length : Nat) := h2
  rw [List.length_map, List.length_map] at h2
  refine ⟨Nat, fun k => [(2, .ptr 0 0 0), (3, .ptr 1 0 0), (25, .p (i64 n.nodes.length)), (26, .p (i64 k))], fun _ => ⟨2, [(1, ntO m), (0, ntO n)]⟩, fun k => k ≤ n.nodes.length ∧ n.nodes.take k = m.nodes.take k, fun k => n.nodes.length - k, ?_, ?_⟩
  · exact ⟨0, ⟨by omega, by simp⟩, ent_of [] [] [] rfl ⟨⟨rfl, rfl⟩, ⟨rfl, rfl⟩, lenM Nd.cells n.nodes, rfl, trivial⟩ (by (repeat' first | exact trivial | exact rfl | exact ⟨rfl, rfl⟩ | exact .inl rfl | refine ⟨_, rfl, rfl, rfl, ?_⟩ | refine ⟨_, _, rfl, ?_, ?_⟩ | refine ⟨_, rfl, ?_⟩ | refine And.intro ?_ ?_)) rfl⟩
  rintro k ⟨k1, k2⟩
  (first | refine brLt (fun h3 => ?_) (fun h3 => ?_) | refine brLe (fun h3 => ?_) (fun h3 => ?_) | refine brEq (fun h3 => ?_) (fun h3 => ?_))
  rotate_left
  · have h3 : ¬ (k : Int) < (n.nodes.length : Nat) := h3
    rw [take_all (by omega), take_all (by omega)] at k2
    exact end1 (.bool true) rfl rfl (retB (decide_eq_true (nt_ext h1 k2)).symm)
  have h3 : (k : Int) < (n.nodes.length : Nat) := h3
  have hk : k < n.nodes.length := by omega
  have hk' : k < m.nodes.length := by omega
  obtain ⟨x, hx⟩ : ∃ x, x = n.nodes.getD k nd0 := ⟨_, rfl⟩
  obtain ⟨y, hy⟩ : ∃ y, y = m.nodes.getD k nd0 := ⟨_, rfl⟩
  have hxm : x ∈ n.nodes := by rw [hx]; exact getD_memL nd0 hk
  have differ : ¬ x = y → ¬ n = m := fun h e => h (by rw [hx, hy, e])
  refine VDraw.altTo [(2, .ptr 0 0 0), (3, .ptr 1 0 0), (25, .p (i64 n.nodes.length)), (26, .p (i64 k)), (6, .ptr 2 0 0), (7, .ptr 3 0 0)] ⟨4, [(3, ndO y), (2, ndO x), (1, ntO m), (0, ntO n)]⟩ rfl ?_ ?_
  · refine ⟨_, ⟨by omega, x.cells, by rw [hx]; exact ncell hk, rfl⟩, ?_⟩
    refine ⟨_, ⟨by omega, y.cells, by rw [hy]; exact ncell hk', rfl⟩, ?_⟩
    refine And.intro ?_ ?_
    · refine ⟨by (repeat' first | exact trivial | exact rfl | exact ⟨rfl, rfl⟩ | exact .inl rfl | refine ⟨_, rfl, rfl, rfl, ?_⟩ | refine ⟨_, _, rfl, ?_, ?_⟩ | refine ⟨_, rfl, ?_⟩ | refine And.intro ?_ ?_), ?_⟩
      refine ⟨by (repeat' first | exact trivial | exact rfl | exact ⟨rfl, rfl⟩ | exact .inl rfl | refine ⟨_, rfl, rfl, rfl, ?_⟩ | refine ⟨_, _, rfl, ?_, ?_⟩ | refine ⟨_, rfl, ?_⟩ | refine And.intro ?_ ?_), ?_⟩
      refine ⟨by (repeat' first | exact trivial | exact rfl | exact ⟨rfl, rfl⟩ | exact .inl rfl | refine ⟨_, rfl, rfl, rfl, ?_⟩ | refine ⟨_, _, rfl, ?_, ?_⟩ | refine ⟨_, rfl, ?_⟩ | refine And.intro ?_ ?_), ?_⟩
      exact ent_of [] [] [] rfl (by (repeat' first | exact trivial | exact rfl | exact ⟨rfl, rfl⟩ | exact .inl rfl | refine ⟨_, rfl, rfl, rfl, ?_⟩ | refine ⟨_, _, rfl, ?_, ?_⟩ | refine ⟨_, rfl, ?_⟩ | refine And.intro ?_ ?_)) (by (repeat' first | exact trivial | exact rfl | exact ⟨rfl, rfl⟩ | exact .inl rfl | refine ⟨_, rfl, rfl, rfl, ?_⟩ | refine ⟨_, _, rfl, ?_, ?_⟩ | refine ⟨_, rfl, ?_⟩ | refine And.intro ?_ ?_)) rfl
    · refine ⟨by (repeat' first | exact trivial | exact rfl | exact ⟨rfl, rfl⟩ | exact .inl rfl | refine ⟨_, rfl, rfl, rfl, ?_⟩ | refine ⟨_, _, rfl, ?_, ?_⟩ | refine ⟨_, rfl, ?_⟩ | refine And.intro ?_ ?_), ?_⟩
      refine ⟨by (repeat' first | exact trivial | exact rfl | exact ⟨rfl, rfl⟩ | exact .inl rfl | refine ⟨_, rfl, rfl, rfl, ?_⟩ | refine ⟨_, _, rfl, ?_, ?_⟩ | refine ⟨_, rfl, ?_⟩ | refine And.intro ?_ ?_), ?_⟩
      refine ⟨by (repeat' first | exact trivial | exact rfl | exact ⟨rfl, rfl⟩ | exact .inl rfl | refine ⟨_, rfl, rfl, rfl, ?_⟩ | refine ⟨_, _, rfl, ?_, ?_⟩ | refine ⟨_, rfl, ?_⟩ | refine And.intro ?_ ?_), ?_⟩
      exact ent_of [] [(2, 3), (3, 2)] [] rfl (by (repeat' first | exact trivial | exact rfl | exact ⟨rfl, rfl⟩ | exact .inl rfl | refine ⟨_, rfl, rfl, rfl, ?_⟩ | refine ⟨_, _, rfl, ?_, ?_⟩ | refine ⟨_, rfl, ?_⟩ | refine And.intro ?_ ?_)) (by (repeat' first | exact trivial | exact rfl | exact ⟨rfl, rfl⟩ | exact .inl rfl | refine ⟨_, rfl, rfl, rfl, ?_⟩ | refine ⟨_, _, rfl, ?_, ?_⟩ | refine ⟨_, rfl, ?_⟩ | refine And.intro ?_ ?_)) rfl
  (first | refine brLt (fun h4 => ?_) (fun h4 => ?_) | refine brLe (fun h4 => ?_) (fun h4 => ?_) | refine brEq (fun h4 => ?_) (fun h4 => ?_))
  rotate_left
  · have h4 : ¬ x.card = y.card := h4
    refine end1 (.bool false) rfl rfl (retB ?_)
    rw [eq_comm, decide_eq_false_iff_not]
    exact differ fun e => h4 (by rw [e])
  have h4 : x.card = y.card := h4
  (first | refine brLt (fun h5 => ?_) (fun h5 => ?_) | refine brLe (fun h5 => ?_) (fun h5 => ?_) | refine brEq (fun h5 => ?_) (fun h5 => ?_))
  rotate_left
  · have h5 : ¬ ((x.rows.map ints).length : Int) = ((y.rows.map ints).length : Nat) := h5
    refine end1 (.bool false) rfl rfl (retB ?_)
    rw [eq_comm, decide_eq_false_iff_not]
    exact differ fun e => h5 (by rw [e])
  have h5 : ((x.rows.map ints).length : Int) = ((y.rows.map ints).length : Nat) := h5
  rw [List.length_map, List.length_map] at h5
  have hP := ints_eq x.parents y.parents (hn.par x hxm)
  by_cases h6 : x.parents = y.parents
  rotate_left
  · rw [decide_eq_false h6] at hP
    refine hP.eq rfl ?_
    refine end1 (.bool false) rfl rfl (retB ?_)
    rw [eq_comm, decide_eq_false_iff_not]
    exact differ fun e => h6 (by rw [e])
  rw [decide_eq_true h6] at hP
  refine hP.eq rfl ?_
  have hxr := hn.rows x hxm
  refine ⟨Nat, fun j => [(2, .ptr 0 0 0), (3, .ptr 1 0 0), (25, .p (i64 n.nodes.length)), (26, .p (i64 k)), (6, .ptr 2 0 0), (7, .ptr 3 0 0), (63, .p (i64 x.rows.length)), (64, .p (i64 j))], fun _ => ⟨4, [(3, ndO y), (2, ndO x), (1, ntO m), (0, ntO n)]⟩, fun j => j ≤ x.rows.length ∧ x.rows.take j = y.rows.take j, fun j => x.rows.length - j, ?_, ?_⟩
  · exact ⟨0, ⟨by omega, by simp⟩, ent_of [] [] [] rfl ⟨⟨rfl, rfl⟩, ⟨rfl, rfl⟩, rfl, rfl, ⟨rfl, rfl⟩, ⟨rfl, rfl⟩, lenM ints x.rows, rfl, trivial⟩ (by (repeat' first | exact trivial | exact rfl | exact ⟨rfl, rfl⟩ | exact .inl rfl | refine ⟨_, rfl, rfl, rfl, ?_⟩ | refine ⟨_, _, rfl, ?_, ?_⟩ | refine ⟨_, rfl, ?_⟩ | refine And.intro ?_ ?_)) rfl⟩
  rintro j ⟨j1, j2⟩
  (first | refine brLt (fun h7 => ?_) (fun h7 => ?_) | refine brLe (fun h7 => ?_) (fun h7 => ?_) | refine brEq (fun h7 => ?_) (fun h7 => ?_))
  rotate_left
  · have h7 : ¬ (j : Int) < (x.rows.length : Nat) := h7
    rw [take_all (by omega), take_all (by omega)] at j2
    refine ⟨(k : Int) + 1, wrap_i64 (by omega) (by omega), ?_⟩
    refine ⟨k + 1, ⟨by omega, ?_⟩, ent_of [] [] [] rfl (by (repeat' first | exact trivial | exact rfl | exact ⟨rfl, rfl⟩ | exact .inl rfl | refine ⟨_, rfl, rfl, rfl, ?_⟩ | refine ⟨_, _, rfl, ?_, ?_⟩ | refine ⟨_, rfl, ?_⟩ | refine And.intro ?_ ?_)) (by (repeat' first | exact trivial | exact rfl | exact ⟨rfl, rfl⟩ | exact .inl rfl | refine ⟨_, rfl, rfl, rfl, ?_⟩ | refine ⟨_, _, rfl, ?_, ?_⟩ | refine ⟨_, rfl, ?_⟩ | refine And.intro ?_ ?_)) rfl, by show n.nodes.length - (k + 1) < n.nodes.length - k; omega⟩
    rw [take_succ_getD nd0 hk, take_succ_getD nd0 hk', k2, ← hx, ← hy, nd_ext h4 h6 j2]
  have h7 : (j : Int) < (x.rows.length : Nat) := h7
  have hj : j < x.rows.length := by omega
  have hj' : j < y.rows.length := by omega
  have hrm := getD_memL [] hj
  refine VDraw.seq rfl ?_
  refine ⟨_, ⟨by omega, ints (x.rows.getD j []), ccell hj, rfl⟩, ?_⟩
  refine ⟨_, ⟨by omega, ints (y.rows.getD j []), ccell hj', rfl⟩, ?_⟩
  have hI := ints_eq (x.rows.getD j []) (y.rows.getD j []) (hn.row x hxm _ hrm)
  by_cases h8 : x.rows.getD j [] = y.rows.getD j []
  · rw [decide_eq_true h8] at hI
    refine hI.eq rfl ?_
    refine ⟨(j : Int) + 1, wrap_i64 (by omega) (by omega), ?_⟩
    refine ⟨j + 1, ⟨by omega, ?_⟩, ent_of [] [] [] rfl (by (repeat' first | exact trivial | exact rfl | exact ⟨rfl, rfl⟩ | exact .inl rfl | refine ⟨_, rfl, rfl, rfl, ?_⟩ | refine ⟨_, _, rfl, ?_, ?_⟩ | refine ⟨_, rfl, ?_⟩ | refine And.intro ?_ ?_)) (by (repeat' first | exact trivial | exact rfl | exact ⟨rfl, rfl⟩ | exact .inl rfl | refine ⟨_, rfl, rfl, rfl, ?_⟩ | refine ⟨_, _, rfl, ?_, ?_⟩ | refine ⟨_, rfl, ?_⟩ | refine And.intro ?_ ?_)) rfl, by show x.rows.length - (j + 1) < x.rows.length - j; omega⟩
    rw [take_succ_getD [] hj, take_succ_getD [] hj', j2, h8]
  · rw [decide_eq_false h8] at hI
    refine hI.eq rfl ?_
    refine end1 (.bool false) rfl rfl (retB ?_)
    rw [eq_comm, decide_eq_false_iff_not]
    exact differ fun e => h8 (by rw [e])
end Go.Proofs.YtphmmoloegjocaaGreatDoor

/- The statements' own functions: lined, nested, badLine, badNest, reads. -/
namespace Go.Proofs.YtphmmoloegjocaaGreatDoor
open Go Y
set_option maxRecDepth 100000
set_option maxHeartbeats 40000000

theorem lined_yes (t : List UInt8) (n : Nt) (ht : t.length ≤ 50000) (h : readLR t = .inr n) : Pure cx 26 [.str t, n.pv] (· = .ret [.bool true]) := by
  have hv := readL_ok h
  refine pure_of_vc Tryz.func26 rfl rfl rfl ?_
  have hR := readLines_p t ht
  rw [readL_res, h] at hR
  have hE := equal_c n n (valid_big hv)
  rw [decide_eq_true rfl] at hE
  refine hR.eq rfl ?_
  refine And.intro (fun _ => ?_) (fun h => absurd rfl h)
  refine And.intro (fun _ => ?_) (fun h => absurd rfl h)
  refine hE.eq rfl ?_
  exact end1 _ rfl rfl rfl
theorem nested_yes (t : List UInt8) (n : Nt) (ht : t.length ≤ 50000) (h : readNR t = .inr n) : Pure cx 27 [.str t, n.pv] (· = .ret [.bool true]) := by
  have hv := readN_ok h
  refine pure_of_vc Tryz.func27 rfl rfl rfl ?_
  have hR := readNested_p t ht
  rw [readN_res, h] at hR
  have hE := equal_c n n (valid_big hv)
  rw [decide_eq_true rfl] at hE
  refine hR.eq rfl ?_
  refine And.intro (fun _ => ?_) (fun h => absurd rfl h)
  refine And.intro (fun _ => ?_) (fun h => absurd rfl h)
  refine hE.eq rfl ?_
  exact end1 _ rfl rfl rfl
theorem badLine_yes (t : List UInt8) (p : Nat) (e : Int) (ht : t.length ≤ 50000) (h : readLR t = .inl (p, e)) : Pure cx 19 [.str t, i64 (p : Nat), i64 e] (· = .ret [.bool true]) := by
  refine pure_of_vc Tryz.func19 rfl rfl rfl ?_
  have hR := readLines_p t ht
  rw [readL_res, h] at hR
  refine hR.eq rfl ?_
  refine And.intro (fun _ => ?_) (fun h => absurd rfl h)
  refine And.intro (fun _ => ?_) (fun h => absurd rfl h)
  refine And.intro (fun _ => ?_) (fun h => absurd rfl h)
  refine And.intro (fun _ => ?_) (fun h => absurd rfl h)
  exact end1 _ rfl rfl rfl
theorem badNest_yes (t : List UInt8) (p : Nat) (e : Int) (ht : t.length ≤ 50000) (h : readNR t = .inl (p, e)) : Pure cx 22 [.str t, i64 (p : Nat), i64 e] (· = .ret [.bool true]) := by
  refine pure_of_vc Tryz.func22 rfl rfl rfl ?_
  have hR := readNested_p t ht
  rw [readN_res, h] at hR
  refine hR.eq rfl ?_
  refine And.intro (fun _ => ?_) (fun h => absurd rfl h)
  refine And.intro (fun _ => ?_) (fun h => absurd rfl h)
  refine And.intro (fun _ => ?_) (fun h => absurd rfl h)
  refine And.intro (fun _ => ?_) (fun h => absurd rfl h)
  exact end1 _ rfl rfl rfl

end Go.Proofs.YtphmmoloegjocaaGreatDoor

/- The chapter's examples (plain). Printed by gen/works41.py. -/
namespace Go.Proofs.YtphmmoloegjocaaGreatDoor
open Go Y
set_option maxRecDepth 100000
set_option maxHeartbeats 4000000

def exOne : Nt := ⟨4, [⟨2, [], [[1, 3]]⟩]⟩
def exTwo : Nt := ⟨4, [⟨2, [], [[1, 3]]⟩, ⟨2, [0], [[4, 0], [2, 2]]⟩]⟩
theorem valid_one : validP exOne := by
  refine ⟨by decide, by decide, by unfold okCard; decide, by unfold placedP listP; decide, by decide, ⟨fun v => v, ?_⟩, ?_⟩
  · show ∀ v, v < 1 → ∀ p, p < 1 → (parAt [0] v).testBit p = true → p < v
    decide
  · show ∀ v, v < 1 → nodeP exOne v
    unfold nodeP rowP
    decide
theorem valid_two : validP exTwo := by
  refine ⟨by decide, by decide, by unfold okCard; decide, by unfold placedP listP; decide, by decide, ⟨fun v => v, ?_⟩, ?_⟩
  · show ∀ v, v < 2 → ∀ p, p < 2 → (parAt [0, 1] v).testBit p = true → p < v
    decide
  · show ∀ v, v < 2 → nodeP exTwo v
    unfold nodeP rowP
    decide
theorem line_ok {t : List UInt8} {n : Ns} (h : t.length ≤ 40000) (e : runL true ns0 0 (linesN t) = .inr (false, n)) (hv : validP n.net) : readLR t = .inr n.net := by
  rw [readLR, if_neg (by omega), e]
  exact if_pos hv
theorem line_no {t : List UInt8} {k : Nat} (h : t.length ≤ 40000) (e : runL true ns0 0 (linesN t) = .inl k) : readLR t = .inl (k, 5) := by
  rw [readLR, if_neg (by omega), e]
theorem line_none {t : List UInt8} {n : Ns} (h : t.length ≤ 40000) (e : runL true ns0 0 (linesN t) = .inr (true, n)) : readLR t = .inl (0, 5) := by
  rw [readLR, if_neg (by omega), e]
theorem line_inv {t : List UInt8} {n : Ns} (h : t.length ≤ 40000) (e : runL true ns0 0 (linesN t) = .inr (false, n)) (hv : ¬ validP n.net) : readLR t = .inl (0, 50) := by
  rw [readLR, if_neg (by omega), e]
  exact if_neg hv
theorem nest_ok {t : List UInt8} {n : Nt} {q : Nat} (h : t.length ≤ 40000) (e : netP t (t.length + 1) = .inr (n, q)) (hv : validP n) : readNR t = .inr n := by
  rw [readNR, if_neg (by omega), e]
  exact if_pos hv
theorem nest_no {t : List UInt8} {k : Nat} (h : t.length ≤ 40000) (e : netP t (t.length + 1) = .inl k) : readNR t = .inl (k, 5) := by
  rw [readNR, if_neg (by omega), e]
def exL : List UInt8 := [110, 101, 116, 32, 52, 10, 110, 111, 100, 101, 32, 50, 10, 114, 111, 119, 32, 49, 32, 51, 10, 110, 111, 100, 101, 32, 50, 32, 102, 114, 111, 109, 32, 48, 10, 114, 111, 119, 32, 52, 32, 48, 10, 114, 111, 119, 32, 50, 32, 50, 10]
def exN : List UInt8 := [40, 110, 101, 116, 32, 52, 32, 40, 110, 111, 100, 101, 32, 50, 32, 40, 41, 32, 40, 49, 32, 51, 41, 41, 32, 40, 110, 111, 100, 101, 32, 50, 32, 40, 48, 41, 32, 40, 52, 32, 48, 41, 32, 40, 50, 32, 50, 41, 41, 41]
theorem ex_lines : byLines exTwo = exL := by decide
theorem ex_nested : nested exTwo = exN := by decide
theorem ex_l1 : readLR [110, 101, 116, 32, 52, 10, 32, 32, 59, 32, 120, 10, 110, 111, 100, 101, 32, 32, 50, 32, 10, 114, 111, 119, 32, 49, 32, 51] = .inr exOne := line_ok (n := ⟨4, [], some ⟨2, [], [[1, 3]]⟩⟩) (by decide) (by rfl) valid_one
theorem ex_l2 : readLR [110, 101, 116, 32, 52, 10, 114, 111, 119, 32, 49] = .inl (2, 5) := line_no (by decide) (by rfl)
theorem ex_l3 : readLR [110, 101, 116, 32, 48, 52] = .inl (1, 5) := line_no (by decide) (by rfl)
theorem ex_l4 : readLR [] = .inl (0, 5) := line_none (n := ns0) (by decide) (by rfl)
theorem ex_l5 : readLR [110, 101, 116, 32, 52] = .inl (0, 50) := line_inv (n := ⟨4, [], none⟩) (by decide) (by rfl) (fun h => absurd h.len.1 (by decide))
theorem ex_l6 : readLR [120] = .inl (1, 5) := line_no (by decide) (by rfl)
theorem ex_n0 : readNR exN = .inr exTwo := nest_ok (q := 50) (by decide) (by rfl) valid_two
theorem ex_n1 : readNR [40, 110, 101, 116, 32, 52, 40, 110, 111, 100, 101, 32, 50, 40, 41, 40, 49, 32, 51, 41, 41, 41] = .inr exOne := nest_ok (q := 22) (by decide) (by rfl) valid_one
theorem ex_n2 : readNR [40, 110, 101, 116, 32, 52, 32, 40, 110, 111, 100, 101, 32, 50, 32, 40, 41, 32, 40, 41, 41, 41] = .inl (19, 5) := nest_no (by decide) (by rfl)
theorem ex_n3 : readNR [40, 110, 101, 116, 52, 41] = .inl (1, 5) := nest_no (by decide) (by rfl)
theorem ex_n4 : readNR [40, 110, 101, 116, 32, 52] = .inl (6, 5) := nest_no (by decide) (by rfl)
theorem ex_t1 : turnV exN = [.str exL, i64 0] := by
  rw [turnV, if_pos ⟨by decide, by rfl⟩, ex_n0, ← ex_lines]
theorem ex_t2 : turnV [120] = [.str [], i64 5] := by
  rw [turnV, if_neg (fun h => absurd h.2 (by decide)), ex_l6]
end Go.Proofs.YtphmmoloegjocaaGreatDoor

/- The chapter's examples: works. -/
namespace Go.Proofs.YtphmmoloegjocaaGreatDoor
open Go Y
set_option maxRecDepth 100000
set_option maxHeartbeats 40000000

theorem two_c : Pure cx 43 [] (· = .ret [exTwo.pv]) := by
  refine pure_of_vc Tryz.func43 rfl rfl rfl ?_
  refine end1 exTwo.pv rfl ⟨_, rfl, _, _, rfl, rfl, _, _, rfl, ?_, rfl⟩ rfl
  refine ⟨_, rfl, by decide, ⟨_, _, rfl, ⟨_, _, rfl, rfl, _, _, rfl, .inr (.inl rfl), _, _, rfl, ?_, rfl⟩, _, _, rfl, ⟨_, _, rfl, rfl, _, _, rfl, ?_, _, _, rfl, ?_, rfl⟩, rfl⟩⟩
  · exact ⟨_, _, rfl, rfl, _, _, rfl, ⟨_, rfl, by decide, rfl⟩, rfl⟩
  · exact ⟨_, rfl, by decide, rfl⟩
  · exact ⟨_, _, rfl, rfl, _, _, rfl, ⟨_, rfl, by decide, rfl⟩, _, _, rfl, ⟨_, rfl, by decide, rfl⟩, rfl⟩
theorem one_c : Pure cx 45 [] (· = .ret [exOne.pv]) := by
  refine pure_of_vc Tryz.func45 rfl rfl rfl ?_
  refine two_c.eq rfl ?_
  refine ⟨by show (0 : Int) ≤ 1 ∧ (1 : Int) ≤ 2; decide, ?_⟩
  exact end1 exOne.pv rfl rfl rfl
theorem works_c : Pure cx 13 [] (· = .ret [.bool true]) := by
  have h1 := lines_c exTwo (valid_big valid_two)
  rw [linesP, if_pos valid_two, ex_lines] at h1
  have h2 := nestedE_c exTwo (valid_big valid_two)
  rw [nestedP, if_pos valid_two, ex_nested] at h2
  have h3 := turn_p exN (by decide)
  rw [ex_t1] at h3
  have h4 := turn_p [120] (by decide)
  rw [ex_t2] at h4
  refine pure_of_vc Tryz.func13 rfl rfl rfl ?_
  refine two_c.eq rfl ?_
  refine h1.eq rfl ?_
  refine two_c.eq rfl ?_
  refine h2.eq rfl ?_
  refine h3.eq rfl ?_
  refine h4.eq rfl ?_
  refine And.intro (fun _ => ?_) (fun h => absurd rfl h)
  refine And.intro (fun _ => ?_) (fun h => absurd rfl h)
  refine And.intro (fun _ => ?_) (fun h => absurd rfl h)
  refine And.intro (fun _ => ?_) (fun h => absurd rfl h)
  refine And.intro (fun _ => ?_) (fun h => absurd rfl h)
  refine And.intro (fun _ => ?_) (fun h => absurd rfl h)
  refine And.intro (fun _ => ?_) (fun h => absurd rfl h)
  refine one_c.eq rfl ?_
  refine (lined_yes _ exOne (by decide) ex_l1).eq rfl ?_
  refine (badLine_yes _ 2 5 (by decide) ex_l2).eq rfl ?_
  refine (badLine_yes _ 1 5 (by decide) ex_l3).eq rfl ?_
  refine (badLine_yes _ 0 5 (by decide) ex_l4).eq rfl ?_
  refine (badLine_yes _ 0 50 (by decide) ex_l5).eq rfl ?_
  refine one_c.eq rfl ?_
  refine (nested_yes _ exOne (by decide) ex_n1).eq rfl ?_
  refine (badNest_yes _ 19 5 (by decide) ex_n2).eq rfl ?_
  refine (badNest_yes _ 1 5 (by decide) ex_n3).eq rfl ?_
  refine (badNest_yes _ 6 5 (by decide) ex_n4).eq rfl ?_
  exact end1 _ rfl rfl rfl
end Go.Proofs.YtphmmoloegjocaaGreatDoor

/- The statements' own functions: Edit.Of. -/
namespace Go.Proofs.YtphmmoloegjocaaGreatDoor
open Go Y
set_option maxRecDepth 100000
set_option maxHeartbeats 40000000

structure Ed where
  place : UInt16
  cut : UInt16
  kind : UInt8
abbrev Ed.cells (E : Ed) : List PV := [.int .u16 (E.place.toNat : Nat), .int .u16 (E.cut.toNat : Nat), u8 E.kind]
abbrev Ed.pv (E : Ed) : PV := .agg E.cells
end Go.Proofs.YtphmmoloegjocaaGreatDoor

/- Reading lines: a form's text, also with other blanks (plain). -/
namespace Go.Proofs.YtphmmoloegjocaaGreatDoor
open Go Y
set_option maxRecDepth 100000
set_option maxHeartbeats 4000000

/-! ### Numbers -/
/-! ### Words -/
structure Gw (w : List UInt8) : Prop where
  ne : w ≠ []
  sp : 32 ∉ w
  nl : 10 ∉ w
/-! ### Lines that are not passed over -/
/-! ### Running over words -/
/-! ### The words of a network's lines -/
/-! ### What they are run to -/
/-- Numbers that have two digits at most; rows are not empty. -/
structure Tw (n : Nt) : Prop where
  g : 0 ≤ n.grain ∧ n.grain < 100
  card : ∀ x ∈ n.nodes, 0 ≤ x.card ∧ x.card < 100
  par : ∀ x ∈ n.nodes, two x.parents
  row : ∀ x ∈ n.nodes, ∀ r ∈ x.rows, two r ∧ r ≠ []
end Go.Proofs.YtphmmoloegjocaaGreatDoor

/- Reading nested texts: a form's text, also with other blanks; texts that are cut off (plain). -/
namespace Go.Proofs.YtphmmoloegjocaaGreatDoor
open Go Y
set_option maxRecDepth 100000
set_option maxHeartbeats 4000000

/-! ### The words that stand at a place -/
structure OkF (F : Nat) (x : Nd) : Prop where
  card : 0 ≤ x.card ∧ x.card < 100
  par : two x.parents
  row : ∀ r ∈ x.rows, two r ∧ r ≠ [] ∧ r.length < F
  pl : x.parents.length < F
  rl : x.rows.length < F
/-! ### The words are not empty, and count -/
/-! ### From texts to words -/
/-! ### Texts made of words and what stands between them -/
end Go.Proofs.YtphmmoloegjocaaGreatDoor

/- Forms of networks, read back (plain). -/
namespace Go.Proofs.YtphmmoloegjocaaGreatDoor
open Go Y
set_option maxRecDepth 100000
set_option maxHeartbeats 4000000

theorem DrB.sm {n : Nt} (h : DrB n) : SmT n := valid_sm h.valid
theorem DrB.rows {n : Nt} (h : DrB n) {x : Nd} (hx : x ∈ n.nodes) : x.rows.length ≤ 64 := by
  have hp3 := h.par x hx
  obtain ⟨v, hv, rfl⟩ := mem_getD nd0 hx
  have hp := h.valid.placed _ hx
  have h1 := (h.valid.node v hv).1
  have hok := atN_ok (l := cardsN n) (ps := (n.nodes.getD v nd0).parents) (fun c hc' => by obtain ⟨y, hy, rfl⟩ := List.mem_map.1 hc'; exact h.valid.cards y hy) (by rw [cardsN, List.length_map]; exact list_mem hp)
  have hal : (atN (cardsN n) (n.nodes.getD v nd0).parents).length = (n.nodes.getD v nd0).parents.length := List.length_map ..
  have h3 := prod_take hok _ (Nat.le_refl _)
  rw [take_all (Nat.le_refl _)] at h3
  have h4 : (4 : Int) ^ (atN (cardsN n) (n.nodes.getD v nd0).parents).length ≤ 64 := by
    have : ∀ i ≤ 3, (4 : Int) ^ i ≤ 64 := by decide
    exact this _ (by omega)
  have h5 : prodN (pcardsN n v) = prodN (atN (cardsN n) (n.nodes.getD v nd0).parents) := rfl
  omega
end Go.Proofs.YtphmmoloegjocaaGreatDoor

/- Arguments and listed variables, read as data. -/
namespace Go.Proofs.YtphmmoloegjocaaGreatDoor.Y
open Go

/-- The parts of a struct or an array, with their offsets. -/
def partsOf (P : Program) (t : TypeId) : Option (List (TypeId × Nat)) :=
  match P.underlying t with
  | some (.struct fs) => some (fs.toList.map fun f => (f.type, f.offset))
  | some (.array k e) => some ((List.range k).map fun i => (e, i * P.cellsOf e))
  | _ => none
def tiles (P : Program) : List (TypeId × Nat) → Nat → Option Nat
  | [], o => some o
  | f :: r, o => if f.2 = o then tiles P r (o + P.cellsOf f.1) else none
theorem tiles_le {P : Program} : ∀ {l : List (TypeId × Nat)} {o n : Nat}, tiles P l o = some n → o ≤ n
  | [], o, n, h => by simp only [tiles, Option.some.injEq] at h; omega
  | f :: r, o, n, h => by
    simp only [tiles] at h
    split at h
    · have := tiles_le h; omega
    · cases h

def basic : TypeDesc → Bool
  | .bool => true
  | .int _ => true
  | .string => true
  | _ => false

/-- Types of plain data: what the readings below cover. -/
def supp (P : Program) : Nat → TypeId → Bool
  | 0, _ => false
  | n + 1, t => match partsOf P t with
    | some l => decide (tiles P l 0 = some (P.cellsOf t)) && l.all fun f => supp P n f.1
    | none => match P.underlying t with
      | some (.slice e) => decide (0 < P.cellsOf e) && supp P n e
      | some d => basic d
      | none => false

def Flds (P : Program) (p : TypeId → List PV → Prop) : List (TypeId × Nat) → List PV → Prop
  | [], xs => xs = []
  | f :: r, xs => ∃ ys zs, xs = ys ++ zs ∧ ys.length = P.cellsOf f.1 ∧ p f.1 ys ∧ Flds P p r zs

/-- The cells of a value of a type. -/
def TyT (P : Program) : Nat → TypeId → List PV → Prop
  | 0, _, _ => False
  | m + 1, t, xs => match partsOf P t with
    | some l => Flds P (TyT P m) l xs
    | none => match P.underlying t with
      | some .bool => ∃ b, xs = [.bool b]
      | some (.int k) => ∃ n, xs = [.int k n] ∧ (Lit.int k n).wf = true
      | some .string => ∃ s, xs = [.str s] ∧ s.length ≤ maxLen
      | some (.slice e) => match Nat.beq (P.cellsOf e) 1 with
        | true => ∃ ys, xs = [.lst ys] ∧ ys.length ≤ maxLen ∧ ∀ y ∈ ys, TyT P m e [y]
        | false => ∃ yss, xs = [.lsts (P.cellsOf e) yss] ∧ yss.length ≤ maxLen ∧ ∀ ys ∈ yss, TyT P m e ys
      | _ => False

section
variable {H : Type} {enc : TypeId × Value → H} {P : Program} {W : World} {sp : Nat → Bool} {held : Bool}

/-- Cells of a block, one after the other. -/
theorem cells_take {a : Addr} {n : Nat} {cs : List Value} (hn : 0 < n) (h : W.cells? 0 a n = some cs) :
    ∃ c t z, W.heap[a.block]? = some (.cells c t z) ∧ a.spot = none ∧ cs.length = n ∧ a.off + n ≤ c.toList.length ∧ cs = (c.toList.drop a.off).take n := by
  unfold World.cells? at h
  rw [if_pos (Nat.zero_le _)] at h
  have hl := mapM_some_length h
  rw [List.length_range] at hl
  have hg : ∀ i, i < n → W.cell? (a.add i) = cs[i]? := fun i hi => mapM_some_get h i i (by simp [hi])
  have h0 := hg 0 hn
  have ha : a.add 0 = a := by simp [Addr.add]
  rw [ha, List.getElem?_eq_getElem (by omega)] at h0
  unfold World.cell? at h0
  split at h0
  · rename_i c t z hb
    have hs : a.spot = none := by
      cases hs : a.spot with
      | none => rfl
      | some _ => simp [hs] at h0
    have hcell : ∀ i, i < n → c[a.off + i]? = cs[i]? := by
      intro i hi
      have := hg i hi
      unfold World.cell? at this
      have hblk : (a.add i).block = a.block := by unfold Addr.add; split <;> rfl
      have hsp : (a.add i).spot = none := by unfold Addr.add; split <;> first | exact hs | rfl
      have hoff : (a.add i).off = a.off + i := by unfold Addr.add; split <;> simp_all
      rw [hblk, hb] at this
      simp only [hsp, hoff] at this
      simpa using this
    have hlen : a.off + n ≤ c.toList.length := by
      have := hcell (n - 1) (by omega)
      rw [List.getElem?_eq_getElem (by omega)] at this
      have := (Array.getElem?_eq_some_iff.1 this).1
      simp
      omega
    refine ⟨c, t, z, hb, hs, hl, hlen, ?_⟩
    refine List.ext_getElem? fun i => ?_
    by_cases hi : i < n
    · rw [← hcell i hi, List.getElem?_take_of_lt hi, List.getElem?_drop]
      simp
    · rw [List.getElem?_eq_none (by omega), List.getElem?_eq_none (by simp; omega)]
  · cases h0

def AllCells (fz : Fzn) (W : World) : Prop := ∀ b c t z, W.heap[b]? = some (.cells c t z) → fz b = some c.toList

/-- What a reading says of the cells. -/
def Rd (P : Program) (fz : Fzn) (m : Nat) (t : TypeId) (cs : List Value) : Prop := ∃ xs, VPL fz xs cs ∧ (∀ u ∈ cs, plainV u = true) ∧ TyT P m t xs

theorem flds_of {fz : Fzn} {m : Nat} {cs : List Value} : ∀ (l : List (TypeId × Nat)) (o : Nat), tiles P l o = some cs.length → (∀ f ∈ l, Rd P fz m f.1 ((cs.drop f.2).take (P.cellsOf f.1))) →
    ∃ xs, VPL fz xs (cs.drop o) ∧ (∀ u ∈ cs.drop o, plainV u = true) ∧ Flds P (TyT P m) l xs
  | [], o, ht, _ => by
    simp only [tiles, Option.some.injEq] at ht
    subst ht
    exact ⟨[], by simp [VPL], by simp, rfl⟩
  | f :: r, o, ht, hr => by
    simp only [tiles] at ht
    split at ht
    · rename_i ho
      have hle := tiles_le ht
      obtain ⟨ys, h1, h2, h3⟩ := hr f (by simp)
      obtain ⟨zs, k1, k2, k3⟩ := flds_of r (o + P.cellsOf f.1) ht fun g hg => hr g (by simp [hg])
      rw [ho] at h1 h2
      have e : cs.drop o = (cs.drop o).take (P.cellsOf f.1) ++ cs.drop (o + P.cellsOf f.1) := by
        rw [← List.drop_drop, List.take_append_drop]
      refine ⟨ys ++ zs, ?_, ?_, ys, zs, rfl, ?_, h3, k3⟩
      · rw [e]; exact VPL_append h1 k1
      · rw [e]; intro u hu; rcases List.mem_append.1 hu with hu | hu
        · exact h2 u hu
        · exact k2 u hu
      · rw [← VPL_length h1, List.length_take, List.length_drop]; omega
    · cases ht

theorem parts_trod {t : TypeId} {l : List (TypeId × Nat)} (hp : partsOf P t = some l) {n : Nat} {cs : List Value} {x : DataW H × List MemPlace} (h : DataW.trod enc P W 0 sp held n t cs = some x) :
    ∃ (xs : List (DataW H × List MemPlace)) (k : Nat), n = k + 1 ∧ x = (.agg (xs.map (·.1)), xs.flatMap (·.2)) ∧ cs.length = P.cellsOf t ∧ xs.length = l.length ∧
      ∀ (i : Nat) (f : TypeId × Nat), l[i]? = some f → DataW.trod enc P W 0 sp held k f.1 ((cs.drop f.2).take (P.cellsOf f.1)) = xs[i]? := by
  unfold partsOf at hp
  split at hp
  · rename_i fs hu
    injection hp with hp
    subst hp
    obtain ⟨xs, k, h1, h2, h3, h4, h5⟩ := DataW.trod_struct hu h
    refine ⟨xs, k, h1, h2, h3, by simpa using h4, fun i f hf => ?_⟩
    rw [List.getElem?_map, Option.map_eq_some_iff] at hf
    obtain ⟨g, hg, rfl⟩ := hf
    exact h5 i g (by simpa using hg)
  · rename_i k' e hu
    injection hp with hp
    subst hp
    obtain ⟨xs, k, h1, h2, h3, h4, h5⟩ := DataW.trod_array hu h
    refine ⟨xs, k, h1, h2, h3, by simpa using h4, fun i f hf => ?_⟩
    rw [List.getElem?_map, Option.map_eq_some_iff] at hf
    obtain ⟨j, hj, rfl⟩ := hf
    have hi := (List.getElem?_eq_some_iff.1 hj)
    obtain ⟨hi, hj⟩ := hi
    simp at hi hj
    subst hj
    exact h5 i hi
  · cases hp

theorem flat_singles {l : List (List PV)} (h : ∀ cs ∈ l, cs.length = 1) : l.flatten.length = l.length ∧ ∀ y ∈ l.flatten, [y] ∈ l := by
  induction l with
  | nil => simp
  | cons x r ih =>
    have hx := h x (by simp)
    obtain ⟨y, rfl⟩ : ∃ y, x = [y] := by
      match x, hx with
      | [y], _ => exact ⟨y, rfl⟩
    obtain ⟨h1, h2⟩ := ih fun c hc => h c (by simp [hc])
    refine ⟨by simp [h1], fun z hz => ?_⟩
    simp at hz
    rcases hz with rfl | hz
    · simp
    · have := h2 z (by simpa using hz)
      simp [this]

/-- A READING OF PLAIN DATA is a value of its type. -/
theorem typed_of_trod {fz : Fzn} (hfz : AllCells fz W) : ∀ (m : Nat) (t : TypeId) (n : Nat) (cs : List Value) (x : DataW H × List MemPlace), supp P m t = true → DataW.trod enc P W 0 sp held n t cs = some x → Rd P fz m t cs
  | 0, _, _, _, _, hs, _ => by simp [supp] at hs
  | m + 1, t, n, cs, x, hs, h => by
    have ih := typed_of_trod hfz m
    simp only [supp] at hs
    cases hp : partsOf P t with
    | some l =>
      simp only [hp, Bool.and_eq_true, decide_eq_true_eq, List.all_eq_true] at hs
      obtain ⟨xs, k, h1, h2, h3, h4, h5⟩ := parts_trod hp h
      obtain ⟨ys, g1, g2, g3⟩ := flds_of (fz := fz) (m := m) (cs := cs) l 0 (by rw [h3]; exact hs.1) fun f hf => by
        obtain ⟨i, hi, rfl⟩ := List.getElem_of_mem hf
        have := h5 i _ (List.getElem?_eq_getElem hi)
        rw [List.getElem?_eq_getElem (by omega)] at this
        exact ih _ _ _ _ (hs.2 _ hf) this
      exact ⟨ys, by simpa using g1, by simpa using g2, by simp only [TyT, hp]; exact g3⟩
    | none =>
      simp only [hp] at hs
      cases hu : P.underlying t with
      | none => simp [hu] at hs
      | some d =>
        simp only [hu] at hs
        cases d with
        | bool =>
          obtain ⟨b, rfl, _⟩ := DataW.trod_bool hu h
          exact ⟨[.bool b], by simp [VPL, VP], by simp [plainV], by simp [TyT, hp, hu]⟩
        | int k =>
          obtain ⟨b, rfl, _, hw⟩ := DataW.trod_int hu h
          exact ⟨[.int k b], by simp [VPL, VP], by simp [plainV], by simp [TyT, hp, hu, hw]⟩
        | string =>
          obtain ⟨⟨⟨s⟩⟩, rfl, _, hw⟩ := DataW.trod_string hu h
          exact ⟨[.str s], by simp [VPL, VP], by simp [plainV], by simp only [TyT, hp, hu]; exact ⟨s, rfl, hw⟩⟩
        | slice e =>
          simp only [Bool.and_eq_true, decide_eq_true_eq] at hs
          obtain ⟨hs0, hse⟩ := hs
          have fin : ∀ (v : Value) (len : Nat) (yss : List (List PV)), len ≤ maxLen → yss.length = len → (∀ ys ∈ yss, ys.length = P.cellsOf e ∧ TyT P m e ys) → plainV v = true →
              (yss = [] → ∃ a c, v = .slice a 0 c) → (yss ≠ [] → ∃ b o c arr us, v = .slice (some ⟨b, o, none⟩) len c ∧ len ≤ c ∧ fz b = some arr ∧ VPLL fz (P.cellsOf e) yss us ∧ Seg arr o us) → Rd P fz (m + 1) t [v] := by
            intro v len yss hml hlen hty hpl hnil hcons
            by_cases h1 : P.cellsOf e = 1
            · have hfl := flat_singles (l := yss) fun c hc => by rw [(hty c hc).1, h1]
              refine ⟨[.lst yss.flatten], ?_, by simpa using hpl, ?_⟩
              · simp only [VPL]
                refine ⟨v, [], rfl, ?_, rfl⟩
                simp only [VP]
                by_cases hy : yss = []
                · exact .inl ⟨by simp [hy], hnil hy⟩
                · obtain ⟨b, o, c, arr, us, k1, k2, k3, k4, k5⟩ := hcons hy
                  exact .inr ⟨b, o, c, arr, us, by rw [hfl.1, hlen]; exact k1, by rw [hfl.1, hlen]; exact k2, k3, (VPLL_flat.1 k4).1, k5⟩
              · simp only [TyT, hp, hu, h1]
                exact ⟨_, rfl, by rw [hfl.1, hlen]; exact hml, fun y hy => (hty _ (hfl.2 y hy)).2⟩
            · refine ⟨[.lsts (P.cellsOf e) yss], ?_, by simpa using hpl, ?_⟩
              · simp only [VPL]
                refine ⟨v, [], rfl, ?_, rfl⟩
                simp only [VP]
                by_cases hy : yss = []
                · exact .inl ⟨hy, hnil hy⟩
                · obtain ⟨b, o, c, arr, us, k1, k2, k3, k4, k5⟩ := hcons hy
                  exact .inr ⟨b, o, c, arr, us, by rw [hlen]; exact k1, by rw [hlen]; exact k2, k3, k4, k5⟩
              · have hb : Nat.beq (P.cellsOf e) 1 = false := beq_ne h1
                simp only [TyT, hp, hu, hb]
                exact ⟨_, rfl, by rw [hlen]; exact hml, fun y hy => (hty _ hy).2⟩
          rcases DataW.trod_slice hu h with ⟨rfl, _⟩ | ⟨a, len, cap, elems, rest, n', rfl, rfl, _, _, hlc, hcm, hel, hE, _, _⟩
          · exact fin _ 0 [] (by simp [maxLen]) rfl (by simp) rfl (fun _ => ⟨none, 0, rfl⟩) (by simp)
          · have hcs : ∀ i, i < len → ∃ cs', W.cells? 0 (a.add (i * P.cellsOf e)) (P.cellsOf e) = some cs' ∧ Rd P fz m e cs' := by
              intro i hi
              have := hE i hi
              rw [List.getElem?_eq_getElem (by omega), Option.bind_eq_some_iff] at this
              obtain ⟨cs', h1, h2⟩ := this
              exact ⟨cs', h1, ih _ _ _ _ hse h2⟩
            by_cases hl0 : len = 0
            · subst hl0
              exact fin _ 0 [] (by simp [maxLen]) rfl (by simp) rfl (fun _ => ⟨_, _, rfl⟩) (by simp)
            · obtain ⟨cs0, c1, _⟩ := hcs 0 (by omega)
              have ha : a.add (0 * P.cellsOf e) = a := by simp [Addr.add]
              rw [ha] at c1
              obtain ⟨c, tt, z, hb, hsp, _, _, _⟩ := cells_take hs0 c1
              have key : ∀ k, k ≤ len → ∃ yss us, yss.length = k ∧ VPLL fz (P.cellsOf e) yss us ∧ (∀ u ∈ us, plainV u = true) ∧ (∀ ys ∈ yss, ys.length = P.cellsOf e ∧ TyT P m e ys) ∧ (k ≠ 0 → a.off + k * P.cellsOf e ≤ c.toList.length) ∧ us = (c.toList.drop a.off).take (k * P.cellsOf e) := by
                intro k
                induction k with
                | zero => intro _; exact ⟨[], [], rfl, by simp [VPLL], by simp, by simp, by simp, by simp⟩
                | succ k ihk =>
                  intro hk
                  obtain ⟨yss, us, k1, k2, k3, k4, k5, k6⟩ := ihk (by omega)
                  obtain ⟨cs', d1, ys, d2, d3, d4⟩ := hcs k (by omega)
                  obtain ⟨c', tt', z', e1, e2, e3, e4, e5⟩ := cells_take hs0 d1
                  have hblk : (a.add (k * P.cellsOf e)).block = a.block := by unfold Addr.add; split <;> rfl
                  have hoff : (a.add (k * P.cellsOf e)).off = a.off + k * P.cellsOf e := by unfold Addr.add; split <;> simp_all
                  rw [hblk, hb] at e1
                  simp only [Option.some.injEq, Obj.cells.injEq] at e1
                  obtain ⟨rfl, _, _⟩ := e1
                  rw [hoff] at e4 e5
                  have hys : ys.length = P.cellsOf e := by rw [← VPL_length d2, e3]
                  have hf := VPLL_flat.1 k2
                  refine ⟨yss ++ [ys], us ++ cs', by simp [k1], VPLL_flat.2 ⟨?_, ?_⟩, ?_, ?_, fun _ => by rw [Nat.succ_mul]; omega, ?_⟩
                  · simpa using VPL_append hf.1 d2
                  · intro q hq; rcases List.mem_append.1 hq with hq | hq
                    · exact hf.2 q hq
                    · simp at hq; subst hq; exact hys
                  · intro u hu; rcases List.mem_append.1 hu with hu | hu
                    · exact k3 u hu
                    · exact d3 u hu
                  · intro q hq; rcases List.mem_append.1 hq with hq | hq
                    · exact k4 q hq
                    · simp at hq; subst hq; exact ⟨hys, d4⟩
                  · rw [k6, e5, Nat.succ_mul, List.take_add, List.drop_drop]
              obtain ⟨yss, us, k1, k2, k3, k4, k5, k6⟩ := key len (Nat.le_refl _)
              have k5 := k5 hl0
              have hne : yss ≠ [] := by intro e; subst e; simp at k1; omega
              refine fin _ len yss (by omega) k1 k4 rfl (fun e => absurd e hne) fun _ => ⟨a.block, a.off, cap, c.toList, us, ?_, hlc, hfz _ _ _ _ hb, k2, ?_⟩
              · obtain ⟨ab, ao, asp⟩ := a; simp only [] at hsp; subst hsp; rfl
              · refine ⟨c.toList.take a.off, c.toList.drop (a.off + len * P.cellsOf e), ?_, ?_, k3⟩
                · rw [k6, List.append_assoc, ← List.drop_drop, List.take_append_drop, List.take_append_drop]
                · rw [List.length_take]; omega
        | _ => simp [basic] at hs

/-! ### Listed variables -/
mutual
def flatD : DataW H → Option (List PV)
  | .lit (.bool b) => some [.bool b]
  | .lit (.int k n) => some [.int k n]
  | .lit (.string s) => some [.str s]
  | .agg ps => flatDL ps
  | _ => none
def flatDL : List (DataW H) → Option (List PV)
  | [] => some []
  | d :: r => match flatD d, flatDL r with
    | some xs, some ys => some (xs ++ ys)
    | _, _ => none
end

end
end Go.Proofs.YtphmmoloegjocaaGreatDoor.Y

/- From contracts on data to the statements of rows. -/
namespace Go.Proofs.YtphmmoloegjocaaGreatDoor.Y
open Go

theorem mapM_mono {α β : Type} {f g : α → Option β} : ∀ {l : List α} {r : List β}, (∀ x ∈ l, ∀ y, f x = some y → g x = some y) → l.mapM f = some r → l.mapM g = some r
  | [], r, _, h => by simpa using h
  | x :: l, r, hfg, h => by
    simp only [List.mapM_cons, Option.bind_eq_bind, Option.bind_eq_some_iff, Option.pure_def, Option.some.injEq] at h ⊢
    obtain ⟨y, h1, ys, h2, h3⟩ := h
    exact ⟨y, hfg x (by simp) y h1, ys, mapM_mono (fun z hz => hfg z (by simp [hz])) h2, h3⟩

/-- All that was there is there as it was. -/
def Kept (W W' : World) : Prop := ∀ (b : Nat) (o : Obj), W.heap[b]? = some o → W'.heap[b]? = some o

section
variable {H : Type} {enc : TypeId × Value → H} {P : Program} {W W' : World} {sp' : Nat → Bool} {held : Bool}

theorem Kept.cell (hk : Kept W W') {a : Addr} {v : Value} (h : W.cell? a = some v) : W'.cell? a = some v := by
  unfold World.cell? at h ⊢
  split at h
  · rename_i c t z hb
    rw [hk _ _ hb]
    exact h
  · cases h
theorem Kept.cells (hk : Kept W W') {a : Addr} {n : Nat} {cs : List Value} (h : W.cells? 0 a n = some cs) : W'.cells? 0 a n = some cs := by
  unfold World.cells? at h ⊢
  rw [if_pos (Nat.zero_le _)] at h ⊢
  exact mapM_mono (fun _ _ _ hx => hk.cell hx) h

theorem trod_kept (hk : Kept W W') (hsp : ∀ b, b < W.heap.size → sp' b = true) : ∀ (m : Nat) (t : TypeId) (n : Nat) (cs : List Value) (x : DataW H × List MemPlace), supp P m t = true → DataW.trod enc P W 0 (fun _ => true) held n t cs = some x → DataW.trod enc P W' 0 sp' held n t cs = some x
  | 0, _, _, _, _, hs, _ => by simp [supp] at hs
  | m + 1, t, 0, cs, x, hs, h => by simp [DataW.trod] at h
  | m + 1, t, n + 1, cs, x, hs, h => by
    have ih := trod_kept hk hsp m
    simp only [supp] at hs
    cases hu : P.underlying t with
    | none =>
      have hp : partsOf P t = none := by simp [partsOf, hu]
      simp [hp, hu] at hs
    | some d =>
      cases d with
      | struct fs =>
        have hp : partsOf P t = some (fs.toList.map fun f => (f.type, f.offset)) := by simp [partsOf, hu]
        simp only [hp, Bool.and_eq_true, List.all_eq_true] at hs
        unfold DataW.trod at h ⊢
        rw [hu] at h ⊢
        simp only [] at h ⊢
        split at h
        · rename_i hl
          rw [if_pos hl]
          rw [Option.map_eq_some_iff] at h ⊢
          obtain ⟨xs, h1, h2⟩ := h
          exact ⟨xs, mapM_mono (fun f hf y hy => ih _ _ _ _ (hs.2 (f.type, f.offset) (List.mem_map_of_mem hf)) hy) h1, h2⟩
        · cases h
      | array k e =>
        have hp : partsOf P t = some ((List.range k).map fun i => (e, i * P.cellsOf e)) := by simp [partsOf, hu]
        simp only [hp, Bool.and_eq_true, List.all_eq_true] at hs
        unfold DataW.trod at h ⊢
        rw [hu] at h ⊢
        simp only [] at h ⊢
        split at h
        · rename_i hl
          rw [if_pos hl]
          rw [Option.map_eq_some_iff] at h ⊢
          obtain ⟨xs, h1, h2⟩ := h
          exact ⟨xs, mapM_mono (fun i hi y hy => ih _ _ _ _ (hs.2 (e, i * P.cellsOf e) (List.mem_map_of_mem hi)) hy) h1, h2⟩
        · cases h
      | bool =>
        obtain ⟨b, rfl, rfl⟩ := DataW.trod_bool hu h
        unfold DataW.trod; rw [hu]
      | int k =>
        obtain ⟨b, rfl, rfl, hw⟩ := DataW.trod_int hu h
        unfold DataW.trod; rw [hu]; simp [hw]
      | string =>
        obtain ⟨s, rfl, rfl, hw⟩ := DataW.trod_string hu h
        unfold DataW.trod; rw [hu]; simp [hw]
      | slice e =>
        have hp : partsOf P t = none := by simp [partsOf, hu]
        simp only [hp, hu, Bool.and_eq_true, decide_eq_true_eq] at hs
        rcases DataW.trod_slice hu h with ⟨rfl, rfl⟩ | ⟨a, len, cap, _, _, _, _, rfl, _⟩
        · unfold DataW.trod; rw [hu]; rfl
        unfold DataW.trod at h ⊢
        rw [hu] at h ⊢
        simp only [if_true] at h ⊢
        split at h
        rotate_left
        · cases h
        rename_i hc
        rw [if_pos hc]
        rw [Option.bind_eq_some_iff] at h ⊢
        obtain ⟨elems, h1, h2⟩ := h
        rw [Option.map_eq_some_iff] at h2
        obtain ⟨rest, h2, h3⟩ := h2
        have el : ∀ i y, (W.cells? 0 (a.add (i * P.cellsOf e)) (P.cellsOf e)).bind (DataW.trod enc P W 0 (fun _ => true) held n e) = some y → (W'.cells? 0 (a.add (i * P.cellsOf e)) (P.cellsOf e)).bind (DataW.trod enc P W' 0 sp' held n e) = some y := by
          intro i y hy
          rw [Option.bind_eq_some_iff] at hy ⊢
          obtain ⟨cs', g1, g2⟩ := hy
          exact ⟨cs', hk.cells g1, ih _ _ _ _ hs.2 g2⟩
        refine ⟨elems, mapM_mono (fun i _ y hy => el i y hy) h1, ?_⟩
        rw [Option.map_eq_some_iff]
        refine ⟨rest, ?_, h3⟩
        by_cases hd : cap - len = 0
        · rw [hd] at h2 ⊢
          simp at h2
          subst h2
          cases sp' a.block <;> simp
        · have hb : a.block < W.heap.size := by
            have hl := mapM_some_length h2
            rw [List.length_range] at hl
            have := mapM_some_get h2 0 0 (by rw [List.getElem?_eq_getElem (by simp; omega)]; simp)
            rw [List.getElem?_eq_getElem (by omega), Option.bind_eq_some_iff] at this
            obtain ⟨cs', g1, _⟩ := this
            obtain ⟨c, t', z, g3, _⟩ := cells_take hs.1 g1
            have hblk : (a.add ((len + 0) * P.cellsOf e)).block = a.block := by unfold Addr.add; split <;> rfl
            rw [hblk] at g3
            exact (Array.getElem?_eq_some_iff.1 g3).1
          rw [if_pos (hsp _ hb)]
          exact mapM_mono (fun i _ y hy => el (len + i) y hy) h2
      | _ =>
        have hp : partsOf P t = none := by simp [partsOf, hu]
        simp [hp, hu, basic] at hs

theorem trodAll_kept (hk : Kept W W') (hsp : ∀ b, b < W.heap.size → sp' b = true) (m : Nat) : ∀ {ts : List TypeId} {vs : List Value} {ds : List (DataW H)} {ps : List MemPlace}, ts.all (supp P m) = true → DataW.TrodAll enc P W 0 (fun _ => true) held ts vs ds ps → DataW.TrodAll enc P W' 0 sp' held ts vs ds ps
  | [], [], [], ps, _, h => h
  | t :: ts, v :: vs, d :: ds, ps, hs, h => by
    simp only [List.all_cons, Bool.and_eq_true] at hs
    obtain ⟨p, q, ⟨fuel, h1⟩, h2, h3⟩ := h
    exact ⟨p, q, ⟨fuel, trod_kept hk hsp m _ _ _ _ hs.1 h1⟩, trodAll_kept hk hsp m hs.2 h2, h3⟩
  | [], [], _ :: _, ps, _, h => by simp [DataW.TrodAll] at h
  | [], _ :: _, _, ps, _, h => by simp [DataW.TrodAll] at h
  | _ :: _, [], _, ps, _, h => by simp [DataW.TrodAll] at h
  | _ :: _, _ :: _, [], ps, _, h => by simp [DataW.TrodAll] at h

/-- An argument of a type. -/
def ArgT (P : Program) (m : Nat) (t : TypeId) (x : PV) : Prop := match partsOf P t with
  | some _ => ∃ xs, x = .agg xs ∧ TyT P m t xs
  | none => TyT P m t [x]
def ArgsT (P : Program) (m : Nat) : List TypeId → List PV → Prop
  | [], xs => xs = []
  | t :: ts, xs => ∃ x r, xs = x :: r ∧ ArgT P m t x ∧ ArgsT P m ts r

def fzOf (W : World) : Fzn := fun b => match W.heap[b]? with
  | some (.cells c _ _) => some c.toList
  | _ => none
theorem fzOf_all (W : World) : AllCells (fzOf W) W := fun b c t z h => by simp [fzOf, h]
theorem fzOf_some {b : Nat} {arr : List Value} (h : fzOf W b = some arr) : ∃ c t z, W.heap[b]? = some (.cells c t z) ∧ arr = c.toList := by
  unfold fzOf at h
  split at h
  · rename_i c t z hb
    injection h with h
    exact ⟨c, t, z, hb, h.symm⟩
  · cases h

theorem arg_of {m : Nat} {base : Nat} {t : TypeId} {v : Value} {d : DataW H} {ps : List MemPlace} (hs : supp P m t = true) (hval : Value.okWide P W .any base t v) (h : DataW.Trod enc P W 0 (fun _ => true) true t v d ps) : ∃ x, VP (fzOf W) x v ∧ ArgT P m t x := by
  obtain ⟨fuel, h⟩ := h
  obtain ⟨xs, h1, h2, h3⟩ := typed_of_trod (fzOf_all W) m t fuel _ _ hs h
  unfold Value.okWide at hval
  cases hp : partsOf P t with
  | some l =>
    have : ∃ cs, v = .agg cs := by
      unfold partsOf at hp
      split at hp
      · rename_i fs hu; simp only [hu] at hval; obtain ⟨cs, h, _⟩ := hval; exact ⟨cs, h⟩
      · rename_i k e hu; simp only [hu] at hval; obtain ⟨cs, h, _⟩ := hval; exact ⟨cs, h⟩
      · cases hp
    obtain ⟨cs, rfl⟩ := this
    exact ⟨.agg xs, by simp only [VP]; exact ⟨cs, rfl, h1⟩, by simp only [ArgT, hp]; exact ⟨xs, rfl, h3⟩⟩
  | none =>
    have hv : v.cells = #[v] := by
      cases m with
      | zero => simp [supp] at hs
      | succ m =>
        simp only [supp, hp] at hs
        cases hu : P.underlying t with
        | none => simp [hu] at hs
        | some d =>
          simp only [hu] at hs hval
          cases d with
          | struct fs => simp [partsOf, hu] at hp
          | array k e => simp [partsOf, hu] at hp
          | bool => cases v <;> simp_all [Cell.okWide, Cell.ok, Value.cells]
          | int k => cases v <;> simp_all [Cell.okWide, Cell.ok, Value.cells]
          | string => cases v <;> simp_all [Cell.okWide, Cell.ok, Value.cells]
          | slice e => cases v <;> simp_all [Cell.okWide, Cell.ok, Value.cells]
          | _ => simp [basic] at hs
    rw [hv] at h1
    obtain ⟨x, rfl, h4⟩ : ∃ x, xs = [x] ∧ VP (fzOf W) x v := by
      match xs, h1 with
      | [], h1 => simp [VPL] at h1
      | x :: r, h1 =>
        simp only [VPL] at h1
        obtain ⟨u, us, e, g1, g2⟩ := h1
        simp only [List.cons.injEq] at e
        obtain ⟨rfl, rfl⟩ := e
        match r, g2 with
        | [], _ => exact ⟨x, rfl, g1⟩
        | y :: r, g2 => simp [VPL] at g2
    exact ⟨x, h4, by simp only [ArgT, hp]; exact h3⟩

theorem args_of {m base : Nat} : ∀ {ts : List TypeId} {vs : List Value} {ds : List (DataW H)} {ps : List MemPlace}, ts.all (supp P m) = true → (∀ (j : Nat) t v, ts[j]? = some t → vs[j]? = some v → Value.okWide P W .any base t v) → DataW.TrodAll enc P W 0 (fun _ => true) true ts vs ds ps →
    ∃ xs, VPL (fzOf W) xs vs ∧ ArgsT P m ts xs ∧ ds.length = ts.length
  | [], [], [], ps, _, _, _ => ⟨[], by simp [VPL], rfl, rfl⟩
  | t :: ts, v :: vs, d :: ds, ps, hs, hv, h => by
    simp only [List.all_cons, Bool.and_eq_true] at hs
    obtain ⟨p, q, h1, h2, h3⟩ := h
    obtain ⟨x, g1, g2⟩ := arg_of hs.1 (hv 0 t v rfl rfl) h1
    obtain ⟨xs, k1, k2, k3⟩ := args_of hs.2 (fun j t v ht hv' => hv (j + 1) t v ht hv') h2
    exact ⟨x :: xs, by simp only [VPL]; exact ⟨v, vs, rfl, g1, k1⟩, ⟨x, xs, rfl, g2, k2⟩, by simp [k3]⟩
  | [], [], _ :: _, ps, _, _, h => by simp [DataW.TrodAll] at h
  | [], _ :: _, _, ps, _, _, h => by simp [DataW.TrodAll] at h
  | _ :: _, [], _, ps, _, _, h => by simp [DataW.TrodAll] at h
  | _ :: _, _ :: _, [], ps, _, _, h => by simp [DataW.TrodAll] at h
end

section
variable {cx : Cx}

/-- A law on data, called in a world. -/
theorem calls_of_pure {H : Type} {enc : TypeId × Value → H} {W : World} {f : FuncId} {fn : Func} {c : Code} {m base : Nat} {args : Array Value} {ds : List (DataW H)} {ps : List MemPlace}
    (hf : cx.P.funcs[f]? = some fn) (hname : (fn.name == "runtime.NumGoroutine") = false) (hb : fn.body = some c) (hs : fn.params.toList.all (supp cx.P m) = true)
    (hpure : ∀ xs, ArgsT cx.P m fn.params.toList xs → Pure cx f xs (· = .ret [.bool true]))
    (hval : ∀ (j : Nat) t v, fn.params[j]? = some t → args[j]? = some v → Value.okWide cx.P W .any base t v)
    (hA : DataW.TrodAll enc cx.P W 0 (fun _ => true) true fn.params.toList args.toList ds ps)
    (hglob : ∀ g cs, gget cx.gt g = some cs → VP (fzOf W) (.fp cs) (.pointer (some ⟨g, 0, none⟩))) :
    Calls cx.P f args W fun e W' => e = .returned (.bool true) ∧ W'.os = W.os ∧ W'.output = W.output ∧ ∀ k, k < W.heap.size → W'.heap[k]? = W.heap[k]? := by
  obtain ⟨xs, h1, h2, _⟩ := args_of hs (fun j t v ht hv => hval j t v (by simpa using ht) (by simpa using hv)) hA
  have hR : R cx ⟨fun _ => none, fzOf W⟩ ⟨0, []⟩ W := by
    refine ⟨hglob, fun _ _ => rfl, fun b arr hb => ?_, fun n o hn => by simp [lget] at hn, fun n o q hn => by simp [lget] at hn, fun n o m p q q' hn => by simp [lget] at hn⟩
    obtain ⟨c, t, z, g1, rfl⟩ := fzOf_some hb
    exact ⟨t, z, g1⟩
  have key : ∀ e w', Post cx ⟨fun _ => none, fzOf W⟩ ⟨0, []⟩ W (EndP (· = .ret [.bool true])) e w' → e = .returned (.bool true) ∧ w'.os = W.os ∧ w'.output = W.output ∧ ∀ k, k < W.heap.size → w'.heap[k]? = W.heap[k]? := by
    intro e w' hP
    obtain ⟨r, Γ', hq, _, hE, _, hT, _⟩ := pure_post hR hP
    subst hq
    obtain ⟨v', rfl, hv⟩ := hE
    simp only [VR, VP] at hv
    subst hv
    exact ⟨rfl, hT.os, hT.output, fun k hk => hT.kept k hk own_nil⟩
  have hrun := run_enter hf hname hb args W
  rcases hpure xs h2 ⟨fun _ => none, fzOf W⟩ W args.toList hR (VRL_p.2 h1) with ⟨_, h4⟩ | ⟨v', w', h4, _⟩
  · exact h4.mono key
  · rw [hrun] at h4
    injection h4 with h4
    cases h4

/-- What a law's row asks behind the call. -/
theorem post_of_kept {H : Type} {enc : TypeId × Value → H} {W W' : World} {fn : Func} {s : ChangeSpec} {m : Nat} {bt : TypeId} {apart fresh handsOn : Bool} {args : Array Value} {ds gs : List (DataW H)} {before : List MemPlace}
    (hs : fn.params.toList.all (supp cx.P m) = true) (hvars : s.vars = []) (hres : fn.resultTypes = #[bt]) (hbt : cx.P.underlying bt = some .bool)
    (hfn : ∀ ds : List (DataW H), ds.length = fn.params.toList.length → s.fn H ds = { results := [.lit (.bool true)], args := ds })
    (hW : DataW.Whole enc cx.P fn.params.toList s.vars apart W args.toList ds gs before) (hlen : ds.length = fn.params.toList.length)
    (hos : W'.os = W.os) (hout : W'.output = W.output) (hkept : ∀ k, k < W.heap.size → W'.heap[k]? = W.heap[k]?) :
    s.post enc cx.P fn apart fresh handsOn false W args (.bool true) W' := by
  have hk : Kept W W' := fun b o hb => by rw [hkept b (Array.getElem?_eq_some_iff.1 hb).1]; exact hb
  have hW' := hW
  obtain ⟨p, q, h1, h2, _, _, _⟩ := hW'
  rw [hvars] at h2
  obtain ⟨rfl, rfl⟩ := Go.ChangeShapes.trodVars_none h2
  have e : s.fn H (ds ++ []) = { results := [.lit (.bool true)], args := ds } := by rw [List.append_nil]; exact hfn ds hlen
  refine ⟨ds, [], before, [], p, [], hW, ?_, ?_, ?_, ?_, fun h => by cases h⟩
  · rw [e, hres]
    exact Go.ChangeShapes.trodAll_mk1 (Go.RowKit.shut_bool hbt true)
  · rw [e]
    exact trodAll_kept hk (fun b hb => by simpa using hb) m hs h1
  · rw [e, hvars]
    rfl
  · refine ⟨hos, hout, fun i hi => ?_⟩
    rw [hkept i hi]
    have := Array.getElem?_eq_getElem hi
    rw [this]
    cases W.heap[i] <;> simp
end
end Go.Proofs.YtphmmoloegjocaaGreatDoor.Y

/- Arguments of the statements: drafts. -/
namespace Go.Proofs.YtphmmoloegjocaaGreatDoor
open Go Y
set_option maxRecDepth 100000
set_option maxHeartbeats 4000000

theorem ty_u8 {m : Nat} {xs : List PV} (h : TyT Tryz.prog (m + 1) 5 xs) : ∃ b : UInt8, xs = [u8 b] := by
  have hp : partsOf Tryz.prog 5 = none := by simp [partsOf, Tryz.underlying5]
  simp only [TyT, hp, Tryz.underlying5] at h
  obtain ⟨n, rfl, hw⟩ := h
  have := bounds_u8 hw
  refine ⟨UInt8.ofNat n.toNat, ?_⟩
  have e : ((UInt8.ofNat n.toNat).toNat : Int) = n := by
    simp
    omega
  rw [u8, e]
theorem lift_list {α : Type} {f : α → PV} {P : α → Prop} {ys : List PV} (h : ∀ y ∈ ys, ∃ a, y = f a ∧ P a) : ∃ zs : List α, ys = zs.map f ∧ ∀ z ∈ zs, P z := by
  induction ys with
  | nil => exact ⟨[], rfl, by simp⟩
  | cons y r ih =>
    obtain ⟨a, rfl, ha⟩ := h y (by simp)
    obtain ⟨zs, rfl, hz⟩ := ih fun z hz => h z (by simp [hz])
    exact ⟨a :: zs, rfl, fun z hm => by rcases List.mem_cons.1 hm with rfl | hm; exact ha; exact hz z hm⟩
theorem ty_bytes {m : Nat} {xs : List PV} (h : TyT Tryz.prog (m + 2) 26 xs) : ∃ bs : List UInt8, xs = [.lst (bs.map u8)] ∧ bs.length ≤ 9223372036854775807 := by
  have hp : partsOf Tryz.prog 26 = none := by simp [partsOf, Tryz.underlying26]
  have hc : Tryz.prog.cellsOf 5 = 1 := by kernel_rfl
  rw [TyT] at h
  simp only [hp, Tryz.underlying26, hc] at h
  obtain ⟨ys, rfl, hl, hy⟩ := h
  obtain ⟨bs, rfl, _⟩ := lift_list (f := u8) (P := fun _ => True) fun y hy' => by
    obtain ⟨b, hb⟩ := ty_u8 (hy y hy')
    simp at hb
    exact ⟨b, hb, trivial⟩
  exact ⟨bs, rfl, by rw [List.length_map] at hl; exact hl⟩
theorem lift_lists {α : Type} {f : α → List PV} {P : α → Prop} {ys : List (List PV)} (h : ∀ y ∈ ys, ∃ a, y = f a ∧ P a) : ∃ zs : List α, ys = zs.map f ∧ ∀ z ∈ zs, P z := by
  induction ys with
  | nil => exact ⟨[], rfl, by simp⟩
  | cons y r ih =>
    obtain ⟨a, rfl, ha⟩ := h y (by simp)
    obtain ⟨zs, rfl, hz⟩ := ih fun z hz => h z (by simp [hz])
    exact ⟨a :: zs, rfl, fun z hm => by rcases List.mem_cons.1 hm with rfl | hm; exact ha; exact hz z hm⟩
theorem ty_piece {m : Nat} {xs : List PV} (h : TyT Tryz.prog (m + 3) 67 xs) : ∃ p : Pc, xs = p.cells ∧ p.w.length ≤ 9223372036854775807 := by
  have hp : partsOf Tryz.prog 67 = some [(5, 0), (5, 1), (26, 2)] := by kernel_rfl
  rw [TyT] at h
  simp only [hp] at h
  obtain ⟨x1, _, rfl, _, h1, x2, _, rfl, _, h2, x3, _, rfl, _, h3, rfl⟩ := h
  obtain ⟨a, rfl⟩ := ty_u8 h1
  obtain ⟨b, rfl⟩ := ty_u8 h2
  obtain ⟨c, rfl, hc⟩ := ty_bytes h3
  exact ⟨⟨a, b, c⟩, rfl, hc⟩
theorem ty_pieces {m : Nat} {xs : List PV} (h : TyT Tryz.prog (m + 4) 25 xs) : ∃ l : List Pc, xs = [.lsts 3 (l.map Pc.cells)] ∧ l.length ≤ 9223372036854775807 ∧ ∀ p ∈ l, p.w.length ≤ 9223372036854775807 := by
  have hp : partsOf Tryz.prog 25 = none := by simp [partsOf, Tryz.underlying25]
  have hc : Tryz.prog.cellsOf 67 = 3 := by kernel_rfl
  rw [TyT] at h
  simp only [hp, Tryz.underlying25, hc] at h
  obtain ⟨ys, rfl, hn, hy⟩ := h
  obtain ⟨l, rfl, hl⟩ := lift_lists (f := Pc.cells) (P := fun p => p.w.length ≤ 9223372036854775807) fun y hy' => ty_piece (hy y hy')
  rw [List.length_map] at hn
  exact ⟨l, rfl, hn, hl⟩
theorem ty_draft5 {m : Nat} {xs : List PV} (h : TyT Tryz.prog (m + 5) 28 xs) : ∃ D : D5, xs = D.cells ∧ OkD5 D := by
  have hp : partsOf Tryz.prog 28 = some [(5, 0), (25, 1), (26, 2)] := by kernel_rfl
  rw [TyT] at h
  simp only [hp] at h
  obtain ⟨x1, _, rfl, _, h1, x2, _, rfl, _, h2, x3, _, rfl, _, h3, rfl⟩ := h
  obtain ⟨a, rfl⟩ := ty_u8 h1
  obtain ⟨b, rfl, hb1, hb2⟩ := ty_pieces h2
  obtain ⟨c, rfl, hc⟩ := ty_bytes h3
  exact ⟨⟨a, b, c⟩, rfl, ⟨hb1, hc, hb2⟩⟩
theorem arg_draft5 {m : Nat} {x : PV} (h : ArgT Tryz.prog (m + 5) 28 x) : ∃ D : D5, x = D.pv ∧ OkD5 D := by
  have hp : partsOf Tryz.prog 28 = some [(5, 0), (25, 1), (26, 2)] := by kernel_rfl
  simp only [ArgT, hp] at h
  obtain ⟨xs, rfl, h⟩ := h
  obtain ⟨w, rfl, hw⟩ := ty_draft5 h
  exact ⟨w, rfl, hw⟩
end Go.Proofs.YtphmmoloegjocaaGreatDoor

/- Arguments of the statements: networks, changes. -/
namespace Go.Proofs.YtphmmoloegjocaaGreatDoor
open Go Y
set_option maxRecDepth 100000
set_option maxHeartbeats 4000000

theorem ty_int {m : Nat} {xs : List PV} (h : TyT Tryz.prog (m + 1) 3 xs) : ∃ n, xs = [i64 n] ∧ -9223372036854775808 ≤ n ∧ n ≤ 9223372036854775807 := by
  have hp : partsOf Tryz.prog 3 = none := by simp [partsOf, Tryz.underlying3]
  simp only [TyT, hp, Tryz.underlying3] at h
  obtain ⟨n, rfl, hw⟩ := h
  exact ⟨n, rfl, bounds_i64 hw⟩
theorem ty_ints {m : Nat} {xs : List PV} (h : TyT Tryz.prog (m + 2) 62 xs) : ∃ l : List Int, xs = [ints l] ∧ l.length ≤ 9223372036854775807 := by
  have hp : partsOf Tryz.prog 62 = none := by simp [partsOf, Tryz.underlying62]
  have hc : Tryz.prog.cellsOf 3 = 1 := by kernel_rfl
  rw [TyT] at h
  simp only [hp, Tryz.underlying62, hc] at h
  obtain ⟨ys, rfl, hl, hy⟩ := h
  obtain ⟨l, rfl, _⟩ := lift_list (f := i64) (P := fun _ => True) fun y hy' => by
    obtain ⟨b, hb, _⟩ := ty_int (hy y hy')
    simp at hb
    exact ⟨b, hb, trivial⟩
  exact ⟨l, rfl, by rw [List.length_map] at hl; exact hl⟩
theorem ty_cases {m : Nat} {xs : List PV} (h : TyT Tryz.prog (m + 3) 69 xs) : ∃ l : List (List Int), xs = [.lst (l.map ints)] ∧ l.length ≤ 9223372036854775807 ∧ ∀ c ∈ l, c.length ≤ 9223372036854775807 := by
  have hp : partsOf Tryz.prog 69 = none := by simp [partsOf, Tryz.underlying69]
  have hc : Tryz.prog.cellsOf 62 = 1 := by kernel_rfl
  rw [TyT] at h
  simp only [hp, Tryz.underlying69, hc] at h
  obtain ⟨ys, rfl, hl, hy⟩ := h
  obtain ⟨l, rfl, hm⟩ := lift_list (f := ints) (P := fun c => c.length ≤ 9223372036854775807) fun y hy' => by
    obtain ⟨b, hb, hb'⟩ := ty_ints (hy y hy')
    simp at hb
    exact ⟨b, hb, hb'⟩
  exact ⟨l, rfl, by rw [List.length_map] at hl; exact hl, hm⟩
theorem ty_node {m : Nat} {xs : List PV} (h : TyT Tryz.prog (m + 4) 71 xs) : ∃ x : Nd, xs = x.cells ∧ x.parents.length ≤ 9223372036854775807 ∧ x.rows.length ≤ 9223372036854775807 ∧ ∀ r ∈ x.rows, r.length ≤ 9223372036854775807 := by
  have hp : partsOf Tryz.prog 71 = some [(3, 0), (62, 1), (69, 2)] := by kernel_rfl
  rw [TyT] at h
  simp only [hp] at h
  obtain ⟨x1, _, rfl, _, h1, x2, _, rfl, _, h2, x3, _, rfl, _, h3, rfl⟩ := h
  obtain ⟨a, rfl, _⟩ := ty_int h1
  obtain ⟨b, rfl, hb⟩ := ty_ints h2
  obtain ⟨c, rfl, hc, hd⟩ := ty_cases h3
  exact ⟨⟨a, b, c⟩, rfl, hb, hc, hd⟩
theorem ty_nodes {m : Nat} {xs : List PV} (h : TyT Tryz.prog (m + 5) 22 xs) : ∃ l : List Nd, xs = [.lsts 3 (l.map Nd.cells)] ∧ l.length ≤ 9223372036854775807 ∧ ∀ x ∈ l, x.parents.length ≤ 9223372036854775807 ∧ x.rows.length ≤ 9223372036854775807 ∧ ∀ r ∈ x.rows, r.length ≤ 9223372036854775807 := by
  have hp : partsOf Tryz.prog 22 = none := by simp [partsOf, Tryz.underlying22]
  have hc : Tryz.prog.cellsOf 71 = 3 := by kernel_rfl
  rw [TyT] at h
  simp only [hp, Tryz.underlying22, hc] at h
  obtain ⟨ys, rfl, hn, hy⟩ := h
  obtain ⟨l, rfl, hl⟩ := lift_lists (f := Nd.cells) (P := fun x => x.parents.length ≤ 9223372036854775807 ∧ x.rows.length ≤ 9223372036854775807 ∧ ∀ r ∈ x.rows, r.length ≤ 9223372036854775807) fun y hy' => ty_node (hy y hy')
  rw [List.length_map] at hn
  exact ⟨l, rfl, hn, hl⟩
theorem ty_net {m : Nat} {xs : List PV} (h : TyT Tryz.prog (m + 6) 24 xs) : ∃ n : Nt, xs = n.cells ∧ BigN n := by
  have hp : partsOf Tryz.prog 24 = some [(3, 0), (22, 1)] := by kernel_rfl
  rw [TyT] at h
  simp only [hp] at h
  obtain ⟨x1, _, rfl, _, h1, x2, _, rfl, _, h2, rfl⟩ := h
  obtain ⟨a, rfl, _⟩ := ty_int h1
  obtain ⟨b, rfl, hb, hc⟩ := ty_nodes h2
  exact ⟨⟨a, b⟩, rfl, hb, fun x hx => (hc x hx).1, fun x hx => (hc x hx).2.1, fun x hx => (hc x hx).2.2⟩
theorem arg_net {m : Nat} {x : PV} (h : ArgT Tryz.prog (m + 6) 24 x) : ∃ n : Nt, x = n.pv ∧ BigN n := by
  have hp : partsOf Tryz.prog 24 = some [(3, 0), (22, 1)] := by kernel_rfl
  simp only [ArgT, hp] at h
  obtain ⟨xs, rfl, h⟩ := h
  obtain ⟨w, rfl, hw⟩ := ty_net h
  exact ⟨w, rfl, hw⟩
/-- A change of a network. -/
structure B5 where
  what : UInt8
  place : UInt8
  row : UInt8
  n : Int
abbrev B5.cells (B : B5) : List PV := [u8 B.what, u8 B.place, u8 B.row, i64 B.n]
abbrev B5.pv (B : B5) : PV := .agg B.cells
theorem arg_bend5 {m : Nat} {x : PV} (h : ArgT Tryz.prog (m + 2) 30 x) : ∃ B : B5, x = B.pv ∧ -9223372036854775808 ≤ B.n ∧ B.n ≤ 9223372036854775807 := by
  have hp : partsOf Tryz.prog 30 = some [(5, 0), (5, 1), (5, 2), (3, 3)] := by kernel_rfl
  simp only [ArgT, hp] at h
  obtain ⟨xs, rfl, h⟩ := h
  rw [TyT] at h
  simp only [hp] at h
  obtain ⟨x1, _, rfl, _, h1, x2, _, rfl, _, h2, x3, _, rfl, _, h3, x4, _, rfl, _, h4, rfl⟩ := h
  obtain ⟨a, rfl⟩ := ty_u8 h1
  obtain ⟨b, rfl⟩ := ty_u8 h2
  obtain ⟨c, rfl⟩ := ty_u8 h3
  obtain ⟨d, rfl, hd⟩ := ty_int h4
  exact ⟨⟨a, b, c, d⟩, rfl, hd⟩
end Go.Proofs.YtphmmoloegjocaaGreatDoor

/- Changed networks. -/
namespace Go.Proofs.YtphmmoloegjocaaGreatDoor
open Go Y
set_option maxRecDepth 100000
set_option maxHeartbeats 40000000

/-- The end of a function on data (quick: every name once). -/
def ndB : List (Nat × AObj) → Bool
  | [] => true
  | (n, _) :: r => (match lget r n with
    | none => true
    | some _ => false) && ndB r
theorem ndB_nodup : ∀ {l : List (Nat × AObj)}, ndB l = true → (l.map (·.1)).Nodup
  | [], _ => List.nodup_nil
  | (n, o) :: r, h => by
    rw [ndB, Bool.and_eq_true] at h
    rw [List.map_cons, List.nodup_cons]
    refine ⟨fun hm => ?_, ndB_nodup h.2⟩
    obtain ⟨⟨m, o'⟩, h1, rfl⟩ := List.mem_map.1 hm
    have := lget_of_mem (ndB_nodup h.2) h1
    have h1 := h.1
    rw [this] at h1
    cases h1
theorem endN {Q : PEnd → Prop} {v : AV} {H' : Hp} (x : PV) (hd : ndB H'.l = true) (h : Res (allFr H'.l) 5 v x) (hq : Q (.ret [x])) : EndP Q (.returned v) H' := endR x (ndB_nodup hd) h hq
def b5O (B : B5) : AObj := ⟨30, false, .bx (B.cells.map .p)⟩
def pdO (l : List Nd) : AObj := ⟨TNode, false, .pus (l.map Nd.cells)⟩
/-- A node's rows, one of them an object of its own (name s). -/
def rowsQ (rs : List (List Int)) (q s : Nat) : List AV := ((rs.map ints).map AV.p).set q (.sl s 1 0 (rs.getD q []).length)
def rqO (rs : List (List Int)) (q s : Nat) : AObj := ⟨TI, false, .mx (rowsQ rs q s)⟩
/-- The nodes, node a with rows of its own (name s). -/
def nodesQ (l : List Nd) (a s : Nat) : List (List AV) := (mapsP (l.map Nd.cells)).set a [.p (i64 (l.getD a nd0).card), .sl (s + 2) 1 0 (l.getD a nd0).parents.length, .sl s 1 0 (l.getD a nd0).rows.length]
theorem take_nd {l : List Nd} {k : Nat} (h : k < l.length) : l.take (k + 1) = l.take k ++ [l.getD k nd0] := take_succ_getD nd0 h
theorem take_rw {l : List (List Int)} {k : Nat} (h : k < l.length) : l.take (k + 1) = l.take k ++ [l.getD k []] := take_succ_getD [] h
theorem nodesQ_snoc {l : List Nd} {a s : Nat} (h : a < l.length) (x : Nd) : nodesQ (l ++ [x]) a s = nodesQ l a s ++ mapsP [x.cells] := by
  have hg : (l ++ [x]).getD a nd0 = l.getD a nd0 := by rw [snoc_getD, if_pos h]
  rw [nodesQ, nodesQ, hg, List.map_append, mapsP_eq, mapsP_eq, mapsP_eq, List.map_append, List.set_append_left _ _ (by rw [List.length_map, List.length_map]; exact h)]; rfl
theorem nodesQ_last {l : List Nd} {s : Nat} (x : Nd) : nodesQ (l ++ [x]) l.length s = mapsP (l.map Nd.cells) ++ [[.p (i64 x.card), .sl (s + 2) 1 0 x.parents.length, .sl s 1 0 x.rows.length]] := by
  have hg : (l ++ [x]).getD l.length nd0 = x := by rw [snoc_getD, if_neg (by omega), if_pos rfl]
  rw [nodesQ, hg, List.map_append, mapsP_eq, mapsP_eq, List.map_append, List.set_append_right _ _ (by rw [List.length_map, List.length_map]; exact Nat.le_refl _), List.length_map, List.length_map, Nat.sub_self]; rfl
theorem nodesQ_len (l : List Nd) (a s : Nat) : (nodesQ l a s).length = l.length := by rw [nodesQ, List.length_set, mapsP_length, List.length_map]
theorem rowsQ_len (rs : List (List Int)) (q s : Nat) : (rowsQ rs q s).length = rs.length := by rw [rowsQ, List.length_set, List.length_map, List.length_map]
theorem getN_take {α : Type} : ∀ {l : List α} {k : Nat}, k ≤ l.length → getN l 0 k = some (l.take k)
  | l, 0, _ => by cases l <;> rfl
  | [], k + 1, h => by simp at h
  | x :: l, k + 1, h => by
    have := getN_take (l := l) (k := k) (by simpa using h)
    show (match getN l 0 k with | some r => some (x :: r) | none => none) = _
    rw [this]; rfl
theorem getN_rq {rs : List (List Int)} {q s : Nat} (h : q ≤ rs.length) : getN (rowsQ rs q s) 0 q = some (((rs.take q).map ints).map AV.p) := by
  rw [getN_take (by rw [rowsQ_len]; exact h), rowsQ, List.take_set_of_le (Nat.le_refl _), List.map_take, List.map_take]
theorem yld_mx {P : Program} {t : TypeId} {n i : Nat} {lk : Nat → Option AObj} {o : AObj} {xs : List AV} {x : AV} (h1 : lk n = some o) (h2 : o.c = .mx xs) (h3 : aggSz P t = some none) (h4 : xs[i]? = some x) : (popLoad P t (.ptr n i 0) lk).Yld x := by
  have h4 : nth xs i = some x := (nth_get xs i).trans h4
  unfold popLoad
  simp only [h1, h2, h3, h4]
  rfl
theorem heldAt_of {C : Cx} {all : List Oper} {σ0 : Sg} {H : Hp} {e : En} {L : List En} (h1 : gd all e.o (rst (looks all e.o) (ap σ0 L)) = some true) (h2 : (pop C.P e.o.op (evl C (rst (looks all e.o) (ap σ0 L))) (lkO e.o.op H)).Yld e.v) : HeldAt C all σ0 H e L := by
  unfold HeldAt
  rw [h1]
  exact h2
theorem vop_store {C : Cx} {rd : Bool} {o : Oper} {σ : Sg} {ds : List AD} {H : Hp} {K : AV → List AD → Hp → Prop} {X : List AP → Hp → Prop} {t : TypeId} {a x : Operand} (ho : o.op = .store t a x) (h : eStore C t (evl C σ a) (evl C σ x) H fun v H' => K v ds H') : vOp C rd o σ ds H K X := by
  obtain ⟨d, op, ty, p, af, g⟩ := o
  simp only [] at ho
  subst ho
  exact h
theorem rowsQ_len1 (rs : List (List Int)) (q s : Nat) (v : AV) : (rowsQ rs q s ++ [v]).length = rs.length + 1 := by rw [List.length_append, rowsQ_len]; rfl
theorem rowsQ_move (rs : List (List Int)) (q s t : Nat) : (rowsQ rs q s).set q (.sl t 1 0 (rs.getD q []).length) = rowsQ rs q t := by
  rw [rowsQ, rowsQ, List.set_set]
theorem rowsQ_snoc {rs : List (List Int)} {q s : Nat} (h : q ≠ rs.length) (r : List Int) : rowsQ (rs ++ [r]) q s = rowsQ rs q s ++ [.p (ints r)] := by
  rw [rowsQ, rowsQ, List.map_append, List.map_append]
  rcases Nat.lt_or_ge q rs.length with h1 | h1
  · have hg : (rs ++ [r]).getD q [] = rs.getD q [] := by rw [snoc_getD, if_pos h1]
    rw [hg, List.set_append_left _ _ (by rw [List.length_map, List.length_map]; exact h1)]; rfl
  · rw [List.set_eq_of_length_le (by simp; omega), List.set_eq_of_length_le (by simp; omega)]; rfl
theorem rowsQ_last {rs : List (List Int)} {s : Nat} (r : List Int) : rowsQ (rs ++ [r]) rs.length s = (rs.map ints).map AV.p ++ [.sl s 1 0 r.length] := by
  have hg : (rs ++ [r]).getD rs.length [] = r := by rw [snoc_getD, if_neg (by omega), if_pos rfl]
  rw [rowsQ, hg, List.map_append, List.map_append, List.set_append_right _ _ (by rw [List.length_map, List.length_map]; exact Nat.le_refl _), List.length_map, List.length_map, Nat.sub_self]; rfl
/-- The row that is an object of its own. -/
def rowAt (rs : List (List Int)) (q i : Nat) : List Int := (rs.take i).getD q []
theorem rowAt_step {rs : List (List Int)} {q i : Nat} (hi : i < rs.length) (h : i ≠ q) : rowAt rs q (i + 1) = rowAt rs q i := by
  rw [rowAt, rowAt, take_rw hi, snoc_getD, List.length_take, Nat.min_eq_left (by omega)]
  split
  · rfl
  · rename_i h1
    rw [if_neg (fun e => h e.symm)]
    rw [List.getD_eq_getElem?_getD, List.getElem?_eq_none (by rw [List.length_take]; omega)]; rfl
theorem rowAt_at {rs : List (List Int)} {q : Nat} (hi : q < rs.length) : rowAt rs q (q + 1) = rs.getD q [] := by
  rw [rowAt, take_rw hi, snoc_getD, List.length_take, Nat.min_eq_left (by omega), if_neg (by omega), if_pos rfl]
theorem seeL_app {ρ : Nat → Nat} {ni : List (Nat × Nat)} {L : List (Nat × AObj)} : ∀ {a c b d : List AV}, SeeL ρ ni L a b → SeeL ρ ni L c d → SeeL ρ ni L (a ++ c) (b ++ d)
  | a, c, [], d, h, k => by simp only [SeeL] at h; subst h; exact k
  | a, c, v :: b, d, h, k => by
    simp only [SeeL] at h
    obtain ⟨u, us, rfl, h1, h2⟩ := h
    exact ⟨u, us ++ c, rfl, h1, seeL_app h2 k⟩
theorem seeL_setS {ρ : Nat → Nat} {ni : List (Nat × Nat)} {L : List (Nat × AObj)} {u v : AV} : ∀ {a b : List AV} {i : Nat}, SeeL ρ ni L a b → See ρ ni L u v → SeeL ρ ni L (a.set i u) (b.set i v)
  | a, [], i, h, _ => by simp only [SeeL] at h; subst h; simp [SeeL]
  | a, w :: b, i, h, k => by
    simp only [SeeL] at h
    obtain ⟨z, zs, rfl, h1, h2⟩ := h
    cases i with
    | zero => exact ⟨_, _, rfl, k, h2⟩
    | succ i => exact ⟨_, _, rfl, h1, seeL_setS h2 k⟩
theorem rowsQ_out {rs : List (List Int)} {q s : Nat} (h : rs.length ≤ q) : rowsQ rs q s = (rs.map ints).map AV.p := by
  rw [rowsQ, List.set_eq_of_length_le (by simp; omega)]
theorem resL_setS {f : AV → PV → Prop} {u : AV} {w : PV} : ∀ {a : List AV} {b : List PV} {i : Nat}, ResL f a b → f u w → ResL f (a.set i u) (b.set i w)
  | [], b, i, h, _ => by simp only [ResL] at h; subst h; simp [ResL]
  | v :: a, b, i, h, k => by
    simp only [ResL] at h
    obtain ⟨z, zs, rfl, h1, h2⟩ := h
    cases i with
    | zero => exact ⟨_, _, rfl, k, h2⟩
    | succ i => exact ⟨_, _, rfl, h1, resL_setS h2 k⟩
theorem resL_appS {f : AV → PV → Prop} : ∀ {a c : List AV} {b d : List PV}, ResL f a b → ResL f c d → ResL f (a ++ c) (b ++ d)
  | [], c, b, d, h, k => by simp only [ResL] at h; subst h; exact k
  | v :: a, c, b, d, h, k => by
    simp only [ResL] at h
    obtain ⟨z, zs, rfl, h1, h2⟩ := h
    exact ⟨z, zs ++ d, rfl, h1, resL_appS h2 k⟩
theorem set_self {α : Type} (d : α) : ∀ (l : List α) (i : Nat), l.set i (l.getD i d) = l
  | [], _ => rfl
  | x :: l, 0 => rfl
  | x :: l, i + 1 => by show x :: l.set i (l.getD i d) = _; rw [set_self d l i]
theorem resL_pd {L : List (Nat × AObj)} {d : Nat} : ∀ rs : List (List Int), ResL (Res L (d + 1)) ((rs.map ints).map .p) (rs.map ints)
  | [] => rfl
  | r :: rs => ⟨_, _, rfl, rfl, resL_pd rs⟩
theorem resL_rq {L : List (Nat × AObj)} {rs : List (List Int)} {q s d : Nat} (h : lget L s = some ⟨TN, true, .pu ((rs.getD q []).map i64)⟩) : ResL (Res L (d + 1)) (rowsQ rs q s) (rs.map ints) := by
  have e : rs.map ints = (rs.map ints).set q (ints (rs.getD q [])) := by rw [← List.map_set, set_self]
  rw [rowsQ, e]
  conv => enter [2]; rw [← e]
  refine resL_setS (resL_pd _) ?_
  simp only [Res]
  rw [h]
  exact ⟨_, rfl, by show 0 + (rs.getD q []).length ≤ ((rs.getD q []).map i64).length; simp, takeAll (by simp)⟩
theorem res_node {L : List (Nat × AObj)} {l : List Nd} {a s d : Nat} {cs : List AV} {x' : Nd} (h : ResL (Res L (d + 1)) cs x'.cells) : ResLL (Res L (d + 1)) ((nodesQ l a s).set a cs) ((l.set a x').map Nd.cells) := by
  rw [nodesQ, List.set_set, List.map_set]
  exact resLL_set (resLL_nd l) h
theorem resL_rqS {L : List (Nat × AObj)} {rs : List (List Int)} {q s d : Nat} {r : List Int} (h : lget L s = some ⟨TN, true, .pu (r.map i64)⟩) (hl : r.length = (rs.getD q []).length) : ResL (Res L (d + 1)) (rowsQ rs q s) ((rs.set q r).map ints) := by
  rw [rowsQ, List.map_set]
  refine resL_setS (resL_pd _) ?_
  simp only [Res]
  rw [h]
  exact ⟨_, rfl, by show 0 + (rs.getD q []).length ≤ (r.map i64).length; rw [List.length_map]; omega, takeAll (by rw [List.length_map]; exact hl)⟩
theorem resL_rqT {L : List (Nat × AObj)} {rs : List (List Int)} {q s t d k : Nat} {r : List Int} (h : lget L t = some ⟨TN, true, .pu (r.map i64)⟩) (hk : r.length = k) : ResL (Res L (d + 1)) ((rowsQ rs q s).set q (.sl t 1 0 k)) ((rs.set q r).map ints) := by
  rw [rowsQ, List.set_set, List.map_set]
  refine resL_setS (resL_pd _) ?_
  simp only [Res]
  rw [h]
  exact ⟨_, rfl, by show 0 + k ≤ (r.map i64).length; rw [List.length_map]; omega, takeAll (by rw [List.length_map]; exact hk)⟩
theorem resLL_take {f : AV → PV → Prop} : ∀ {a : List (List AV)} {b : List (List PV)} {k : Nat}, ResLL f a b → ResLL f (a.take k) (b.take k)
  | a, b, 0, _ => by rw [List.take_zero, List.take_zero]; rfl
  | [], b, k + 1, h => by simp only [ResLL] at h; subst h; rfl
  | v :: a, b, k + 1, h => by
    simp only [ResLL] at h
    obtain ⟨z, zs, rfl, h1, h2⟩ := h
    exact ⟨z, zs.take k, rfl, h1, resLL_take h2⟩
theorem res_nodesS {L : List (Nat × AObj)} {l : List Nd} {a s d : Nat} {y x' : Nd} (hy : y = l.getD a nd0) (h : ResL (Res L (d + 1)) [.p (i64 y.card), .sl (s + 2) 1 0 y.parents.length, .sl s 1 0 y.rows.length] x'.cells) : ResLL (Res L (d + 1)) (nodesQ l a s) ((l.set a x').map Nd.cells) := by
  rw [nodesQ, ← hy, List.map_set]
  exact resLL_set (resLL_nd l) h
theorem res_nodesQ {L : List (Nat × AObj)} {l : List Nd} {a s d : Nat} {y : Nd} (hy : y = l.getD a nd0) (h : ResL (Res L (d + 1)) [.p (i64 y.card), .sl (s + 2) 1 0 y.parents.length, .sl s 1 0 y.rows.length] y.cells) : ResLL (Res L (d + 1)) (nodesQ l a s) (l.map Nd.cells) := by
  have := resLL_set (i := a) (resLL_nd (L := L) (d := d) l) h
  rw [← List.map_set, hy, set_self] at this
  exact this
/-- Small networks. -/
structure SmN (n : Nt) : Prop where
  nodes : n.nodes.length ≤ 1000
  par : ∀ x ∈ n.nodes, x.parents.length ≤ 1000
  rows : ∀ x ∈ n.nodes, x.rows.length ≤ 1000
  row : ∀ x ∈ n.nodes, ∀ r ∈ x.rows, r.length ≤ 1000

def xvP (x : Nd) (p s i : Nat) : AObj := ⟨TNode, false, .bx [.p (i64 x.card), .sl p 1 0 x.parents.length, .sl s 1 0 i]⟩
def xvO (x : Nd) (s i : Nat) : AObj := ⟨TNode, false, .bx [.p (i64 x.card), .p (ints x.parents), .sl s 1 0 i]⟩
theorem bend_c (B : B5) (n : Nt) (hn : SmN n) : Pure cx 8 [B.pv, n.pv] fun r => ∃ n', BigN n' ∧ r = .ret [n'.pv] := by
  refine pure_of_vc Tryz.func8 rfl rfl rfl ?_
  have hwhat := B.what.toNat_lt
  have hplace := B.place.toNat_lt
  have hrow := B.row.toNat_lt
  have hnl := hn.nodes
  obtain ⟨N, hN⟩ : ∃ N, N = n.nodes.length := ⟨_, rfl⟩
  obtain ⟨a, ha⟩ : ∃ a, a = B.place.toNat % N := ⟨_, rfl⟩
  obtain ⟨y, hy⟩ : ∃ y, y = n.nodes.getD a nd0 := ⟨_, rfl⟩
  obtain ⟨q, hq⟩ : ∃ q, q = B.row.toNat % y.rows.length := ⟨_, rfl⟩
  refine ⟨Bool × Nat, fun x => [(2, .ptr 0 0 0), (3, .ptr 1 0 0), (4, .ptr 2 0 0), (5, .sl 3 3 0 x.2), (6, .p (i64 x.2))], fun x => match x.1 with
    | false => ⟨4, [(3, pdO (n.nodes.take x.2)), (2, znO), (1, ntO n), (0, b5O B)]⟩
    | true => ⟨7, [(6, iO y.parents), (5, iO (y.rows.getD q [])), (4, rqO y.rows q 5), (3, mO (nodesQ (n.nodes.take x.2) a 4)), (2, znO), (1, ntO n), (0, b5O B)]⟩, fun x => x.2 ≤ N ∧ (x.1 = false → x.2 ≤ a) ∧ (x.1 = true → a < x.2), fun x => N - x.2, ?_, ?_⟩
  · exact ⟨(false, 0), ⟨by simp, fun _ => Nat.zero_le _, fun h => by simp at h⟩, ent_of [] [] [(3, 3)] rfl (by (repeat' first | exact trivial | exact rfl | exact ⟨rfl, rfl⟩ | exact .inl rfl | refine ⟨_, rfl, rfl, rfl, ?_⟩ | refine ⟨_, _, rfl, ?_, ?_⟩ | refine ⟨_, rfl, ?_⟩ | refine And.intro ?_ ?_)) (by (repeat' first | exact trivial | exact rfl | exact ⟨rfl, rfl⟩ | exact .inl rfl | refine ⟨_, rfl, rfl, rfl, ?_⟩ | refine ⟨_, _, rfl, ?_, ?_⟩ | refine ⟨_, rfl, ?_⟩ | refine And.intro ?_ ?_)) rfl⟩
  rintro ⟨_ | _, v⟩ ⟨g1, g2, g3⟩
  · have hva : v ≤ a := g2 rfl
    have g1 : v ≤ N := g1
    (first | refine brLt (fun h1 => ?_) (fun h1 => ?_) | refine brLe (fun h1 => ?_) (fun h1 => ?_) | refine brEq (fun h1 => ?_) (fun h1 => ?_))
    · have h1 : (v : Int) < ((n.nodes.map Nd.cells).length : Nat) := h1
      rw [List.length_map] at h1
      have hk : v < n.nodes.length := by omega
      obtain ⟨x, hx⟩ : ∃ x, x = n.nodes.getD v nd0 := ⟨_, rfl⟩
      have hxm : x ∈ n.nodes := by rw [hx]; exact getD_memL nd0 hk
      have hxp := hn.par x hxm
      have hxr := hn.rows x hxm
      by_cases hlt : v < a
      · refine ⟨_, ⟨by omega, x.cells, by rw [hx]; exact ncell hk, rfl⟩, ?_⟩
        refine VDraw.seq rfl ?_
        refine ⟨_, ⟨by omega, x.cells, by rw [hx]; exact ncell hk, rfl⟩, ?_⟩
        refine ⟨by show (x.parents.map i64).length * 8 ≤ 140737488355328; rw [List.length_map]; omega, ?_⟩
        refine ⟨Nat, fun i => [(2, .ptr 0 0 0), (3, .ptr 1 0 0), (4, .ptr 2 0 0), (5, .sl 3 3 0 v), (6, .p (i64 v)), (7, .ptr 4 0 0), (8, .p (i64 i))], fun i => ⟨4 + 3, ((4 + 2), rO (x.rows.take i)) :: (4, xvO x (4 + 2) i) :: [(3, pdO (n.nodes.take v)), (2, znO), (1, ntO n), (0, b5O B)]⟩, fun i => i ≤ x.rows.length, fun i => x.rows.length - i, ?_, ?_⟩
        · refine ⟨0, Nat.zero_le _, ent_of [4 + 1] [] [(4 + 2, 1)] rfl (by (repeat' first | exact trivial | exact rfl | exact ⟨rfl, rfl⟩ | exact .inl rfl | refine ⟨_, rfl, rfl, rfl, ?_⟩ | refine ⟨_, _, rfl, ?_, ?_⟩ | refine ⟨_, rfl, ?_⟩ | refine And.intro ?_ ?_)) ⟨⟨rfl, rfl, rfl⟩, ⟨_, rfl, rfl, rfl, _, rfl, ?_⟩, (by (repeat' first | exact trivial | exact rfl | exact ⟨rfl, rfl⟩ | exact .inl rfl | refine ⟨_, rfl, rfl, rfl, ?_⟩ | refine ⟨_, _, rfl, ?_, ?_⟩ | refine ⟨_, rfl, ?_⟩ | refine And.intro ?_ ?_))⟩ rfl⟩
          exact ⟨_, _, rfl, rfl, _, _, rfl, ⟨_, rfl, by show 0 + (x.parents.map i64).length ≤ (x.parents.map i64).length; omega, takeAll (by simp)⟩, _, _, rfl, ⟨rfl, rfl, rfl, rfl⟩, rfl⟩
        intro i hi
        refine ⟨_, ⟨by omega, x.cells, by rw [hx]; exact ncell hk, rfl⟩, ?_⟩
        (first | refine brLt (fun h2 => ?_) (fun h2 => ?_) | refine brLe (fun h2 => ?_) (fun h2 => ?_) | refine brEq (fun h2 => ?_) (fun h2 => ?_))
        · have h2 : (i : Int) < ((x.rows.map ints).length : Nat) := h2
          rw [List.length_map] at h2
          have hil : i < x.rows.length := by omega
          obtain ⟨r, hr⟩ : ∃ r, r = x.rows.getD i [] := ⟨_, rfl⟩
          have hrl := hn.row x hxm r (by rw [hr]; exact getD_memL [] hil)
          refine VDraw.seq rfl ?_
          refine ⟨_, ⟨by omega, x.cells, by rw [hx]; exact ncell hk, rfl⟩, ?_⟩
          refine ⟨_, ⟨by omega, ints r, by rw [hr]; exact ccell hil, rfl⟩, ?_⟩
          refine ⟨by show (r.map i64).length * 8 ≤ 140737488355328; rw [List.length_map]; omega, ?_⟩
          repeat refine ⟨by (repeat' first | exact trivial | exact rfl | exact ⟨rfl, rfl⟩ | exact .inl rfl | refine ⟨_, rfl, rfl, rfl, ?_⟩ | refine ⟨_, _, rfl, ?_, ?_⟩ | refine ⟨_, rfl, ?_⟩ | refine And.intro ?_ ?_), ?_⟩
          refine .inl ⟨[4 + 3], [ints r], rfl, ⟨_, _, rfl, ⟨_, rfl, by show 0 + (r.map i64).length ≤ (r.map i64).length; omega, takeAll (by simp)⟩, rfl⟩, ?_⟩
          refine ⟨by show 0 + i ≤ ((x.rows.take i).map ints).length; rw [List.length_map, List.length_take]; omega, (x.rows.take i).map ints, takeAll (by rw [List.length_map, List.length_take]; omega), by show (i + 1) * 24 ≤ 140737488355328; omega, (x.rows.take (i + 1)).map ints, by rw [take_rw hil, ← hr]; simp, ?_⟩
          refine ⟨_, wrap_i64 (by omega) (by omega), ?_⟩
          exact ⟨i + 1, by omega, ent_of [] [(4 + 2, 4 + 5)] [] rfl (by (repeat' first | exact trivial | exact rfl | exact ⟨rfl, rfl⟩ | exact .inl rfl | refine ⟨_, rfl, rfl, rfl, ?_⟩ | refine ⟨_, _, rfl, ?_, ?_⟩ | refine ⟨_, rfl, ?_⟩ | refine And.intro ?_ ?_)) ⟨⟨_, rfl, rfl, rfl, rfl⟩, ⟨_, rfl, rfl, rfl, _, rfl, by (repeat' first | exact trivial | exact rfl | exact ⟨rfl, rfl⟩ | exact .inl rfl | refine ⟨_, rfl, rfl, rfl, ?_⟩ | refine ⟨_, _, rfl, ?_, ?_⟩ | refine ⟨_, rfl, ?_⟩ | refine And.intro ?_ ?_)⟩, (by (repeat' first | exact trivial | exact rfl | exact ⟨rfl, rfl⟩ | exact .inl rfl | refine ⟨_, rfl, rfl, rfl, ?_⟩ | refine ⟨_, _, rfl, ?_, ?_⟩ | refine ⟨_, rfl, ?_⟩ | refine And.intro ?_ ?_))⟩ rfl, by show x.rows.length - (i + 1) < x.rows.length - i; omega⟩
        have h2 : ¬ (i : Int) < ((x.rows.map ints).length : Nat) := h2
        rw [List.length_map] at h2
        have hie : i = x.rows.length := by omega
        subst hie
        refine ⟨by show 0 + 1 ≤ 1; omega, [[.p (i64 x.card), .p (ints x.parents), .sl (4 + 2) 1 0 x.rows.length]], rfl, ?_⟩
        refine .inl ⟨[4 + 2], [x.cells], rfl, ⟨_, _, rfl, ⟨_, _, rfl, rfl, _, _, rfl, rfl, _, _, rfl, ⟨_, rfl, by show 0 + x.rows.length ≤ ((x.rows.take x.rows.length).map ints).length; rw [take_all (Nat.le_refl _), List.length_map]; omega, by show x.rows.map ints = (((x.rows.take x.rows.length).map ints).drop 0).take x.rows.length; rw [take_all (Nat.le_refl _)]; exact takeAll (by simp)⟩, rfl⟩, rfl⟩, ?_⟩
        refine ⟨by show 0 + v ≤ ((n.nodes.take v).map Nd.cells).length; rw [List.length_map, List.length_take]; omega, (n.nodes.take v).map Nd.cells, takeAll (by rw [List.length_map, List.length_take]; omega), by show (v + 1) * 56 ≤ 140737488355328; omega, (n.nodes.take (v + 1)).map Nd.cells, by rw [take_nd hk, ← hx]; simp, ?_⟩
        refine ⟨_, wrap_i64 (by omega) (by omega), ?_⟩
        exact ⟨(false, v + 1), ⟨by simp only []; omega, fun _ => by simp only []; omega, fun h => by simp at h⟩, ent_of [] [(3, 8)] [] rfl (by (repeat' first | exact trivial | exact rfl | exact ⟨rfl, rfl⟩ | exact .inl rfl | refine ⟨_, rfl, rfl, rfl, ?_⟩ | refine ⟨_, _, rfl, ?_, ?_⟩ | refine ⟨_, rfl, ?_⟩ | refine And.intro ?_ ?_)) (by (repeat' first | exact trivial | exact rfl | exact ⟨rfl, rfl⟩ | exact .inl rfl | refine ⟨_, rfl, rfl, rfl, ?_⟩ | refine ⟨_, _, rfl, ?_, ?_⟩ | refine ⟨_, rfl, ?_⟩ | refine And.intro ?_ ?_)) rfl, by show N - (v + 1) < N - v; omega⟩
      · have hve : v = a := by omega
        have hxy : x = y := by rw [hx, hy, hve]
        refine ⟨_, ⟨by omega, x.cells, by rw [hx]; exact ncell hk, rfl⟩, ?_⟩
        refine VDraw.seq rfl ?_
        refine ⟨_, ⟨by omega, x.cells, by rw [hx]; exact ncell hk, rfl⟩, ?_⟩
        refine ⟨by show (x.parents.map i64).length * 8 ≤ 140737488355328; rw [List.length_map]; omega, ?_⟩
        refine ⟨Nat, fun i => [(2, .ptr 0 0 0), (3, .ptr 1 0 0), (4, .ptr 2 0 0), (5, .sl 3 3 0 v), (6, .p (i64 v)), (7, .ptr 4 0 0), (8, .p (i64 i))], fun i => ⟨8, [(7, iO (rowAt x.rows q i)), (6, rqO (x.rows.take i) q 7), (5, iO x.parents), (4, xvP x 5 6 i), (3, pdO (n.nodes.take v)), (2, znO), (1, ntO n), (0, b5O B)]⟩, fun i => i ≤ x.rows.length, fun i => x.rows.length - i, ?_, ?_⟩
        · refine ⟨0, Nat.zero_le _, ent_of [] [] [(6, 1), (7, 1)] rfl (by (repeat' first | exact trivial | exact rfl | exact ⟨rfl, rfl⟩ | exact .inl rfl | refine ⟨_, rfl, rfl, rfl, ?_⟩ | refine ⟨_, _, rfl, ?_, ?_⟩ | refine ⟨_, rfl, ?_⟩ | refine And.intro ?_ ?_)) ⟨⟨rfl, by simp [rowAt], rfl⟩, ⟨rfl, by simp [rowsQ], rfl⟩, ⟨_, rfl, rfl, rfl, rfl⟩, ⟨_, rfl, rfl, rfl, _, rfl, ?_⟩, by (repeat' first | exact trivial | exact rfl | exact ⟨rfl, rfl⟩ | exact .inl rfl | refine ⟨_, rfl, rfl, rfl, ?_⟩ | refine ⟨_, _, rfl, ?_, ?_⟩ | refine ⟨_, rfl, ?_⟩ | refine And.intro ?_ ?_)⟩ rfl⟩
          exact ⟨_, _, rfl, rfl, _, _, rfl, congrArg (fun k => AV.sl 5 1 0 k) (List.length_map ..), _, _, rfl, ⟨rfl, rfl, rfl, rfl⟩, rfl⟩
        intro i hi
        refine ⟨_, ⟨by omega, x.cells, by rw [hx]; exact ncell hk, rfl⟩, ?_⟩
        (first | refine brLt (fun h2 => ?_) (fun h2 => ?_) | refine brLe (fun h2 => ?_) (fun h2 => ?_) | refine brEq (fun h2 => ?_) (fun h2 => ?_))
        · have h2 : (i : Int) < ((x.rows.map ints).length : Nat) := h2
          rw [List.length_map] at h2
          have hil : i < x.rows.length := by omega
          obtain ⟨r, hr⟩ : ∃ r, r = x.rows.getD i [] := ⟨_, rfl⟩
          have hrl := hn.row x hxm r (by rw [hr]; exact getD_memL [] hil)
          have htl : (x.rows.take i).length = i := by rw [List.length_take]; omega
          refine VDraw.seq rfl ?_
          refine ⟨_, ⟨by omega, x.cells, by rw [hx]; exact ncell hk, rfl⟩, ?_⟩
          refine ⟨_, ⟨by omega, ints r, by rw [hr]; exact ccell hil, rfl⟩, ?_⟩
          refine ⟨by show (r.map i64).length * 8 ≤ 140737488355328; rw [List.length_map]; omega, ?_⟩
          repeat refine ⟨by (repeat' first | exact trivial | exact rfl | exact ⟨rfl, rfl⟩ | exact .inl rfl | refine ⟨_, rfl, rfl, rfl, ?_⟩ | refine ⟨_, _, rfl, ?_, ?_⟩ | refine ⟨_, rfl, ?_⟩ | refine And.intro ?_ ?_), ?_⟩
          by_cases hiq : i = q
          · refine .inr ?_
            refine part1_mx (by rw [rowsQ_len, htl]) ?_
            refine ⟨by show (i + 1) * 24 ≤ 140737488355328; omega, ?_⟩
            refine ⟨_, wrap_i64 (by omega) (by omega), ?_⟩
            refine ⟨i + 1, by omega, ent_of [] [(6, 10), (7, 8)] [] rfl (by (repeat' first | exact trivial | exact rfl | exact ⟨rfl, rfl⟩ | exact .inl rfl | refine ⟨_, rfl, rfl, rfl, ?_⟩ | refine ⟨_, _, rfl, ?_, ?_⟩ | refine ⟨_, rfl, ?_⟩ | refine And.intro ?_ ?_)) ⟨⟨_, rfl, rfl, rfl, ?_⟩, ⟨_, rfl, rfl, rfl, _, rfl, ?_⟩, by (repeat' first | exact trivial | exact rfl | exact ⟨rfl, rfl⟩ | exact .inl rfl | refine ⟨_, rfl, rfl, rfl, ?_⟩ | refine ⟨_, _, rfl, ?_, ?_⟩ | refine ⟨_, rfl, ?_⟩ | refine And.intro ?_ ?_)⟩ rfl, by show x.rows.length - (i + 1) < x.rows.length - i; omega⟩
            · show r.map i64 = (rowAt x.rows q (i + 1)).map i64
              rw [hiq, rowAt_at (by omega), hr, hiq]
            · have e1 : rowsQ (x.rows.take (i + 1)) q 7 = ((x.rows.take i).map ints).map AV.p ++ [.sl 7 1 0 r.length] := by
                rw [take_rw hil, ← hr]
                have := rowsQ_last (rs := x.rows.take i) (s := 7) r
                rw [htl, hiq] at this
                rw [hiq]; exact this
              show SeeL _ _ _ (rowsQ (x.rows.take i) q 7 ++ [AV.sl 8 1 0 (r.map i64).length]) (rowsQ (x.rows.take (i + 1)) q 7)
              rw [e1, rowsQ_out (by omega)]
              refine seeL_app (seeL_p _) ⟨_, _, rfl, ?_, rfl⟩
              show AV.sl 8 1 0 (r.map i64).length = AV.sl 8 1 0 r.length
              rw [List.length_map]
          · refine .inl ⟨[8], [ints r], rfl, ⟨_, _, rfl, ⟨_, rfl, by show 0 + (r.map i64).length ≤ (r.map i64).length; omega, takeAll (by simp)⟩, rfl⟩, ?_⟩
            refine part1_mx (by rw [rowsQ_len, htl]) ?_
            refine ⟨by show (i + 1) * 24 ≤ 140737488355328; omega, ?_⟩
            refine ⟨_, wrap_i64 (by omega) (by omega), ?_⟩
            refine ⟨i + 1, by omega, ent_of [] [(6, 10)] [] rfl (by (repeat' first | exact trivial | exact rfl | exact ⟨rfl, rfl⟩ | exact .inl rfl | refine ⟨_, rfl, rfl, rfl, ?_⟩ | refine ⟨_, _, rfl, ?_, ?_⟩ | refine ⟨_, rfl, ?_⟩ | refine And.intro ?_ ?_)) ⟨⟨_, rfl, rfl, rfl, ?_⟩, ⟨_, rfl, rfl, rfl, _, rfl, ?_⟩, by (repeat' first | exact trivial | exact rfl | exact ⟨rfl, rfl⟩ | exact .inl rfl | refine ⟨_, rfl, rfl, rfl, ?_⟩ | refine ⟨_, _, rfl, ?_, ?_⟩ | refine ⟨_, rfl, ?_⟩ | refine And.intro ?_ ?_)⟩ rfl, by show x.rows.length - (i + 1) < x.rows.length - i; omega⟩
            · show (rowAt x.rows q i).map i64 = (rowAt x.rows q (i + 1)).map i64
              rw [rowAt_step hil hiq]
            · show SeeL _ _ _ (rowsQ (x.rows.take i) q 7 ++ [AV.p (ints r)]) (rowsQ (x.rows.take (i + 1)) q 7)
              rw [take_rw hil, ← hr, rowsQ_snoc (by omega)]
              exact seeL_app (seeL_setS (seeL_p _) rfl) (seeL_p [ints r])
        have h2 : ¬ (i : Int) < ((x.rows.map ints).length : Nat) := h2
        rw [List.length_map] at h2
        have hie : i = x.rows.length := by omega
        subst hie
        refine ⟨by show 0 + 1 ≤ 1; omega, [[.p (i64 x.card), .sl 5 1 0 x.parents.length, .sl 6 1 0 x.rows.length]], rfl, ?_⟩
        refine .inr ?_
        refine ⟨by show 0 + v ≤ ((n.nodes.take v).map Nd.cells).length; rw [List.length_map, List.length_take]; omega, (n.nodes.take v).map Nd.cells, takeAll (by rw [List.length_map, List.length_take]; omega), by show (v + 1) * 56 ≤ 140737488355328; omega, mapsP ((n.nodes.take v).map Nd.cells) ++ [[.p (i64 x.card), .sl 5 1 0 x.parents.length, .sl 6 1 0 x.rows.length]], rfl, ?_⟩
        refine ⟨_, wrap_i64 (by omega) (by omega), ?_⟩
        refine ⟨(true, v + 1), ⟨by simp only []; omega, fun h => by simp at h, fun _ => by simp only []; omega⟩, ent_of [] [(3, 9), (4, 6), (5, 7), (6, 5)] [] rfl (by (repeat' first | exact trivial | exact rfl | exact ⟨rfl, rfl⟩ | exact .inl rfl | refine ⟨_, rfl, rfl, rfl, ?_⟩ | refine ⟨_, _, rfl, ?_, ?_⟩ | refine ⟨_, rfl, ?_⟩ | refine And.intro ?_ ?_)) ⟨⟨_, rfl, rfl, rfl, congrArg (fun z : Nd => z.parents.map i64) hxy⟩, ⟨_, rfl, rfl, rfl, ?_⟩, ⟨_, rfl, rfl, rfl, _, rfl, ?_⟩, ⟨_, rfl, rfl, rfl, _, rfl, ?_⟩, by (repeat' first | exact trivial | exact rfl | exact ⟨rfl, rfl⟩ | exact .inl rfl | refine ⟨_, rfl, rfl, rfl, ?_⟩ | refine ⟨_, _, rfl, ?_, ?_⟩ | refine ⟨_, rfl, ?_⟩ | refine And.intro ?_ ?_)⟩ rfl, by show N - (v + 1) < N - v; omega⟩
        · show (rowAt x.rows q x.rows.length).map i64 = (y.rows.getD q []).map i64
          rw [rowAt, take_all (Nat.le_refl _), hxy]
        · show SeeL _ _ _ (rowsQ (x.rows.take x.rows.length) q 7) (rowsQ y.rows q 5)
          rw [take_all (Nat.le_refl _), hxy]
          exact seeL_setS (seeL_p _) rfl
        · show SeeLL _ _ _ (mapsP ((n.nodes.take v).map Nd.cells) ++ [[.p (i64 x.card), .sl 5 1 0 x.parents.length, .sl 6 1 0 x.rows.length]]) (nodesQ (n.nodes.take (v + 1)) a 4)
          have htv : (n.nodes.take v).length = v := by rw [List.length_take]; omega
          have := nodesQ_last (l := n.nodes.take v) (s := 4) x
          rw [htv, hve] at this
          rw [take_nd hk, ← hx, hve, this]
          exact seeLL_app (seeLL_p _) ⟨_, _, rfl, ⟨_, _, rfl, rfl, _, _, rfl, rfl, _, _, rfl, rfl, rfl⟩, rfl⟩
    · have h1 : ¬ (v : Int) < ((n.nodes.map Nd.cells).length : Nat) := h1
      rw [List.length_map] at h1
      have hN0 : N = 0 := by
        rcases Nat.eq_zero_or_pos N with h | h
        · exact h
        · have := Nat.mod_lt B.place.toNat h
          omega
      have hv0 : v = 0 := by omega
      subst hv0
      refine And.intro (fun _ => ?_) (fun h => absurd rfl h)
      exact endN (⟨n.grain, []⟩ : Nt).pv rfl ⟨_, rfl, _, _, rfl, rfl, _, _, rfl, ⟨_, rfl, by simp, rfl⟩, rfl⟩ ⟨_, ⟨by simp, by simp, by simp, by simp⟩, rfl⟩
  have hva : a < v := g3 rfl
  have g1 : v ≤ N := g1
  have htv : (n.nodes.take v).length = v := by rw [List.length_take]; omega
  (first | refine brLt (fun h1 => ?_) (fun h1 => ?_) | refine brLe (fun h1 => ?_) (fun h1 => ?_) | refine brEq (fun h1 => ?_) (fun h1 => ?_))
  · have h1 : (v : Int) < ((n.nodes.map Nd.cells).length : Nat) := h1
    rw [List.length_map] at h1
    have hk : v < n.nodes.length := by omega
    obtain ⟨x, hx⟩ : ∃ x, x = n.nodes.getD v nd0 := ⟨_, rfl⟩
    have hxm : x ∈ n.nodes := by rw [hx]; exact getD_memL nd0 hk
    have hxp := hn.par x hxm
    have hxr := hn.rows x hxm
    refine ⟨_, ⟨by omega, x.cells, by rw [hx]; exact ncell hk, rfl⟩, ?_⟩
    refine VDraw.seq rfl ?_
    refine ⟨_, ⟨by omega, x.cells, by rw [hx]; exact ncell hk, rfl⟩, ?_⟩
    refine ⟨by show (x.parents.map i64).length * 8 ≤ 140737488355328; rw [List.length_map]; omega, ?_⟩
    refine ⟨Nat, fun i => [(2, .ptr 0 0 0), (3, .ptr 1 0 0), (4, .ptr 2 0 0), (5, .sl 3 3 0 v), (6, .p (i64 v)), (7, .ptr 7 0 0), (8, .p (i64 i))], fun i => ⟨7 + 3, ((7 + 2), rO (x.rows.take i)) :: (7, xvO x (7 + 2) i) :: [(6, iO y.parents), (5, iO (y.rows.getD q [])), (4, rqO y.rows q 5), (3, mO (nodesQ (n.nodes.take v) a 4)), (2, znO), (1, ntO n), (0, b5O B)]⟩, fun i => i ≤ x.rows.length, fun i => x.rows.length - i, ?_, ?_⟩
    · refine ⟨0, Nat.zero_le _, ent_of [7 + 1] [] [(7 + 2, 1)] rfl (by (repeat' first | exact trivial | exact rfl | exact ⟨rfl, rfl⟩ | exact .inl rfl | refine ⟨_, rfl, rfl, rfl, ?_⟩ | refine ⟨_, _, rfl, ?_, ?_⟩ | refine ⟨_, rfl, ?_⟩ | refine And.intro ?_ ?_)) ⟨⟨rfl, rfl, rfl⟩, ⟨_, rfl, rfl, rfl, _, rfl, ?_⟩, ⟨⟨_, rfl, rfl, rfl, rfl⟩, ⟨_, rfl, rfl, rfl, rfl⟩, ⟨_, rfl, rfl, rfl, _, rfl, seeL_setS (seeL_p _) rfl⟩, ⟨_, rfl, rfl, rfl, _, rfl, seeLL_set (seeLL_p _) ⟨_, _, rfl, rfl, _, _, rfl, rfl, _, _, rfl, rfl, rfl⟩⟩, by (repeat' first | exact trivial | exact rfl | exact ⟨rfl, rfl⟩ | exact .inl rfl | refine ⟨_, rfl, rfl, rfl, ?_⟩ | refine ⟨_, _, rfl, ?_, ?_⟩ | refine ⟨_, rfl, ?_⟩ | refine And.intro ?_ ?_)⟩⟩ rfl⟩
      exact ⟨_, _, rfl, rfl, _, _, rfl, ⟨_, rfl, by show 0 + (x.parents.map i64).length ≤ (x.parents.map i64).length; omega, takeAll (by simp)⟩, _, _, rfl, ⟨rfl, rfl, rfl, rfl⟩, rfl⟩
    intro i hi
    refine ⟨_, ⟨by omega, x.cells, by rw [hx]; exact ncell hk, rfl⟩, ?_⟩
    (first | refine brLt (fun h2 => ?_) (fun h2 => ?_) | refine brLe (fun h2 => ?_) (fun h2 => ?_) | refine brEq (fun h2 => ?_) (fun h2 => ?_))
    · have h2 : (i : Int) < ((x.rows.map ints).length : Nat) := h2
      rw [List.length_map] at h2
      have hil : i < x.rows.length := by omega
      obtain ⟨r, hr⟩ : ∃ r, r = x.rows.getD i [] := ⟨_, rfl⟩
      have hrl := hn.row x hxm r (by rw [hr]; exact getD_memL [] hil)
      refine VDraw.seq rfl ?_
      refine ⟨_, ⟨by omega, x.cells, by rw [hx]; exact ncell hk, rfl⟩, ?_⟩
      refine ⟨_, ⟨by omega, ints r, by rw [hr]; exact ccell hil, rfl⟩, ?_⟩
      refine ⟨by show (r.map i64).length * 8 ≤ 140737488355328; rw [List.length_map]; omega, ?_⟩
      repeat refine ⟨by (repeat' first | exact trivial | exact rfl | exact ⟨rfl, rfl⟩ | exact .inl rfl | refine ⟨_, rfl, rfl, rfl, ?_⟩ | refine ⟨_, _, rfl, ?_, ?_⟩ | refine ⟨_, rfl, ?_⟩ | refine And.intro ?_ ?_), ?_⟩
      refine .inl ⟨[7 + 3], [ints r], rfl, ⟨_, _, rfl, ⟨_, rfl, by show 0 + (r.map i64).length ≤ (r.map i64).length; omega, takeAll (by simp)⟩, rfl⟩, ?_⟩
      refine ⟨by show 0 + i ≤ ((x.rows.take i).map ints).length; rw [List.length_map, List.length_take]; omega, (x.rows.take i).map ints, takeAll (by rw [List.length_map, List.length_take]; omega), by show (i + 1) * 24 ≤ 140737488355328; omega, (x.rows.take (i + 1)).map ints, by rw [take_rw hil, ← hr]; simp, ?_⟩
      refine ⟨_, wrap_i64 (by omega) (by omega), ?_⟩
      exact ⟨i + 1, by omega, ent_of [] [(7 + 2, 7 + 5)] [] rfl (by (repeat' first | exact trivial | exact rfl | exact ⟨rfl, rfl⟩ | exact .inl rfl | refine ⟨_, rfl, rfl, rfl, ?_⟩ | refine ⟨_, _, rfl, ?_, ?_⟩ | refine ⟨_, rfl, ?_⟩ | refine And.intro ?_ ?_)) ⟨⟨_, rfl, rfl, rfl, rfl⟩, ⟨_, rfl, rfl, rfl, _, rfl, by (repeat' first | exact trivial | exact rfl | exact ⟨rfl, rfl⟩ | exact .inl rfl | refine ⟨_, rfl, rfl, rfl, ?_⟩ | refine ⟨_, _, rfl, ?_, ?_⟩ | refine ⟨_, rfl, ?_⟩ | refine And.intro ?_ ?_)⟩, ⟨⟨_, rfl, rfl, rfl, rfl⟩, ⟨_, rfl, rfl, rfl, rfl⟩, ⟨_, rfl, rfl, rfl, _, rfl, seeL_setS (seeL_p _) rfl⟩, ⟨_, rfl, rfl, rfl, _, rfl, seeLL_set (seeLL_p _) ⟨_, _, rfl, rfl, _, _, rfl, rfl, _, _, rfl, rfl, rfl⟩⟩, by (repeat' first | exact trivial | exact rfl | exact ⟨rfl, rfl⟩ | exact .inl rfl | refine ⟨_, rfl, rfl, rfl, ?_⟩ | refine ⟨_, _, rfl, ?_, ?_⟩ | refine ⟨_, rfl, ?_⟩ | refine And.intro ?_ ?_)⟩⟩ rfl, by show x.rows.length - (i + 1) < x.rows.length - i; omega⟩
    have h2 : ¬ (i : Int) < ((x.rows.map ints).length : Nat) := h2
    rw [List.length_map] at h2
    have hie : i = x.rows.length := by omega
    subst hie
    refine ⟨by show 0 + 1 ≤ 1; omega, [[.p (i64 x.card), .p (ints x.parents), .sl (7 + 2) 1 0 x.rows.length]], rfl, ?_⟩
    refine .inl ⟨[7 + 2], [x.cells], rfl, ⟨_, _, rfl, ⟨_, _, rfl, rfl, _, _, rfl, rfl, _, _, rfl, ⟨_, rfl, by show 0 + x.rows.length ≤ ((x.rows.take x.rows.length).map ints).length; rw [take_all (Nat.le_refl _), List.length_map]; omega, by show x.rows.map ints = (((x.rows.take x.rows.length).map ints).drop 0).take x.rows.length; rw [take_all (Nat.le_refl _)]; exact takeAll (by simp)⟩, rfl⟩, rfl⟩, ?_⟩
    refine ⟨by show 0 + v ≤ (nodesQ (n.nodes.take v) a 4).length; rw [nodesQ_len]; omega, nodesQ (n.nodes.take v) a 4, takeAll (by rw [nodesQ_len, htv]), by show (v + 1) * 56 ≤ 140737488355328; omega, nodesQ (n.nodes.take (v + 1)) a 4, by rw [take_nd hk, ← hx, nodesQ_snoc (by omega)], ?_⟩
    refine ⟨_, wrap_i64 (by omega) (by omega), ?_⟩
    refine ⟨(true, v + 1), ⟨by simp only []; omega, fun h => by simp at h, fun _ => by simp only []; omega⟩, ent_of [] [(3, 11)] [] rfl (by (repeat' first | exact trivial | exact rfl | exact ⟨rfl, rfl⟩ | exact .inl rfl | refine ⟨_, rfl, rfl, rfl, ?_⟩ | refine ⟨_, _, rfl, ?_, ?_⟩ | refine ⟨_, rfl, ?_⟩ | refine And.intro ?_ ?_)) ⟨⟨_, rfl, rfl, rfl, rfl⟩, ⟨_, rfl, rfl, rfl, rfl⟩, ⟨_, rfl, rfl, rfl, _, rfl, seeL_setS (seeL_p _) rfl⟩, ⟨_, rfl, rfl, rfl, _, rfl, seeLL_set (seeLL_p _) ⟨_, _, rfl, rfl, _, _, rfl, rfl, _, _, rfl, rfl, rfl⟩⟩, by (repeat' first | exact trivial | exact rfl | exact ⟨rfl, rfl⟩ | exact .inl rfl | refine ⟨_, rfl, rfl, rfl, ?_⟩ | refine ⟨_, _, rfl, ?_, ?_⟩ | refine ⟨_, rfl, ?_⟩ | refine And.intro ?_ ?_)⟩ rfl, by show N - (v + 1) < N - v; omega⟩
  have h1 : ¬ (v : Int) < ((n.nodes.map Nd.cells).length : Nat) := h1
  rw [List.length_map] at h1
  have hvN : v = N := by omega
  subst hvN
  have hNp : 0 < v := by omega
  have htk : n.nodes.take v = n.nodes := take_all (by omega)
  have hym : y ∈ n.nodes := by rw [hy]; exact getD_memL nd0 (by omega)
  have hyp := hn.par y hym
  have hyr := hn.rows y hym
  have e1 : ((B.place.toNat : Nat) : Int).tmod (v : Nat) = ((a : Nat) : Int) := by rw [ha]; rfl
  have hX : (nodesQ (n.nodes.take v) a 4)[0 + (((B.place.toNat : Nat) : Int).tmod (v : Nat)).toNat]? = some [.p (i64 y.card), .sl 6 1 0 y.parents.length, .sl 4 1 0 y.rows.length] := by
    rw [e1, Int.toNat_natCast, Nat.zero_add, htk, nodesQ, ← hy]
    exact set_at (by rw [mapsP_length, List.length_map]; omega)
  have hbig : ∀ {g : Int}, BigN ⟨g, n.nodes⟩ := fun {g} => ⟨by show n.nodes.length ≤ _; omega, fun x hx => by have := hn.par x hx; omega, fun x hx => by have := hn.rows x hx; omega, fun x hx r hr => by have := hn.row x hx r hr; omega⟩
  have eTk : ∀ M : List (List AV), M.length = v → (M.drop 0).take v = M := fun M h => by rw [List.drop_zero, List.take_of_length_le (by omega)]
  have hQ : nodesQ (n.nodes.take v) a 4 = nodesQ n.nodes a 4 := by rw [htk]
  have eT : 0 + (((B.place.toNat : Nat) : Int).tmod (v : Nat)).toNat = a := by rw [e1]; omega
  have hyr' : y.rows.length ≤ 2000 := by omega
  have hyw : ∀ r ∈ y.rows, r.length ≤ 2000 := fun r hr => by have := hn.row y hym r hr; omega
  have hyA : ∀ r0 : List Int, r0.length ≤ 2000 → ∀ r ∈ y.rows ++ [r0], r.length ≤ 2000 := fun r0 h r hr => by
    rcases List.mem_append.1 hr with hr | hr
    · exact hyw r hr
    · simp only [List.mem_singleton] at hr; rw [hr]; exact h
  have eq2 : ((B.row.toNat : Nat) : Int).tmod (y.rows.length : Nat) = ((q : Nat) : Int) := by rw [hq]; rfl
  have hyS : ∀ r0 : List Int, r0.length = (y.rows.getD q []).length → ∀ r ∈ y.rows.set q r0, r.length ≤ 2000 := fun r0 h r hr => by
    rcases List.mem_or_eq_of_mem_set hr with hr | rfl
    · exact hyw r hr
    · rw [h, List.getD_eq_getElem?_getD]
      cases hg : y.rows[q]? with
      | none => simp
      | some z => exact hyw z (List.mem_of_getElem? hg)
  have hset : ∀ {g : Int} {x' : Nd}, x'.parents.length ≤ 2000 → x'.rows.length ≤ 2000 → (∀ r ∈ x'.rows, r.length ≤ 2000) → BigN ⟨g, n.nodes.set a x'⟩ := fun {g x'} h1 h2 h3 => by
    refine ⟨by show (n.nodes.set a x').length ≤ _; rw [List.length_set]; omega, fun x hx => ?_, fun x hx => ?_, fun x hx r hr => ?_⟩
    · rcases List.mem_or_eq_of_mem_set hx with hx | rfl
      · have := hn.par x hx; omega
      · omega
    · rcases List.mem_or_eq_of_mem_set hx with hx | rfl
      · have := hn.rows x hx; omega
      · omega
    · rcases List.mem_or_eq_of_mem_set hx with hx | rfl
      · have := hn.row x hx r hr; omega
      · have := h3 r hr; omega
  refine And.intro (fun h => absurd (show ((v : Nat) : Int) = 0 from h) (by omega)) (fun _ => ?_)
  refine ⟨((B.place.toNat : Nat) : Int), wrap_i64 (by omega) (by omega), ?_⟩
  refine ⟨by show ((v : Nat) : Int) ≠ 0; omega, ?_⟩
  refine ⟨by show (0 : Int) ≤ ((B.place.toNat : Nat) : Int).tmod (v : Nat) ∧ ((B.place.toNat : Nat) : Int).tmod (v : Nat) < (v : Nat); rw [e1]; omega, ?_⟩
  refine ⟨_, ⟨_, hX, rfl⟩, ?_⟩
  (first | refine brLt (fun h2 => ?_) (fun h2 => ?_) | refine brLe (fun h2 => ?_) (fun h2 => ?_) | refine brEq (fun h2 => ?_) (fun h2 => ?_))
  · have h2 : (0 : Int) < (y.rows.length : Nat) := h2
    have hql : q < y.rows.length := by rw [hq]; exact Nat.mod_lt _ (by omega)
    have hrq : (y.rows.getD q []).length ≤ 1000 := hn.row y hym _ (getD_memL [] hql)
    have hw : (rowsQ y.rows q 5)[0 + ((q : Nat) : Int).toNat]? = some (.sl 5 1 0 (y.rows.getD q []).length) := by
      rw [Int.toNat_natCast, Nat.zero_add]
      exact set_at (by rw [List.length_map, List.length_map]; exact hql)
    refine VDraw.seqTo [(2, .ptr 0 0 0), (3, .ptr 1 0 0), (4, .ptr 2 0 0), (10, .ptr 3 a 0), (11, .p (i64 q))] ⟨7, [(6, iO y.parents), (5, iO (y.rows.getD q [])), (4, rqO y.rows q 5), (3, mO (nodesQ n.nodes a 4)), (2, znO), (1, nbS 3 n.grain v), (0, b5O B)]⟩ rfl ?_ ?_
    · refine ⟨((B.row.toNat : Nat) : Int), wrap_i64 (by omega) (by omega), ?_⟩
      refine ⟨_, ⟨_, hX, rfl⟩, ?_⟩
      refine ⟨by show ((y.rows.length : Nat) : Int) ≠ 0; omega, ?_⟩
      refine ent_of [] [] [] rfl ⟨⟨rfl, rfl⟩, ⟨rfl, rfl⟩, ⟨rfl, rfl⟩, ⟨rfl, congrArg (fun k => AV.ptr 3 k 0) eT⟩, congrArg i64 eq2.symm, trivial⟩ ⟨⟨_, rfl, rfl, rfl, rfl⟩, ⟨_, rfl, rfl, rfl, rfl⟩, ⟨_, rfl, rfl, rfl, _, rfl, seeL_setS (seeL_p _) rfl⟩, ⟨_, rfl, rfl, rfl, _, rfl, ?_⟩, by (repeat' first | exact trivial | exact rfl | exact ⟨rfl, rfl⟩ | exact .inl rfl | refine ⟨_, rfl, rfl, rfl, ?_⟩ | refine ⟨_, _, rfl, ?_, ?_⟩ | refine ⟨_, rfl, ?_⟩ | refine And.intro ?_ ?_)⟩ rfl
      rw [hQ]
      exact seeLL_set (seeLL_p _) ⟨_, _, rfl, rfl, _, _, rfl, rfl, _, _, rfl, rfl, rfl⟩
    clear hX
    have hX : (nodesQ n.nodes a 4)[a]? = some [.p (i64 y.card), .sl 6 1 0 y.parents.length, .sl 4 1 0 y.rows.length] := by
      rw [nodesQ, ← hy]
      exact set_at (by rw [mapsP_length, List.length_map]; omega)
    refine ⟨by decide, ?_⟩
    (first | refine brLt (fun c0 => ?_) (fun c0 => ?_) | refine brLe (fun c0 => ?_) (fun c0 => ?_) | refine brEq (fun c0 => ?_) (fun c0 => ?_))
    · refine endN (⟨B.n, n.nodes⟩ : Nt).pv rfl ⟨_, rfl, _, _, rfl, rfl, _, _, rfl, ⟨_, rfl, ?_, ?_⟩, rfl⟩ ⟨_, hbig, rfl⟩
      · show 0 + v ≤ (nodesQ n.nodes a 4).length
        rw [nodesQ_len]; omega
      · show ResLL _ (((nodesQ n.nodes a 4).drop 0).take v) (n.nodes.map Nd.cells)
        rw [eTk _ (by rw [nodesQ_len]; omega)]
        exact res_nodesQ hy ⟨_, _, rfl, rfl, _, _, rfl, ⟨_, rfl, by show 0 + y.parents.length ≤ (y.parents.map i64).length; simp, takeAll (by simp)⟩, _, _, rfl, ⟨_, y.rows.map ints, getN_len (rowsQ_len _ _ _), rfl, resL_rq rfl⟩, rfl⟩
    (first | refine brLt (fun c1 => ?_) (fun c1 => ?_) | refine brLe (fun c1 => ?_) (fun c1 => ?_) | refine brEq (fun c1 => ?_) (fun c1 => ?_))
    · refine ⟨_, hX, by show 0 + 1 ≤ 3; omega, ?_⟩
      refine endN (⟨n.grain, n.nodes.set a ⟨B.n, y.parents, y.rows⟩⟩ : Nt).pv rfl ⟨_, rfl, _, _, rfl, rfl, _, _, rfl, ⟨_, rfl, ?_, ?_⟩, rfl⟩ ⟨_, hset (x' := ⟨B.n, y.parents, y.rows⟩) (by show y.parents.length ≤ _; omega) hyr' hyw, rfl⟩
      · show 0 + v ≤ ((nodesQ n.nodes a 4).set _ _).length
        rw [List.length_set, nodesQ_len]; omega
      · show ResLL _ ((((nodesQ n.nodes a 4).set ?_ [.p (i64 B.n), .sl 6 1 0 y.parents.length, .sl 4 1 0 y.rows.length]).drop 0).take v) ((n.nodes.set a ⟨B.n, y.parents, y.rows⟩).map Nd.cells)
        rw [eTk _ (by rw [List.length_set, nodesQ_len]; omega)]
        exact res_node ⟨_, _, rfl, rfl, _, _, rfl, ⟨_, rfl, by show 0 + y.parents.length ≤ (y.parents.map i64).length; simp, takeAll (by simp)⟩, _, _, rfl, ⟨_, y.rows.map ints, getN_len (rowsQ_len _ _ _), rfl, resL_rq rfl⟩, rfl⟩
    (first | refine brLt (fun c2 => ?_) (fun c2 => ?_) | refine brLe (fun c2 => ?_) (fun c2 => ?_) | refine brEq (fun c2 => ?_) (fun c2 => ?_))
    · refine VDraw.seqTo [(2, .ptr 0 0 0), (3, .ptr 1 0 0), (4, .ptr 2 0 0)] ⟨8, [(7, iO (y.parents ++ [B.n])), (5, iO (y.rows.getD q [])), (4, rqO y.rows q 5), (3, mO ((nodesQ n.nodes a 4).set a [.p (i64 y.card), .sl 7 1 0 (y.parents.length + 1), .sl 4 1 0 y.rows.length])), (2, znO), (1, nbS 3 n.grain v)]⟩ rfl ?_ ?_
      · refine ⟨_, ⟨_, hX, rfl⟩, ?_⟩
        refine ⟨by (repeat' first | exact trivial | exact rfl | exact ⟨_, hX, rfl⟩ | refine And.intro ?_ ?_), ?_⟩
        refine ⟨by show 0 + 1 ≤ 1; omega, [i64 B.n], rfl, ?_⟩
        refine ⟨by show 0 + y.parents.length ≤ (y.parents.map i64).length; simp, y.parents.map i64, takeAll (by simp), by show (y.parents.length + 1) * 8 ≤ 140737488355328; omega, (y.parents ++ [B.n]).map i64, by simp, ?_⟩
        refine ⟨_, hX, by show 1 + 1 ≤ 3; omega, ?_⟩
        refine ent_of [] [(7, 8)] [] rfl (by (repeat' first | exact trivial | exact rfl | exact ⟨rfl, rfl⟩ | exact .inl rfl | refine ⟨_, rfl, rfl, rfl, ?_⟩ | refine ⟨_, _, rfl, ?_, ?_⟩ | refine ⟨_, rfl, ?_⟩ | refine And.intro ?_ ?_)) ⟨⟨_, rfl, rfl, rfl, rfl⟩, ⟨_, rfl, rfl, rfl, rfl⟩, ⟨_, rfl, rfl, rfl, _, rfl, seeL_setS (seeL_p _) rfl⟩, ⟨_, rfl, rfl, rfl, _, rfl, seeLL_set (seeLL_set (seeLL_p _) ⟨_, _, rfl, rfl, _, _, rfl, rfl, _, _, rfl, rfl, rfl⟩) ⟨_, _, rfl, rfl, _, _, rfl, rfl, _, _, rfl, rfl, rfl⟩⟩, by (repeat' first | exact trivial | exact rfl | exact ⟨rfl, rfl⟩ | exact .inl rfl | refine ⟨_, rfl, rfl, rfl, ?_⟩ | refine ⟨_, _, rfl, ?_, ?_⟩ | refine ⟨_, rfl, ?_⟩ | refine And.intro ?_ ?_)⟩ rfl
      refine endN (⟨n.grain, n.nodes.set a ⟨y.card, y.parents ++ [B.n], y.rows⟩⟩ : Nt).pv rfl ⟨_, rfl, _, _, rfl, rfl, _, _, rfl, ⟨_, rfl, ?_, ?_⟩, rfl⟩ ⟨_, hset (x' := ⟨y.card, y.parents ++ [B.n], y.rows⟩) (by show (y.parents ++ [B.n]).length ≤ _; rw [snoc_len]; omega) hyr' hyw, rfl⟩
      · show 0 + v ≤ ((nodesQ n.nodes a 4).set _ _).length
        rw [List.length_set, nodesQ_len]; omega
      · show ResLL _ ((((nodesQ n.nodes a 4).set ?_ [.p (i64 y.card), .sl 7 1 0 (y.parents.length + 1), .sl 4 1 0 y.rows.length]).drop 0).take v) ((n.nodes.set a ⟨y.card, y.parents ++ [B.n], y.rows⟩).map Nd.cells)
        rw [eTk _ (by rw [List.length_set, nodesQ_len]; omega)]
        exact res_node ⟨_, _, rfl, rfl, _, _, rfl, ⟨_, rfl, by show 0 + (y.parents.length + 1) ≤ ((y.parents ++ [B.n]).map i64).length; simp, takeAll (by simp)⟩, _, _, rfl, ⟨_, y.rows.map ints, getN_len (rowsQ_len _ _ _), rfl, resL_rq rfl⟩, rfl⟩
    (first | refine brLt (fun c3 => ?_) (fun c3 => ?_) | refine brLe (fun c3 => ?_) (fun c3 => ?_) | refine brEq (fun c3 => ?_) (fun c3 => ?_))
    · refine ⟨_, hX, by show 1 + 1 ≤ 3; omega, ?_⟩
      refine endN (⟨n.grain, n.nodes.set a ⟨y.card, [], y.rows⟩⟩ : Nt).pv rfl ⟨_, rfl, _, _, rfl, rfl, _, _, rfl, ⟨_, rfl, ?_, ?_⟩, rfl⟩ ⟨_, hset (x' := ⟨y.card, [], y.rows⟩) (Nat.zero_le _) hyr' hyw, rfl⟩
      · show 0 + v ≤ ((nodesQ n.nodes a 4).set _ _).length
        rw [List.length_set, nodesQ_len]; omega
      · show ResLL _ ((((nodesQ n.nodes a 4).set ?_ [.p (i64 y.card), .p .nils, .sl 4 1 0 y.rows.length]).drop 0).take v) ((n.nodes.set a ⟨y.card, [], y.rows⟩).map Nd.cells)
        rw [eTk _ (by rw [List.length_set, nodesQ_len]; omega)]
        exact res_node ⟨_, _, rfl, rfl, _, _, rfl, (.inr (.inl rfl)), _, _, rfl, ⟨_, y.rows.map ints, getN_len (rowsQ_len _ _ _), rfl, resL_rq rfl⟩, rfl⟩
    (first | refine brLt (fun c4 => ?_) (fun c4 => ?_) | refine brLe (fun c4 => ?_) (fun c4 => ?_) | refine brEq (fun c4 => ?_) (fun c4 => ?_))
    · refine VDraw.seqTo [(2, .ptr 0 0 0), (3, .ptr 1 0 0), (4, .ptr 2 0 0)] ⟨8, [(7, ⟨TI, false, .mx (rowsQ y.rows q 5 ++ [.p (ints [B.n])])⟩), (6, iO y.parents), (5, iO (y.rows.getD q [])), (3, mO ((nodesQ n.nodes a 4).set a [.p (i64 y.card), .sl 6 1 0 y.parents.length, .sl 7 1 0 (y.rows.length + 1)])), (2, znO), (1, nbS 3 n.grain v)]⟩ rfl ?_ ?_
      · refine ⟨_, ⟨_, hX, rfl⟩, ?_⟩
        refine ⟨by (repeat' first | exact trivial | exact rfl | exact ⟨_, hX, rfl⟩ | refine And.intro ?_ ?_), ?_⟩
        refine ⟨by (repeat' first | exact trivial | exact rfl | exact ⟨_, hX, rfl⟩ | refine And.intro ?_ ?_), ?_⟩
        refine .inl ⟨[7], [ints [B.n]], rfl, ⟨_, _, rfl, ⟨_, rfl, by show 0 + 1 ≤ 1; omega, rfl⟩, rfl⟩, ?_⟩
        refine part1_mx (rowsQ_len _ _ _) ?_
        refine ⟨by show (y.rows.length + 1) * 24 ≤ 140737488355328; omega, ?_⟩
        refine ⟨_, hX, by show 2 + 1 ≤ 3; omega, ?_⟩
        exact ent_of [] [(7, 9)] [] rfl (by (repeat' first | exact trivial | exact rfl | exact ⟨rfl, rfl⟩ | exact .inl rfl | refine ⟨_, rfl, rfl, rfl, ?_⟩ | refine ⟨_, _, rfl, ?_, ?_⟩ | refine ⟨_, rfl, ?_⟩ | refine And.intro ?_ ?_)) ⟨⟨_, rfl, rfl, rfl, _, rfl, seeL_app (seeL_setS (seeL_p _) rfl) (seeL_p [ints [B.n]])⟩, ⟨_, rfl, rfl, rfl, rfl⟩, ⟨_, rfl, rfl, rfl, rfl⟩, ⟨_, rfl, rfl, rfl, _, rfl, seeLL_set (seeLL_set (seeLL_p _) ⟨_, _, rfl, rfl, _, _, rfl, rfl, _, _, rfl, rfl, rfl⟩) ⟨_, _, rfl, rfl, _, _, rfl, rfl, _, _, rfl, rfl, rfl⟩⟩, by (repeat' first | exact trivial | exact rfl | exact ⟨rfl, rfl⟩ | exact .inl rfl | refine ⟨_, rfl, rfl, rfl, ?_⟩ | refine ⟨_, _, rfl, ?_, ?_⟩ | refine ⟨_, rfl, ?_⟩ | refine And.intro ?_ ?_)⟩ rfl
      refine endN (⟨n.grain, n.nodes.set a ⟨y.card, y.parents, y.rows ++ [[B.n]]⟩⟩ : Nt).pv rfl ⟨_, rfl, _, _, rfl, rfl, _, _, rfl, ⟨_, rfl, ?_, ?_⟩, rfl⟩ ⟨_, hset (x' := ⟨y.card, y.parents, y.rows ++ [[B.n]]⟩) (by show y.parents.length ≤ _; omega) (by show (y.rows ++ [[B.n]]).length ≤ _; rw [snoc_len]; omega) (hyA _ (by simp)), rfl⟩
      · show 0 + v ≤ ((nodesQ n.nodes a 4).set _ _).length
        rw [List.length_set, nodesQ_len]; omega
      · show ResLL _ ((((nodesQ n.nodes a 4).set ?_ [.p (i64 y.card), .sl 6 1 0 y.parents.length, .sl 7 1 0 (y.rows.length + 1)]).drop 0).take v) ((n.nodes.set a ⟨y.card, y.parents, y.rows ++ [[B.n]]⟩).map Nd.cells)
        rw [eTk _ (by rw [List.length_set, nodesQ_len]; omega)]
        exact res_node ⟨_, _, rfl, rfl, _, _, rfl, ⟨_, rfl, by show 0 + y.parents.length ≤ (y.parents.map i64).length; simp, takeAll (by simp)⟩, _, _, rfl, ⟨_, y.rows.map ints ++ [[B.n]].map ints, getN_len (rowsQ_len1 _ _ _ _), congrArg PV.lst List.map_append, resL_appS (resL_rq rfl) (resL_pd [[B.n]])⟩, rfl⟩
    (first | refine brLt (fun c5 => ?_) (fun c5 => ?_) | refine brLe (fun c5 => ?_) (fun c5 => ?_) | refine brEq (fun c5 => ?_) (fun c5 => ?_))
    · refine And.intro (fun _ => ?_) (fun h => absurd (show (0 : Int) ≤ (q : Nat) by omega) h)
      refine ⟨_, ⟨_, hX, rfl⟩, ?_⟩
      refine ⟨by show (0 : Int) ≤ (q : Nat) ∧ ((q : Nat) : Int) ≤ (y.rows.length : Nat); omega, ?_⟩
      refine ⟨_, hX, by show 2 + 1 ≤ 3; omega, ?_⟩
      refine endN (⟨n.grain, n.nodes.set a ⟨y.card, y.parents, y.rows.take q⟩⟩ : Nt).pv rfl ⟨_, rfl, _, _, rfl, rfl, _, _, rfl, ⟨_, rfl, ?_, ?_⟩, rfl⟩ ⟨_, hset (x' := ⟨y.card, y.parents, y.rows.take q⟩) (by show y.parents.length ≤ _; omega) (by show (y.rows.take q).length ≤ _; rw [List.length_take]; omega) (fun r hr => hyw r (List.mem_of_mem_take hr)), rfl⟩
      · show 0 + v ≤ ((nodesQ n.nodes a 4).set _ _).length
        rw [List.length_set, nodesQ_len]; omega
      · show ResLL _ ((((nodesQ n.nodes a 4).set ?_ [.p (i64 y.card), .sl 6 1 0 y.parents.length, .sl 4 1 0 q]).drop 0).take v) ((n.nodes.set a ⟨y.card, y.parents, y.rows.take q⟩).map Nd.cells)
        rw [eTk _ (by rw [List.length_set, nodesQ_len]; omega)]
        exact res_node ⟨_, _, rfl, rfl, _, _, rfl, ⟨_, rfl, by show 0 + y.parents.length ≤ (y.parents.map i64).length; simp, takeAll (by simp)⟩, _, _, rfl, ⟨(((y.rows.take q).map ints).map AV.p), (y.rows.take q).map ints, getN_rq (by omega), rfl, resL_pd _⟩, rfl⟩
    (first | refine brLt (fun c6 => ?_) (fun c6 => ?_) | refine brLe (fun c6 => ?_) (fun c6 => ?_) | refine brEq (fun c6 => ?_) (fun c6 => ?_))
    · refine And.intro (fun _ => ?_) (fun h => absurd (show (0 : Int) ≤ (q : Nat) by omega) h)
      refine ⟨_, ⟨_, hX, rfl⟩, ?_⟩
      refine ⟨by show (0 : Int) ≤ (q : Nat) ∧ ((q : Nat) : Int) < (y.rows.length : Nat); omega, ?_⟩
      show (popLoad Tryz.prog TI (.ptr 4 (0 + ((q : Nat) : Int).toNat) 0) (lget [(6, iO y.parents), (5, iO (y.rows.getD q [])), (4, rqO y.rows q 5), (3, mO (nodesQ n.nodes a 4)), (2, znO), (1, nbS 3 n.grain v), (0, b5O B)])).Then _
      refine then_mx (P := Tryz.prog) (t := TI) (o := rqO y.rows q 5) (x := .sl 5 1 0 (y.rows.getD q []).length) rfl rfl rfl hw ?_
      (first | refine brLt (fun c6b => ?_) (fun c6b => ?_) | refine brLe (fun c6b => ?_) (fun c6b => ?_) | refine brEq (fun c6b => ?_) (fun c6b => ?_))
      rotate_left
      · refine endN n.pv rfl ⟨_, rfl, _, _, rfl, rfl, _, _, rfl, ⟨_, rfl, ?_, ?_⟩, rfl⟩ ⟨_, hbig, rfl⟩
        · show 0 + v ≤ (nodesQ n.nodes a 4).length
          rw [nodesQ_len]; omega
        · show ResLL _ (((nodesQ n.nodes a 4).drop 0).take v) (n.nodes.map Nd.cells)
          rw [eTk _ (by rw [nodesQ_len]; omega)]
          exact res_nodesQ hy ⟨_, _, rfl, rfl, _, _, rfl, ⟨_, rfl, by show 0 + y.parents.length ≤ (y.parents.map i64).length; simp, takeAll (by simp)⟩, _, _, rfl, ⟨_, y.rows.map ints, getN_len (rowsQ_len _ _ _), rfl, resL_rq rfl⟩, rfl⟩
      have c6b : (0 : Int) < ((y.rows.getD q []).length : Nat) := c6b
      refine VDraw.seqTo [(2, .ptr 0 0 0), (3, .ptr 1 0 0), (4, .ptr 2 0 0)] ⟨7, [(6, iO y.parents), (5, iO ((y.rows.getD q []).set 0 B.n)), (4, rqO y.rows q 5), (3, mO (nodesQ n.nodes a 4)), (2, znO), (1, nbS 3 n.grain v)]⟩ rfl ?_ ?_
      · refine ⟨_, ⟨_, hX, rfl⟩, ?_⟩
        refine ⟨by show (0 : Int) ≤ (q : Nat) ∧ ((q : Nat) : Int) < (y.rows.length : Nat); omega, ?_⟩
        show (popLoad Tryz.prog TI (.ptr 4 (0 + ((q : Nat) : Int).toNat) 0) (lget [(6, iO y.parents), (5, iO (y.rows.getD q [])), (4, rqO y.rows q 5), (3, mO (nodesQ n.nodes a 4)), (2, znO), (1, nbS 3 n.grain v), (0, b5O B)])).Then _
        refine then_mx (P := Tryz.prog) (t := TI) (o := rqO y.rows q 5) (x := .sl 5 1 0 (y.rows.getD q []).length) rfl rfl rfl hw ?_
        refine ⟨by show (0 : Int) ≤ 0 ∧ (0 : Int) < ((y.rows.getD q []).length : Nat); omega, ?_⟩
        refine ⟨by show 0 + 0 < ((y.rows.getD q []).map i64).length; rw [List.length_map]; omega, ?_⟩
        refine ent_of [] [] [] rfl (by (repeat' first | exact trivial | exact rfl | exact ⟨rfl, rfl⟩ | exact .inl rfl | refine ⟨_, rfl, rfl, rfl, ?_⟩ | refine ⟨_, _, rfl, ?_, ?_⟩ | refine ⟨_, rfl, ?_⟩ | refine And.intro ?_ ?_)) ⟨⟨_, rfl, rfl, rfl, rfl⟩, ⟨_, rfl, rfl, rfl, ?_⟩, ⟨_, rfl, rfl, rfl, _, rfl, seeL_setS (seeL_p _) rfl⟩, ⟨_, rfl, rfl, rfl, _, rfl, seeLL_set (seeLL_p _) ⟨_, _, rfl, rfl, _, _, rfl, rfl, _, _, rfl, rfl, rfl⟩⟩, by (repeat' first | exact trivial | exact rfl | exact ⟨rfl, rfl⟩ | exact .inl rfl | refine ⟨_, rfl, rfl, rfl, ?_⟩ | refine ⟨_, _, rfl, ?_, ?_⟩ | refine ⟨_, rfl, ?_⟩ | refine And.intro ?_ ?_)⟩ rfl
        show ((y.rows.getD q []).map i64).set (0 + (0 : Int).toNat) (i64 B.n) = ((y.rows.getD q []).set 0 B.n).map i64
        rw [List.map_set]; rfl
      refine endN (⟨n.grain, n.nodes.set a ⟨y.card, y.parents, y.rows.set q ((y.rows.getD q []).set 0 B.n)⟩⟩ : Nt).pv rfl ⟨_, rfl, _, _, rfl, rfl, _, _, rfl, ⟨_, rfl, ?_, ?_⟩, rfl⟩ ⟨_, hset (x' := ⟨y.card, y.parents, y.rows.set q ((y.rows.getD q []).set 0 B.n)⟩) (by show y.parents.length ≤ _; omega) (by show (y.rows.set q ((y.rows.getD q []).set 0 B.n)).length ≤ _; rw [List.length_set]; omega) (hyS _ (List.length_set ..)), rfl⟩
      · show 0 + v ≤ (nodesQ n.nodes a 4).length
        rw [nodesQ_len]; omega
      · show ResLL _ (((nodesQ n.nodes a 4).drop 0).take v) _
        rw [eTk _ (by rw [nodesQ_len]; omega)]
        exact res_nodesS hy ⟨_, _, rfl, rfl, _, _, rfl, ⟨_, rfl, by show 0 + y.parents.length ≤ (y.parents.map i64).length; simp, takeAll (by simp)⟩, _, _, rfl, ⟨_, (y.rows.set q ((y.rows.getD q []).set 0 B.n)).map ints, getN_len (rowsQ_len _ _ _), rfl, resL_rqS rfl (List.length_set ..)⟩, rfl⟩
    (first | refine brLt (fun c7 => ?_) (fun c7 => ?_) | refine brLe (fun c7 => ?_) (fun c7 => ?_) | refine brEq (fun c7 => ?_) (fun c7 => ?_))
    · refine And.intro (fun _ => ?_) (fun h => absurd (show (0 : Int) ≤ (q : Nat) by omega) h)
      refine VDraw.seqTo [(2, .ptr 0 0 0), (3, .ptr 1 0 0), (4, .ptr 2 0 0)] ⟨8, [(7, iO (y.rows.getD q [] ++ [0])), (6, iO y.parents), (4, ⟨TI, false, .mx ((rowsQ y.rows q 5).set q (.sl 7 1 0 ((y.rows.getD q []).length + 1)))⟩), (3, mO (nodesQ n.nodes a 4)), (2, znO), (1, nbS 3 n.grain v)]⟩ rfl ?_ ?_
      · refine ⟨_, ⟨_, hX, rfl⟩, ?_⟩
        refine ⟨_, ⟨_, hX, rfl⟩, ?_⟩
        refine ⟨by show (0 : Int) ≤ (q : Nat) ∧ ((q : Nat) : Int) < (y.rows.length : Nat); omega, ?_⟩
        show (popLoad Tryz.prog TI (.ptr 4 (0 + ((q : Nat) : Int).toNat) 0) (lget [(6, iO y.parents), (5, iO (y.rows.getD q [])), (4, rqO y.rows q 5), (3, mO (nodesQ n.nodes a 4)), (2, znO), (1, nbS 3 n.grain v), (0, b5O B)])).Then _
        refine then_mx (P := Tryz.prog) (t := TI) (o := rqO y.rows q 5) (x := .sl 5 1 0 (y.rows.getD q []).length) rfl rfl rfl hw ?_
        refine ⟨by (repeat' first | exact trivial | exact rfl | exact ⟨_, hX, rfl⟩ | (refine heldAt_of rfl ?_; unfold pop; exact yld_mx (i := 0 + ((q : Nat) : Int).toNat) (n := 4) (lk := lget _) (o := rqO y.rows q 5) rfl rfl rfl hw) | refine And.intro ?_ ?_), ?_⟩
        refine ⟨by show 0 + 1 ≤ 1; omega, [i64 0], rfl, ?_⟩
        refine ⟨by show 0 + (y.rows.getD q []).length ≤ ((y.rows.getD q []).map i64).length; simp, (y.rows.getD q []).map i64, takeAll (by simp), by show ((y.rows.getD q []).length + 1) * 8 ≤ 140737488355328; omega, (y.rows.getD q [] ++ [0]).map i64, by simp, ?_⟩
        refine ⟨by (repeat' first | exact trivial | exact rfl | exact ⟨_, hX, rfl⟩ | (refine heldAt_of rfl ?_; unfold pop; exact yld_mx (i := 0 + ((q : Nat) : Int).toNat) (n := 4) (lk := lget _) (o := rqO y.rows q 5) rfl rfl rfl hw) | refine And.intro ?_ ?_), ?_⟩
        refine ⟨by show (0 : Int) ≤ (q : Nat) ∧ ((q : Nat) : Int) < (y.rows.length : Nat); omega, ?_⟩
        refine vop_store rfl ?_
        refine store_mx (C := cx) (t := TI) (tt := TI) (n := 4) (j := 0 + ((q : Nat) : Int).toNat) (v := .sl 8 1 0 ((y.rows.getD q []).length + 1)) (xs := rowsQ y.rows q 5) rfl ?_ rfl rfl rfl (by rw [rowsQ_len]; omega) ?_
        · rfl
        refine ent_of [] [(7, 8)] [] rfl (by (repeat' first | exact trivial | exact rfl | exact ⟨rfl, rfl⟩ | exact .inl rfl | refine ⟨_, rfl, rfl, rfl, ?_⟩ | refine ⟨_, _, rfl, ?_, ?_⟩ | refine ⟨_, rfl, ?_⟩ | refine And.intro ?_ ?_)) ⟨⟨_, rfl, rfl, rfl, rfl⟩, ⟨_, rfl, rfl, rfl, rfl⟩, ⟨_, rfl, rfl, rfl, _, rfl, ?_⟩, ⟨_, rfl, rfl, rfl, _, rfl, seeLL_set (seeLL_p _) ⟨_, _, rfl, rfl, _, _, rfl, rfl, _, _, rfl, rfl, rfl⟩⟩, by (repeat' first | exact trivial | exact rfl | exact ⟨rfl, rfl⟩ | exact .inl rfl | refine ⟨_, rfl, rfl, rfl, ?_⟩ | refine ⟨_, _, rfl, ?_, ?_⟩ | refine ⟨_, rfl, ?_⟩ | refine And.intro ?_ ?_)⟩ rfl
        show SeeL _ _ _ (spl (rowsQ y.rows q 5) (0 + ((q : Nat) : Int).toNat) [.sl 8 1 0 ((y.rows.getD q []).length + 1)]) ((rowsQ y.rows q 5).set q (.sl 7 1 0 ((y.rows.getD q []).length + 1)))
        rw [spl_one, Int.toNat_natCast, Nat.zero_add, rowsQ, List.set_set, List.set_set]
        exact seeL_setS (seeL_p _) rfl
      have hl1 : (y.rows.getD q [] ++ [0]).length = (y.rows.getD q []).length + 1 := snoc_len _ _
      refine endN (⟨n.grain, n.nodes.set a ⟨y.card, y.parents, y.rows.set q (y.rows.getD q [] ++ [0])⟩⟩ : Nt).pv rfl ⟨_, rfl, _, _, rfl, rfl, _, _, rfl, ⟨_, rfl, ?_, ?_⟩, rfl⟩ ⟨_, hset (x' := ⟨y.card, y.parents, y.rows.set q (y.rows.getD q [] ++ [0])⟩) (by show y.parents.length ≤ _; omega) (by show (y.rows.set q _).length ≤ _; rw [List.length_set]; omega) (fun r hr => by
        rcases List.mem_or_eq_of_mem_set hr with hr | rfl
        · exact hyw r hr
        · omega), rfl⟩
      · show 0 + v ≤ (nodesQ n.nodes a 4).length
        rw [nodesQ_len]; omega
      · show ResLL _ (((nodesQ n.nodes a 4).drop 0).take v) _
        rw [eTk _ (by rw [nodesQ_len]; omega)]
        exact res_nodesS hy ⟨_, _, rfl, rfl, _, _, rfl, ⟨_, rfl, by show 0 + y.parents.length ≤ (y.parents.map i64).length; simp, takeAll (by simp)⟩, _, _, rfl, ⟨_, (y.rows.set q (y.rows.getD q [] ++ [0])).map ints, getN_len (by rw [List.length_set, rowsQ_len]), rfl, resL_rqT rfl hl1⟩, rfl⟩
    (first | refine brLt (fun c8 => ?_) (fun c8 => ?_) | refine brLe (fun c8 => ?_) (fun c8 => ?_) | refine brEq (fun c8 => ?_) (fun c8 => ?_))
    · refine And.intro (fun _ => ?_) (fun h => absurd (show (0 : Int) ≤ (q : Nat) by omega) h)
      refine ⟨_, ⟨_, hX, rfl⟩, ?_⟩
      refine ⟨by show (0 : Int) ≤ (q : Nat) ∧ ((q : Nat) : Int) < (y.rows.length : Nat); omega, ?_⟩
      show (popLoad Tryz.prog TI (.ptr 4 (0 + ((q : Nat) : Int).toNat) 0) (lget [(6, iO y.parents), (5, iO (y.rows.getD q [])), (4, rqO y.rows q 5), (3, mO (nodesQ n.nodes a 4)), (2, znO), (1, nbS 3 n.grain v), (0, b5O B)])).Then _
      refine then_mx (P := Tryz.prog) (t := TI) (o := rqO y.rows q 5) (x := .sl 5 1 0 (y.rows.getD q []).length) rfl rfl rfl hw ?_
      (first | refine brLt (fun c8b => ?_) (fun c8b => ?_) | refine brLe (fun c8b => ?_) (fun c8b => ?_) | refine brEq (fun c8b => ?_) (fun c8b => ?_))
      rotate_left
      · refine endN n.pv rfl ⟨_, rfl, _, _, rfl, rfl, _, _, rfl, ⟨_, rfl, ?_, ?_⟩, rfl⟩ ⟨_, hbig, rfl⟩
        · show 0 + v ≤ (nodesQ n.nodes a 4).length
          rw [nodesQ_len]; omega
        · show ResLL _ (((nodesQ n.nodes a 4).drop 0).take v) (n.nodes.map Nd.cells)
          rw [eTk _ (by rw [nodesQ_len]; omega)]
          exact res_nodesQ hy ⟨_, _, rfl, rfl, _, _, rfl, ⟨_, rfl, by show 0 + y.parents.length ≤ (y.parents.map i64).length; simp, takeAll (by simp)⟩, _, _, rfl, ⟨_, y.rows.map ints, getN_len (rowsQ_len _ _ _), rfl, resL_rq rfl⟩, rfl⟩
      have c8b : (0 : Int) < ((y.rows.getD q []).length : Nat) := c8b
      refine VDraw.seqTo [(2, .ptr 0 0 0), (3, .ptr 1 0 0), (4, .ptr 2 0 0), (10, .ptr 3 a 0), (11, .p (i64 q))] ⟨8, [(7, iO (List.replicate (y.rows.getD q []).length 0)), (6, iO y.parents), (4, rqO y.rows q 7), (3, mO (nodesQ n.nodes a 4)), (2, znO), (1, nbS 3 n.grain v)]⟩ rfl ?_ ?_
      · refine ⟨_, ⟨_, hX, rfl⟩, ?_⟩
        refine ⟨_, ⟨_, hX, rfl⟩, ?_⟩
        refine ⟨by show (0 : Int) ≤ (q : Nat) ∧ ((q : Nat) : Int) < (y.rows.length : Nat); omega, ?_⟩
        show (popLoad Tryz.prog TI (.ptr 4 (0 + ((q : Nat) : Int).toNat) 0) (lget [(6, iO y.parents), (5, iO (y.rows.getD q [])), (4, rqO y.rows q 5), (3, mO (nodesQ n.nodes a 4)), (2, znO), (1, nbS 3 n.grain v), (0, b5O B)])).Then _
        refine then_mx (P := Tryz.prog) (t := TI) (o := rqO y.rows q 5) (x := .sl 5 1 0 (y.rows.getD q []).length) rfl rfl rfl hw ?_
        refine ⟨by show (0 : Int) ≤ ((y.rows.getD q []).length : Nat) ∧ ((y.rows.getD q []).length : Int) ≤ ((y.rows.getD q []).length : Nat) ∧ ((y.rows.getD q []).length : Int) * 8 ≤ 281474976710656 ∧ ((y.rows.getD q []).length : Int) ≤ 281474976710656; omega, ?_⟩
        refine ⟨by (repeat' first | exact trivial | exact rfl | exact ⟨_, hX, rfl⟩ | (refine heldAt_of rfl ?_; unfold pop; exact yld_mx (i := 0 + ((q : Nat) : Int).toNat) (n := 4) (lk := lget _) (o := rqO y.rows q 5) rfl rfl rfl hw) | refine And.intro ?_ ?_), ?_⟩
        refine ⟨by show (0 : Int) ≤ (q : Nat) ∧ ((q : Nat) : Int) < (y.rows.length : Nat); omega, ?_⟩
        refine vop_store rfl ?_
        refine store_mx (C := cx) (t := TI) (tt := TI) (n := 4) (j := 0 + ((q : Nat) : Int).toNat) (v := .sl 7 1 0 (y.rows.getD q []).length) (xs := rowsQ y.rows q 5) rfl ?_ rfl rfl rfl (by rw [rowsQ_len]; omega) ?_
        · rfl
        refine ent_of [] [] [] rfl (by (repeat' first | exact trivial | exact rfl | exact ⟨rfl, rfl⟩ | exact .inl rfl | refine ⟨_, rfl, rfl, rfl, ?_⟩ | refine ⟨_, _, rfl, ?_, ?_⟩ | refine ⟨_, rfl, ?_⟩ | refine And.intro ?_ ?_)) ⟨⟨_, rfl, rfl, rfl, ?_⟩, ⟨_, rfl, rfl, rfl, rfl⟩, ⟨_, rfl, rfl, rfl, _, rfl, ?_⟩, ⟨_, rfl, rfl, rfl, _, rfl, seeLL_set (seeLL_p _) ⟨_, _, rfl, rfl, _, _, rfl, rfl, _, _, rfl, rfl, rfl⟩⟩, by (repeat' first | exact trivial | exact rfl | exact ⟨rfl, rfl⟩ | exact .inl rfl | refine ⟨_, rfl, rfl, rfl, ?_⟩ | refine ⟨_, _, rfl, ?_, ?_⟩ | refine ⟨_, rfl, ?_⟩ | refine And.intro ?_ ?_)⟩ rfl
        · show List.replicate ((y.rows.getD q []).length : Int).toNat (i64 0) = (List.replicate (y.rows.getD q []).length (0 : Int)).map i64
          rw [Int.toNat_natCast, List.map_replicate]
        · show SeeL _ _ _ (spl (rowsQ y.rows q 5) (0 + ((q : Nat) : Int).toNat) [.sl 7 1 0 (y.rows.getD q []).length]) (rowsQ y.rows q 7)
          have e : spl (rowsQ y.rows q 5) (0 + ((q : Nat) : Int).toNat) [AV.sl 7 1 0 (y.rows.getD q []).length] = rowsQ y.rows q 7 := by rw [spl_one, Int.toNat_natCast, Nat.zero_add, rowsQ_move]
          rw [e]
          exact seeL_setS (seeL_p _) rfl
      have hw7 : (rowsQ y.rows q 7)[0 + ((q : Nat) : Int).toNat]? = some (.sl 7 1 0 (y.rows.getD q []).length) := by
        rw [Int.toNat_natCast, Nat.zero_add]
        exact set_at (by rw [List.length_map, List.length_map]; exact hql)
      refine VDraw.seqTo [(2, .ptr 0 0 0), (3, .ptr 1 0 0), (4, .ptr 2 0 0)] ⟨8, [(7, iO ((List.replicate (y.rows.getD q []).length 0).set 0 n.grain)), (6, iO y.parents), (4, rqO y.rows q 7), (3, mO (nodesQ n.nodes a 4)), (2, znO), (1, nbS 3 n.grain v)]⟩ rfl ?_ ?_
      · refine ⟨_, ⟨_, hX, rfl⟩, ?_⟩
        refine ⟨by show (0 : Int) ≤ (q : Nat) ∧ ((q : Nat) : Int) < (y.rows.length : Nat); omega, ?_⟩
        show (popLoad Tryz.prog TI (.ptr 4 (0 + ((q : Nat) : Int).toNat) 0) (lget [(7, iO (List.replicate (y.rows.getD q []).length 0)), (6, iO y.parents), (4, rqO y.rows q 7), (3, mO (nodesQ n.nodes a 4)), (2, znO), (1, nbS 3 n.grain v)])).Then _
        refine then_mx (P := Tryz.prog) (t := TI) (o := rqO y.rows q 7) (x := .sl 7 1 0 (y.rows.getD q []).length) rfl rfl rfl hw7 ?_
        refine ⟨by show (0 : Int) ≤ 0 ∧ (0 : Int) < ((y.rows.getD q []).length : Nat); omega, ?_⟩
        refine ⟨by show 0 + 0 < ((List.replicate (y.rows.getD q []).length (0 : Int)).map i64).length; rw [List.length_map, List.length_replicate]; omega, ?_⟩
        refine ent_of [] [] [] rfl (by (repeat' first | exact trivial | exact rfl | exact ⟨rfl, rfl⟩ | exact .inl rfl | refine ⟨_, rfl, rfl, rfl, ?_⟩ | refine ⟨_, _, rfl, ?_, ?_⟩ | refine ⟨_, rfl, ?_⟩ | refine And.intro ?_ ?_)) ⟨⟨_, rfl, rfl, rfl, ?_⟩, ⟨_, rfl, rfl, rfl, rfl⟩, ⟨_, rfl, rfl, rfl, _, rfl, seeL_setS (seeL_p _) rfl⟩, ⟨_, rfl, rfl, rfl, _, rfl, seeLL_set (seeLL_p _) ⟨_, _, rfl, rfl, _, _, rfl, rfl, _, _, rfl, rfl, rfl⟩⟩, by (repeat' first | exact trivial | exact rfl | exact ⟨rfl, rfl⟩ | exact .inl rfl | refine ⟨_, rfl, rfl, rfl, ?_⟩ | refine ⟨_, _, rfl, ?_, ?_⟩ | refine ⟨_, rfl, ?_⟩ | refine And.intro ?_ ?_)⟩ rfl
        show ((List.replicate (y.rows.getD q []).length (0 : Int)).map i64).set (0 + (0 : Int).toNat) (i64 n.grain) = ((List.replicate (y.rows.getD q []).length (0 : Int)).set 0 n.grain).map i64
        rw [List.map_set]; rfl
      have hl8 : ((List.replicate (y.rows.getD q []).length (0 : Int)).set 0 n.grain).length = (y.rows.getD q []).length := by rw [List.length_set, List.length_replicate]
      refine endN (⟨n.grain, n.nodes.set a ⟨y.card, y.parents, y.rows.set q ((List.replicate (y.rows.getD q []).length (0 : Int)).set 0 n.grain)⟩⟩ : Nt).pv rfl ⟨_, rfl, _, _, rfl, rfl, _, _, rfl, ⟨_, rfl, ?_, ?_⟩, rfl⟩ ⟨_, hset (x' := ⟨y.card, y.parents, y.rows.set q ((List.replicate (y.rows.getD q []).length (0 : Int)).set 0 n.grain)⟩) (by show y.parents.length ≤ _; omega) (by show (y.rows.set q ((List.replicate (y.rows.getD q []).length (0 : Int)).set 0 n.grain)).length ≤ _; rw [List.length_set]; omega) (hyS _ hl8), rfl⟩
      · show 0 + v ≤ (nodesQ n.nodes a 4).length
        rw [nodesQ_len]; omega
      · show ResLL _ (((nodesQ n.nodes a 4).drop 0).take v) _
        rw [eTk _ (by rw [nodesQ_len]; omega)]
        exact res_nodesS hy ⟨_, _, rfl, rfl, _, _, rfl, ⟨_, rfl, by show 0 + y.parents.length ≤ (y.parents.map i64).length; simp, takeAll (by simp)⟩, _, _, rfl, ⟨_, (y.rows.set q ((List.replicate (y.rows.getD q []).length (0 : Int)).set 0 n.grain)).map ints, getN_len (rowsQ_len _ _ _), rfl, resL_rqS rfl hl8⟩, rfl⟩
    (first | refine brLt (fun c9 => ?_) (fun c9 => ?_) | refine brLe (fun c9 => ?_) (fun c9 => ?_) | refine brEq (fun c9 => ?_) (fun c9 => ?_))
    · refine And.intro (fun _ => ?_) (fun h => absurd (show (0 : Int) ≤ (q : Nat) by omega) h)
      refine VDraw.seq rfl ?_
      refine ⟨_, ⟨_, hX, rfl⟩, ?_⟩
      refine ⟨by show (0 : Int) ≤ (q : Nat) ∧ ((q : Nat) : Int) < (y.rows.length : Nat); omega, ?_⟩
      show (popLoad Tryz.prog TI (.ptr 4 (0 + ((q : Nat) : Int).toNat) 0) (lget [(6, iO y.parents), (5, iO (y.rows.getD q [])), (4, rqO y.rows q 5), (3, mO (nodesQ n.nodes a 4)), (2, znO), (1, nbS 3 n.grain v), (0, b5O B)])).Then _
      refine then_mx (P := Tryz.prog) (t := TI) (o := rqO y.rows q 5) (x := .sl 5 1 0 (y.rows.getD q []).length) rfl rfl rfl hw ?_
      refine ⟨((y.rows.getD q []).length : Int) - 1, wrap_i64 (by omega) (by omega), ?_⟩
      refine ⟨Nat × List Int, fun x => [(2, .ptr 0 0 0), (3, .ptr 1 0 0), (4, .ptr 2 0 0), (10, .ptr 3 a 0), (11, .p (i64 q)), (12, .p (i64 x.1)), (13, .p (i64 (((y.rows.getD q []).length : Int) - 1 - x.1)))], fun x => ⟨7, [(6, iO y.parents), (5, iO x.2), (4, rqO y.rows q 5), (3, mO (nodesQ n.nodes a 4)), (2, znO), (1, nbS 3 n.grain v)]⟩, fun x => x.1 ≤ 1000 ∧ x.2.length = (y.rows.getD q []).length, fun x => 1000 - x.1, ?_, ?_⟩
      · refine ⟨(0, y.rows.getD q []), ⟨Nat.zero_le _, rfl⟩, ent_of [] [] [] rfl ⟨⟨rfl, rfl⟩, ⟨rfl, rfl⟩, ⟨rfl, rfl⟩, ⟨rfl, rfl⟩, rfl, rfl, ?_, trivial⟩ ⟨⟨_, rfl, rfl, rfl, rfl⟩, ⟨_, rfl, rfl, rfl, rfl⟩, ⟨_, rfl, rfl, rfl, _, rfl, seeL_setS (seeL_p _) rfl⟩, ⟨_, rfl, rfl, rfl, _, rfl, seeLL_set (seeLL_p _) ⟨_, _, rfl, rfl, _, _, rfl, rfl, _, _, rfl, rfl, rfl⟩⟩, by (repeat' first | exact trivial | exact rfl | exact ⟨rfl, rfl⟩ | exact .inl rfl | refine ⟨_, rfl, rfl, rfl, ?_⟩ | refine ⟨_, _, rfl, ?_, ?_⟩ | refine ⟨_, rfl, ?_⟩ | refine And.intro ?_ ?_)⟩ rfl⟩
        exact congrArg i64 (by simp only []; omega)
      rintro ⟨i, r⟩ ⟨i1, i2⟩
      simp only [] at i1 i2
      (first | refine brLt (fun c9b => ?_) (fun c9b => ?_) | refine brLe (fun c9b => ?_) (fun c9b => ?_) | refine brEq (fun c9b => ?_) (fun c9b => ?_))
      · have c9b : (i : Int) < ((y.rows.getD q []).length : Int) - 1 - i := c9b
        obtain ⟨k, hk⟩ : ∃ k : Nat, ((y.rows.getD q []).length : Int) - 1 - i = (k : Nat) := ⟨((y.rows.getD q []).length - 1 - i), by omega⟩
        refine ⟨_, ⟨_, hX, rfl⟩, ?_⟩
        refine ⟨by show (0 : Int) ≤ (q : Nat) ∧ ((q : Nat) : Int) < (y.rows.length : Nat); omega, ?_⟩
        show (popLoad Tryz.prog TI (.ptr 4 (0 + ((q : Nat) : Int).toNat) 0) (lget [(6, iO y.parents), (5, iO r), (4, rqO y.rows q 5), (3, mO (nodesQ n.nodes a 4)), (2, znO), (1, nbS 3 n.grain v)])).Then _
        refine then_mx (P := Tryz.prog) (t := TI) (o := rqO y.rows q 5) (x := .sl 5 1 0 (y.rows.getD q []).length) rfl rfl rfl hw ?_
        refine ⟨by show (0 : Int) ≤ (i : Nat) ∧ ((i : Nat) : Int) < ((y.rows.getD q []).length : Nat); omega, ?_⟩
        refine ⟨_, ⟨i64 (r.getD i 0), by show (r.map i64)[0 + ((i : Nat) : Int).toNat]? = _; rw [Nat.zero_add, Int.toNat_natCast]; exact icell (by omega), rfl⟩, ?_⟩
        refine VDraw.seqTo [(2, .ptr 0 0 0), (3, .ptr 1 0 0), (4, .ptr 2 0 0), (10, .ptr 3 a 0), (11, .p (i64 q)), (12, .p (i64 i)), (13, .p (i64 k)), (14, .p (i64 (r.getD i 0)))] ⟨7, [(6, iO y.parents), (5, iO (r.set i (r.getD k 0))), (4, rqO y.rows q 5), (3, mO (nodesQ n.nodes a 4)), (2, znO), (1, nbS 3 n.grain v)]⟩ rfl ?_ ?_
        · refine ⟨_, ⟨_, hX, rfl⟩, ?_⟩
          refine ⟨by show (0 : Int) ≤ (q : Nat) ∧ ((q : Nat) : Int) < (y.rows.length : Nat); omega, ?_⟩
          show (popLoad Tryz.prog TI (.ptr 4 (0 + ((q : Nat) : Int).toNat) 0) (lget [(6, iO y.parents), (5, iO r), (4, rqO y.rows q 5), (3, mO (nodesQ n.nodes a 4)), (2, znO), (1, nbS 3 n.grain v)])).Then _
          refine then_mx (P := Tryz.prog) (t := TI) (o := rqO y.rows q 5) (x := .sl 5 1 0 (y.rows.getD q []).length) rfl rfl rfl hw ?_
          refine ⟨_, ⟨_, hX, rfl⟩, ?_⟩
          refine ⟨by show (0 : Int) ≤ (q : Nat) ∧ ((q : Nat) : Int) < (y.rows.length : Nat); omega, ?_⟩
          show (popLoad Tryz.prog TI (.ptr 4 (0 + ((q : Nat) : Int).toNat) 0) (lget [(6, iO y.parents), (5, iO r), (4, rqO y.rows q 5), (3, mO (nodesQ n.nodes a 4)), (2, znO), (1, nbS 3 n.grain v)])).Then _
          refine then_mx (P := Tryz.prog) (t := TI) (o := rqO y.rows q 5) (x := .sl 5 1 0 (y.rows.getD q []).length) rfl rfl rfl hw ?_
          refine ⟨by show (0 : Int) ≤ ((y.rows.getD q []).length : Int) - 1 - i ∧ ((y.rows.getD q []).length : Int) - 1 - i < ((y.rows.getD q []).length : Nat); omega, ?_⟩
          refine ⟨_, ⟨i64 (r.getD k 0), by show (r.map i64)[0 + (((y.rows.getD q []).length : Int) - 1 - i).toNat]? = _; rw [hk, Nat.zero_add, Int.toNat_natCast]; exact icell (by omega), rfl⟩, ?_⟩
          refine ⟨by show (0 : Int) ≤ (i : Nat) ∧ ((i : Nat) : Int) < ((y.rows.getD q []).length : Nat); omega, ?_⟩
          refine ⟨by show 0 + ((i : Nat) : Int).toNat < (r.map i64).length; rw [List.length_map]; omega, ?_⟩
          refine ent_of [] [] [] rfl ⟨⟨rfl, rfl⟩, ⟨rfl, rfl⟩, ⟨rfl, rfl⟩, ⟨rfl, rfl⟩, rfl, rfl, congrArg i64 hk.symm, rfl, trivial⟩ ⟨⟨_, rfl, rfl, rfl, rfl⟩, ⟨_, rfl, rfl, rfl, ?_⟩, ⟨_, rfl, rfl, rfl, _, rfl, seeL_setS (seeL_p _) rfl⟩, ⟨_, rfl, rfl, rfl, _, rfl, seeLL_set (seeLL_p _) ⟨_, _, rfl, rfl, _, _, rfl, rfl, _, _, rfl, rfl, rfl⟩⟩, by (repeat' first | exact trivial | exact rfl | exact ⟨rfl, rfl⟩ | exact .inl rfl | refine ⟨_, rfl, rfl, rfl, ?_⟩ | refine ⟨_, _, rfl, ?_, ?_⟩ | refine ⟨_, rfl, ?_⟩ | refine And.intro ?_ ?_)⟩ rfl
          show (r.map i64).set (0 + ((i : Nat) : Int).toNat) (i64 (r.getD k 0)) = (r.set i (r.getD k 0)).map i64
          rw [List.map_set, Nat.zero_add, Int.toNat_natCast]
        refine ⟨_, ⟨_, hX, rfl⟩, ?_⟩
        refine ⟨by show (0 : Int) ≤ (q : Nat) ∧ ((q : Nat) : Int) < (y.rows.length : Nat); omega, ?_⟩
        show (popLoad Tryz.prog TI (.ptr 4 (0 + ((q : Nat) : Int).toNat) 0) (lget [(6, iO y.parents), (5, iO (r.set i (r.getD k 0))), (4, rqO y.rows q 5), (3, mO (nodesQ n.nodes a 4)), (2, znO), (1, nbS 3 n.grain v)])).Then _
        refine then_mx (P := Tryz.prog) (t := TI) (o := rqO y.rows q 5) (x := .sl 5 1 0 (y.rows.getD q []).length) rfl rfl rfl hw ?_
        refine ⟨by show (0 : Int) ≤ (k : Nat) ∧ ((k : Nat) : Int) < ((y.rows.getD q []).length : Nat); omega, ?_⟩
        refine ⟨by show 0 + ((k : Nat) : Int).toNat < ((r.set i (r.getD k 0)).map i64).length; rw [List.length_map, List.length_set]; omega, ?_⟩
        refine ⟨_, wrap_i64 (by omega) (by omega), ?_⟩
        refine ⟨_, wrap_i64 (by omega) (by omega), ?_⟩
        refine ⟨(i + 1, (r.set i (r.getD k 0)).set k (r.getD i 0)), ⟨by simp only []; omega, by simp only [List.length_set]; exact i2⟩, ent_of [] [] [] rfl ⟨⟨rfl, rfl⟩, ⟨rfl, rfl⟩, ⟨rfl, rfl⟩, ⟨rfl, rfl⟩, rfl, rfl, ?_, trivial⟩ ⟨⟨_, rfl, rfl, rfl, rfl⟩, ⟨_, rfl, rfl, rfl, ?_⟩, ⟨_, rfl, rfl, rfl, _, rfl, seeL_setS (seeL_p _) rfl⟩, ⟨_, rfl, rfl, rfl, _, rfl, seeLL_set (seeLL_p _) ⟨_, _, rfl, rfl, _, _, rfl, rfl, _, _, rfl, rfl, rfl⟩⟩, by (repeat' first | exact trivial | exact rfl | exact ⟨rfl, rfl⟩ | exact .inl rfl | refine ⟨_, rfl, rfl, rfl, ?_⟩ | refine ⟨_, _, rfl, ?_, ?_⟩ | refine ⟨_, rfl, ?_⟩ | refine And.intro ?_ ?_)⟩ rfl, by show 1000 - (i + 1) < 1000 - i; omega⟩
        · exact congrArg i64 (by show ((y.rows.getD q []).length : Int) - 1 - ((i + 1 : Nat) : Int) = (k : Int) - 1; omega)
        · show ((r.set i (r.getD k 0)).map i64).set (0 + ((k : Nat) : Int).toNat) (i64 (r.getD i 0)) = ((r.set i (r.getD k 0)).set k (r.getD i 0)).map i64
          rw [Nat.zero_add, Int.toNat_natCast, ← List.map_set]
      · refine endN (⟨n.grain, n.nodes.set a ⟨y.card, y.parents, y.rows.set q r⟩⟩ : Nt).pv rfl ⟨_, rfl, _, _, rfl, rfl, _, _, rfl, ⟨_, rfl, ?_, ?_⟩, rfl⟩ ⟨_, hset (x' := ⟨y.card, y.parents, y.rows.set q r⟩) (by show y.parents.length ≤ _; omega) (by show (y.rows.set q r).length ≤ _; rw [List.length_set]; omega) (hyS _ i2), rfl⟩
        · show 0 + v ≤ (nodesQ n.nodes a 4).length
          rw [nodesQ_len]; omega
        · show ResLL _ (((nodesQ n.nodes a 4).drop 0).take v) _
          rw [eTk _ (by rw [nodesQ_len]; omega)]
          exact res_nodesS hy ⟨_, _, rfl, rfl, _, _, rfl, ⟨_, rfl, by show 0 + y.parents.length ≤ (y.parents.map i64).length; simp, takeAll (by simp)⟩, _, _, rfl, ⟨_, (y.rows.set q r).map ints, getN_len (rowsQ_len _ _ _), rfl, resL_rqS rfl i2⟩, rfl⟩
    (first | refine brLt (fun c10 => ?_) (fun c10 => ?_) | refine brLe (fun c10 => ?_) (fun c10 => ?_) | refine brEq (fun c10 => ?_) (fun c10 => ?_))
    rotate_left
    · refine ⟨((v - 1 : Nat) : Int), by show _ = IntKind.i64.wrap (((v : Nat) : Int) - 1); rw [show ((v : Nat) : Int) - 1 = ((v - 1 : Nat) : Int) by omega]; exact wrap_i64 (by omega) (by omega), ?_⟩
      refine ⟨by show (0 : Int) ≤ ((v - 1 : Nat) : Int) ∧ ((v - 1 : Nat) : Int) ≤ ((v : Nat) : Int); omega, ?_⟩
      refine endN (⟨n.grain, n.nodes.take (v - 1)⟩ : Nt).pv rfl ⟨_, rfl, _, _, rfl, rfl, _, _, rfl, ⟨_, rfl, ?_, ?_⟩, rfl⟩ ⟨_, ⟨by show (n.nodes.take (v - 1)).length ≤ _; rw [List.length_take]; omega, fun x hx => by have := hn.par x (List.mem_of_mem_take hx); omega, fun x hx => by have := hn.rows x (List.mem_of_mem_take hx); omega, fun x hx r hr => by have := hn.row x (List.mem_of_mem_take hx) r hr; omega⟩, rfl⟩
      · show 0 + (v - 1) ≤ (nodesQ n.nodes a 4).length
        rw [nodesQ_len]; omega
      · show ResLL _ (((nodesQ n.nodes a 4).drop 0).take (v - 1)) ((n.nodes.take (v - 1)).map Nd.cells)
        rw [List.drop_zero, List.map_take]
        exact resLL_take (res_nodesQ hy ⟨_, _, rfl, rfl, _, _, rfl, ⟨_, rfl, by show 0 + y.parents.length ≤ (y.parents.map i64).length; simp, takeAll (by simp)⟩, _, _, rfl, ⟨_, y.rows.map ints, getN_len (rowsQ_len _ _ _), rfl, resL_rq rfl⟩, rfl⟩)
    · refine ⟨by show 0 + 1 ≤ 1; omega, [[.p (i64 1), .p .nils, .sl 8 1 0 1]], rfl, ?_⟩
      refine .inl ⟨[7, 8], [(⟨1, [], [[n.grain]]⟩ : Nd).cells], rfl, ⟨_, _, rfl, ⟨_, _, rfl, rfl, _, _, rfl, .inr (.inl rfl), _, _, rfl, ⟨[.sl 7 1 0 1], [ints [n.grain]], rfl, rfl, ⟨_, _, rfl, ⟨_, rfl, by show 0 + 1 ≤ 1; omega, rfl⟩, rfl⟩⟩, rfl⟩, rfl⟩, ?_⟩
      refine ⟨by show 0 + v ≤ (nodesQ n.nodes a 4).length; rw [nodesQ_len]; omega, nodesQ n.nodes a 4, takeAll (by rw [nodesQ_len]; omega), by show (v + 1) * 56 ≤ 140737488355328; omega, nodesQ n.nodes a 4 ++ mapsP [(⟨1, [], [[n.grain]]⟩ : Nd).cells], rfl, ?_⟩
      have hml : (nodesQ n.nodes a 4 ++ mapsP [(⟨1, [], [[n.grain]]⟩ : Nd).cells]).length = v + 1 := by rw [List.length_append, nodesQ_len, mapsP_length]; simp; omega
      refine endN (⟨n.grain, n.nodes ++ [⟨1, [], [[n.grain]]⟩]⟩ : Nt).pv rfl ⟨_, rfl, _, _, rfl, rfl, _, _, rfl, ⟨_, rfl, ?_, ?_⟩, rfl⟩ ⟨_, ⟨by show (n.nodes ++ [_]).length ≤ _; rw [snoc_len]; omega, fun x hx => ?_, fun x hx => ?_, fun x hx r hr => ?_⟩, rfl⟩
      · show 0 + (v + 1) ≤ (nodesQ n.nodes a 4 ++ mapsP [(⟨1, [], [[n.grain]]⟩ : Nd).cells]).length
        omega
      · show ResLL _ (((nodesQ n.nodes a 4 ++ mapsP [(⟨1, [], [[n.grain]]⟩ : Nd).cells]).drop 0).take (v + 1)) _
        rw [List.drop_zero, List.take_of_length_le (Nat.le_of_eq hml)]
        show ResLL _ _ ((n.nodes ++ [(⟨1, [], [[n.grain]]⟩ : Nd)]).map Nd.cells)
        rw [List.map_append]
        refine resLL_app ?_ (resLL_nd [(⟨1, [], [[n.grain]]⟩ : Nd)])
        exact res_nodesQ hy ⟨_, _, rfl, rfl, _, _, rfl, ⟨_, rfl, by show 0 + y.parents.length ≤ (y.parents.map i64).length; simp, takeAll (by simp)⟩, _, _, rfl, ⟨_, y.rows.map ints, getN_len (rowsQ_len _ _ _), rfl, resL_rq rfl⟩, rfl⟩
      · rcases List.mem_append.1 hx with hx | hx
        · have := hn.par x hx; omega
        · simp only [List.mem_singleton] at hx; rw [hx]; simp
      · rcases List.mem_append.1 hx with hx | hx
        · have := hn.rows x hx; omega
        · simp only [List.mem_singleton] at hx; rw [hx]; simp
      · rcases List.mem_append.1 hx with hx | hx
        · have := hn.row x hx r hr; omega
        · simp only [List.mem_singleton] at hx; rw [hx] at hr; simp only [List.mem_singleton] at hr; rw [hr]; simp
  have h2 : ¬ (0 : Int) < (y.rows.length : Nat) := h2
  refine ⟨by decide, ?_⟩
  (first | refine brLt (fun c0 => ?_) (fun c0 => ?_) | refine brLe (fun c0 => ?_) (fun c0 => ?_) | refine brEq (fun c0 => ?_) (fun c0 => ?_))
  · refine endN (⟨B.n, n.nodes⟩ : Nt).pv rfl ⟨_, rfl, _, _, rfl, rfl, _, _, rfl, ⟨_, rfl, ?_, ?_⟩, rfl⟩ ⟨_, hbig, rfl⟩
    · show 0 + v ≤ (nodesQ (n.nodes.take v) a 4).length
      rw [hQ, nodesQ_len]; omega
    · show ResLL _ (((nodesQ (n.nodes.take v) a 4).drop 0).take v) (n.nodes.map Nd.cells)
      rw [hQ, eTk _ (by rw [nodesQ_len]; omega)]
      exact res_nodesQ hy ⟨_, _, rfl, rfl, _, _, rfl, ⟨_, rfl, by show 0 + y.parents.length ≤ (y.parents.map i64).length; simp, takeAll (by simp)⟩, _, _, rfl, ⟨_, y.rows.map ints, getN_len (rowsQ_len _ _ _), rfl, resL_rq rfl⟩, rfl⟩
  (first | refine brLt (fun c1 => ?_) (fun c1 => ?_) | refine brLe (fun c1 => ?_) (fun c1 => ?_) | refine brEq (fun c1 => ?_) (fun c1 => ?_))
  · refine ⟨_, hX, by show 0 + 1 ≤ 3; omega, ?_⟩
    refine endN (⟨n.grain, n.nodes.set a ⟨B.n, y.parents, y.rows⟩⟩ : Nt).pv rfl ⟨_, rfl, _, _, rfl, rfl, _, _, rfl, ⟨_, rfl, ?_, ?_⟩, rfl⟩ ⟨_, hset (x' := ⟨B.n, y.parents, y.rows⟩) (by show y.parents.length ≤ _; omega) hyr' hyw, rfl⟩
    · show 0 + v ≤ ((nodesQ (n.nodes.take v) a 4).set _ _).length
      rw [List.length_set, hQ, nodesQ_len]; omega
    · show ResLL _ ((((nodesQ (n.nodes.take v) a 4).set (0 + (((B.place.toNat : Nat) : Int).tmod (v : Nat)).toNat) [.p (i64 B.n), .sl 6 1 0 y.parents.length, .sl 4 1 0 y.rows.length]).drop 0).take v) ((n.nodes.set a ⟨B.n, y.parents, y.rows⟩).map Nd.cells)
      rw [hQ, eT, eTk _ (by rw [List.length_set, nodesQ_len]; omega)]
      exact res_node ⟨_, _, rfl, rfl, _, _, rfl, ⟨_, rfl, by show 0 + y.parents.length ≤ (y.parents.map i64).length; simp, takeAll (by simp)⟩, _, _, rfl, ⟨_, y.rows.map ints, getN_len (rowsQ_len _ _ _), rfl, resL_rq rfl⟩, rfl⟩
  (first | refine brLt (fun c2 => ?_) (fun c2 => ?_) | refine brLe (fun c2 => ?_) (fun c2 => ?_) | refine brEq (fun c2 => ?_) (fun c2 => ?_))
  · refine VDraw.seqTo [(2, .ptr 0 0 0), (3, .ptr 1 0 0), (4, .ptr 2 0 0)] ⟨8, [(7, iO (y.parents ++ [B.n])), (5, iO (y.rows.getD q [])), (4, rqO y.rows q 5), (3, mO ((nodesQ n.nodes a 4).set a [.p (i64 y.card), .sl 7 1 0 (y.parents.length + 1), .sl 4 1 0 y.rows.length])), (2, znO), (1, nbS 3 n.grain v)]⟩ rfl ?_ ?_
    · refine ⟨_, ⟨_, hX, rfl⟩, ?_⟩
      refine ⟨by (repeat' first | exact trivial | exact rfl | exact ⟨_, hX, rfl⟩ | refine And.intro ?_ ?_), ?_⟩
      refine ⟨by show 0 + 1 ≤ 1; omega, [i64 B.n], rfl, ?_⟩
      refine ⟨by show 0 + y.parents.length ≤ (y.parents.map i64).length; simp, y.parents.map i64, takeAll (by simp), by show (y.parents.length + 1) * 8 ≤ 140737488355328; omega, (y.parents ++ [B.n]).map i64, by simp, ?_⟩
      refine ⟨_, hX, by show 1 + 1 ≤ 3; omega, ?_⟩
      refine ent_of [] [(7, 8)] [] rfl (by (repeat' first | exact trivial | exact rfl | exact ⟨rfl, rfl⟩ | exact .inl rfl | refine ⟨_, rfl, rfl, rfl, ?_⟩ | refine ⟨_, _, rfl, ?_, ?_⟩ | refine ⟨_, rfl, ?_⟩ | refine And.intro ?_ ?_)) ⟨⟨_, rfl, rfl, rfl, rfl⟩, ⟨_, rfl, rfl, rfl, rfl⟩, ⟨_, rfl, rfl, rfl, _, rfl, seeL_setS (seeL_p _) rfl⟩, ⟨_, rfl, rfl, rfl, _, rfl, ?_⟩, by (repeat' first | exact trivial | exact rfl | exact ⟨rfl, rfl⟩ | exact .inl rfl | refine ⟨_, rfl, rfl, rfl, ?_⟩ | refine ⟨_, _, rfl, ?_, ?_⟩ | refine ⟨_, rfl, ?_⟩ | refine And.intro ?_ ?_)⟩ rfl
      show SeeLL _ _ _ ((nodesQ (n.nodes.take v) a 4).set (0 + (((B.place.toNat : Nat) : Int).tmod (v : Nat)).toNat) [.p (i64 y.card), .sl 8 1 0 (y.parents.length + 1), .sl 4 1 0 y.rows.length]) _
      rw [hQ, eT]
      exact seeLL_set (seeLL_set (seeLL_p _) ⟨_, _, rfl, rfl, _, _, rfl, rfl, _, _, rfl, rfl, rfl⟩) ⟨_, _, rfl, rfl, _, _, rfl, rfl, _, _, rfl, rfl, rfl⟩
    refine endN (⟨n.grain, n.nodes.set a ⟨y.card, y.parents ++ [B.n], y.rows⟩⟩ : Nt).pv rfl ⟨_, rfl, _, _, rfl, rfl, _, _, rfl, ⟨_, rfl, ?_, ?_⟩, rfl⟩ ⟨_, hset (x' := ⟨y.card, y.parents ++ [B.n], y.rows⟩) (by show (y.parents ++ [B.n]).length ≤ _; rw [snoc_len]; omega) hyr' hyw, rfl⟩
    · show 0 + v ≤ ((nodesQ n.nodes a 4).set _ _).length
      rw [List.length_set, nodesQ_len]; omega
    · show ResLL _ ((((nodesQ n.nodes a 4).set ?_ [.p (i64 y.card), .sl 7 1 0 (y.parents.length + 1), .sl 4 1 0 y.rows.length]).drop 0).take v) ((n.nodes.set a ⟨y.card, y.parents ++ [B.n], y.rows⟩).map Nd.cells)
      rw [eTk _ (by rw [List.length_set, nodesQ_len]; omega)]
      exact res_node ⟨_, _, rfl, rfl, _, _, rfl, ⟨_, rfl, by show 0 + (y.parents.length + 1) ≤ ((y.parents ++ [B.n]).map i64).length; simp, takeAll (by simp)⟩, _, _, rfl, ⟨_, y.rows.map ints, getN_len (rowsQ_len _ _ _), rfl, resL_rq rfl⟩, rfl⟩
  (first | refine brLt (fun c3 => ?_) (fun c3 => ?_) | refine brLe (fun c3 => ?_) (fun c3 => ?_) | refine brEq (fun c3 => ?_) (fun c3 => ?_))
  · refine ⟨_, hX, by show 1 + 1 ≤ 3; omega, ?_⟩
    refine endN (⟨n.grain, n.nodes.set a ⟨y.card, [], y.rows⟩⟩ : Nt).pv rfl ⟨_, rfl, _, _, rfl, rfl, _, _, rfl, ⟨_, rfl, ?_, ?_⟩, rfl⟩ ⟨_, hset (x' := ⟨y.card, [], y.rows⟩) (Nat.zero_le _) hyr' hyw, rfl⟩
    · show 0 + v ≤ ((nodesQ (n.nodes.take v) a 4).set _ _).length
      rw [List.length_set, hQ, nodesQ_len]; omega
    · show ResLL _ ((((nodesQ (n.nodes.take v) a 4).set (0 + (((B.place.toNat : Nat) : Int).tmod (v : Nat)).toNat) [.p (i64 y.card), .p .nils, .sl 4 1 0 y.rows.length]).drop 0).take v) ((n.nodes.set a ⟨y.card, [], y.rows⟩).map Nd.cells)
      rw [hQ, eT, eTk _ (by rw [List.length_set, nodesQ_len]; omega)]
      exact res_node ⟨_, _, rfl, rfl, _, _, rfl, (.inr (.inl rfl)), _, _, rfl, ⟨_, y.rows.map ints, getN_len (rowsQ_len _ _ _), rfl, resL_rq rfl⟩, rfl⟩
  (first | refine brLt (fun c4 => ?_) (fun c4 => ?_) | refine brLe (fun c4 => ?_) (fun c4 => ?_) | refine brEq (fun c4 => ?_) (fun c4 => ?_))
  · refine VDraw.seqTo [(2, .ptr 0 0 0), (3, .ptr 1 0 0), (4, .ptr 2 0 0)] ⟨8, [(7, ⟨TI, false, .mx (rowsQ y.rows q 5 ++ [.p (ints [B.n])])⟩), (6, iO y.parents), (5, iO (y.rows.getD q [])), (3, mO ((nodesQ n.nodes a 4).set a [.p (i64 y.card), .sl 6 1 0 y.parents.length, .sl 7 1 0 (y.rows.length + 1)])), (2, znO), (1, nbS 3 n.grain v)]⟩ rfl ?_ ?_
    · refine ⟨_, ⟨_, hX, rfl⟩, ?_⟩
      refine ⟨by (repeat' first | exact trivial | exact rfl | exact ⟨_, hX, rfl⟩ | refine And.intro ?_ ?_), ?_⟩
      refine ⟨by (repeat' first | exact trivial | exact rfl | exact ⟨_, hX, rfl⟩ | refine And.intro ?_ ?_), ?_⟩
      refine .inl ⟨[7], [ints [B.n]], rfl, ⟨_, _, rfl, ⟨_, rfl, by show 0 + 1 ≤ 1; omega, rfl⟩, rfl⟩, ?_⟩
      refine part1_mx (rowsQ_len _ _ _) ?_
      refine ⟨by show (y.rows.length + 1) * 24 ≤ 140737488355328; omega, ?_⟩
      refine ⟨_, hX, by show 2 + 1 ≤ 3; omega, ?_⟩
      refine ent_of [] [(7, 9)] [] rfl (by (repeat' first | exact trivial | exact rfl | exact ⟨rfl, rfl⟩ | exact .inl rfl | refine ⟨_, rfl, rfl, rfl, ?_⟩ | refine ⟨_, _, rfl, ?_, ?_⟩ | refine ⟨_, rfl, ?_⟩ | refine And.intro ?_ ?_)) ⟨⟨_, rfl, rfl, rfl, _, rfl, seeL_app (seeL_setS (seeL_p _) rfl) (seeL_p [ints [B.n]])⟩, ⟨_, rfl, rfl, rfl, rfl⟩, ⟨_, rfl, rfl, rfl, rfl⟩, ⟨_, rfl, rfl, rfl, _, rfl, ?_⟩, by (repeat' first | exact trivial | exact rfl | exact ⟨rfl, rfl⟩ | exact .inl rfl | refine ⟨_, rfl, rfl, rfl, ?_⟩ | refine ⟨_, _, rfl, ?_, ?_⟩ | refine ⟨_, rfl, ?_⟩ | refine And.intro ?_ ?_)⟩ rfl
      show SeeLL _ _ _ ((nodesQ (n.nodes.take v) a 4).set (0 + (((B.place.toNat : Nat) : Int).tmod (v : Nat)).toNat) [.p (i64 y.card), .sl 6 1 0 y.parents.length, .sl 9 1 0 (y.rows.length + 1)]) _
      rw [hQ, eT]
      exact seeLL_set (seeLL_set (seeLL_p _) ⟨_, _, rfl, rfl, _, _, rfl, rfl, _, _, rfl, rfl, rfl⟩) ⟨_, _, rfl, rfl, _, _, rfl, rfl, _, _, rfl, rfl, rfl⟩
    refine endN (⟨n.grain, n.nodes.set a ⟨y.card, y.parents, y.rows ++ [[B.n]]⟩⟩ : Nt).pv rfl ⟨_, rfl, _, _, rfl, rfl, _, _, rfl, ⟨_, rfl, ?_, ?_⟩, rfl⟩ ⟨_, hset (x' := ⟨y.card, y.parents, y.rows ++ [[B.n]]⟩) (by show y.parents.length ≤ _; omega) (by show (y.rows ++ [[B.n]]).length ≤ _; rw [snoc_len]; omega) (hyA _ (by simp)), rfl⟩
    · show 0 + v ≤ ((nodesQ n.nodes a 4).set _ _).length
      rw [List.length_set, nodesQ_len]; omega
    · show ResLL _ ((((nodesQ n.nodes a 4).set ?_ [.p (i64 y.card), .sl 6 1 0 y.parents.length, .sl 7 1 0 (y.rows.length + 1)]).drop 0).take v) ((n.nodes.set a ⟨y.card, y.parents, y.rows ++ [[B.n]]⟩).map Nd.cells)
      rw [eTk _ (by rw [List.length_set, nodesQ_len]; omega)]
      exact res_node ⟨_, _, rfl, rfl, _, _, rfl, ⟨_, rfl, by show 0 + y.parents.length ≤ (y.parents.map i64).length; simp, takeAll (by simp)⟩, _, _, rfl, ⟨_, y.rows.map ints ++ [[B.n]].map ints, getN_len (rowsQ_len1 _ _ _ _), congrArg PV.lst List.map_append, resL_appS (resL_rq rfl) (resL_pd [[B.n]])⟩, rfl⟩
  (first | refine brLt (fun c5 => ?_) (fun c5 => ?_) | refine brLe (fun c5 => ?_) (fun c5 => ?_) | refine brEq (fun c5 => ?_) (fun c5 => ?_))
  · refine And.intro (fun h => absurd (show (0 : Int) ≤ -1 from h) (by omega)) (fun _ => ?_)
    refine endN (⟨n.grain, n.nodes⟩ : Nt).pv rfl ⟨_, rfl, _, _, rfl, rfl, _, _, rfl, ⟨_, rfl, ?_, ?_⟩, rfl⟩ ⟨_, hbig, rfl⟩
    · show 0 + v ≤ (nodesQ (n.nodes.take v) a 4).length
      rw [hQ, nodesQ_len]; omega
    · show ResLL _ (((nodesQ (n.nodes.take v) a 4).drop 0).take v) (n.nodes.map Nd.cells)
      rw [hQ, eTk _ (by rw [nodesQ_len]; omega)]
      exact res_nodesQ hy ⟨_, _, rfl, rfl, _, _, rfl, ⟨_, rfl, by show 0 + y.parents.length ≤ (y.parents.map i64).length; simp, takeAll (by simp)⟩, _, _, rfl, ⟨_, y.rows.map ints, getN_len (rowsQ_len _ _ _), rfl, resL_rq rfl⟩, rfl⟩
  (first | refine brLt (fun c6 => ?_) (fun c6 => ?_) | refine brLe (fun c6 => ?_) (fun c6 => ?_) | refine brEq (fun c6 => ?_) (fun c6 => ?_))
  · refine And.intro (fun h => absurd (show (0 : Int) ≤ -1 from h) (by omega)) (fun _ => ?_)
    refine endN (⟨n.grain, n.nodes⟩ : Nt).pv rfl ⟨_, rfl, _, _, rfl, rfl, _, _, rfl, ⟨_, rfl, ?_, ?_⟩, rfl⟩ ⟨_, hbig, rfl⟩
    · show 0 + v ≤ (nodesQ (n.nodes.take v) a 4).length
      rw [hQ, nodesQ_len]; omega
    · show ResLL _ (((nodesQ (n.nodes.take v) a 4).drop 0).take v) (n.nodes.map Nd.cells)
      rw [hQ, eTk _ (by rw [nodesQ_len]; omega)]
      exact res_nodesQ hy ⟨_, _, rfl, rfl, _, _, rfl, ⟨_, rfl, by show 0 + y.parents.length ≤ (y.parents.map i64).length; simp, takeAll (by simp)⟩, _, _, rfl, ⟨_, y.rows.map ints, getN_len (rowsQ_len _ _ _), rfl, resL_rq rfl⟩, rfl⟩
  (first | refine brLt (fun c7 => ?_) (fun c7 => ?_) | refine brLe (fun c7 => ?_) (fun c7 => ?_) | refine brEq (fun c7 => ?_) (fun c7 => ?_))
  · refine And.intro (fun h => absurd (show (0 : Int) ≤ -1 from h) (by omega)) (fun _ => ?_)
    refine endN (⟨n.grain, n.nodes⟩ : Nt).pv rfl ⟨_, rfl, _, _, rfl, rfl, _, _, rfl, ⟨_, rfl, ?_, ?_⟩, rfl⟩ ⟨_, hbig, rfl⟩
    · show 0 + v ≤ (nodesQ (n.nodes.take v) a 4).length
      rw [hQ, nodesQ_len]; omega
    · show ResLL _ (((nodesQ (n.nodes.take v) a 4).drop 0).take v) (n.nodes.map Nd.cells)
      rw [hQ, eTk _ (by rw [nodesQ_len]; omega)]
      exact res_nodesQ hy ⟨_, _, rfl, rfl, _, _, rfl, ⟨_, rfl, by show 0 + y.parents.length ≤ (y.parents.map i64).length; simp, takeAll (by simp)⟩, _, _, rfl, ⟨_, y.rows.map ints, getN_len (rowsQ_len _ _ _), rfl, resL_rq rfl⟩, rfl⟩
  (first | refine brLt (fun c8 => ?_) (fun c8 => ?_) | refine brLe (fun c8 => ?_) (fun c8 => ?_) | refine brEq (fun c8 => ?_) (fun c8 => ?_))
  · refine And.intro (fun h => absurd (show (0 : Int) ≤ -1 from h) (by omega)) (fun _ => ?_)
    refine endN (⟨n.grain, n.nodes⟩ : Nt).pv rfl ⟨_, rfl, _, _, rfl, rfl, _, _, rfl, ⟨_, rfl, ?_, ?_⟩, rfl⟩ ⟨_, hbig, rfl⟩
    · show 0 + v ≤ (nodesQ (n.nodes.take v) a 4).length
      rw [hQ, nodesQ_len]; omega
    · show ResLL _ (((nodesQ (n.nodes.take v) a 4).drop 0).take v) (n.nodes.map Nd.cells)
      rw [hQ, eTk _ (by rw [nodesQ_len]; omega)]
      exact res_nodesQ hy ⟨_, _, rfl, rfl, _, _, rfl, ⟨_, rfl, by show 0 + y.parents.length ≤ (y.parents.map i64).length; simp, takeAll (by simp)⟩, _, _, rfl, ⟨_, y.rows.map ints, getN_len (rowsQ_len _ _ _), rfl, resL_rq rfl⟩, rfl⟩
  (first | refine brLt (fun c9 => ?_) (fun c9 => ?_) | refine brLe (fun c9 => ?_) (fun c9 => ?_) | refine brEq (fun c9 => ?_) (fun c9 => ?_))
  · refine And.intro (fun h => absurd (show (0 : Int) ≤ -1 from h) (by omega)) (fun _ => ?_)
    refine endN (⟨n.grain, n.nodes⟩ : Nt).pv rfl ⟨_, rfl, _, _, rfl, rfl, _, _, rfl, ⟨_, rfl, ?_, ?_⟩, rfl⟩ ⟨_, hbig, rfl⟩
    · show 0 + v ≤ (nodesQ (n.nodes.take v) a 4).length
      rw [hQ, nodesQ_len]; omega
    · show ResLL _ (((nodesQ (n.nodes.take v) a 4).drop 0).take v) (n.nodes.map Nd.cells)
      rw [hQ, eTk _ (by rw [nodesQ_len]; omega)]
      exact res_nodesQ hy ⟨_, _, rfl, rfl, _, _, rfl, ⟨_, rfl, by show 0 + y.parents.length ≤ (y.parents.map i64).length; simp, takeAll (by simp)⟩, _, _, rfl, ⟨_, y.rows.map ints, getN_len (rowsQ_len _ _ _), rfl, resL_rq rfl⟩, rfl⟩
  (first | refine brLt (fun c10 => ?_) (fun c10 => ?_) | refine brLe (fun c10 => ?_) (fun c10 => ?_) | refine brEq (fun c10 => ?_) (fun c10 => ?_))
  rotate_left
  · refine ⟨((v - 1 : Nat) : Int), by show _ = IntKind.i64.wrap (((v : Nat) : Int) - 1); rw [show ((v : Nat) : Int) - 1 = ((v - 1 : Nat) : Int) by omega]; exact wrap_i64 (by omega) (by omega), ?_⟩
    refine ⟨by show (0 : Int) ≤ ((v - 1 : Nat) : Int) ∧ ((v - 1 : Nat) : Int) ≤ ((v : Nat) : Int); omega, ?_⟩
    refine endN (⟨n.grain, n.nodes.take (v - 1)⟩ : Nt).pv rfl ⟨_, rfl, _, _, rfl, rfl, _, _, rfl, ⟨_, rfl, ?_, ?_⟩, rfl⟩ ⟨_, ⟨by show (n.nodes.take (v - 1)).length ≤ _; rw [List.length_take]; omega, fun x hx => by have := hn.par x (List.mem_of_mem_take hx); omega, fun x hx => by have := hn.rows x (List.mem_of_mem_take hx); omega, fun x hx r hr => by have := hn.row x (List.mem_of_mem_take hx) r hr; omega⟩, rfl⟩
    · show 0 + (v - 1) ≤ (nodesQ (n.nodes.take v) a 4).length
      rw [hQ, nodesQ_len]; omega
    · show ResLL _ (((nodesQ (n.nodes.take v) a 4).drop 0).take (v - 1)) ((n.nodes.take (v - 1)).map Nd.cells)
      rw [hQ, List.drop_zero, List.map_take]
      exact resLL_take (res_nodesQ hy ⟨_, _, rfl, rfl, _, _, rfl, ⟨_, rfl, by show 0 + y.parents.length ≤ (y.parents.map i64).length; simp, takeAll (by simp)⟩, _, _, rfl, ⟨_, y.rows.map ints, getN_len (rowsQ_len _ _ _), rfl, resL_rq rfl⟩, rfl⟩)
  · refine ⟨by show 0 + 1 ≤ 1; omega, [[.p (i64 1), .p .nils, .sl 8 1 0 1]], rfl, ?_⟩
    refine .inl ⟨[7, 8], [(⟨1, [], [[n.grain]]⟩ : Nd).cells], rfl, ⟨_, _, rfl, ⟨_, _, rfl, rfl, _, _, rfl, .inr (.inl rfl), _, _, rfl, ⟨[.sl 7 1 0 1], [ints [n.grain]], rfl, rfl, ⟨_, _, rfl, ⟨_, rfl, by show 0 + 1 ≤ 1; omega, rfl⟩, rfl⟩⟩, rfl⟩, rfl⟩, ?_⟩
    refine ⟨by show 0 + v ≤ (nodesQ (n.nodes.take v) a 4).length; rw [hQ, nodesQ_len]; omega, nodesQ n.nodes a 4, by rw [hQ]; exact takeAll (by rw [nodesQ_len]; omega), by show (v + 1) * 56 ≤ 140737488355328; omega, nodesQ n.nodes a 4 ++ mapsP [(⟨1, [], [[n.grain]]⟩ : Nd).cells], rfl, ?_⟩
    have hml : (nodesQ n.nodes a 4 ++ mapsP [(⟨1, [], [[n.grain]]⟩ : Nd).cells]).length = v + 1 := by rw [List.length_append, nodesQ_len, mapsP_length]; simp; omega
    refine endN (⟨n.grain, n.nodes ++ [⟨1, [], [[n.grain]]⟩]⟩ : Nt).pv rfl ⟨_, rfl, _, _, rfl, rfl, _, _, rfl, ⟨_, rfl, ?_, ?_⟩, rfl⟩ ⟨_, ⟨by show (n.nodes ++ [_]).length ≤ _; rw [snoc_len]; omega, fun x hx => ?_, fun x hx => ?_, fun x hx r hr => ?_⟩, rfl⟩
    · show 0 + (v + 1) ≤ (nodesQ n.nodes a 4 ++ mapsP [(⟨1, [], [[n.grain]]⟩ : Nd).cells]).length
      omega
    · show ResLL _ (((nodesQ n.nodes a 4 ++ mapsP [(⟨1, [], [[n.grain]]⟩ : Nd).cells]).drop 0).take (v + 1)) _
      rw [List.drop_zero, List.take_of_length_le (Nat.le_of_eq hml)]
      show ResLL _ _ ((n.nodes ++ [(⟨1, [], [[n.grain]]⟩ : Nd)]).map Nd.cells)
      rw [List.map_append]
      refine resLL_app ?_ (resLL_nd [(⟨1, [], [[n.grain]]⟩ : Nd)])
      exact res_nodesQ hy ⟨_, _, rfl, rfl, _, _, rfl, ⟨_, rfl, by show 0 + y.parents.length ≤ (y.parents.map i64).length; simp, takeAll (by simp)⟩, _, _, rfl, ⟨_, y.rows.map ints, getN_len (rowsQ_len _ _ _), rfl, resL_rq rfl⟩, rfl⟩
    · rcases List.mem_append.1 hx with hx | hx
      · have := hn.par x hx; omega
      · simp only [List.mem_singleton] at hx; rw [hx]; simp
    · rcases List.mem_append.1 hx with hx | hx
      · have := hn.rows x hx; omega
      · simp only [List.mem_singleton] at hx; rw [hx]; simp
    · rcases List.mem_append.1 hx with hx | hx
      · have := hn.row x hx r hr; omega
      · simp only [List.mem_singleton] at hx; rw [hx] at hr; simp only [List.mem_singleton] at hr; rw [hr]; simp
end Go.Proofs.YtphmmoloegjocaaGreatDoor

/- The statement on writing. -/
namespace Go.Proofs.YtphmmoloegjocaaGreatDoor
open Go Y
set_option maxRecDepth 100000
set_option maxHeartbeats 40000000

theorem DrB.small {n : Nt} (h : DrB n) : SmN n :=
  ⟨by have := h.five; omega, fun x hx => by have := h.par x hx; omega, fun x hx => by have := h.rows hx; omega, fun x hx r hr => by have := (h.sm.row x hx r hr).2.2; omega⟩
theorem big_take {n : Nt} {k : Nat} (h : BigN n) : BigN ⟨n.grain, n.nodes.take k⟩ :=
  ⟨by show (n.nodes.take k).length ≤ _; have := h.nodes; rw [List.length_take]; omega, fun x hx => h.par x (List.mem_of_mem_take hx), fun x hx => h.rows x (List.mem_of_mem_take hx), fun x hx => h.row x (List.mem_of_mem_take hx)⟩
theorem lines_eq (m : Nt) : ∃ s e, linesP m = [.str s, i64 e] := by
  rw [linesP]; split <;> exact ⟨_, _, rfl⟩
theorem nested_eq (m : Nt) : ∃ s e, nestedP m = [.str s, i64 e] := by
  rw [nestedP]; split <;> exact ⟨_, _, rfl⟩
theorem formatWrites_c (n : Nt) (D : D5) (B : B5) (hn : BigN n) (hD : OkD5 D) :
    Pure cx 3 [n.pv, D.pv, B.pv] (· = .ret [.bool true]) := by
  refine pure_of_vc Tryz.func3 rfl rfl rfl ?_
  have hnb := hn.nodes
  obtain ⟨K, hK⟩ : ∃ K : Nat, (if (9 : Int) < (n.nodes.length : Nat) then (9 : Int) else (n.nodes.length : Nat)) = (K : Nat) := ⟨min 9 n.nodes.length, by split <;> omega⟩
  have hKn : K ≤ n.nodes.length := by split at hK <;> omega
  refine ⟨by show (0 : Int) ≤ (if (9 : Int) < ((n.nodes.map Nd.cells).length : Nat) then (9 : Int) else ((n.nodes.map Nd.cells).length : Nat)) ∧ _; rw [List.length_map, hK]; omega, ?_⟩
  refine (net_c D hD).at fun r hr => ?_
  obtain ⟨m2, hm2, rfl⟩ := hr
  refine VDraw.seq rfl ?_
  refine (bend_c B m2 hm2.small).at fun r hr => ?_
  obtain ⟨m3, hm3, rfl⟩ := hr
  refine ⟨by (repeat' first | exact trivial | exact rfl | exact ⟨rfl, rfl⟩ | exact .inl rfl | refine ⟨_, rfl, rfl, rfl, ?_⟩ | refine ⟨_, _, rfl, ?_, ?_⟩ | refine ⟨_, rfl, ?_⟩ | refine And.intro ?_ ?_), ?_⟩
  have hb1 : BigN ⟨n.grain, n.nodes.take K⟩ := big_take hn
  have hb2 : BigN m2 := valid_big hm2.valid
  refine ⟨Nat, fun j => [(33, .p (.agg ((⟨n.grain, n.nodes.take K⟩ : Nt).cells ++ m2.cells ++ m3.cells))), (34, .p (i64 j))], fun _ => ⟨4, []⟩, fun j => j ≤ 3, fun j => 3 - j, ?_, ?_⟩
  · refine ⟨0, by omega, ent_of [] [] [] rfl ⟨?_, rfl, trivial⟩ trivial rfl⟩
    have eT : (n.nodes.map Nd.cells).take (if (9 : Int) < ((n.nodes.map Nd.cells).length : Nat) then (9 : Int) else ((n.nodes.map Nd.cells).length : Nat)).toNat = (n.nodes.take K).map Nd.cells := by rw [List.length_map, hK, List.map_take]; rfl
    exact congrArg (fun l => PV.agg ([i64 n.grain, .lsts 3 l] ++ m2.cells ++ m3.cells)) eT.symm
  intro j hj
  (first | refine brLt (fun h3 => ?_) (fun h3 => ?_) | refine brLe (fun h3 => ?_) (fun h3 => ?_) | refine brEq (fun h3 => ?_) (fun h3 => ?_))
  · have h3 : (j : Int) < 3 := h3
    obtain ⟨m, hm, hj3⟩ : ∃ m : Nt, BigN m ∧ getN ((⟨n.grain, n.nodes.take K⟩ : Nt).cells ++ m2.cells ++ m3.cells) (j * 2) 2 = some m.cells := by
      rcases (show j = 0 ∨ j = 1 ∨ j = 2 by omega) with rfl | rfl | rfl
      · exact ⟨_, hb1, rfl⟩
      · exact ⟨_, hb2, rfl⟩
      · exact ⟨_, hm3, rfl⟩
    obtain ⟨s, e, hl⟩ := lines_eq m
    obtain ⟨t, f, ht⟩ := nested_eq m
    have k1 := lines_c m hm
    have k2 := rLines_c m hm
    have k3 := nestedE_c m hm
    have k4 := rNestedE_c m hm
    rw [hl] at k1 k2
    rw [ht] at k3 k4
    refine ⟨_, ⟨⟨by omega, by omega⟩, m.pv, by show ldInP Tryz.prog TNet _ (((j : Nat) : Int).toNat * 2) = _; rw [Int.toNat_natCast]; unfold ldInP; rw [show aggSz Tryz.prog TNet = some (some 2) by kernel_rfl]; show (match getN _ (j * 2) 2 with | some r => some (PV.agg r) | none => none) = _; rw [hj3], rfl⟩, ?_⟩
    refine k1.eq rfl ?_
    refine k2.eq rfl ?_
    refine k3.eq rfl ?_
    refine k4.eq rfl ?_
    refine And.intro (fun _ => ?_) (fun h => absurd rfl h)
    refine And.intro (fun _ => ?_) (fun h => absurd rfl h)
    refine And.intro (fun _ => ?_) (fun h => absurd rfl h)
    refine And.intro (fun _ => ?_) (fun h => absurd rfl h)
    refine ⟨_, wrap_i64 (by omega) (by omega), ?_⟩
    exact ⟨j + 1, by omega, ent_of [] [] [] rfl ⟨rfl, rfl, trivial⟩ trivial rfl, by show 3 - (j + 1) < 3 - j; omega⟩
  · exact works_c.eq rfl (end1 _ rfl rfl rfl)
end Go.Proofs.YtphmmoloegjocaaGreatDoor

/- The listed tables, as the rows of format ask. -/
namespace Go.Proofs.YtphmmoloegjocaaGreatDoor
open Go Y
set_option maxRecDepth 100000

theorem own : ownKnob Tryz.prog.godebug = none := by kernel_rfl
abbrev laidD : List (String × DataW Unit) := [("math/bits.deBruijn32tab", Rows.laid_math_bits_deBruijn32tab), ("math/bits.deBruijn64tab", Rows.laid_math_bits_deBruijn64tab), ("internal/strconv.uint64pow10", Rows.laid_internal_strconv_uint64pow10), ("unicode/utf8.acceptRanges", Rows.laid_unicode_utf8_acceptRanges), ("unicode/utf8.first", Rows.laid_unicode_utf8_first)]
theorem door_metD (os : Os) (args : Array Value) : laidMetH Tryz.prog laidD ((World.laidAll Tryz.prog os laidD).forCall (fun _ _ => 0) ⟨#[], args, []⟩).memory := by
  rw [MakeChecks.laidMetH_plain _ _ _ (by kernel_rfl)]
  exact laidMet_laidAll _ (by kernel_rfl) (by kernel_rfl)
theorem glob_okD {W : World} (_ : laidMetH Tryz.prog laidD W) : ∀ g cs, gget cx.gt g = some cs → VP (fzOf W) (.fp cs) (.pointer (some ⟨g, 0, none⟩)) := fun _ _ h => by cases h
end Go.Proofs.YtphmmoloegjocaaGreatDoor

/- FormatWrites: the row and the card. Lines and Nested return what the reference's do, for arbitrary networks (cut to nine nodes), drafted ones, and such with a change. Conditions: those of the card. -/
namespace Go.Proofs.YtphmmoloegjocaaGreatDoor
open Go Y
set_option maxRecDepth 100000

theorem formatWrites_pure : ∀ xs, ArgsT Tryz.prog 8 Tryz.f3.params.toList xs → Pure cx 3 xs (· = .ret [.bool true]) := by
  intro xs h
  rw [Tryz.params3] at h
  obtain ⟨x0, _, rfl, h0, x1, _, rfl, h1, x2, _, rfl, h2, rfl⟩ := h
  obtain ⟨v0, rfl, g0⟩ := arg_net h0
  obtain ⟨v1, rfl, g1⟩ := arg_draft5 h1
  obtain ⟨v2, rfl, g2⟩ := arg_bend5 h2
  exact formatWrites_c v0 v1 v2 g0 g1
theorem formatWrites_lifted (os : Os) (started : os.Started) (H : Type) (enc : TypeId × Value → H) :
    ReturnsInHanded {} Tryz.checked os 3 .any (fun w args => (Rows.formatWritesSpec.pre enc Tryz.prog Tryz.f3 [] false w args ∧ laidMetH Tryz.prog laidD w) ∧ sizedMet enc Tryz.prog Tryz.f3 (OpenSpec.ofChange Rows.formatWritesSpec) false w args)
      (Rows.formatWritesSpec.post enc Tryz.prog Tryz.f3 false true false false) := by
  refine returnsInHanded_of_change_and (C := Tryz.checked) (X := fun w _ => laidMetH Tryz.prog laidD w) (fun _ _ _ hh h => h.of_heap hh) own started (by kernel_rfl) Tryz.func3
    (ChangeSpec.witness_shaped (enc := enc) (C := Tryz.checked) (os := os) (X := fun w _ => laidMetH Tryz.prog laidD w) false (World.laidAll Tryz.prog os laidD) #[.agg #[.int .i64 0, .slice none 0 0], .agg #[.int .u8 0, .slice none 0 0, .slice none 0 0], .agg #[.int .u8 0, .int .u8 0, .int .u8 0, .int .i64 0]] 8 (World.laidAll_os _ _ _) (World.shaped_of_ZipB (by kernel_rfl) (by kernel_rfl)) (by kernel_rfl) (by kernel_rfl) (by kernel_rfl) (door_metD os _)) ?_
  intro W base args ds gs before hval hW _ _ hL _
  obtain ⟨p, q, hA, hV, _⟩ := id hW
  have hs : Tryz.f3.params.toList.all (supp Tryz.prog 8) = true := by kernel_rfl
  obtain ⟨_, _, _, hlen⟩ := args_of hs (fun j t v ht hv => hval j t v (by simpa using ht) (by simpa using hv)) hA
  refine (calls_of_pure (cx := cx) Tryz.func3 (by kernel_rfl) rfl hs formatWrites_pure hval hA (glob_okD hL)).mono fun e W' ⟨he, h1, h2, h3⟩ => ?_
  subst he
  exact ⟨_, rfl, post_of_kept (cx := cx) (m := 8) hs rfl (by kernel_rfl) Tryz.underlying4 (fun ds h => by
    rw [Tryz.params3] at h
    match ds, h with
    | [_, _, _], _ => rfl) hW hlen h1 h2 h3⟩

theorem formatWrites_holds : Rows.FormatWritesSaid :=
  OpenClaim.holds_of_wide 3 Tryz.f3 rfl rfl rfl rfl rfl rfl rfl ⟨rfl, rfl, rfl, rfl, rfl⟩ rfl rfl rfl rfl rfl (by kernel_rfl) Tryz.func3 (by kernel_rfl)
    (of_decide_eq_true (by kernel_rfl)) (by unfold Func.isWrapper; first | (rw [if_pos (by decide +kernel)]; kernel_rfl) | (rw [if_neg (by decide +kernel)]; exact ⟨rfl, rfl⟩))
    (fun os started H enc _ => formatWrites_lifted os started H enc)

theorem formatWrites_card : Rows.FormatWritesCardSaid :=
  Claim7.holds_tied_plain_at .later [] [.data, .data, .data, .data, .pinned] true (true, "05df7281f202b8135faad0929ba83131a8abc96c8d0575467d8e0ee31e71e4e4") true
    formatWrites_holds (fun _ h => by cases h) (by kernel_rfl) (fun _ h => by cases h) formatWrites_row_tie rfl ⟨rfl, rfl⟩ (by kernel_rfl) rfl
    (fun f fn hf hfn => by
      obtain rfl : f = 3 := Option.some.inj ((show Tryz.prog.funcNamed "haruspex/haruspexlaw41.FormatWrites" = some 3 by kernel_rfl).symm.trans hf) |>.symm
      obtain rfl : fn = Tryz.f3 := (Option.some.inj (Tryz.func3.symm.trans hfn)).symm
      exact ⟨by kernel_rfl, fun j t ht => by
        have hall : (Tryz.f3.params.toList.all fun u => !Tryz.prog.wantsStandIn u) = true := by kernel_rfl
        exact (show Tryz.prog.wantsStandIn t = false by simpa using List.all_eq_true.1 hall t (by simpa using Array.mem_of_getElem? ht))⟩)
    (by kernel_rfl)
#print axioms formatWrites_card
end Go.Proofs.YtphmmoloegjocaaGreatDoor
