/- ParseFewest: the row and the card. Without a pair of parentheses a canonical text is read as another program, or not at all. Conditions: those of the card. -/
import Derived.ChangeArms
import Derived.OpenShut
import Derived.WideHanded
import Derived.ChangeSame
import Derived.ProofKit
import Derived.LaidMore
import Derived.LaidLaws
import Derived.Stop.Joined
import Derived.MakeChecks
import Derived.Test.YtohfoaplnjcihaaGreatDoorRows
import Derived.Lay
import Derived.Test.YtohfoaplnjcihaaGreatDoorCards
import Derived.Test.YtohfoaplnjcihaaGreatDoorTie
import Derived.SevenTiedAt
import Derived.Test.YtohfoaplnjcihaaGreatDoorQ5
namespace Go.Proofs.YtohfoaplnjcihaaGreatDoor
open Go Y
set_option maxRecDepth 100000
set_option maxHeartbeats 40000000
structure Small (d : Nat) (c : Cd) (n : Nat) : Prop where
 pos : 1 ≤ n
 valid : ∀ left, n ≤ left → condV d c left = some (left - n)
 big : BigC c
 len : (spW true (condT c)).length ≤ 240 * n
theorem leaf_few {op n rel val : Int} {r : Rf} {st : List Int} (hb : leafB op n rel val r st = true) (hs : st.length ≤ 4) : (leafT op n rel val r st).length ≤ 21 := by
 unfold leafB at hb
 unfold leafT
 by_cases c6 : op = 6
 ·rw [if_neg (by omega), if_neg (by omega), if_pos c6] at hb
  simp only [Bool.and_eq_true, decide_eq_true_eq] at hb
  have hr := ref_toks hb.1.1.1.1.1.1
  rw [if_pos c6]
  simp only [List.length_append, List.length_cons, List.length_nil]; omega
 ·rw [if_neg c6]
  by_cases c5 : op = 5
  ·rw [if_neg (by omega), if_pos c5] at hb
   simp only [Bool.and_eq_true, decide_eq_true_eq] at hb
   obtain ⟨⟨⟨⟨b1, b2⟩, b3⟩, b4⟩, b5⟩ := hb
   rw [if_pos c5]
   have hr := ref_toks b1
   have hset := setB_facts b5
   have hs := sep_toks (f := fun n => [digT n]) (b := 1) (l := st) fun a ha => ⟨allT_cons (tok_dig (hset.2.1 a ha)) allT_nil, by simp⟩
   simp only [List.length_append, List.length_cons, List.length_nil]; omega
  ·rw [if_neg c5]
   by_cases c1 : op = 1 ∨ op = 2 ∨ op = 3 ∨ op = 4
   ·rw [if_pos c1] at hb
    simp only [Bool.and_eq_true, decide_eq_true_eq] at hb
    have hr := ref_toks hb.1.1.1.1
    simp only [List.length_append, List.length_cons, List.length_nil]; omega
   ·rw [if_neg c1, if_neg c5, if_neg c6] at hb
    cases hb
theorem ref_bigB {r : Rf} (h : refB r = true) : BigR r := by
 obtain ⟨nm, m, pl, n⟩ := r
 rw [refB, Bool.and_eq_true] at h
 have h1 := name_len h.1
 refine ⟨by show nm.length ≤ _; have h1 : nm.length ≤ 10 := h1; omega, ?_⟩
 have h2 := h.2
 simp only [] at h2
 show pl.length ≤ _
 split at h2
 ·simp only [Bool.and_eq_true, decide_eq_true_eq] at h2
  rw [h2.1]; simp
 ·split at h2
  ·simp only [Bool.and_eq_true] at h2
   have := name_len h2.1
   omega
  ·split at h2
   ·simp only [Bool.and_eq_true, decide_eq_true_eq] at h2
    rw [h2.1]; simp
   ·cases h2
theorem leafB_ref {op n rel val : Int} {r : Rf} {st : List Int} (hb : leafB op n rel val r st = true) : refB r = true := (leafB_facts hb).1
theorem leaf_small {op n rel val : Int} {r : Rf} {st : List Int} (h7 : ¬ op = 7) (h8 : ¬ op = 8) (h9 : ¬ op = 9) (hb : leafB op n rel val r st = true) (hs : st.length ≤ 4) (d : Nat) : Small (d + 1) (.mk op n rel val r st []) 1 := by
 refine ⟨Nat.le_refl _, fun left hl => ?_, big_leaf (ref_bigB (leafB_ref hb)) (by omega), ?_⟩
 ·rw [condV, if_neg (by omega), if_pos]
  ·rfl
  ·have h0 : argsN op = 0 := by rw [argsN, if_neg h7, if_neg (by omega)]
   rw [headB, if_pos h0, hb]; rfl
 ·rw [condT_leaf h7 h8 h9]
  have h1 := leaf_few hb hs
  have h2 := spW_len true (leaf_toks hb).1
  omega
theorem len_in (k : Nat) (p : Int × Toks) : (spW true (inT k p)).length ≤ (spW true p.2).length + 4 := by
 unfold inT
 split
 ·show (spW true ([tLP] ++ (p.2 ++ [tRP]))).length ≤ _
  rw [spW_t, spW_t]
  simp [spW]
 ·omega
theorem two_small {d na nb : Nat} {a b : Cd} {op : Int} (ho : op = 8 ∨ op = 9) (ha : Small d a na) (hb : Small d b nb) : Small (d + 1) (.mk op 0 0 0 rf0 [] [a, b]) (1 + na + nb) := by
 have h1 := ha.pos
 have h2 := hb.pos
 have l1 := ha.len
 have l2 := hb.len
 refine ⟨by omega, fun left hl => ?_, big_two ha.big hb.big, ?_⟩
 ·rw [condV, if_neg (by omega), if_pos]
  ·show (do
    let l ← condV d a (left - 1)
    let l ← condV d b l
    some l) = _
   rw [ha.valid _ (by omega)]
   show (do
    let l ← condV d b (left - 1 - na)
    some l) = _
   rw [hb.valid _ (by omega)]
   show some _ = some _
   congr 1; omega
  ·rcases ho with rfl | rfl <;> rfl
 ·rcases ho with rfl | rfl
  ·rw [condT_conj, spW_t]
   have k1 := len_in 2 (a.op, condT a)
   have k2 := len_in 3 (b.op, condT b)
   simp only [] at k1 k2
   show ((spW true (inT 2 (a.op, condT a))) ++ spW true ([tAnd] ++ inT 3 (b.op, condT b))).length ≤ _
   rw [spW_t, List.length_append, List.length_append]
   have k3 : (spW true [tAnd]).length = 4 := rfl
   omega
  ·rw [condT_disj, spW_t]
   have k1 := len_in 1 (a.op, condT a)
   have k2 := len_in 2 (b.op, condT b)
   simp only [] at k1 k2
   show ((spW true (inT 1 (a.op, condT a))) ++ spW true ([tOr] ++ inT 2 (b.op, condT b))).length ≤ _
   rw [spW_t, List.length_append, List.length_append]
   have k3 : (spW true [tOr]).length = 3 := rfl
   omega
theorem neg_small {d na : Nat} {a : Cd} (ha : Small d a na) : Small (d + 1) (.mk 7 0 0 0 rf0 [] [a]) (1 + na) := by
 have h1 := ha.pos
 have l1 := ha.len
 refine ⟨by omega, fun left hl => ?_, big_one ha.big, ?_⟩
 ·rw [condV, if_neg (by omega), if_pos]
  ·show (do
    let l ← condV d a (left - 1)
    some l) = _
   rw [ha.valid _ (by omega)]
   show some _ = some _
   congr 1; omega
  ·rfl
 ·rw [condT_neg]
  have k1 := len_in 3 (a.op, condT a)
  simp only [] at k1
  show (spW true ([tNot] ++ inT 3 (a.op, condT a))).length ≤ _
  rw [spW_t, List.length_append]
  have k3 : (spW true [tNot]).length = 4 := rfl
  omega
def abxy : List UInt8 := [97, 98, 120, 121]
def GrQ (d : Nat) (l : List UInt8) (r : PEnd) : Prop := ∃ (c : Cd) (n : Nat) (rest : List UInt8), r = .ret [c.pv, .lst (rest.map u8)] ∧ Small d c n ∧ n + 2 * rest.length ≤ 2 * l.length + 1
def GrOK (d : Nat) : Prop := ∀ (p : Nat) (l : List UInt8), p + d = 9 → l.length ≤ 1000 → Pure cx 68 [.lst (l.map u8), i64 p] (GrQ d l)
def GrN (d : Nat) (l : List UInt8) (r : PEnd) : Prop := ∃ (y z : PV) (c : Cd) (n : Nat) (rest : List UInt8), r = .ret [y, z] ∧ NilD y c.pv ∧ NilD z (.lst (rest.map u8)) ∧ Small d c n ∧ n + 2 * rest.length ≤ 2 * l.length + 1
theorem gr_weak {d : Nat} {l : List UInt8} {g : FuncId} {args : List PV} (h : Pure cx g args (GrN d l)) : Pure cx g args (GrQ d l) :=
 h.weak fun r hr => by
  obtain ⟨y, z, c, n, rest, rfl, h1, h2, h3, h4⟩ := hr
  exact ⟨.ret [c.pv, .lst (rest.map u8)], ⟨_, rfl, _, _, rfl, h1, _, _, rfl, h2, rfl⟩, c, n, rest, rfl, h3, h4⟩
theorem a_name : nameN [97] = true := by decide
theorem p_name : nameN [112] = true := by decide
theorem refB0 {nm : List UInt8} (h : nameN nm = true) : refB ⟨nm, 0, [], 0⟩ = true := by rw [refB, h]; rfl
theorem refB3 {nm : List UInt8} (h : nameN nm = true) : refB ⟨nm, 3, [], 0⟩ = true := by rw [refB, h]; rfl
theorem refB2 {nm : List UInt8} {n : Int} (h : nameN nm = true) (hn : natB n = true) : refB ⟨nm, 2, [], n⟩ = true := by
 show (nameN nm && (decide (([] : List UInt8) = []) && natB n)) = true
 rw [h, hn]; rfl
theorem refB1 {nm pl : List UInt8} {n : Int} (h : nameN nm = true) (hp : nameN pl = true) (hn : natB n = true) : refB ⟨nm, 1, pl, n⟩ = true := by
 show (nameN nm && (nameN pl && natB n)) = true
 rw [h, hp, hn]; rfl
theorem leafB1 {op n : Int} {r : Rf} (ho : 1 ≤ op ∧ op ≤ 4) (hr : refB r = true) (hn : natB n = true) : leafB op n 0 0 r [] = true := by
 unfold leafB
 rw [if_pos (by omega), hr, hn]; rfl
theorem leafB6 {n rel val : Int} {nm : List UInt8} (h : nameN nm = true) (hn : natB n = true) (hv : natB val = true) (hr : 1 ≤ rel ∧ rel ≤ 4) : leafB 6 n rel val ⟨nm, 3, [], 0⟩ [] = true := by
 unfold leafB
 rw [if_neg (by decide), if_neg (by decide), if_pos rfl, refB3 h, hn, hv, decide_eq_true hr.1, decide_eq_true hr.2]; rfl
theorem leafB5 {r : Rf} {st : List Int} (hr : refB r = true) (hs : setB st = true) : leafB 5 0 0 0 r st = true := by
 unfold leafB
 rw [if_neg (by decide), if_pos rfl, hr, hs]; rfl
abbrev otG : OT := (.pure 0 (.pure 1 (.pure 2 (.pure 3 (.pure 4 (.pure 5 (.pure 6 (.pure 7 (.eff 8 [] (.pure 9 .fin) .nil)))))))))
theorem setB_tail : ∀ j, j < 4 → setB (([0, 1, 2, 9999] : List Int).drop j) = true := by decide
theorem abxy2 : ∀ j, j < 4 → nameN ((abxy.drop j).take (j + 1 - j)) = true := by decide
theorem nat_q (v k : Nat) (hv : v < 256) : natB ((v / k : Nat) : Int) = true := nat_of (Int.natCast_nonneg _) (Int.le_trans (Int.ofNat_le.2 (Nat.div_le_self v k)) (by omega))
theorem nat_qm (v a k : Nat) (hv : v < 256) : natB ((v / a % k : Nat) : Int) = true := nat_of (Int.natCast_nonneg _) (Int.le_trans (Int.ofNat_le.2 (Nat.le_trans (Nat.mod_le (v / a) k) (Nat.div_le_self v a))) (by omega))
theorem nil_leafD (rf : Rf) (L : List Int) (j : Nat) : NilD (.agg [i64 5, i64 0, i64 0, i64 0, .str rf.name, i64 rf.mode, .str rf.plate, i64 rf.n, .lst ((L.map i64).drop j), .nils]) (Cd.mk 5 0 0 0 rf (L.drop j) []).pv := by
 rw [← List.map_drop]
 exact nil_leaf 5 0 0 0 rf (L.drop j)
theorem nil_two (op : Int) (l : List Cd) : NilD (.agg [i64 op, i64 0, i64 0, i64 0, .str [], i64 0, .str [], i64 0, .nils, .lsts 10 (cellsL l)]) (Cd.mk op 0 0 0 rf0 [] l).pv := by
 show NilD _ (.agg [i64 op, i64 0, i64 0, i64 0, .str [], i64 0, .str [], i64 0, .lst [], .lsts 10 (cellsL l)])
 simp only [NilD, NilDL]
 exact ⟨_, rfl, _, _, rfl, rfl, _, _, rfl, rfl, _, _, rfl, rfl, _, _, rfl, rfl, _, _, rfl, rfl, _, _, rfl, rfl, _, _, rfl, rfl, _, _, rfl, rfl, _, _, rfl, .inr (.inl rfl), _, _, rfl, ⟨_, rfl, NilDLL.refl _⟩, rfl⟩
def nmV (v : Nat) : List UInt8 := (abxy.drop (v / 16 % 4)).take (v / 16 % 4 + 1 - v / 16 % 4)
abbrev l9 : List Int := [0, 1, 2, 9999]
theorem grow_step (d : Nat) (ih : d ≠ 0 → GrOK d) : GrOK (d + 1) := by
 intro p l hp hl
 refine gr_weak ?_
 have hl' : (l.map u8).length = l.length := List.length_map ..
 refine pure_of_vc Tryz.func68 rfl rfl rfl ?_
 by_cases h0 : l = []
 ·subst h0
  refine And.intro (fun _ => ?_) (fun h => absurd rfl h)
  refine end2 (.agg [i64 1, i64 0, i64 0, i64 0, .str [97], i64 0, .str [], i64 0, .nils, .nils]) .nils rfl rfl (.inl rfl) ?_
  exact ⟨_, _, .mk 1 0 0 0 ⟨[97], 0, [], 0⟩ [] [], 1, [], rfl, nil_leaf2 1 0 0 0 ⟨[97], 0, [], 0⟩, by simp [NilD], leaf_small (by decide) (by decide) (by decide) (leafB1 (by decide) (refB0 a_name) (by decide)) (by decide) d, by simp⟩
 obtain ⟨b, t, rfl⟩ : ∃ b t, l = b :: t := by
  cases l with
  | nil => exact absurd rfl h0
  | cons b t => exact ⟨b, t, rfl⟩
 refine And.intro (fun h => absurd (show (((b :: t).map u8).length : Int) = 0 from h) (by rw [hl']; simp only [List.length_cons]; omega)) (fun _ => ?_)
 have hv : b.toNat < 256 := b.toNat_lt
 obtain ⟨v, hve⟩ : ∃ v, v = b.toNat := ⟨_, rfl⟩
 rw [← hve] at hv
 simp only [List.length_cons] at hl
 refine ⟨_, ⟨by decide, u8 b, rfl, rfl⟩, ?_⟩
 refine ⟨(v : Int), by rw [hve]; exact wrap_i64 (by omega) (by omega), ?_⟩
 clear hve
 refine ⟨by show (0 : Int) ≤ 1 ∧ (1 : Int) ≤ (((b :: t).map u8).length : Nat); rw [hl']; simp only [List.length_cons]; omega, ?_⟩
 have e8 : (v : Int).tmod 8 = ((v % 8 : Nat) : Int) := rfl
 have e4 : ((v / 16 : Nat) : Int).tmod 4 = ((v / 16 % 4 : Nat) : Int) := rfl
 have hn : nameN (nmV v) = true := abxy2 _ (by omega)
 refine ⟨by decide, ((v / 16 : Nat) : Int), by show _ = IntKind.i64.wrap ((v : Int).tdiv 16); rw [show (v : Int).tdiv 16 = ((v / 16 : Nat) : Int) from rfl]; exact wrap_i64 (by omega) (by omega), ?_⟩
 refine ⟨by decide, ?_⟩
 refine ⟨by decide, ((v / 16 : Nat) : Int), by show _ = IntKind.i64.wrap ((v : Int).tdiv 16); rw [show (v : Int).tdiv 16 = ((v / 16 : Nat) : Int) from rfl]; exact wrap_i64 (by omega) (by omega), ?_⟩
 refine ⟨by decide, ?_⟩
 refine ⟨((v / 16 % 4 + 1 : Nat) : Int), by show _ = IntKind.i64.wrap (((v / 16 : Nat) : Int).tmod 4 + 1); rw [e4, Int.natCast_add]; exact wrap_i64 (by omega) (by omega), ?_⟩
 refine ⟨by show (0 : Int) ≤ ((v / 16 : Nat) : Int).tmod 4 ∧ ((v / 16 : Nat) : Int).tmod 4 ≤ ((v / 16 % 4 + 1 : Nat) : Int) ∧ ((v / 16 % 4 + 1 : Nat) : Int) ≤ 4; rw [e4]; omega, ?_⟩
 by_cases c1 : p < 8
 ·refine And.intro (fun _ => ?_) (fun h => absurd (show (p : Int) < 8 by first | (rw [e8]; omega) | omega) h)
  refine ⟨by decide, ?_⟩
  by_cases c2 : v % 8 < 2
  ·refine And.intro (fun _ => ?_) (fun h => absurd (show (v : Int).tmod 8 < 2 by first | (rw [e8]; omega) | omega) h)
   refine ⟨((p + 1 : Nat) : Int), by rw [Int.natCast_add]; exact wrap_i64 (by omega) (by omega), ?_⟩
   refine (ih (by omega) (p + 1) t (by omega) (by omega)).at fun r hr => ?_
   obtain ⟨⟨ao, an, ar, av, af, as', aa⟩, na, t2, rfl, sa, la⟩ := hr
   refine ⟨((p + 1 : Nat) : Int), by rw [Int.natCast_add]; exact wrap_i64 (by omega) (by omega), ?_⟩
   refine (ih (by omega) (p + 1) t2 (by omega) (by omega)).at fun r hr => ?_
   obtain ⟨⟨bo, bn, br, bv, bf, bs, ba⟩, nb, t3, rfl, sb, lb⟩ := hr
   refine ⟨by decide, ?_⟩
   refine ⟨8 + ((v % 2 : Nat) : Int), by show _ = IntKind.i64.wrap (8 + (v : Int).tmod 2); rw [show (v : Int).tmod 2 = ((v % 2 : Nat) : Int) from rfl]; exact wrap_i64 (by omega) (by omega), ?_⟩
   refine end2 (.agg [i64 (8 + ((v % 2 : Nat) : Int)), i64 0, i64 0, i64 0, .str [], i64 0, .str [], i64 0, .nils, .lsts 10 (cellsL [.mk ao an ar av af as' aa, .mk bo bn br bv bf bs ba])]) (.lst (t3.map u8)) rfl ⟨_, rfl, _, _, rfl, rfl, _, _, rfl, rfl, _, _, rfl, rfl, _, _, rfl, rfl, _, _, rfl, rfl, _, _, rfl, rfl, _, _, rfl, rfl, _, _, rfl, rfl, _, _, rfl, .inl rfl, _, _, rfl, ⟨_, rfl, Nat.le_refl _, rfl⟩, rfl⟩ rfl ?_
   exact ⟨_, _, .mk (8 + ((v % 2 : Nat) : Int)) 0 0 0 rf0 [] [.mk ao an ar av af as' aa, .mk bo bn br bv bf bs ba], _, t3, rfl, nil_two _ _, NilD.refl _, two_small (by omega) sa sb, by simp only [List.length_cons]; omega⟩
  ·refine And.intro (fun h => absurd (show (v : Int).tmod 8 < 2 from h) (by first | (rw [e8]; omega) | omega)) (fun _ => ?_)
   refine And.intro (fun _ => ?_) (fun h => absurd (show (p : Int) < 8 by first | (rw [e8]; omega) | omega) h)
   refine ⟨by decide, ?_⟩
   by_cases c3 : v % 8 = 2
   ·refine And.intro (fun _ => ?_) (fun h => absurd (show (v : Int).tmod 8 = 2 by first | (rw [e8]; omega) | omega) h)
    refine ⟨((p + 1 : Nat) : Int), by rw [Int.natCast_add]; exact wrap_i64 (by omega) (by omega), ?_⟩
    refine (ih (by omega) (p + 1) t (by omega) (by omega)).at fun r hr => ?_
    obtain ⟨⟨ao, an, ar, av, af, as', aa⟩, na, t2, rfl, sa, la⟩ := hr
    refine end2 (.agg [i64 7, i64 0, i64 0, i64 0, .str [], i64 0, .str [], i64 0, .nils, .lsts 10 (cellsL [.mk ao an ar av af as' aa])]) (.lst (t2.map u8)) rfl ⟨_, rfl, _, _, rfl, rfl, _, _, rfl, rfl, _, _, rfl, rfl, _, _, rfl, rfl, _, _, rfl, rfl, _, _, rfl, rfl, _, _, rfl, rfl, _, _, rfl, rfl, _, _, rfl, .inl rfl, _, _, rfl, ⟨_, rfl, Nat.le_refl _, rfl⟩, rfl⟩ rfl ?_
    exact ⟨_, _, .mk 7 0 0 0 rf0 [] [.mk ao an ar av af as' aa], _, t2, rfl, nil_two 7 _, NilD.refl _, neg_small sa, by simp only [List.length_cons]; omega⟩
   ·refine And.intro (fun h => absurd (show (v : Int).tmod 8 = 2 from h) (by first | (rw [e8]; omega) | omega)) (fun _ => ?_)
    refine ⟨by decide, ?_⟩
    by_cases k3 : v % 8 = 3
    ·refine And.intro (fun _ => ?_) (fun h => absurd (show (v : Int).tmod 8 = 3 by first | (rw [e8]; omega) | omega) h)
     refine ⟨by decide, ((v / 64 : Nat) : Int), by show _ = IntKind.i64.wrap ((v : Int).tdiv 64); rw [show (v : Int).tdiv 64 = ((v / 64 : Nat) : Int) from rfl]; exact wrap_i64 (by omega) (by omega), ?_⟩
     refine ⟨by decide, ((v / 8 : Nat) : Int), by show _ = IntKind.i64.wrap ((v : Int).tdiv 8); rw [show (v : Int).tdiv 8 = ((v / 8 : Nat) : Int) from rfl]; exact wrap_i64 (by omega) (by omega), ?_⟩
     refine ⟨by decide, ?_⟩
     refine ⟨1 + ((v / 8 % 4 : Nat) : Int), by show _ = IntKind.i64.wrap (1 + ((v / 8 : Nat) : Int).tmod 4); rw [show ((v / 8 : Nat) : Int).tmod 4 = ((v / 8 % 4 : Nat) : Int) from rfl]; exact wrap_i64 (by omega) (by omega), ?_⟩
     refine ⟨by decide, ((v / 32 : Nat) : Int), by show _ = IntKind.i64.wrap ((v : Int).tdiv 32); rw [show (v : Int).tdiv 32 = ((v / 32 : Nat) : Int) from rfl]; exact wrap_i64 (by omega) (by omega), ?_⟩
     refine ⟨by decide, ?_⟩
     refine end2 (.agg [i64 6, i64 ((v / 32 % 3 : Nat) : Int), i64 (1 + ((v / 8 % 4 : Nat) : Int)), i64 ((v / 64 : Nat) : Int), .str (nmV v), i64 3, .str [], i64 0, .nils, .nils]) (.lst (t.map u8)) rfl rfl rfl ?_
     exact ⟨_, _, .mk 6 ((v / 32 % 3 : Nat) : Int) (1 + ((v / 8 % 4 : Nat) : Int)) ((v / 64 : Nat) : Int) ⟨nmV v, 3, [], 0⟩ [] [], 1, t, rfl, nil_leaf2 6 _ _ _ ⟨nmV v, 3, [], 0⟩, NilD.refl _, leaf_small (by decide) (by decide) (by decide) (leafB6 hn (nat_qm v 32 3 hv) (nat_q v 64 hv) (by omega)) (by decide) d, by simp only [List.length_cons]; omega⟩
    refine And.intro (fun h => absurd (show (v : Int).tmod 8 = 3 from h) (by first | (rw [e8]; omega) | omega)) (fun _ => ?_)
    refine ⟨by decide, ?_⟩
    by_cases k4 : v % 8 = 4
    ·refine And.intro (fun _ => ?_) (fun h => absurd (show (v : Int).tmod 8 = 4 by first | (rw [e8]; omega) | omega) h)
     refine ⟨by decide, ((v / 32 : Nat) : Int), by show _ = IntKind.i64.wrap ((v : Int).tdiv 32); rw [show (v : Int).tdiv 32 = ((v / 32 : Nat) : Int) from rfl]; exact wrap_i64 (by omega) (by omega), ?_⟩
     refine ⟨by decide, ?_⟩
     refine vdraw_ot otG (by kernel_rfl) ?_
     refine ⟨by decide, ((v / 8 : Nat) : Int), by show _ = IntKind.i64.wrap ((v : Int).tdiv 8); rw [show (v : Int).tdiv 8 = ((v / 8 : Nat) : Int) from rfl]; exact wrap_i64 (by omega) (by omega), ?_⟩
     refine ⟨by decide, ?_⟩
     refine ⟨by show (0 : Int) ≤ ((v / 8 : Nat) : Int).tmod 4 ∧ ((v / 8 : Nat) : Int).tmod 4 ≤ 4; rw [show ((v / 8 : Nat) : Int).tmod 4 = ((v / 8 % 4 : Nat) : Int) from rfl]; omega, ?_⟩
     refine end2 (.agg [i64 5, i64 0, i64 0, i64 0, .str (nmV v), i64 1, .str [112], i64 ((v / 32 % 3 : Nat) : Int), .lst ((l9.map i64).drop (v / 8 % 4)), .nils]) (.lst (t.map u8)) rfl rfl rfl ?_
     exact ⟨_, _, .mk 5 0 0 0 ⟨nmV v, 1, [112], ((v / 32 % 3 : Nat) : Int)⟩ (l9.drop (v / 8 % 4)) [], 1, t, rfl, nil_leafD ⟨nmV v, 1, [112], ((v / 32 % 3 : Nat) : Int)⟩ l9 (v / 8 % 4), NilD.refl _, leaf_small (by decide) (by decide) (by decide) (leafB5 (refB1 hn p_name (nat_qm v 32 3 hv)) (setB_tail _ (by omega))) (by rw [List.length_drop]; show 4 - _ ≤ 4; omega) d, by simp only [List.length_cons]; omega⟩
    refine And.intro (fun h => absurd (show (v : Int).tmod 8 = 4 from h) (by first | (rw [e8]; omega) | omega)) (fun _ => ?_)
    refine ⟨by decide, ?_⟩
    by_cases k5 : v % 8 = 5
    ·refine And.intro (fun _ => ?_) (fun h => absurd (show (v : Int).tmod 8 = 5 by first | (rw [e8]; omega) | omega) h)
     refine ⟨by decide, ((v / 8 : Nat) : Int), by show _ = IntKind.i64.wrap ((v : Int).tdiv 8); rw [show (v : Int).tdiv 8 = ((v / 8 : Nat) : Int) from rfl]; exact wrap_i64 (by omega) (by omega), ?_⟩
     refine ⟨by decide, ?_⟩
     refine ⟨by decide, ((v / 8 : Nat) : Int), by show _ = IntKind.i64.wrap ((v : Int).tdiv 8); rw [show (v : Int).tdiv 8 = ((v / 8 : Nat) : Int) from rfl]; exact wrap_i64 (by omega) (by omega), ?_⟩
     refine ⟨by decide, ?_⟩
     refine ⟨1 + ((v / 8 % 4 : Nat) : Int), by show _ = IntKind.i64.wrap (1 + ((v / 8 : Nat) : Int).tmod 4); rw [show ((v / 8 : Nat) : Int).tmod 4 = ((v / 8 % 4 : Nat) : Int) from rfl]; exact wrap_i64 (by omega) (by omega), ?_⟩
     refine ⟨by decide, ((v / 64 : Nat) : Int), by show _ = IntKind.i64.wrap ((v : Int).tdiv 64); rw [show (v : Int).tdiv 64 = ((v / 64 : Nat) : Int) from rfl]; exact wrap_i64 (by omega) (by omega), ?_⟩
     refine end2 (.agg [i64 (1 + ((v / 8 % 4 : Nat) : Int)), i64 ((v / 64 : Nat) : Int), i64 0, i64 0, .str (nmV v), i64 2, .str [], i64 ((v / 8 % 4 : Nat) : Int), .nils, .nils]) (.lst (t.map u8)) rfl rfl rfl ?_
     exact ⟨_, _, .mk (1 + ((v / 8 % 4 : Nat) : Int)) ((v / 64 : Nat) : Int) 0 0 ⟨nmV v, 2, [], ((v / 8 % 4 : Nat) : Int)⟩ [] [], 1, t, rfl, nil_leaf2 _ _ 0 0 ⟨nmV v, 2, [], ((v / 8 % 4 : Nat) : Int)⟩, NilD.refl _, leaf_small (by omega) (by omega) (by omega) (leafB1 (by omega) (refB2 hn (nat_qm v 8 4 hv)) (nat_q v 64 hv)) (by decide) d, by simp only [List.length_cons]; omega⟩
    refine And.intro (fun h => absurd (show (v : Int).tmod 8 = 5 from h) (by first | (rw [e8]; omega) | omega)) (fun _ => ?_)
    refine ⟨by decide, ((v / 8 : Nat) : Int), by show _ = IntKind.i64.wrap ((v : Int).tdiv 8); rw [show (v : Int).tdiv 8 = ((v / 8 : Nat) : Int) from rfl]; exact wrap_i64 (by omega) (by omega), ?_⟩
    refine ⟨by decide, ?_⟩
    refine ⟨1 + ((v / 8 % 4 : Nat) : Int), by show _ = IntKind.i64.wrap (1 + ((v / 8 : Nat) : Int).tmod 4); rw [show ((v / 8 : Nat) : Int).tmod 4 = ((v / 8 % 4 : Nat) : Int) from rfl]; exact wrap_i64 (by omega) (by omega), ?_⟩
    refine ⟨by decide, ((v / 64 : Nat) : Int), by show _ = IntKind.i64.wrap ((v : Int).tdiv 64); rw [show (v : Int).tdiv 64 = ((v / 64 : Nat) : Int) from rfl]; exact wrap_i64 (by omega) (by omega), ?_⟩
    refine end2 (.agg [i64 (1 + ((v / 8 % 4 : Nat) : Int)), i64 ((v / 64 : Nat) : Int), i64 0, i64 0, .str (nmV v), i64 0, .str [], i64 0, .nils, .nils]) (.lst (t.map u8)) rfl rfl rfl ?_
    exact ⟨_, _, .mk (1 + ((v / 8 % 4 : Nat) : Int)) ((v / 64 : Nat) : Int) 0 0 ⟨nmV v, 0, [], 0⟩ [] [], 1, t, rfl, nil_leaf2 _ _ 0 0 ⟨nmV v, 0, [], 0⟩, NilD.refl _, leaf_small (by omega) (by omega) (by omega) (leafB1 (by omega) (refB0 hn) (nat_q v 64 hv)) (by decide) d, by simp only [List.length_cons]; omega⟩
 ·refine And.intro (fun h => absurd (show (p : Int) < 8 from h) (by first | (rw [e8]; omega) | omega)) (fun _ => ?_)
  refine And.intro (fun h => absurd (show (p : Int) < 8 from h) (by first | (rw [e8]; omega) | omega)) (fun _ => ?_)
  refine ⟨by decide, ?_⟩
  by_cases k3 : v % 8 = 3
  ·refine And.intro (fun _ => ?_) (fun h => absurd (show (v : Int).tmod 8 = 3 by first | (rw [e8]; omega) | omega) h)
   refine ⟨by decide, ((v / 64 : Nat) : Int), by show _ = IntKind.i64.wrap ((v : Int).tdiv 64); rw [show (v : Int).tdiv 64 = ((v / 64 : Nat) : Int) from rfl]; exact wrap_i64 (by omega) (by omega), ?_⟩
   refine ⟨by decide, ((v / 8 : Nat) : Int), by show _ = IntKind.i64.wrap ((v : Int).tdiv 8); rw [show (v : Int).tdiv 8 = ((v / 8 : Nat) : Int) from rfl]; exact wrap_i64 (by omega) (by omega), ?_⟩
   refine ⟨by decide, ?_⟩
   refine ⟨1 + ((v / 8 % 4 : Nat) : Int), by show _ = IntKind.i64.wrap (1 + ((v / 8 : Nat) : Int).tmod 4); rw [show ((v / 8 : Nat) : Int).tmod 4 = ((v / 8 % 4 : Nat) : Int) from rfl]; exact wrap_i64 (by omega) (by omega), ?_⟩
   refine ⟨by decide, ((v / 32 : Nat) : Int), by show _ = IntKind.i64.wrap ((v : Int).tdiv 32); rw [show (v : Int).tdiv 32 = ((v / 32 : Nat) : Int) from rfl]; exact wrap_i64 (by omega) (by omega), ?_⟩
   refine ⟨by decide, ?_⟩
   refine end2 (.agg [i64 6, i64 ((v / 32 % 3 : Nat) : Int), i64 (1 + ((v / 8 % 4 : Nat) : Int)), i64 ((v / 64 : Nat) : Int), .str (nmV v), i64 3, .str [], i64 0, .nils, .nils]) (.lst (t.map u8)) rfl rfl rfl ?_
   exact ⟨_, _, .mk 6 ((v / 32 % 3 : Nat) : Int) (1 + ((v / 8 % 4 : Nat) : Int)) ((v / 64 : Nat) : Int) ⟨nmV v, 3, [], 0⟩ [] [], 1, t, rfl, nil_leaf2 6 _ _ _ ⟨nmV v, 3, [], 0⟩, NilD.refl _, leaf_small (by decide) (by decide) (by decide) (leafB6 hn (nat_qm v 32 3 hv) (nat_q v 64 hv) (by omega)) (by decide) d, by simp only [List.length_cons]; omega⟩
  refine And.intro (fun h => absurd (show (v : Int).tmod 8 = 3 from h) (by first | (rw [e8]; omega) | omega)) (fun _ => ?_)
  refine ⟨by decide, ?_⟩
  by_cases k4 : v % 8 = 4
  ·refine And.intro (fun _ => ?_) (fun h => absurd (show (v : Int).tmod 8 = 4 by first | (rw [e8]; omega) | omega) h)
   refine ⟨by decide, ((v / 32 : Nat) : Int), by show _ = IntKind.i64.wrap ((v : Int).tdiv 32); rw [show (v : Int).tdiv 32 = ((v / 32 : Nat) : Int) from rfl]; exact wrap_i64 (by omega) (by omega), ?_⟩
   refine ⟨by decide, ?_⟩
   refine vdraw_ot otG (by kernel_rfl) ?_
   refine ⟨by decide, ((v / 8 : Nat) : Int), by show _ = IntKind.i64.wrap ((v : Int).tdiv 8); rw [show (v : Int).tdiv 8 = ((v / 8 : Nat) : Int) from rfl]; exact wrap_i64 (by omega) (by omega), ?_⟩
   refine ⟨by decide, ?_⟩
   refine ⟨by show (0 : Int) ≤ ((v / 8 : Nat) : Int).tmod 4 ∧ ((v / 8 : Nat) : Int).tmod 4 ≤ 4; rw [show ((v / 8 : Nat) : Int).tmod 4 = ((v / 8 % 4 : Nat) : Int) from rfl]; omega, ?_⟩
   refine end2 (.agg [i64 5, i64 0, i64 0, i64 0, .str (nmV v), i64 1, .str [112], i64 ((v / 32 % 3 : Nat) : Int), .lst ((l9.map i64).drop (v / 8 % 4)), .nils]) (.lst (t.map u8)) rfl rfl rfl ?_
   exact ⟨_, _, .mk 5 0 0 0 ⟨nmV v, 1, [112], ((v / 32 % 3 : Nat) : Int)⟩ (l9.drop (v / 8 % 4)) [], 1, t, rfl, nil_leafD ⟨nmV v, 1, [112], ((v / 32 % 3 : Nat) : Int)⟩ l9 (v / 8 % 4), NilD.refl _, leaf_small (by decide) (by decide) (by decide) (leafB5 (refB1 hn p_name (nat_qm v 32 3 hv)) (setB_tail _ (by omega))) (by rw [List.length_drop]; show 4 - _ ≤ 4; omega) d, by simp only [List.length_cons]; omega⟩
  refine And.intro (fun h => absurd (show (v : Int).tmod 8 = 4 from h) (by first | (rw [e8]; omega) | omega)) (fun _ => ?_)
  refine ⟨by decide, ?_⟩
  by_cases k5 : v % 8 = 5
  ·refine And.intro (fun _ => ?_) (fun h => absurd (show (v : Int).tmod 8 = 5 by first | (rw [e8]; omega) | omega) h)
   refine ⟨by decide, ((v / 8 : Nat) : Int), by show _ = IntKind.i64.wrap ((v : Int).tdiv 8); rw [show (v : Int).tdiv 8 = ((v / 8 : Nat) : Int) from rfl]; exact wrap_i64 (by omega) (by omega), ?_⟩
   refine ⟨by decide, ?_⟩
   refine ⟨by decide, ((v / 8 : Nat) : Int), by show _ = IntKind.i64.wrap ((v : Int).tdiv 8); rw [show (v : Int).tdiv 8 = ((v / 8 : Nat) : Int) from rfl]; exact wrap_i64 (by omega) (by omega), ?_⟩
   refine ⟨by decide, ?_⟩
   refine ⟨1 + ((v / 8 % 4 : Nat) : Int), by show _ = IntKind.i64.wrap (1 + ((v / 8 : Nat) : Int).tmod 4); rw [show ((v / 8 : Nat) : Int).tmod 4 = ((v / 8 % 4 : Nat) : Int) from rfl]; exact wrap_i64 (by omega) (by omega), ?_⟩
   refine ⟨by decide, ((v / 64 : Nat) : Int), by show _ = IntKind.i64.wrap ((v : Int).tdiv 64); rw [show (v : Int).tdiv 64 = ((v / 64 : Nat) : Int) from rfl]; exact wrap_i64 (by omega) (by omega), ?_⟩
   refine end2 (.agg [i64 (1 + ((v / 8 % 4 : Nat) : Int)), i64 ((v / 64 : Nat) : Int), i64 0, i64 0, .str (nmV v), i64 2, .str [], i64 ((v / 8 % 4 : Nat) : Int), .nils, .nils]) (.lst (t.map u8)) rfl rfl rfl ?_
   exact ⟨_, _, .mk (1 + ((v / 8 % 4 : Nat) : Int)) ((v / 64 : Nat) : Int) 0 0 ⟨nmV v, 2, [], ((v / 8 % 4 : Nat) : Int)⟩ [] [], 1, t, rfl, nil_leaf2 _ _ 0 0 ⟨nmV v, 2, [], ((v / 8 % 4 : Nat) : Int)⟩, NilD.refl _, leaf_small (by omega) (by omega) (by omega) (leafB1 (by omega) (refB2 hn (nat_qm v 8 4 hv)) (nat_q v 64 hv)) (by decide) d, by simp only [List.length_cons]; omega⟩
  refine And.intro (fun h => absurd (show (v : Int).tmod 8 = 5 from h) (by first | (rw [e8]; omega) | omega)) (fun _ => ?_)
  refine ⟨by decide, ((v / 8 : Nat) : Int), by show _ = IntKind.i64.wrap ((v : Int).tdiv 8); rw [show (v : Int).tdiv 8 = ((v / 8 : Nat) : Int) from rfl]; exact wrap_i64 (by omega) (by omega), ?_⟩
  refine ⟨by decide, ?_⟩
  refine ⟨1 + ((v / 8 % 4 : Nat) : Int), by show _ = IntKind.i64.wrap (1 + ((v / 8 : Nat) : Int).tmod 4); rw [show ((v / 8 : Nat) : Int).tmod 4 = ((v / 8 % 4 : Nat) : Int) from rfl]; exact wrap_i64 (by omega) (by omega), ?_⟩
  refine ⟨by decide, ((v / 64 : Nat) : Int), by show _ = IntKind.i64.wrap ((v : Int).tdiv 64); rw [show (v : Int).tdiv 64 = ((v / 64 : Nat) : Int) from rfl]; exact wrap_i64 (by omega) (by omega), ?_⟩
  refine end2 (.agg [i64 (1 + ((v / 8 % 4 : Nat) : Int)), i64 ((v / 64 : Nat) : Int), i64 0, i64 0, .str (nmV v), i64 0, .str [], i64 0, .nils, .nils]) (.lst (t.map u8)) rfl rfl rfl ?_
  exact ⟨_, _, .mk (1 + ((v / 8 % 4 : Nat) : Int)) ((v / 64 : Nat) : Int) 0 0 ⟨nmV v, 0, [], 0⟩ [] [], 1, t, rfl, nil_leaf2 _ _ 0 0 ⟨nmV v, 0, [], 0⟩, NilD.refl _, leaf_small (by omega) (by omega) (by omega) (leafB1 (by omega) (refB0 hn) (nat_q v 64 hv)) (by decide) d, by simp only [List.length_cons]; omega⟩
theorem grow_all : ∀ d, GrOK (d + 1)
 | 0 => grow_step 0 fun h => absurd rfl h
 | d + 1 => grow_step (d + 1) fun _ => grow_all d
theorem tree_c (l : List UInt8) (hl : l.length ≤ 9223372036854775807) : Pure cx 41 [.lst (l.map u8)] fun r => ∃ (c : Cd) (n : Nat), r = .ret [c.pv] ∧ Small 8 c n ∧ n ≤ 29 := by
 refine pure_of_vc Tryz.func41 rfl rfl rfl ?_
 have hl' : (l.map u8).length = l.length := List.length_map ..
 obtain ⟨k, hk⟩ : ∃ k, k = min l.length 14 := ⟨_, rfl⟩
 have em : (if (14 : Int) < ((l.map u8).length : Nat) then (14 : Int) else ((l.map u8).length : Nat)) = (k : Nat) := by
  rw [hl', hk]; split <;> omega
 refine ⟨by show (0 : Int) ≤ (if (14 : Int) < ((l.map u8).length : Nat) then (14 : Int) else ((l.map u8).length : Nat)) ∧ (if (14 : Int) < ((l.map u8).length : Nat) then (14 : Int) else ((l.map u8).length : Nat)) ≤ ((l.map u8).length : Nat); rw [em, hl']; omega, ?_⟩
 have hg := grow_all 7 1 (l.take k) rfl (by rw [List.length_take]; omega)
 have ea : [PV.lst ((l.take k).map u8), i64 ((1 : Nat) : Int)] = [PV.lst ((l.map u8).take (if (14 : Int) < ((l.map u8).length : Nat) then (14 : Int) else ((l.map u8).length : Nat)).toNat), i64 1] := by
  rw [em, List.map_take]; rfl
 rw [ea] at hg
 refine hg.at fun r hr => ?_
 obtain ⟨⟨ao, an, ar, av, af, as', aa⟩, n, rest, rfl, hs, hn⟩ := hr
 exact end1 _ rfl rfl ⟨_, n, rfl, hs, by rw [List.length_take] at hn; omega⟩
abbrev withD (c : Cd) : De := ⟨5, 0, [], [], [], [⟨c, [1]⟩, ⟨cd0, [-1, 0]⟩]⟩
theorem with_c (l : List UInt8) (hl : l.length ≤ 9223372036854775807) : Pure cx 12 [.lst (l.map u8)] fun r => ∃ (c : Cd) (n : Nat), r = .ret [srcV [withD c]] ∧ Small 8 c n ∧ n ≤ 29 := by
 refine Pure.weak (Q := fun r => ∃ (c : Cd) (n : Nat), r = .ret [.agg [.lsts 6 [[i64 5, i64 0, .str [], .str [], .nils, .lsts 11 [c.cells ++ [.lst [i64 1]], zc0 ++ [.lst [i64 (-1), i64 0]]]]]]] ∧ Small 8 c n ∧ n ≤ 29) ?_ ?_
 ·refine pure_of_vc Tryz.func12 rfl rfl rfl ?_
  refine (tree_c l hl).at fun r hr => ?_
  obtain ⟨⟨ao, an, ar, av, af, as', aa⟩, n, rfl, hs, hn⟩ := hr
  refine end1 _ rfl ⟨_, rfl, _, _, rfl, ⟨_, rfl, Nat.le_refl _, ⟨_, _, rfl, ⟨_, _, rfl, rfl, _, _, rfl, rfl, _, _, rfl, rfl, _, _, rfl, rfl, _, _, rfl, .inl rfl, _, _, rfl, ⟨_, rfl, Nat.le_refl _, ⟨_, _, rfl, ?_, _, _, rfl, ?_, rfl⟩⟩, rfl⟩, rfl⟩⟩, rfl⟩ ⟨_, n, rfl, hs, hn⟩
  ·exact ⟨_, _, rfl, rfl, _, _, rfl, rfl, _, _, rfl, rfl, _, _, rfl, rfl, _, _, rfl, rfl, _, _, rfl, rfl, _, _, rfl, rfl, _, _, rfl, rfl, _, _, rfl, rfl, _, _, rfl, rfl, _, _, rfl, ⟨_, rfl, Nat.le_refl _, rfl⟩, rfl⟩
  ·exact ⟨_, _, rfl, rfl, _, _, rfl, rfl, _, _, rfl, rfl, _, _, rfl, rfl, _, _, rfl, rfl, _, _, rfl, rfl, _, _, rfl, rfl, _, _, rfl, rfl, _, _, rfl, .inl rfl, _, _, rfl, .inl rfl, _, _, rfl, ⟨_, rfl, Nat.le_refl _, rfl⟩, rfl⟩
 ·rintro r ⟨c, n, rfl, hs, hn⟩
  refine ⟨_, ⟨_, rfl, _, _, rfl, ?_, rfl⟩, c, n, rfl, hs, hn⟩
  show NilD _ (.agg [.lsts 6 [[i64 5, i64 0, .str [], .str [], .lsts 4 [], .lsts 11 [(⟨c, [1]⟩ : Cs).cells, (⟨cd0, [-1, 0]⟩ : Cs).cells]]]])
  simp only [NilD, NilDL, NilDLL]
  exact ⟨_, rfl, _, _, rfl, ⟨_, rfl, _, _, rfl, ⟨_, _, rfl, rfl, _, _, rfl, rfl, _, _, rfl, rfl, _, _, rfl, rfl, _, _, rfl, .inr (.inr ⟨4, rfl⟩), _, _, rfl, ⟨_, rfl, _, _, rfl, NilDL.refl _, _, _, rfl, nil_zc [-1, 0], rfl⟩, rfl⟩, rfl⟩, rfl⟩
set_option maxHeartbeats 4000000
def isLP (t : List UInt8) : Nat := if t = tLP then 1 else 0
def lpP (ws : List Wd) : Nat → Nat
 | 0 => 0
 | q + 1 => lpP ws q + isLP (txt ws q)
theorem lp_mono {ws : List Wd} {q q' : Nat} (h : q ≤ q') : lpP ws q ≤ lpP ws q' := by
 obtain ⟨d, rfl⟩ : ∃ d, q' = q + d := ⟨q' - q, by omega⟩
 clear h
 induction d with
 | zero => exact Nat.le_refl _
 | succ d ih => exact Nat.le_trans ih (Nat.le_add_right _ _)
theorem lp_top {ws : List Wd} (q : Nat) : lpP ws q ≤ lpP ws ws.length := by
 rcases Nat.lt_or_ge ws.length q with h | h
 ·obtain ⟨d, rfl⟩ : ∃ d, q = ws.length + d := ⟨q - ws.length, by omega⟩
  clear h
  induction d with
  | zero => exact Nat.le_refl _
  | succ d ih =>
   show lpP ws (ws.length + d) + isLP (txt ws (ws.length + d)) ≤ _
   have : isLP (txt ws (ws.length + d)) = 0 := by
    rw [txt, wat_end (by omega)]; rfl
   omega
 ·exact lp_mono h
def pn (k : Nat) (p : Int × Nat) : Nat := p.2 + if lvl p.1 < k then 1 else 0
def cpJ (op : Int) (ps : List (Int × Nat)) : Nat :=
 if op = 9 then pn 1 (ps.getD 0 (0, 0)) + pn 2 (ps.getD 1 (0, 0)) else if op = 8 then pn 2 (ps.getD 0 (0, 0)) + pn 3 (ps.getD 1 (0, 0)) else if op = 7 then pn 3 (ps.getD 0 (0, 0)) else if op = 6 then 1 else 0
mutual
def cp : Cd → Nat
 | .mk op _ _ _ _ _ ar => cpJ op (cpL ar)
def cpL : List Cd → List (Int × Nat)
 | [] => []
 | c :: r => (c.op, cp c) :: cpL r
end
def pin (k : Nat) (c : Cd) : Nat := pn k (c.op, cp c)
theorem pn_mono {k k' : Nat} (h : k ≤ k') (p : Int × Nat) : pn k p ≤ pn k' p := by
 unfold pn
 split
 ·rw [if_pos (by omega)]; exact Nat.le_refl _
 ·exact Nat.le_add_right _ _
theorem pin_le (k : Nat) (c : Cd) : pin k c ≤ cp c + 1 := by
 unfold pin pn
 split <;> simp
theorem cp_disj (a b : Cd) : cp (.mk 9 0 0 0 rf0 [] [a, b]) = pin 1 a + pin 2 b := by rw [cp, cpL, cpL, cpL]; rfl
theorem cp_conj (a b : Cd) : cp (.mk 8 0 0 0 rf0 [] [a, b]) = pin 2 a + pin 3 b := by rw [cp, cpL, cpL, cpL]; rfl
theorem cp_neg (a : Cd) : cp (.mk 7 0 0 0 rf0 [] [a]) = pin 3 a := by rw [cp, cpL, cpL]; rfl
theorem cp_leaf {op n rel val : Int} {r : Rf} {st : List Int} (h7 : ¬ op = 7) (h8 : ¬ op = 8) (h9 : ¬ op = 9) : cp (.mk op n rel val r st []) = if op = 6 then 1 else 0 := by
 rw [cp, cpJ, if_neg h9, if_neg h8, if_neg h7]
theorem pin_at {k : Nat} {c : Cd} (h : ¬ lvl c.op < k) : pin k c = cp c := by
 unfold pin pn
 rw [if_neg h]; rfl
theorem must_in {ws : List Wd} {s : List UInt8} {q q' : Nat} {u : Unit} (h : mustR ws s q = .inr (u, q')) : txt ws q = s ∧ q' = q + 1 := by
 rw [mustR] at h
 split at h
 ·rename_i e
  injection h with h; injection h with h1 h2
  exact ⟨e, h2.symm⟩
 ·cases h
theorem lp_at {ws : List Wd} {q : Nat} (h : txt ws q = tLP) : lpP ws (q + 1) = lpP ws q + 1 := by
 show lpP ws q + isLP (txt ws q) = _
 rw [h]; rfl
theorem rel_op {ws : List Wd} {q q' : Nat} {n : Int} (h : relR ws q = .inr (n, q')) : 1 ≤ n ∧ n ≤ 4 := by
 rw [relR] at h
 split at h
 ·injection h with h; injection h with h1 h2; omega
 ·split at h
  ·injection h with h; injection h with h1 h2; omega
  ·split at h
   ·injection h with h; injection h with h1 h2; omega
   ·split at h
    ·injection h with h; injection h with h1 h2; omega
    ·cases h
structure CLp (ws : List Wd) (F : Nat) : Prop where
 cond : ∀ {q c q'}, condR ws F q = .inr (c, q') → lpP ws q + pin 1 c ≤ lpP ws q'
 orr : ∀ {d q c q'}, orR ws F d q = .inr (c, q') → ∀ s, s + pin 1 d ≤ lpP ws q → s + pin 1 c ≤ lpP ws q'
 conj : ∀ {q c q'}, conjR ws F q = .inr (c, q') → lpP ws q + pin 2 c ≤ lpP ws q'
 andr : ∀ {d q c q'}, andR ws F d q = .inr (c, q') → ∀ s, s + pin 2 d ≤ lpP ws q → s + pin 2 c ≤ lpP ws q'
 neg : ∀ {q c q'}, negR ws F q = .inr (c, q') → lpP ws q + pin 3 c ≤ lpP ws q'
 test : ∀ {q c q'}, testR ws F q = .inr (c, q') → lpP ws q + pin 4 c ≤ lpP ws q'
theorem c_lp (ws : List Wd) : ∀ F, CLp ws F
 | 0 => by
  constructor
  ·intro q c q' h; rw [condR] at h; cases h
  ·intro d q c q' h; rw [orR] at h; cases h
  ·intro q c q' h; rw [conjR] at h; cases h
  ·intro d q c q' h; rw [andR] at h; cases h
  ·intro q c q' h; rw [negR] at h; cases h
  ·intro q c q' h; rw [testR] at h; cases h
 | F + 1 => by
  have ih := c_lp ws F
  have lt := c_lt ws F
  constructor
  ·intro q c q' h
   rw [condR] at h
   obtain ⟨a, p, h1, h⟩ := then_ok h
   have h2 := ih.conj h1
   exact ih.orr h _ (Nat.le_trans (Nat.add_le_add_left (pn_mono (by decide) _) _) h2)
  ·intro d q c q' h s hs
   rw [orR] at h
   split at h
   ·obtain ⟨a, p, h1, h⟩ := then_ok h
    have h2 := ih.conj h1
    refine ih.orr h s ?_
    have e : pin 1 (.mk 9 0 0 0 rf0 [] [d, a]) = pin 1 d + pin 2 a := by rw [pin_at (show ¬ (1 : Nat) < 1 by decide), cp_disj]
    have := lp_mono (ws := ws) (show q ≤ q + 1 by omega)
    omega
   ·injection h with h; injection h with h1 h2
    subst h1 h2
    exact hs
  ·intro q c q' h
   rw [conjR] at h
   obtain ⟨a, p, h1, h⟩ := then_ok h
   have h2 := ih.neg h1
   exact ih.andr h _ (Nat.le_trans (Nat.add_le_add_left (pn_mono (by decide) _) _) h2)
  ·intro d q c q' h s hs
   rw [andR] at h
   split at h
   ·obtain ⟨a, p, h1, h⟩ := then_ok h
    have h2 := ih.neg h1
    refine ih.andr h s ?_
    have e : pin 2 (.mk 8 0 0 0 rf0 [] [d, a]) = pin 2 d + pin 3 a := by rw [pin_at (show ¬ (2 : Nat) < 2 by decide), cp_conj]
    have := lp_mono (ws := ws) (show q ≤ q + 1 by omega)
    omega
   ·injection h with h; injection h with h1 h2
    subst h1 h2
    exact hs
  ·intro q c q' h
   rw [negR] at h
   split at h
   ·obtain ⟨a, p, h1, h⟩ := then_ok h
    have h2 := ih.neg h1
    injection h with h; injection h with h3 h4
    subst h3 h4
    have e : pin 3 (.mk 7 0 0 0 rf0 [] [a]) = pin 3 a := by rw [pin_at (show ¬ (3 : Nat) < 3 by decide), cp_neg]
    have := lp_mono (ws := ws) (show q ≤ q + 1 by omega)
    omega
   ·have h2 := ih.test h
    exact Nat.le_trans (Nat.add_le_add_left (pn_mono (by decide) _) _) h2
  ·intro q c q' h
   rw [testR] at h
   split at h
   ·rename_i ht
    obtain ⟨a, p, h1, h⟩ := then_ok h
    have h2 := ih.cond h1
    obtain ⟨u, p2, h3, h⟩ := then_ok h
    have h4 := must_in h3
    injection h with h; injection h with h5 h6
    subst h5 h6
    have h7 := lp_at ht
    have h8 := pin_le 4 a
    have h9 : cp a ≤ pin 1 a := Nat.le_add_right _ _
    have := lp_mono (ws := ws) (show p ≤ p2 by omega)
    omega
   ·split at h
    ·obtain ⟨u, p1, h1, h⟩ := then_ok h
     have m1 := must_in h1
     obtain ⟨nm, p2, h2, h⟩ := then_ok h
     have := name_lt h2
     obtain ⟨u3, p3, h3, h⟩ := then_ok h
     obtain ⟨v, p4, h4, h⟩ := then_ok h
     have := num_lt h4
     obtain ⟨u5, p5, h5, h⟩ := then_ok h
     have := must_lt h5
     obtain ⟨r, p6, h6, h⟩ := then_ok h
     have := rel_lt h6
     obtain ⟨n, p7, h7, h⟩ := then_ok h
     have := num_lt h7
     have h3' : p2 ≤ p3 := by
      rw [mustsR] at h3
      obtain ⟨_, a1, g1, h3⟩ := then_ok h3
      rw [mustsR] at h3
      obtain ⟨_, a2, g2, h3⟩ := then_ok h3
      rw [mustsR] at h3
      obtain ⟨_, a3, g3, h3⟩ := then_ok h3
      rw [mustsR] at h3
      obtain ⟨_, a4, g4, h3⟩ := then_ok h3
      have := must_lt g1
      have := must_lt g2
      have := must_lt g3
      have := must_lt g4
      injection h3 with h3; injection h3 with h3 h3'; omega
     injection h with h; injection h with k1 k2
     subst k1 k2
     have e : pin 4 (.mk 6 n r v ⟨nm, 3, [], 0⟩ [] []) = 1 := by rw [pin_at (show ¬ (4 : Nat) < 4 by decide), cp_leaf (by decide) (by decide) (by decide), if_pos rfl]
     have e2 := lp_at m1.1
     have := lp_mono (ws := ws) (show q ≤ q + 1 by omega)
     have := lp_mono (ws := ws) (show q + 1 + 1 ≤ p7 by omega)
     omega
    ·obtain ⟨r, p1, h1, h⟩ := then_ok h
     have := ref_lt h1
     try simp only [] at h
     split at h
     ·obtain ⟨u, p2, h2, h⟩ := then_ok h
      have := must_lt h2
      obtain ⟨l, p3, h3, h⟩ := then_ok h
      have := list_lt (fun q a q' h => num_lt h) h3
      obtain ⟨u4, p4, h4, h⟩ := then_ok h
      have := must_lt h4
      injection h with h; injection h with k1 k2
      subst k1 k2
      have e : pin 4 (.mk 5 0 0 0 r (setN l) []) = 0 := by rw [pin_at (show ¬ (4 : Nat) < 4 by decide), cp_leaf (by decide) (by decide) (by decide), if_neg (by decide)]
      have := lp_mono (ws := ws) (show q ≤ p4 by omega)
      omega
     ·obtain ⟨o, p2, h2, h⟩ := then_ok h
      have := rel_lt h2
      have ho := rel_op h2
      obtain ⟨n, p3, h3, h⟩ := then_ok h
      have := num_lt h3
      injection h with h; injection h with k1 k2
      subst k1 k2
      have e : pin 4 (.mk o n 0 0 r [] []) = 0 := by rw [pin_at (by show ¬ lvl o < 4; rw [lvl_leaf (by omega) (by omega) (by omega)]; decide), cp_leaf (by omega) (by omega) (by omega), if_neg (by omega)]
      have := lp_mono (ws := ws) (show q ≤ p3 by omega)
      omega
theorem cases_acc {ws : List Wd} {F : Nat} : ∀ (f : Nat) {acc l : List Cs} {q q' : Nat}, casesR ws F f acc q = .inr (l, q') → ∃ t, l = acc ++ t ∧ t ≠ []
 | 0, _, _, _, _, h => by cases h
 | f + 1, acc, l, q, q', h => by
  rw [casesR] at h
  split at h
  ·rw [ruleEnd] at h
   obtain ⟨_, _, _, h⟩ := then_ok h
   obtain ⟨n, _, _, h⟩ := then_ok h
   obtain ⟨_, _, _, h⟩ := then_ok h
   injection h with h; injection h with h _
   exact ⟨_, h.symm, by simp⟩
  ·obtain ⟨c, _, _, h⟩ := then_ok h
   obtain ⟨_, _, _, h⟩ := then_ok h
   obtain ⟨n, _, _, h⟩ := then_ok h
   obtain ⟨_, _, _, h⟩ := then_ok h
   obtain ⟨t, h1, _⟩ := cases_acc f h
   exact ⟨⟨c, n⟩ :: t, by rw [h1]; simp, by simp⟩
theorem prog_acc {ws : List Wd} {F : Nat} : ∀ (f : Nat) {acc l : List De} {q q' : Nat}, progR ws F f acc q = .inr (l, q') → ∃ t, l = acc ++ t
 | 0, _, _, _, _, h => by cases h
 | f + 1, acc, l, q, q', h => by
  rw [progR] at h
  split at h
  ·obtain ⟨d, _, _, h⟩ := then_ok h
   obtain ⟨_, _, _, h⟩ := then_ok h
   obtain ⟨t, h1⟩ := prog_acc f h
   exact ⟨d :: t, by rw [h1]; simp⟩
  ·injection h with h; injection h with h _
   exact ⟨[], by rw [← h]; simp⟩
theorem gain_cond {ws : List Wd} {F : Nat} {q q' : Nat} {c : Cd} (h : gainR ws F q = .inr (withD c, q')) : ∃ p p', condR ws F p = .inr (c, p') := by
 rw [gainR] at h
 obtain ⟨l, _, _, h⟩ := then_ok h
 obtain ⟨_, _, _, h⟩ := then_ok h
 obtain ⟨cs, _, h1, h⟩ := then_ok h
 injection h with h; injection h with h _
 injection h with _ _ _ _ _ h
 subst h
 rw [ruleR] at h1
 obtain ⟨_, q1, _, h1⟩ := then_ok h1
 cases F with
 | zero => cases h1
 | succ f =>
  rw [casesR] at h1
  split at h1
  ·rw [ruleEnd] at h1
   obtain ⟨_, _, _, h1⟩ := then_ok h1
   obtain ⟨n, _, _, h1⟩ := then_ok h1
   obtain ⟨_, _, _, h1⟩ := then_ok h1
   injection h1 with h1; injection h1 with h1 _
   simp at h1
  ·obtain ⟨c2, p2, hc, h1⟩ := then_ok h1
   obtain ⟨_, _, _, h1⟩ := then_ok h1
   obtain ⟨n, _, _, h1⟩ := then_ok h1
   obtain ⟨_, _, _, h1⟩ := then_ok h1
   obtain ⟨t, h2, _⟩ := cases_acc f h1
   simp only [List.nil_append, List.cons_append, List.cons.injEq] at h2
   have h3 := h2.1
   injection h3 with h3 _
   subst h3
   exact ⟨_, _, hc⟩
theorem decl_cond {ws : List Wd} {F : Nat} {q q' : Nat} {c : Cd} (h : declR ws F q = .inr (withD c, q')) : ∃ p p', condR ws F p = .inr (c, p') := by
 rw [declR] at h
 split at h
 ·rw [grainR] at h
  obtain ⟨n, _, _, h⟩ := then_ok h
  injection h with h; injection h with h _; injection h with h
  exact absurd h (by decide)
 ·split at h
  ·rw [plateR] at h
   obtain ⟨n, _, _, h⟩ := then_ok h
   obtain ⟨_, _, _, h⟩ := then_ok h
   obtain ⟨m, _, _, h⟩ := then_ok h
   injection h with h; injection h with h _; injection h with h
   exact absurd h (by decide)
  ·split at h
   ·rw [nodeR] at h
    obtain ⟨n, _, _, h⟩ := then_ok h
    have key : ∀ {nm pl : List UInt8} {p : Nat}, ¬ nodeTail ws F nm pl p = .inr (withD c, q') := by
     intro nm pl p h
     rw [nodeTail] at h
     obtain ⟨_, _, _, h⟩ := then_ok h
     obtain ⟨_, _, _, h⟩ := then_ok h
     obtain ⟨_, _, _, h⟩ := then_ok h
     obtain ⟨_, _, _, h⟩ := then_ok h
     obtain ⟨_, _, _, h⟩ := then_ok h
     injection h with h; injection h with h _; injection h with h
     exact absurd h (by decide)
    split at h
    ·obtain ⟨_, _, _, h⟩ := then_ok h
     obtain ⟨_, _, _, h⟩ := then_ok h
     exact absurd h key
    ·exact absurd h key
   ·split at h
    ·rw [chooseR] at h
     obtain ⟨_, _, _, h⟩ := then_ok h
     obtain ⟨_, _, _, h⟩ := then_ok h
     obtain ⟨_, _, _, h⟩ := then_ok h
     obtain ⟨_, _, _, h⟩ := then_ok h
     injection h with h; injection h with h _; injection h with h
     exact absurd h (by decide)
    ·split at h
     ·exact gain_cond h
     ·cases h
theorem prog_cond {ws : List Wd} {F f : Nat} {q' : Nat} {c : Cd} (h : progR ws F f [] 0 = .inr ([withD c], q')) : ∃ p p', condR ws F p = .inr (c, p') := by
 cases f with
 | zero => cases h
 | succ f =>
  rw [progR] at h
  split at h
  ·obtain ⟨d, p, hd, h⟩ := then_ok h
   obtain ⟨_, _, _, h⟩ := then_ok h
   obtain ⟨t, h1⟩ := prog_acc f h
   simp only [List.nil_append, List.cons_append, List.cons.injEq] at h1
   rw [← h1.1] at hd
   exact decl_cond hd
  ·injection h with h; injection h with h _
   simp at h
theorem par_lp {s : List UInt8} {ws : List Wd} {c : Cd} (hr : readR s = .ok ws) (hs : s.length ≤ 8000) (h : parR s = .inr [withD c]) : cp c ≤ lpP ws ws.length := by
 rw [parR, if_neg (by omega), hr] at h
 simp only [] at h
 cases hp : progR ws (fuelW ws) (fuelW ws) [] 0 with
 | inl q => rw [hp] at h; cases h
 | inr x =>
  obtain ⟨l, q⟩ := x
  rw [hp] at h
  simp only [] at h
  split at h
  ·injection h with h
   subst h
   obtain ⟨p, p', hc⟩ := prog_cond hp
   have h1 := (c_lp ws _).cond hc
   have h2 : cp c ≤ pin 1 c := Nat.le_add_right _ _
   have h3 := lp_top (ws := ws) p'
   omega
  ·cases h
def lpT (x : Toks) : Nat := (x.map isLP).sum
def wgh (t : List UInt8) : Int := if t = tLP then 1 else if t = tRP then -1 else 0
def tot (x : Toks) : Int := (x.map wgh).sum
theorem lpT_app (x y : Toks) : lpT (x ++ y) = lpT x + lpT y := by rw [lpT, List.map_append, List.sum_append]; rfl
theorem tot_app (x y : Toks) : tot (x ++ y) = tot x + tot y := by rw [tot, List.map_append, List.sum_append]; rfl
theorem lpT_cons (t : List UInt8) (x : Toks) : lpT (t :: x) = isLP t + lpT x := by simp [lpT]
theorem tot_cons (t : List UInt8) (x : Toks) : tot (t :: x) = wgh t + tot x := by simp [tot]
structure Bal (x : Toks) : Prop where
 all : tot x = 0
 pre : ∀ n, 0 ≤ tot (x.take n)
theorem Bal.app {x y : Toks} (hx : Bal x) (hy : Bal y) : Bal (x ++ y) := by
 refine ⟨by rw [tot_app, hx.all, hy.all]; rfl, fun n => ?_⟩
 rw [List.take_append, tot_app]
 have := hx.pre n
 have := hy.pre (n - x.length)
 omega
def Pl (t : List UInt8) : Prop := t ≠ tLP ∧ t ≠ tRP
theorem pl_wgh {t : List UInt8} (h : Pl t) : wgh t = 0 := by rw [wgh, if_neg h.1, if_neg h.2]
theorem pl_lp {t : List UInt8} (h : Pl t) : isLP t = 0 := if_neg h.1
theorem flat_tot : ∀ {x : Toks}, (∀ t ∈ x, Pl t) → tot x = 0 ∧ lpT x = 0
 | [], _ => ⟨rfl, rfl⟩
 | t :: x, h => by
  have h1 := h t (List.mem_cons_self ..)
  have h2 := flat_tot (x := x) fun u hu => h u (List.mem_cons_of_mem _ hu)
  rw [tot_cons, lpT_cons, pl_wgh h1, pl_lp h1, h2.1, h2.2]; exact ⟨rfl, rfl⟩
theorem flat_bal {x : Toks} (h : ∀ t ∈ x, Pl t) : Bal x :=
 ⟨(flat_tot h).1, fun n => by rw [(flat_tot fun t ht => h t (List.mem_of_mem_take ht)).1]; exact Int.le_refl _⟩
theorem Bal.par {x : Toks} (h : Bal x) : Bal (tLP :: (x ++ [tRP])) := by
 have e1 : wgh tLP = 1 := rfl
 have e2 : tot [tRP] = -1 := rfl
 refine ⟨by rw [tot_cons, tot_app, h.all, e1, e2]; rfl, fun n => ?_⟩
 cases n with
 | zero => exact Int.le_refl _
 | succ n =>
  rw [List.take_succ_cons, tot_cons, e1, List.take_append, tot_app]
  have := h.pre n
  have h3 : -1 ≤ tot ([tRP].take (n - x.length)) := by
   cases n - x.length with
   | zero => decide
   | succ m => rw [List.take_of_length_le (by simp)]; decide
  omega
theorem pl_name {t : List UInt8} (h : nameN t = true) : Pl t := ⟨name_ne h (by decide), name_ne h (by decide)⟩
theorem pl_dig {n : Int} (h : natB n = true) : Pl (digT n) := ⟨num_ne (digT_num h).1 (by decide), num_ne (digT_num h).1 (by decide)⟩
theorem pl_cons {t : List UInt8} {x : Toks} (h : Pl t) (hx : ∀ u ∈ x, Pl u) : ∀ u ∈ t :: x, Pl u := fun u hu => by
 rcases List.mem_cons.1 hu with rfl | hu
 ·exact h
 ·exact hx u hu
theorem pl_nil : ∀ u ∈ ([] : Toks), Pl u := fun u hu => by cases hu
theorem pl_app {x y : Toks} (hx : ∀ u ∈ x, Pl u) (hy : ∀ u ∈ y, Pl u) : ∀ u ∈ x ++ y, Pl u := fun u hu => by
 rcases List.mem_append.1 hu with hu | hu
 ·exact hx u hu
 ·exact hy u hu
theorem pl_ref {r : Rf} (h : refB r = true) : ∀ u ∈ refT r, Pl u := by
 obtain ⟨nm, m, pl, n⟩ := r
 rw [refB, Bool.and_eq_true] at h
 obtain ⟨hn, h⟩ := h
 simp only [] at h hn
 refine pl_cons (pl_name hn) ?_
 unfold tailT
 simp only []
 by_cases h3 : m = 3
 ·rw [if_pos h3]
  exact pl_cons ⟨by decide, by decide⟩ (pl_cons ⟨by decide, by decide⟩ (pl_cons ⟨by decide, by decide⟩ pl_nil))
 rw [if_neg h3]
 by_cases h2 : m = 2
 ·rw [if_neg (by omega), if_neg (by omega), if_pos h2, Bool.and_eq_true] at h
  rw [if_pos h2]
  exact pl_cons ⟨by decide, by decide⟩ (pl_cons (pl_dig h.2) (pl_cons ⟨by decide, by decide⟩ pl_nil))
 rw [if_neg h2]
 by_cases h1 : m = 1
 ·rw [if_neg (by omega), if_pos h1, Bool.and_eq_true] at h
  rw [if_pos h1]
  split
  ·exact pl_cons ⟨by decide, by decide⟩ (pl_cons (pl_name h.1) (pl_cons ⟨by decide, by decide⟩ (pl_cons (pl_dig h.2) (pl_cons ⟨by decide, by decide⟩ pl_nil))))
  ·exact pl_cons ⟨by decide, by decide⟩ (pl_cons (pl_name h.1) (pl_cons ⟨by decide, by decide⟩ pl_nil))
 ·rw [if_neg h1]; exact pl_nil
theorem pl_rel (k : Int) : Pl (relT k) := by
 unfold relT
 split
 ·exact ⟨by decide, by decide⟩
 ·split
  ·exact ⟨by decide, by decide⟩
  ·split <;> exact ⟨by decide, by decide⟩
theorem pl_flat {l : List Int} (h : ∀ n ∈ l, natB n = true) : ∀ u ∈ l.flatMap (fun b => tComma :: [digT b]), Pl u := fun u hu => by
 obtain ⟨b, hb, hu⟩ := List.mem_flatMap.1 hu
 exact pl_cons ⟨by decide, by decide⟩ (pl_cons (pl_dig (h b hb)) pl_nil) u hu
theorem pl_sep {l : List Int} (h : ∀ n ∈ l, natB n = true) : ∀ u ∈ sepT (fun n => [digT n]) l, Pl u := by
 cases l with
 | nil => exact pl_nil
 | cons a l => exact pl_app (pl_cons (pl_dig (h a (List.mem_cons_self ..))) pl_nil) (pl_flat fun n hn => h n (List.mem_cons_of_mem _ hn))
structure CanP (c : Cd) : Prop where
 bal : Bal (condT c)
 lp : lpT (condT c) = cp c
theorem can_in {c : Cd} (h : CanP c) (k : Nat) : Bal (withinT k c) ∧ lpT (withinT k c) = pin k c := by
 by_cases hl : lvl c.op < k
 ·rw [within_par hl]
  refine ⟨h.bal.par, ?_⟩
  rw [lpT_cons, lpT_app, h.lp, pin, pn, if_pos hl]
  have e1 : isLP tLP = 1 := rfl
  have e2 : lpT [tRP] = 0 := rfl
  rw [e1, e2]; show 1 + (cp c + 0) = cp c + 1; omega
 ·rw [within_at hl, pin_at hl]
  exact ⟨h.bal, h.lp⟩
theorem bal_one {t : List UInt8} (h : Pl t) : Bal [t] := flat_bal (pl_cons h pl_nil)
theorem can_step {c : Cd} (h : Sh CanP c) : CanP c := by
 cases h with
 | leaf op n rel val r st h7 h8 h9 hb =>
  obtain ⟨f1, f2, f3, f4⟩ := leafB_facts hb
  have hr := pl_ref f1
  rw [show CanP (.mk op n rel val r st []) ↔ Bal (leafT op n rel val r st) ∧ lpT (leafT op n rel val r st) = if op = 6 then 1 else 0 from ⟨fun h => by rw [← condT_leaf h7 h8 h9, ← cp_leaf (n := n) (rel := rel) (val := val) (r := r) (st := st) h7 h8 h9]; exact ⟨h.bal, h.lp⟩, fun h => by rw [← condT_leaf h7 h8 h9, ← cp_leaf (n := n) (rel := rel) (val := val) (r := r) (st := st) h7 h8 h9] at h; exact ⟨h.1, h.2⟩⟩]
  by_cases h6 : op = 6
  ·obtain ⟨g1, g2, g3⟩ := f2 h6
   have e : leafT op n rel val r st = [tCount] ++ ((tLP :: ((refT r ++ [tEq, digT val]) ++ [tRP])) ++ [relT rel, digT n]) := by
    rw [leafT, if_pos h6]; simp
   have hx : ∀ u ∈ refT r ++ [tEq, digT val], Pl u := pl_app hr (pl_cons ⟨by decide, by decide⟩ (pl_cons (pl_dig g2) pl_nil))
   have hy : ∀ u ∈ [relT rel, digT n], Pl u := pl_cons (pl_rel rel) (pl_cons (pl_dig g1) pl_nil)
   rw [e, if_pos h6]
   refine ⟨(bal_one ⟨by decide, by decide⟩).app ((flat_bal hx).par.app (flat_bal hy)), ?_⟩
   have h1 : lpT [tCount] = 0 := rfl
   rw [lpT_app, lpT_app, h1, lpT_cons, lpT_app, (flat_tot hx).2, (flat_tot hy).2]; rfl
  ·rw [if_neg h6]
   have hall : ∀ u ∈ leafT op n rel val r st, Pl u := by
    rw [leafT, if_neg h6]
    by_cases h5 : op = 5
    ·rw [if_pos h5]
     exact pl_app hr (pl_app (pl_cons ⟨by decide, by decide⟩ (pl_cons ⟨by decide, by decide⟩ pl_nil)) (pl_app (pl_sep (setB_facts (f3 h5)).2.1) (pl_cons ⟨by decide, by decide⟩ pl_nil)))
    ·rw [if_neg h5]
     exact pl_app hr (pl_cons (pl_rel op) (pl_cons (pl_dig (f4 h5 h6).1) pl_nil))
   exact ⟨flat_bal hall, (flat_tot hall).2⟩
 | neg a ha =>
  have h3 := can_in ha 3
  refine ⟨?_, ?_⟩
  ·rw [condT_neg]
   exact (bal_one (t := tNot) ⟨by decide, by decide⟩).app h3.1
  ·rw [condT_neg, cp_neg, lpT_cons, h3.2]
   have : isLP tNot = 0 := rfl
   omega
 | conj a b ha hb =>
  have h2 := can_in ha 2
  have h3 := can_in hb 3
  refine ⟨?_, ?_⟩
  ·rw [condT_conj]
   exact h2.1.app ((bal_one (t := tAnd) ⟨by decide, by decide⟩).app h3.1)
  ·rw [condT_conj, cp_conj, lpT_app, lpT_cons, h2.2, h3.2]
   have : isLP tAnd = 0 := rfl
   omega
 | disj a b ha hb =>
  have h2 := can_in ha 1
  have h3 := can_in hb 2
  refine ⟨?_, ?_⟩
  ·rw [condT_disj]
   exact h2.1.app ((bal_one (t := tOr) ⟨by decide, by decide⟩).app h3.1)
  ·rw [condT_disj, cp_disj, lpT_app, lpT_cons, h2.2, h3.2]
   have : isLP tOr = 0 := rfl
   omega
theorem can_all : ∀ (d : Nat) (c : Cd) (left k : Nat), condV d c left = some k → CanP c
 | 0, _, _, _, h => by cases h
 | d + 1, c, left, k, h => can_step ((cond_shape h).mono fun a ⟨l, k, h⟩ => can_all d a l k h)
theorem withT (c : Cd) : declT (withD c) = [tGain, tEq, tLC] ++ (condT c ++ [tCol, [49], tSemi, tElse, tCol, tMinus, [49], [48], tRC, tSemi]) := by
 show (tGain :: (refsT tFrom [] ++ (tEq :: ruleT [⟨c, [1]⟩, ⟨cd0, [-1, 0]⟩]))) ++ [tSemi] = _
 have e : casesTx [⟨c, [1]⟩, ⟨cd0, [-1, 0]⟩] = condT c ++ [tCol, [49], tSemi, tElse, tCol, tMinus, [49], [48]] := rfl
 rw [ruleT, e]
 simp [refsT]
theorem with_can {c : Cd} (h : CanP c) : Bal (declT (withD c)) ∧ lpT (declT (withD c)) = cp c := by
 have h1 : ∀ u ∈ [tGain, tEq, tLC], Pl u := by
  have : ∀ u ∈ [tGain, tEq, tLC], u ≠ tLP ∧ u ≠ tRP := by decide
  exact this
 have h2 : ∀ u ∈ [tCol, [49], tSemi, tElse, tCol, tMinus, [49], [48], tRC, tSemi], Pl u := by
  have : ∀ u ∈ [tCol, [49], tSemi, tElse, tCol, tMinus, [49], [48], tRC, tSemi], u ≠ tLP ∧ u ≠ tRP := by decide
  exact this
 rw [withT]
 refine ⟨(flat_bal h1).app (h.bal.app (flat_bal h2)), ?_⟩
 rw [lpT_app, lpT_app, (flat_tot h1).2, (flat_tot h2).2, h.lp]; omega
def cutT (x : Toks) (a b : Nat) : Nat → Toks
 | 0 => []
 | j + 1 => cutT x a b j ++ if j = a ∨ j = b then [] else [x.getD j []]
def rend1 (x : Toks) : List UInt8 := x.flatMap fun t => t ++ [32]
theorem rend1_app (x y : Toks) : rend1 (x ++ y) = rend1 x ++ rend1 y := List.flatMap_append
theorem cut_len (x : Toks) (a b : Nat) : ∀ j, j ≤ x.length → (rend1 (cutT x a b j)).length ≤ (rend1 (x.take j)).length
 | 0, _ => Nat.le_refl _
 | j + 1, h => by
  have ih := cut_len x a b j (by omega)
  rw [cutT, take_succ_getD [] (by omega), rend1_app, rend1_app, List.length_append, List.length_append]
  split
  ·simp [rend1]; simp [rend1] at ih; omega
  ·omega
theorem cut_num (x : Toks) (a b : Nat) : ∀ j, j ≤ x.length → (cutT x a b j).length ≤ j
 | 0, _ => Nat.le_refl _
 | j + 1, h => by
  have ih := cut_num x a b j (by omega)
  rw [cutT, List.length_append]
  split <;> simp <;> omega
theorem cut_all {x : Toks} {a b : Nat} (hx : AllT x) : ∀ j, j ≤ x.length → AllT (cutT x a b j)
 | 0, _ => allT_nil
 | j + 1, h => by
  rw [cutT]
  refine allT_app (cut_all hx j (by omega)) ?_
  split
  ·exact allT_nil
  ·exact allT_cons (hx _ (getD_memL [] (by omega))) allT_nil
theorem cut_lp {x : Toks} {a b : Nat} (ha : x.getD a [] = tLP) (hb : x.getD b [] = tRP) : ∀ j, j ≤ x.length → lpT (cutT x a b j) + (if a < j then 1 else 0) = lpT (x.take j)
 | 0, _ => rfl
 | j + 1, h => by
  have ih := cut_lp ha hb j (by omega)
  rw [cutT, take_succ_getD [] (by omega), lpT_app, lpT_app, ← ih]
  by_cases c1 : j = a
  ·subst c1
   rw [if_pos (.inl rfl), if_pos (by omega), if_neg (by omega), ha]
   rfl
  ·by_cases c2 : j = b
   ·subst c2
    rw [if_pos (.inr rfl), hb]
    have e : lpT [tRP] = 0 := rfl
    have e2 : lpT [] = 0 := rfl
    rw [e, e2]
    split <;> split <;> omega
   ·rw [if_neg (by omega)]
    split <;> split <;> omega
theorem rend1_rendG (x : Toks) : rend1 x = rendG (x.map fun t => (t, [32])) := by
 rw [rend1, rendG, List.flatMap_map]
theorem read_rend1 {x : Toks} (hx : AllT x) (hn : x.length ≤ 1500) : ∃ ws, readR (rend1 x) = .ok ws ∧ ws.map Wd.text = x := by
 have h := readR_rend (l := x.map fun t => (t, [32])) (g0 := []) (.inl rfl) (fun y hy => by
  obtain ⟨t, ht, rfl⟩ := List.mem_map.1 hy
  exact ⟨hx t ht, gap_sp⟩) (by rw [List.length_map]; exact hn)
 rw [List.nil_append, ← rend1_rendG] at h
 refine ⟨_, h, ?_⟩
 rw [wordsAt_text, List.map_map]
 show x.map (fun t => t) = x
 simp
theorem lp_words {ws : List Wd} {x : Toks} (h : ws.map Wd.text = x) : ∀ q, q ≤ ws.length → lpP ws q = lpT (x.take q)
 | 0, _ => rfl
 | q + 1, hq => by
  have ih := lp_words h q (by omega)
  have hx : x.length = ws.length := by rw [← h, List.length_map]
  rw [take_succ_getD [] (by omega), lpT_app, ← ih]
  have e : x.getD q [] = txt ws q := by
   rw [← h, List.getD_eq_getElem?_getD, List.getElem?_map, txt, wat, List.getD_eq_getElem?_getD, List.getElem?_eq_getElem (show q < ws.length by omega)]; rfl
  rw [e]
  show lpP ws q + isLP (txt ws q) = lpP ws q + lpT [txt ws q]
  simp [lpT]
theorem cut_other {c : Cd} (h : CanP c) {x : Toks} (hx : x = declT (withD c)) (hall : AllT x) (hn : x.length ≤ 1500) (hl : (rend1 x).length ≤ 8000) {a b : Nat} (ha : a < x.length) (e1 : x.getD a [] = tLP) (e2 : x.getD b [] = tRP) : ¬ parR (rend1 (cutT x a b x.length)) = .inr [withD c] := by
 intro hp
 have k1 := cut_len x a b x.length (Nat.le_refl _)
 rw [take_all (Nat.le_refl _)] at k1
 have k2 := cut_num x a b x.length (Nat.le_refl _)
 obtain ⟨ws, hr, hw⟩ := read_rend1 (cut_all (a := a) (b := b) hall x.length (Nat.le_refl _)) (by omega)
 have h1 := par_lp hr (by omega) hp
 have hlen : (cutT x a b x.length).length = ws.length := by rw [← hw, List.length_map]
 rw [lp_words hw ws.length (Nat.le_refl _), take_all (by omega)] at h1
 have h2 := cut_lp e1 e2 x.length (Nat.le_refl _)
 rw [if_pos ha, take_all (Nat.le_refl _)] at h2
 have h3 := (with_can h).2
 rw [← hx] at h3
 omega
set_option maxHeartbeats 40000000
inductive ParS (s : List UInt8) : Prop
 | no (l c e : Int) (h : parR s = .inl ((l, c), e)) (h1 : Pure cx 22 [.str s] (· = .ret [srcV [], i64 l, i64 c, i64 e])) (h2 : Pure cx 23 [.str s] (· = .ret [srcV [], i64 l, i64 c, i64 e])) (h3 : Pure cx 24 [srcV [], srcV []] (· = .ret [.bool true])) : ParS s
 | yes (ds : List De) (h : parR s = .inr ds) (h1 : Pure cx 22 [.str s] (· = .ret [srcV ds, i64 0, i64 0, i64 0])) (h2 : Pure cx 23 [.str s] (· = .ret [srcV ds, i64 0, i64 0, i64 0])) (h3 : Pure cx 24 [srcV ds, srcV ds] (· = .ret [.bool true])) : ParS s
theorem nil_bigP : BigP [] := ⟨by simp, fun d hd => by cases hd⟩
theorem parS (s : List UInt8) : ParS s := by
 have h1 := parse_c s
 have h2 := rParse_c s
 cases hp : parR s with
 | inl x =>
  obtain ⟨⟨l, c⟩, e⟩ := x
  rw [hp] at h1 h2
  have h3 := sameP_c [] [] nil_bigP nil_bigP
  rw [cb_t rfl] at h3
  exact .no l c e hp h1 h2 h3
 | inr ds =>
  rw [hp] at h1 h2
  have h3 := sameP_c ds ds (parR_big hp) (parR_big hp)
  rw [cb_t rfl] at h3
  exact .yes ds hp h1 h2 h3
theorem rend1_sp : ∀ x : Toks, rend1 x = [] ∨ (rend1 x).length = (spW true x).length
 | [] => .inl rfl
 | t :: x => by
  refine .inr ?_
  rcases rend1_sp x with h | h
  ·cases x with
   | nil => show (t ++ [32] ++ []).length = ([32] ++ (t ++ [])).length; simp
   | cons u y => rw [show rend1 (u :: y) = (u ++ [32]) ++ rend1 y from rfl] at h; simp at h
  ·show (t ++ [32] ++ rend1 x).length = ([32] ++ (t ++ spW true x)).length
   simp only [List.length_append, List.length_cons, List.length_nil]; omega
theorem declT_cnt (d : De) : cntT [d] = (declT d).length := by simp [cntT]
structure WithF (c : Cd) : Prop where
 valid : validB [withD c] = true
 all : AllT (declT (withD c))
 num : (declT (withD c)).length ≤ 1500
 txt : (textT [withD c]).length ≤ 8000
 len : (rend1 (declT (withD c))).length ≤ 8000
 can : CanP c
 big : BigP [withD c]
theorem with_valid {c : Cd} (h : (condV 8 c 30).isSome = true) : validB [withD c] = true := by
 have e1 : numsB [1] = true := by decide
 have e2 : casesT [⟨cd0, [-1, 0]⟩] = true := by decide
 have e3 : casesB [⟨c, [1]⟩, ⟨cd0, [-1, 0]⟩] = true := by
  rw [casesB, casesT]
  show (_ && (numsB [1] && (condV 8 c 30).isSome && casesT [⟨cd0, [-1, 0]⟩])) = true
  rw [e1, e2, h]; rfl
 have e4 : kindB (withD c) = true := by
  simp [kindB, e3]
 have e5 : declB (withD c) = true := by
  rw [declB, e4]; rfl
 rw [validB, List.all_cons, e5]; rfl
theorem with_facts {c : Cd} {n : Nat} (hs : Small 8 c n) (hn : n ≤ 29) : WithF c := by
 have hc := hs.valid 30 (by omega)
 have hv := with_valid (c := c) (by rw [hc]; rfl)
 have hd := decl_toks (d := withD c) ((valid_decl hv).2 _ (List.mem_singleton.2 rfl))
 have hk := (cond_toks 8 c 30 _ hc).2
 have hlen : (declT (withD c)).length ≤ 1500 := by
  rw [withT]
  simp only [List.length_append, List.length_cons, List.length_nil]; omega
 have hsp : (spW true (declT (withD c))).length ≤ 7500 := by
  rw [withT, spW_t, spW_t, List.length_append, List.length_append]
  have h1 : (spW true [tGain, tEq, tLC]).length = 9 := rfl
  have h2 : (spW true [tCol, [49], tSemi, tElse, tCol, tMinus, [49], [48], tRC, tSemi]).length = 23 := rfl
  have h3 := hs.len
  omega
 refine ⟨hv, hd.1, hlen, ?_, ?_, can_all 8 c 30 _ hc, ?_⟩
 ·have : textT [withD c] = (spW false (declT (withD c)) ++ [10]) ++ [] := rfl
  rw [spW_tf (decl_ne _), List.length_cons] at hsp
  rw [this]
  simp only [List.length_append, List.length_cons, List.length_nil]; omega
 ·rcases rend1_sp (declT (withD c)) with h | h
  ·rw [h]; decide
  ·omega
 ·refine ⟨by show 1 ≤ 9223372036854775807; decide, fun d hd => ?_⟩
  rw [List.mem_singleton] at hd
  subst hd
  refine ⟨by simp, by simp, by simp, fun r hr => (by cases hr), ?_⟩
  refine ⟨by show 2 ≤ 9223372036854775807; decide, fun x hx => ?_, fun x hx => ?_⟩
  ·rcases List.mem_cons.1 hx with rfl | hx
   ·exact hs.big
   ·rw [List.mem_singleton.1 hx]; exact big_leaf ⟨by decide, by decide⟩ (by decide)
  ·rcases List.mem_cons.1 hx with rfl | hx
   ·show 1 ≤ 9223372036854775807; decide
   ·rw [List.mem_singleton.1 hx]; show 2 ≤ 9223372036854775807; decide
theorem with_read {c : Cd} (h : WithF c) : ∃ ws, readT (textT [withD c]) = (ws, 0, 0, 0) ∧ ws.map Wd.text = declT (withD c) := by
 obtain ⟨v1, v2⟩ := valid_decl h.valid
 have hx := declT_cnt (withD c)
 have hr := readR_rend (g0 := []) (l := progG [10] [withD c]) (.inl rfl) (progG_ok gap_nl v2) (by rw [progG_len, hx]; exact h.num)
 rw [List.nil_append, progG_rend] at hr
 refine ⟨wordsAt (1, 1) [] (progG [10] [withD c]), ?_, ?_⟩
 ·rw [readT, if_neg (by have := h.txt; omega)]
  rw [show textT [withD c] = textG [10] [withD c] from rfl, hr]
 ·rw [wordsAt_text, progG_text]
  show declT (withD c) ++ [] = _
  rw [List.append_nil]
theorem with_txt {c : Cd} (h : WithF c) : txtV [withD c] = [.str (textT [withD c]), i64 0] := by
 rw [txtV, if_pos h.valid, if_pos ⟨h.txt, by rw [declT_cnt]; exact h.num⟩]
theorem wcellD {ws : List Wd} {k : Nat} (h : k < ws.length) : (ws.map Wd.cells)[k]? = some (wat ws k).cells := map_at wd0 h
theorem words_at {ws : List Wd} {x : Toks} (h : ws.map Wd.text = x) {q : Nat} (hq : q < ws.length) : x.getD q [] = (wat ws q).text := by
 rw [← h, List.getD_eq_getElem?_getD, List.getElem?_map, wat, List.getD_eq_getElem?_getD, List.getElem?_eq_getElem hq]; rfl
theorem tot_next {x : Toks} {i : Nat} (h : i < x.length) : tot (x.take (i + 1)) = tot (x.take i) + wgh (x.getD i []) := by
 rw [take_succ_getD [] h, tot_app, tot_cons]
 have : tot [] = 0 := rfl
 omega
theorem cut_big {x : Toks} {a b : Nat} (h : (rend1 x).length ≤ 8000) {j : Nat} (hj : j ≤ x.length) : (rend1 (cutT x a b j)).length ≤ 8000 := by
 have h1 := cut_len x a b j hj
 have h2 : rend1 x = rend1 (x.take j) ++ rend1 (x.drop j) := by rw [← rend1_app, List.take_append_drop]
 rw [h2, List.length_append] at h
 omega
theorem parseFewest_c (l : List UInt8) (hl : l.length ≤ 9223372036854775807) : Pure cx 6 [.lst (l.map u8)] (· = .ret [.bool true]) := by
 refine pure_of_vc Tryz.func6 rfl rfl rfl ?_
 refine works_c.eq rfl ?_
 refine (with_c l hl).at fun r hr => ?_
 obtain ⟨c, n, rfl, hs, hn⟩ := hr
 have hw := with_facts hs hn
 have ht := ptext_c [withD c] hw.big
 rw [with_txt hw] at ht
 refine ht.eq rfl ?_
 obtain ⟨ws, hr, hx⟩ := with_read hw
 have hR := readW_c (textT [withD c])
 rw [hr] at hR
 have hR : Pure cx 27 [.str (textT [withD c])] (· = .ret [.lsts 4 (ws.map Wd.cells), i64 0, i64 0, i64 0]) := hR
 refine hR.eq rfl ?_
 refine And.intro (fun _ => ?_) (fun h => absurd rfl h)
 refine And.intro (fun _ => ?_) (fun h => absurd rfl h)
 have hm : (ws.map Wd.cells).length = ws.length := List.length_map ..
 have hwl : ws.length ≤ 1500 := by have h := hw.num; rw [← hx, List.length_map] at h; exact h
 refine ⟨Nat, fun k => [(3, .ptr 0 0 0), (6, .p (.lsts 4 (ws.map Wd.cells))), (42, .p (i64 (ws.map Wd.cells).length)), (43, .p (i64 k))], fun _ => ⟨1, [(0, srO (.p (des [withD c])))]⟩, fun k => k ≤ ws.length, fun k => ws.length - k, ?_, ?_⟩
 ·exact ⟨0, Nat.zero_le _, ent_of [] [] [] rfl (sk) (sk) rfl⟩
 rintro k k1
 have k1 : k ≤ ws.length := k1
 refine And.intro (fun m1 => ?_) (fun m1 => ?_)
 rotate_left
 ·exact end1 _ rfl rfl rfl
 have m1 : (k : Int) < ((ws.map Wd.cells).length : Nat) := m1
 rw [hm] at m1
 have hk : k < ws.length := by omega
 refine ⟨_, ⟨by omega, (wat ws k).cells, wcellD hk, rfl⟩, ?_⟩
 have e1 := words_at hx hk
 refine And.intro (fun m2 => ?_) (fun m2 => ?_)
 rotate_left
 ·refine ⟨_, wrap_i64 (by omega) (by omega), ?_⟩
  exact ⟨k + 1, hk, ent_of [] [] [] rfl (sk) (sk) rfl, by show ws.length - (k + 1) < ws.length - k; omega⟩
 have m2 : (wat ws k).text = tLP := m2
 rw [m2] at e1
 obtain ⟨x, hxe⟩ : ∃ x, x = declT (withD c) := ⟨_, rfl⟩
 have hall := hw.all
 have hnum := hw.num
 have hlen := hw.len
 have hbal := (with_can hw.can).1
 rw [← hxe] at hx e1 hall hnum hlen hbal
 have hxl : x.length = ws.length := by rw [← hx, List.length_map]
 have hin : tot (x.take (k + 1)) = tot (x.take k) + 1 := by rw [tot_next (by omega), e1]; rfl
 refine ⟨_, wrap_i64 (by omega) (by omega), ?_⟩
 refine ⟨Nat × Int, fun y => [(3, .ptr 0 0 0), (6, .p (.lsts 4 (ws.map Wd.cells))), (10, .p (i64 k)), (11, .p (i64 y.1)), (12, .p (i64 y.2)), (42, .p (i64 (ws.map Wd.cells).length)), (43, .p (i64 k))], fun _ => ⟨1, [(0, srO (.p (des [withD c])))]⟩, fun y => (k + 1 ≤ y.1 ∧ y.1 ≤ ws.length) ∧ (0 ≤ y.2 ∧ y.2 ≤ y.1) ∧ y.2 = tot (x.take y.1) - tot (x.take k) ∧ (y.2 = 0 → x.getD (y.1 - 1) [] = tRP), fun y => ws.length - y.1, ?_, ?_⟩
 ·exact ⟨(k + 1, 1), ⟨⟨Nat.le_refl _, hk⟩, ⟨by show (0 : Int) ≤ 1; decide, by show (1 : Int) ≤ (k + 1 : Nat); omega⟩, by show (1 : Int) = tot (x.take (k + 1)) - tot (x.take k); omega, fun h => absurd (show (1 : Int) = 0 from h) (by decide)⟩, ent_of [] [] [] rfl (sk) (sk) rfl⟩
 rintro ⟨i, d⟩ ⟨⟨i1, i2⟩, ⟨d1, d2⟩, i3, i4⟩
 simp only [] at i1 i2 d1 d2 i3 i4
 refine And.intro (fun m3 => ?_) (fun m3 => ?_)
 ·have m3 : (i : Int) < ((ws.map Wd.cells).length : Nat) := m3
  rw [hm] at m3
  have hi : i < ws.length := by omega
  refine And.intro (fun m4 => ?_) (fun m4 => ?_)
  ·have m4 : 0 < d := m4
   have w4 := words_at hx hi
   have c4 := wcellD hi
   have t4 := tot_next (x := x) (i := i) (by omega)
   have g4 : x.getD (i + 1 - 1) [] = (wat ws i).text := w4
   rw [w4] at t4
   generalize wat ws i = w at c4 t4 g4
   refine ⟨_, ⟨by omega, w.cells, c4, rfl⟩, ?_⟩
   refine And.intro (fun m5 => ?_) (fun m5 => ?_)
   ·have m5 : w.text = tLP := m5
    rw [m5, show wgh tLP = 1 from rfl] at t4
    refine ⟨_, wrap_i64 (by omega) (by omega), ?_⟩
    refine ⟨_, ⟨by omega, w.cells, c4, rfl⟩, ?_⟩
    refine And.intro (fun m6 => absurd (m5.symm.trans m6) (by decide)) (fun m6 => ?_)
    refine ⟨_, wrap_i64 (by omega) (by omega), ?_⟩
    exact ⟨(i + 1, d + 1), ⟨⟨by show k + 1 ≤ i + 1; omega, hi⟩, ⟨by show 0 ≤ d + 1; omega, by show d + 1 ≤ (i + 1 : Nat); omega⟩, by show d + 1 = tot (x.take (i + 1)) - tot (x.take k); omega, fun h => absurd (show d + 1 = 0 from h) (by omega)⟩, ent_of [] [] [] rfl (sk) (sk) rfl, by show ws.length - (i + 1) < ws.length - i; omega⟩
   ·refine ⟨_, ⟨by omega, w.cells, c4, rfl⟩, ?_⟩
    refine And.intro (fun m6 => ?_) (fun m6 => ?_)
    ·have m6 : w.text = tRP := m6
     rw [m6, show wgh tRP = -1 from rfl] at t4
     rw [m6] at g4
     refine ⟨_, wrap_i64 (by omega) (by omega), ?_⟩
     refine ⟨_, wrap_i64 (by omega) (by omega), ?_⟩
     exact ⟨(i + 1, d - 1), ⟨⟨by show k + 1 ≤ i + 1; omega, hi⟩, ⟨by show 0 ≤ d - 1; omega, by show d - 1 ≤ (i + 1 : Nat); omega⟩, by show d - 1 = tot (x.take (i + 1)) - tot (x.take k); omega, fun _ => g4⟩, ent_of [] [] [] rfl (sk) (sk) rfl, by show ws.length - (i + 1) < ws.length - i; omega⟩
    ·rw [pl_wgh ⟨m5, m6⟩] at t4
     refine ⟨_, wrap_i64 (by omega) (by omega), ?_⟩
     exact ⟨(i + 1, d), ⟨⟨by show k + 1 ≤ i + 1; omega, hi⟩, ⟨by show 0 ≤ d; omega, by show d ≤ (i + 1 : Nat); omega⟩, by show d = tot (x.take (i + 1)) - tot (x.take k); omega, fun h => absurd (show d = 0 from h) (by omega)⟩, ent_of [] [] [] rfl (sk) (sk) rfl, by show ws.length - (i + 1) < ws.length - i; omega⟩
  ·have m4 : ¬ 0 < d := m4
   have d0 : d = 0 := by omega
   subst d0
   have e2 := i4 rfl
   have e3 : i - 1 < x.length := by omega
   have hne : ¬ parR (rend1 (cutT x k (i - 1) x.length)) = .inr [withD c] := cut_other hw.can hxe hall hnum hlen (by omega) e1 e2
   refine ⟨List UInt8 × Nat, fun y => [(3, .ptr 0 0 0), (6, .p (.lsts 4 (ws.map Wd.cells))), (10, .p (i64 k)), (11, .p (i64 i)), (12, .p (i64 0)), (13, .p (.str y.1)), (42, .p (i64 (ws.map Wd.cells).length)), (43, .p (i64 k)), (81, .p (i64 (ws.map Wd.cells).length)), (82, .p (i64 y.2))], fun _ => ⟨1, [(0, srO (.p (des [withD c])))]⟩, fun y => y.2 ≤ ws.length ∧ y.1 = rend1 (cutT x k (i - 1) y.2), fun y => ws.length - y.2, ?_, ?_⟩
   ·exact ⟨([], 0), ⟨Nat.zero_le _, rfl⟩, ent_of [] [] [] rfl (sk) (sk) rfl⟩
   rintro ⟨T, j⟩ ⟨j1, j2⟩
   simp only [] at j1 j2
   refine And.intro (fun m5 => ?_) (fun m5 => ?_)
   ·have m5 : (j : Int) < ((ws.map Wd.cells).length : Nat) := m5
    rw [hm] at m5
    have hj : j < ws.length := by omega
    have w5 := words_at hx hj
    have c5 := wcellD hj
    have l5 := tok_len (hall _ (getD_memL [] (show j < x.length by omega)))
    rw [w5] at l5
    have b5 := cut_big (a := k) (b := i - 1) hlen (show j ≤ x.length by omega)
    rw [← j2] at b5
    have s5 : rend1 (cutT x k (i - 1) (j + 1)) = T ++ rend1 (if j = k ∨ j = i - 1 then [] else [(wat ws j).text]) := by rw [cutT, w5, rend1_app, j2]
    generalize wat ws j = w at c5 l5 s5
    refine And.intro (fun m6 => ?_) (fun m6 => ?_)
    ·have m6 : (j : Int) = k := m6
     rw [if_pos (.inl (by omega))] at s5
     refine ⟨_, wrap_i64 (by omega) (by omega), ?_⟩
     exact ⟨(T, j + 1), ⟨hj, by rw [s5]; exact (List.append_nil _).symm⟩, ent_of [] [] [] rfl (sk) (sk) rfl, by show ws.length - (j + 1) < ws.length - j; omega⟩
    ·have m6 : ¬ (j : Int) = k := m6
     refine ⟨_, wrap_i64 (by omega) (by omega), ?_⟩
     refine And.intro (fun m7 => ?_) (fun m7 => ?_)
     ·have m7 : (j : Int) = i - 1 := m7
      rw [if_pos (.inr (by omega))] at s5
      refine ⟨_, wrap_i64 (by omega) (by omega), ?_⟩
      exact ⟨(T, j + 1), ⟨hj, by rw [s5]; exact (List.append_nil _).symm⟩, ent_of [] [] [] rfl (sk) (sk) rfl, by show ws.length - (j + 1) < ws.length - j; omega⟩
     ·have m7 : ¬ (j : Int) = i - 1 := m7
      rw [if_neg (by omega)] at s5
      refine ⟨_, ⟨by omega, w.cells, c5, rfl⟩, ?_⟩
      refine ⟨by show List.length _ + List.length _ ≤ 9223372036854775807; (try simp) <;> omega, ?_⟩
      refine ⟨by show List.length _ + List.length _ ≤ 9223372036854775807; (try simp) <;> omega, ?_⟩
      refine ⟨_, wrap_i64 (by omega) (by omega), ?_⟩
      exact ⟨((T ++ w.text) ++ [32], j + 1), ⟨hj, by rw [s5]; show (T ++ w.text) ++ [32] = T ++ ((w.text ++ [32]) ++ []); rw [List.append_nil, List.append_assoc]⟩, ent_of [] [] [] rfl (sk) (sk) rfl, by show ws.length - (j + 1) < ws.length - j; omega⟩
   have m5 : ¬ (j : Int) < ((ws.map Wd.cells).length : Nat) := m5
   rw [hm] at m5
   obtain rfl : j = x.length := by omega
   rw [← j2] at hne
   rcases parS T with ⟨pl, pc, pe, h, h1, _, _⟩ | ⟨ds, h, h1, _, _⟩
   ·refine h1.eq rfl ?_
    refine And.intro (fun _ => ?_) (fun h => absurd rfl h)
    refine And.intro (fun h0 => ?_) (fun _ => ?_)
    ·have h0 : pe = 0 := h0
     have := parR_err h
     omega
    refine ⟨_, wrap_i64 (by omega) (by omega), ?_⟩
    exact ⟨k + 1, hk, ent_of [] [] [] rfl (sk) (sk) rfl, by show ws.length - (k + 1) < ws.length - k; omega⟩
   ·refine h1.eq rfl ?_
    have h3 := sameP_c [withD c] ds hw.big (parR_big h)
    rw [cb_f (fun e => hne (by rw [h, e]))] at h3
    refine And.intro (fun _ => ?_) (fun h => absurd rfl h)
    refine And.intro (fun _ => ?_) (fun h => absurd rfl h)
    refine h3.eq rfl ?_
    refine ⟨_, wrap_i64 (by omega) (by omega), ?_⟩
    exact ⟨k + 1, hk, ent_of [] [] [] rfl (sk) (sk) rfl, by show ws.length - (k + 1) < ws.length - k; omega⟩
 ·have m3 : ¬ (i : Int) < ((ws.map Wd.cells).length : Nat) := m3
  rw [hm] at m3
  have d0 : d = 0 := by rw [take_all (show x.length ≤ i by omega), hbal.all] at i3; have := hbal.pre k; omega
  subst d0
  have e2 := i4 rfl
  have e3 : i - 1 < x.length := by omega
  have hne : ¬ parR (rend1 (cutT x k (i - 1) x.length)) = .inr [withD c] := cut_other hw.can hxe hall hnum hlen (by omega) e1 e2
  refine ⟨List UInt8 × Nat, fun y => [(3, .ptr 0 0 0), (6, .p (.lsts 4 (ws.map Wd.cells))), (10, .p (i64 k)), (11, .p (i64 i)), (12, .p (i64 0)), (13, .p (.str y.1)), (42, .p (i64 (ws.map Wd.cells).length)), (43, .p (i64 k)), (81, .p (i64 (ws.map Wd.cells).length)), (82, .p (i64 y.2))], fun _ => ⟨1, [(0, srO (.p (des [withD c])))]⟩, fun y => y.2 ≤ ws.length ∧ y.1 = rend1 (cutT x k (i - 1) y.2), fun y => ws.length - y.2, ?_, ?_⟩
  ·exact ⟨([], 0), ⟨Nat.zero_le _, rfl⟩, ent_of [] [] [] rfl (sk) (sk) rfl⟩
  rintro ⟨T, j⟩ ⟨j1, j2⟩
  simp only [] at j1 j2
  refine And.intro (fun m5 => ?_) (fun m5 => ?_)
  ·have m5 : (j : Int) < ((ws.map Wd.cells).length : Nat) := m5
   rw [hm] at m5
   have hj : j < ws.length := by omega
   have w5 := words_at hx hj
   have c5 := wcellD hj
   have l5 := tok_len (hall _ (getD_memL [] (show j < x.length by omega)))
   rw [w5] at l5
   have b5 := cut_big (a := k) (b := i - 1) hlen (show j ≤ x.length by omega)
   rw [← j2] at b5
   have s5 : rend1 (cutT x k (i - 1) (j + 1)) = T ++ rend1 (if j = k ∨ j = i - 1 then [] else [(wat ws j).text]) := by rw [cutT, w5, rend1_app, j2]
   generalize wat ws j = w at c5 l5 s5
   refine And.intro (fun m6 => ?_) (fun m6 => ?_)
   ·have m6 : (j : Int) = k := m6
    rw [if_pos (.inl (by omega))] at s5
    refine ⟨_, wrap_i64 (by omega) (by omega), ?_⟩
    exact ⟨(T, j + 1), ⟨hj, by rw [s5]; exact (List.append_nil _).symm⟩, ent_of [] [] [] rfl (sk) (sk) rfl, by show ws.length - (j + 1) < ws.length - j; omega⟩
   ·have m6 : ¬ (j : Int) = k := m6
    refine ⟨_, wrap_i64 (by omega) (by omega), ?_⟩
    refine And.intro (fun m7 => ?_) (fun m7 => ?_)
    ·have m7 : (j : Int) = i - 1 := m7
     rw [if_pos (.inr (by omega))] at s5
     refine ⟨_, wrap_i64 (by omega) (by omega), ?_⟩
     exact ⟨(T, j + 1), ⟨hj, by rw [s5]; exact (List.append_nil _).symm⟩, ent_of [] [] [] rfl (sk) (sk) rfl, by show ws.length - (j + 1) < ws.length - j; omega⟩
    ·have m7 : ¬ (j : Int) = i - 1 := m7
     rw [if_neg (by omega)] at s5
     refine ⟨_, ⟨by omega, w.cells, c5, rfl⟩, ?_⟩
     refine ⟨by show List.length _ + List.length _ ≤ 9223372036854775807; (try simp) <;> omega, ?_⟩
     refine ⟨by show List.length _ + List.length _ ≤ 9223372036854775807; (try simp) <;> omega, ?_⟩
     refine ⟨_, wrap_i64 (by omega) (by omega), ?_⟩
     exact ⟨((T ++ w.text) ++ [32], j + 1), ⟨hj, by rw [s5]; show (T ++ w.text) ++ [32] = T ++ ((w.text ++ [32]) ++ []); rw [List.append_nil, List.append_assoc]⟩, ent_of [] [] [] rfl (sk) (sk) rfl, by show ws.length - (j + 1) < ws.length - j; omega⟩
  have m5 : ¬ (j : Int) < ((ws.map Wd.cells).length : Nat) := m5
  rw [hm] at m5
  obtain rfl : j = x.length := by omega
  rw [← j2] at hne
  rcases parS T with ⟨pl, pc, pe, h, h1, _, _⟩ | ⟨ds, h, h1, _, _⟩
  ·refine h1.eq rfl ?_
   refine And.intro (fun _ => ?_) (fun h => absurd rfl h)
   refine And.intro (fun h0 => ?_) (fun _ => ?_)
   ·have h0 : pe = 0 := h0
    have := parR_err h
    omega
   refine ⟨_, wrap_i64 (by omega) (by omega), ?_⟩
   exact ⟨k + 1, hk, ent_of [] [] [] rfl (sk) (sk) rfl, by show ws.length - (k + 1) < ws.length - k; omega⟩
  ·refine h1.eq rfl ?_
   have h3 := sameP_c [withD c] ds hw.big (parR_big h)
   rw [cb_f (fun e => hne (by rw [h, e]))] at h3
   refine And.intro (fun _ => ?_) (fun h => absurd rfl h)
   refine And.intro (fun _ => ?_) (fun h => absurd rfl h)
   refine h3.eq rfl ?_
   refine ⟨_, wrap_i64 (by omega) (by omega), ?_⟩
   exact ⟨k + 1, hk, ent_of [] [] [] rfl (sk) (sk) rfl, by show ws.length - (k + 1) < ws.length - k; omega⟩
end Go.Proofs.YtohfoaplnjcihaaGreatDoor
namespace Go.Proofs.YtohfoaplnjcihaaGreatDoor.Y
open Go
def partsOf (P : Program) (t : TypeId) : Option (List (TypeId × Nat)) :=
 match P.underlying t with
 | some (.struct fs) => some (fs.toList.map fun f => (f.type, f.offset))
 | some (.array k e) => some ((List.range k).map fun i => (e, i * P.cellsOf e))
 | _ => none
def tiles (P : Program) : List (TypeId × Nat) → Nat → Option Nat
 | [], o => some o
 | f :: r, o => if f.2 = o then tiles P r (o + P.cellsOf f.1) else none
theorem tiles_le {P : Program} : ∀ {l : List (TypeId × Nat)} {o n : Nat}, tiles P l o = some n → o ≤ n
 | [], o, n, h => by simp only [tiles, Option.some.injEq] at h; omega
 | f :: r, o, n, h => by
  simp only [tiles] at h
  split at h
  ·have := tiles_le h; omega
  ·cases h
def basic : TypeDesc → Bool
 | .bool => true
 | .int _ => true
 | .string => true
 | _ => false
def supp (P : Program) : Nat → TypeId → Bool
 | 0, _ => false
 | n + 1, t => match partsOf P t with
  | some l => decide (tiles P l 0 = some (P.cellsOf t)) && l.all fun f => supp P n f.1
  | none => match P.underlying t with
   | some (.slice e) => decide (0 < P.cellsOf e) && supp P n e
   | some d => basic d
   | none => false
def Flds (P : Program) (p : TypeId → List PV → Prop) : List (TypeId × Nat) → List PV → Prop
 | [], xs => xs = []
 | f :: r, xs => ∃ ys zs, xs = ys ++ zs ∧ ys.length = P.cellsOf f.1 ∧ p f.1 ys ∧ Flds P p r zs
def TyT (P : Program) : Nat → TypeId → List PV → Prop
 | 0, _, _ => False
 | m + 1, t, xs => match partsOf P t with
  | some l => Flds P (TyT P m) l xs
  | none => match P.underlying t with
   | some .bool => ∃ b, xs = [.bool b]
   | some (.int k) => ∃ n, xs = [.int k n] ∧ (Lit.int k n).wf = true
   | some .string => ∃ s, xs = [.str s] ∧ s.length ≤ maxLen
   | some (.slice e) => match Nat.beq (P.cellsOf e) 1 with
    | true => ∃ ys, xs = [.lst ys] ∧ ys.length ≤ maxLen ∧ ∀ y ∈ ys, TyT P m e [y]
    | false => ∃ yss, xs = [.lsts (P.cellsOf e) yss] ∧ yss.length ≤ maxLen ∧ ∀ ys ∈ yss, TyT P m e ys
   | _ => False
section
variable {H : Type} {enc : TypeId × Value → H} {P : Program} {W : World} {sp : Nat → Bool} {held : Bool}
theorem cells_take {a : Addr} {n : Nat} {cs : List Value} (hn : 0 < n) (h : W.cells? 0 a n = some cs) :
  ∃ c t z, W.heap[a.block]? = some (.cells c t z) ∧ a.spot = none ∧ cs.length = n ∧ a.off + n ≤ c.toList.length ∧ cs = (c.toList.drop a.off).take n := by
 unfold World.cells? at h
 rw [if_pos (Nat.zero_le _)] at h
 have hl := mapM_some_length h
 rw [List.length_range] at hl
 have hg : ∀ i, i < n → W.cell? (a.add i) = cs[i]? := fun i hi => mapM_some_get h i i (by simp [hi])
 have h0 := hg 0 hn
 have ha : a.add 0 = a := by simp [Addr.add]
 rw [ha, List.getElem?_eq_getElem (by omega)] at h0
 unfold World.cell? at h0
 split at h0
 ·rename_i c t z hb
  have hs : a.spot = none := by
   cases hs : a.spot with
   | none => rfl
   | some _ => simp [hs] at h0
  have hcell : ∀ i, i < n → c[a.off + i]? = cs[i]? := by
   intro i hi
   have := hg i hi
   unfold World.cell? at this
   have hblk : (a.add i).block = a.block := by unfold Addr.add; split <;> rfl
   have hsp : (a.add i).spot = none := by unfold Addr.add; split <;> first | exact hs | rfl
   have hoff : (a.add i).off = a.off + i := by unfold Addr.add; split <;> simp_all
   rw [hblk, hb] at this
   simp only [hsp, hoff] at this
   simpa using this
  have hlen : a.off + n ≤ c.toList.length := by
   have := hcell (n - 1) (by omega)
   rw [List.getElem?_eq_getElem (by omega)] at this
   have := (Array.getElem?_eq_some_iff.1 this).1
   simp
   omega
  refine ⟨c, t, z, hb, hs, hl, hlen, ?_⟩
  refine List.ext_getElem? fun i => ?_
  by_cases hi : i < n
  ·rw [← hcell i hi, List.getElem?_take_of_lt hi, List.getElem?_drop]
   simp
  ·rw [List.getElem?_eq_none (by omega), List.getElem?_eq_none (by simp; omega)]
 ·cases h0
def AllCells (fz : Fzn) (W : World) : Prop := ∀ b c t z, W.heap[b]? = some (.cells c t z) → fz b = some c.toList
def Rd (P : Program) (fz : Fzn) (m : Nat) (t : TypeId) (cs : List Value) : Prop := ∃ xs, VPL fz xs cs ∧ (∀ u ∈ cs, plainV u = true) ∧ TyT P m t xs
theorem flds_of {fz : Fzn} {m : Nat} {cs : List Value} : ∀ (l : List (TypeId × Nat)) (o : Nat), tiles P l o = some cs.length → (∀ f ∈ l, Rd P fz m f.1 ((cs.drop f.2).take (P.cellsOf f.1))) →
  ∃ xs, VPL fz xs (cs.drop o) ∧ (∀ u ∈ cs.drop o, plainV u = true) ∧ Flds P (TyT P m) l xs
 | [], o, ht, _ => by
  simp only [tiles, Option.some.injEq] at ht
  subst ht
  exact ⟨[], by simp [VPL], by simp, rfl⟩
 | f :: r, o, ht, hr => by
  simp only [tiles] at ht
  split at ht
  ·rename_i ho
   have hle := tiles_le ht
   obtain ⟨ys, h1, h2, h3⟩ := hr f (by simp)
   obtain ⟨zs, k1, k2, k3⟩ := flds_of r (o + P.cellsOf f.1) ht fun g hg => hr g (by simp [hg])
   rw [ho] at h1 h2
   have e : cs.drop o = (cs.drop o).take (P.cellsOf f.1) ++ cs.drop (o + P.cellsOf f.1) := by
    rw [← List.drop_drop, List.take_append_drop]
   refine ⟨ys ++ zs, ?_, ?_, ys, zs, rfl, ?_, h3, k3⟩
   ·rw [e]; exact VPL_append h1 k1
   ·rw [e]; intro u hu; rcases List.mem_append.1 hu with hu | hu
    ·exact h2 u hu
    ·exact k2 u hu
   ·rw [← VPL_length h1, List.length_take, List.length_drop]; omega
  ·cases ht
theorem parts_trod {t : TypeId} {l : List (TypeId × Nat)} (hp : partsOf P t = some l) {n : Nat} {cs : List Value} {x : DataW H × List MemPlace} (h : DataW.trod enc P W 0 sp held n t cs = some x) :
  ∃ (xs : List (DataW H × List MemPlace)) (k : Nat), n = k + 1 ∧ x = (.agg (xs.map (·.1)), xs.flatMap (·.2)) ∧ cs.length = P.cellsOf t ∧ xs.length = l.length ∧
   ∀ (i : Nat) (f : TypeId × Nat), l[i]? = some f → DataW.trod enc P W 0 sp held k f.1 ((cs.drop f.2).take (P.cellsOf f.1)) = xs[i]? := by
 unfold partsOf at hp
 split at hp
 ·rename_i fs hu
  injection hp with hp
  subst hp
  obtain ⟨xs, k, h1, h2, h3, h4, h5⟩ := DataW.trod_struct hu h
  refine ⟨xs, k, h1, h2, h3, by simpa using h4, fun i f hf => ?_⟩
  rw [List.getElem?_map, Option.map_eq_some_iff] at hf
  obtain ⟨g, hg, rfl⟩ := hf
  exact h5 i g (by simpa using hg)
 ·rename_i k' e hu
  injection hp with hp
  subst hp
  obtain ⟨xs, k, h1, h2, h3, h4, h5⟩ := DataW.trod_array hu h
  refine ⟨xs, k, h1, h2, h3, by simpa using h4, fun i f hf => ?_⟩
  rw [List.getElem?_map, Option.map_eq_some_iff] at hf
  obtain ⟨j, hj, rfl⟩ := hf
  have hi := (List.getElem?_eq_some_iff.1 hj)
  obtain ⟨hi, hj⟩ := hi
  simp at hi hj
  subst hj
  exact h5 i hi
 ·cases hp
theorem flat_singles {l : List (List PV)} (h : ∀ cs ∈ l, cs.length = 1) : l.flatten.length = l.length ∧ ∀ y ∈ l.flatten, [y] ∈ l := by
 induction l with
 | nil => simp
 | cons x r ih =>
  have hx := h x (by simp)
  obtain ⟨y, rfl⟩ : ∃ y, x = [y] := by
   match x, hx with
   | [y], _ => exact ⟨y, rfl⟩
  obtain ⟨h1, h2⟩ := ih fun c hc => h c (by simp [hc])
  refine ⟨by simp [h1], fun z hz => ?_⟩
  simp at hz
  rcases hz with rfl | hz
  ·simp
  ·have := h2 z (by simpa using hz)
   simp [this]
theorem typed_of_trod {fz : Fzn} (hfz : AllCells fz W) : ∀ (m : Nat) (t : TypeId) (n : Nat) (cs : List Value) (x : DataW H × List MemPlace), supp P m t = true → DataW.trod enc P W 0 sp held n t cs = some x → Rd P fz m t cs
 | 0, _, _, _, _, hs, _ => by simp [supp] at hs
 | m + 1, t, n, cs, x, hs, h => by
  have ih := typed_of_trod hfz m
  simp only [supp] at hs
  cases hp : partsOf P t with
  | some l =>
   simp only [hp, Bool.and_eq_true, decide_eq_true_eq, List.all_eq_true] at hs
   obtain ⟨xs, k, h1, h2, h3, h4, h5⟩ := parts_trod hp h
   obtain ⟨ys, g1, g2, g3⟩ := flds_of (fz := fz) (m := m) (cs := cs) l 0 (by rw [h3]; exact hs.1) fun f hf => by
    obtain ⟨i, hi, rfl⟩ := List.getElem_of_mem hf
    have := h5 i _ (List.getElem?_eq_getElem hi)
    rw [List.getElem?_eq_getElem (by omega)] at this
    exact ih _ _ _ _ (hs.2 _ hf) this
   exact ⟨ys, by simpa using g1, by simpa using g2, by simp only [TyT, hp]; exact g3⟩
  | none =>
   simp only [hp] at hs
   cases hu : P.underlying t with
   | none => simp [hu] at hs
   | some d =>
    simp only [hu] at hs
    cases d with
    | bool =>
     obtain ⟨b, rfl, _⟩ := DataW.trod_bool hu h
     exact ⟨[.bool b], by simp [VPL, VP], by simp [plainV], by simp [TyT, hp, hu]⟩
    | int k =>
     obtain ⟨b, rfl, _, hw⟩ := DataW.trod_int hu h
     exact ⟨[.int k b], by simp [VPL, VP], by simp [plainV], by simp [TyT, hp, hu, hw]⟩
    | string =>
     obtain ⟨⟨⟨s⟩⟩, rfl, _, hw⟩ := DataW.trod_string hu h
     exact ⟨[.str s], by simp [VPL, VP], by simp [plainV], by simp only [TyT, hp, hu]; exact ⟨s, rfl, hw⟩⟩
    | slice e =>
     simp only [Bool.and_eq_true, decide_eq_true_eq] at hs
     obtain ⟨hs0, hse⟩ := hs
     have fin : ∀ (v : Value) (len : Nat) (yss : List (List PV)), len ≤ maxLen → yss.length = len → (∀ ys ∈ yss, ys.length = P.cellsOf e ∧ TyT P m e ys) → plainV v = true →
       (yss = [] → ∃ a c, v = .slice a 0 c) → (yss ≠ [] → ∃ b o c arr us, v = .slice (some ⟨b, o, none⟩) len c ∧ len ≤ c ∧ fz b = some arr ∧ VPLL fz (P.cellsOf e) yss us ∧ Seg arr o us) → Rd P fz (m + 1) t [v] := by
      intro v len yss hml hlen hty hpl hnil hcons
      by_cases h1 : P.cellsOf e = 1
      ·have hfl := flat_singles (l := yss) fun c hc => by rw [(hty c hc).1, h1]
       refine ⟨[.lst yss.flatten], ?_, by simpa using hpl, ?_⟩
       ·simp only [VPL]
        refine ⟨v, [], rfl, ?_, rfl⟩
        simp only [VP]
        by_cases hy : yss = []
        ·exact .inl ⟨by simp [hy], hnil hy⟩
        ·obtain ⟨b, o, c, arr, us, k1, k2, k3, k4, k5⟩ := hcons hy
         exact .inr ⟨b, o, c, arr, us, by rw [hfl.1, hlen]; exact k1, by rw [hfl.1, hlen]; exact k2, k3, (VPLL_flat.1 k4).1, k5⟩
       ·simp only [TyT, hp, hu, h1]
        exact ⟨_, rfl, by rw [hfl.1, hlen]; exact hml, fun y hy => (hty _ (hfl.2 y hy)).2⟩
      ·refine ⟨[.lsts (P.cellsOf e) yss], ?_, by simpa using hpl, ?_⟩
       ·simp only [VPL]
        refine ⟨v, [], rfl, ?_, rfl⟩
        simp only [VP]
        by_cases hy : yss = []
        ·exact .inl ⟨hy, hnil hy⟩
        ·obtain ⟨b, o, c, arr, us, k1, k2, k3, k4, k5⟩ := hcons hy
         exact .inr ⟨b, o, c, arr, us, by rw [hlen]; exact k1, by rw [hlen]; exact k2, k3, k4, k5⟩
       ·have hb : Nat.beq (P.cellsOf e) 1 = false := beq_ne h1
        simp only [TyT, hp, hu, hb]
        exact ⟨_, rfl, by rw [hlen]; exact hml, fun y hy => (hty _ hy).2⟩
     rcases DataW.trod_slice hu h with ⟨rfl, _⟩ | ⟨a, len, cap, elems, rest, n', rfl, rfl, _, _, hlc, hcm, hel, hE, _, _⟩
     ·exact fin _ 0 [] (by simp [maxLen]) rfl (by simp) rfl (fun _ => ⟨none, 0, rfl⟩) (by simp)
     ·have hcs : ∀ i, i < len → ∃ cs', W.cells? 0 (a.add (i * P.cellsOf e)) (P.cellsOf e) = some cs' ∧ Rd P fz m e cs' := by
       intro i hi
       have := hE i hi
       rw [List.getElem?_eq_getElem (by omega), Option.bind_eq_some_iff] at this
       obtain ⟨cs', h1, h2⟩ := this
       exact ⟨cs', h1, ih _ _ _ _ hse h2⟩
      by_cases hl0 : len = 0
      ·subst hl0
       exact fin _ 0 [] (by simp [maxLen]) rfl (by simp) rfl (fun _ => ⟨_, _, rfl⟩) (by simp)
      ·obtain ⟨cs0, c1, _⟩ := hcs 0 (by omega)
       have ha : a.add (0 * P.cellsOf e) = a := by simp [Addr.add]
       rw [ha] at c1
       obtain ⟨c, tt, z, hb, hsp, _, _, _⟩ := cells_take hs0 c1
       have key : ∀ k, k ≤ len → ∃ yss us, yss.length = k ∧ VPLL fz (P.cellsOf e) yss us ∧ (∀ u ∈ us, plainV u = true) ∧ (∀ ys ∈ yss, ys.length = P.cellsOf e ∧ TyT P m e ys) ∧ (k ≠ 0 → a.off + k * P.cellsOf e ≤ c.toList.length) ∧ us = (c.toList.drop a.off).take (k * P.cellsOf e) := by
        intro k
        induction k with
        | zero => intro _; exact ⟨[], [], rfl, by simp [VPLL], by simp, by simp, by simp, by simp⟩
        | succ k ihk =>
         intro hk
         obtain ⟨yss, us, k1, k2, k3, k4, k5, k6⟩ := ihk (by omega)
         obtain ⟨cs', d1, ys, d2, d3, d4⟩ := hcs k (by omega)
         obtain ⟨c', tt', z', e1, e2, e3, e4, e5⟩ := cells_take hs0 d1
         have hblk : (a.add (k * P.cellsOf e)).block = a.block := by unfold Addr.add; split <;> rfl
         have hoff : (a.add (k * P.cellsOf e)).off = a.off + k * P.cellsOf e := by unfold Addr.add; split <;> simp_all
         rw [hblk, hb] at e1
         simp only [Option.some.injEq, Obj.cells.injEq] at e1
         obtain ⟨rfl, _, _⟩ := e1
         rw [hoff] at e4 e5
         have hys : ys.length = P.cellsOf e := by rw [← VPL_length d2, e3]
         have hf := VPLL_flat.1 k2
         refine ⟨yss ++ [ys], us ++ cs', by simp [k1], VPLL_flat.2 ⟨?_, ?_⟩, ?_, ?_, fun _ => by rw [Nat.succ_mul]; omega, ?_⟩
         ·simpa using VPL_append hf.1 d2
         ·intro q hq; rcases List.mem_append.1 hq with hq | hq
          ·exact hf.2 q hq
          ·simp at hq; subst hq; exact hys
         ·intro u hu; rcases List.mem_append.1 hu with hu | hu
          ·exact k3 u hu
          ·exact d3 u hu
         ·intro q hq; rcases List.mem_append.1 hq with hq | hq
          ·exact k4 q hq
          ·simp at hq; subst hq; exact ⟨hys, d4⟩
         ·rw [k6, e5, Nat.succ_mul, List.take_add, List.drop_drop]
       obtain ⟨yss, us, k1, k2, k3, k4, k5, k6⟩ := key len (Nat.le_refl _)
       have k5 := k5 hl0
       have hne : yss ≠ [] := by intro e; subst e; simp at k1; omega
       refine fin _ len yss (by omega) k1 k4 rfl (fun e => absurd e hne) fun _ => ⟨a.block, a.off, cap, c.toList, us, ?_, hlc, hfz _ _ _ _ hb, k2, ?_⟩
       ·obtain ⟨ab, ao, asp⟩ := a; simp only [] at hsp; subst hsp; rfl
       ·refine ⟨c.toList.take a.off, c.toList.drop (a.off + len * P.cellsOf e), ?_, ?_, k3⟩
        ·rw [k6, List.append_assoc, ← List.drop_drop, List.take_append_drop, List.take_append_drop]
        ·rw [List.length_take]; omega
    | _ => simp [basic] at hs
mutual
def flatD : DataW H → Option (List PV)
 | .lit (.bool b) => some [.bool b]
 | .lit (.int k n) => some [.int k n]
 | .lit (.string s) => some [.str s]
 | .agg ps => flatDL ps
 | _ => none
def flatDL : List (DataW H) → Option (List PV)
 | [] => some []
 | d :: r => match flatD d, flatDL r with
  | some xs, some ys => some (xs ++ ys)
  | _, _ => none
end
theorem fldsD_of {fz : Fzn} {cs : List Value} {Q : DataW H → List Value → Prop} (hQ : ∀ d us xs, Q d us → flatD d = some xs → VPL fz xs us ∧ ∀ u ∈ us, plainV u = true) : ∀ (l : List (TypeId × Nat)) (ds : List (DataW H)) (o : Nat) (xs : List PV), tiles P l o = some cs.length → ds.length = l.length →
  (∀ (i : Nat) f d, l[i]? = some f → ds[i]? = some d → Q d ((cs.drop f.2).take (P.cellsOf f.1))) → flatDL ds = some xs → VPL fz xs (cs.drop o) ∧ ∀ u ∈ cs.drop o, plainV u = true
 | [], ds, o, xs, ht, hl, _, hd => by
  simp only [tiles, Option.some.injEq] at ht
  subst ht
  obtain rfl := List.eq_nil_of_length_eq_zero hl
  simp only [flatDL, Option.some.injEq] at hd
  subst hd
  simp [VPL]
 | f :: r, [], o, xs, ht, hl, _, hd => by simp at hl
 | f :: r, d :: ds, o, xs, ht, hl, hr, hd => by
  simp only [tiles] at ht
  split at ht
  ·rename_i ho
   simp only [flatDL] at hd
   split at hd
   ·rename_i ys zs e1 e2
    injection hd with hd
    subst hd
    have h1 := hQ d _ ys (hr 0 f d rfl rfl) e1
    have h2 := fldsD_of hQ r ds (o + P.cellsOf f.1) zs ht (by simpa using hl) (fun i g e hg he => hr (i + 1) g e hg he) e2
    rw [ho] at h1
    have e : cs.drop o = (cs.drop o).take (P.cellsOf f.1) ++ cs.drop (o + P.cellsOf f.1) := by
     rw [← List.drop_drop, List.take_append_drop]
    rw [e]
    refine ⟨VPL_append h1.1 h2.1, fun u hu => ?_⟩
    rcases List.mem_append.1 hu with hu | hu
    ·exact h1.2 u hu
    ·exact h2.2 u hu
   ·cases hd
  ·cases ht
theorem laid_of_trod {fz : Fzn} : ∀ (m : Nat) (t : TypeId) (n : Nat) (cs : List Value) (x : DataW H × List MemPlace) (xs : List PV), supp P m t = true → DataW.trod enc P W 0 sp held n t cs = some x → flatD x.1 = some xs → VPL fz xs cs ∧ ∀ u ∈ cs, plainV u = true
 | 0, _, _, _, _, _, hs, _, _ => by simp [supp] at hs
 | m + 1, t, n, cs, x, xs, hs, h, hd => by
  have ih := laid_of_trod (fz := fz) m
  simp only [supp] at hs
  cases hp : partsOf P t with
  | some l =>
   simp only [hp, Bool.and_eq_true, decide_eq_true_eq, List.all_eq_true] at hs
   obtain ⟨ys, k, h1, h2, h3, h4, h5⟩ := parts_trod hp h
   rw [h2] at hd
   simp only [flatD] at hd
   have := fldsD_of (fz := fz) (P := P) (cs := cs) (Q := fun d us => ∀ xs, flatD d = some xs → VPL fz xs us ∧ ∀ u ∈ us, plainV u = true) (fun d us xs hq hx => hq xs hx) l (ys.map (·.1)) 0 xs (by rw [h3]; exact hs.1) (by simpa using h4) (fun i f d hf hd' => by
    rw [List.getElem?_map, Option.map_eq_some_iff] at hd'
    obtain ⟨y, hy, rfl⟩ := hd'
    have e := h5 i f hf
    rw [hy] at e
    intro xs hx
    exact ih _ _ _ _ xs (hs.2 _ (List.mem_of_getElem? hf)) e hx) hd
   simpa using this
  | none =>
   simp only [hp] at hs
   cases hu : P.underlying t with
   | none => simp [hu] at hs
   | some d =>
    simp only [hu] at hs
    cases d with
    | bool =>
     obtain ⟨b, rfl, rfl⟩ := DataW.trod_bool hu h
     simp only [flatD, Option.some.injEq] at hd
     subst hd
     exact ⟨by simp [VPL, VP], by simp [plainV]⟩
    | int k =>
     obtain ⟨b, rfl, rfl, hw⟩ := DataW.trod_int hu h
     simp only [flatD, Option.some.injEq] at hd
     subst hd
     exact ⟨by simp [VPL, VP], by simp [plainV]⟩
    | string =>
     obtain ⟨⟨⟨s⟩⟩, rfl, rfl, hw⟩ := DataW.trod_string hu h
     simp only [flatD, Option.some.injEq] at hd
     subst hd
     exact ⟨by simp [VPL, VP], by simp [plainV]⟩
    | slice e =>
     rcases DataW.trod_slice hu h with ⟨rfl, rfl⟩ | ⟨a, len, cap, elems, rest, n', rfl, rfl, rfl, _⟩
     ·simp [flatD] at hd
     ·simp [flatD] at hd
    | _ => simp [basic] at hs
end
end Go.Proofs.YtohfoaplnjcihaaGreatDoor.Y
namespace Go.Proofs.YtohfoaplnjcihaaGreatDoor.Y
open Go
theorem mapM_mono {α β : Type} {f g : α → Option β} : ∀ {l : List α} {r : List β}, (∀ x ∈ l, ∀ y, f x = some y → g x = some y) → l.mapM f = some r → l.mapM g = some r
 | [], r, _, h => by simpa using h
 | x :: l, r, hfg, h => by
  simp only [List.mapM_cons, Option.bind_eq_bind, Option.bind_eq_some_iff, Option.pure_def, Option.some.injEq] at h ⊢
  obtain ⟨y, h1, ys, h2, h3⟩ := h
  exact ⟨y, hfg x (by simp) y h1, ys, mapM_mono (fun z hz => hfg z (by simp [hz])) h2, h3⟩
def Kept (W W' : World) : Prop := ∀ (b : Nat) (o : Obj), W.heap[b]? = some o → W'.heap[b]? = some o
section
variable {H : Type} {enc : TypeId × Value → H} {P : Program} {W W' : World} {sp' : Nat → Bool} {held : Bool}
theorem Kept.cell (hk : Kept W W') {a : Addr} {v : Value} (h : W.cell? a = some v) : W'.cell? a = some v := by
 unfold World.cell? at h ⊢
 split at h
 ·rename_i c t z hb
  rw [hk _ _ hb]
  exact h
 ·cases h
theorem Kept.cells (hk : Kept W W') {a : Addr} {n : Nat} {cs : List Value} (h : W.cells? 0 a n = some cs) : W'.cells? 0 a n = some cs := by
 unfold World.cells? at h ⊢
 rw [if_pos (Nat.zero_le _)] at h ⊢
 exact mapM_mono (fun _ _ _ hx => hk.cell hx) h
theorem trod_kept (hk : Kept W W') (hsp : ∀ b, b < W.heap.size → sp' b = true) : ∀ (m : Nat) (t : TypeId) (n : Nat) (cs : List Value) (x : DataW H × List MemPlace), supp P m t = true → DataW.trod enc P W 0 (fun _ => true) held n t cs = some x → DataW.trod enc P W' 0 sp' held n t cs = some x
 | 0, _, _, _, _, hs, _ => by simp [supp] at hs
 | m + 1, t, 0, cs, x, hs, h => by simp [DataW.trod] at h
 | m + 1, t, n + 1, cs, x, hs, h => by
  have ih := trod_kept hk hsp m
  simp only [supp] at hs
  cases hu : P.underlying t with
  | none =>
   have hp : partsOf P t = none := by simp [partsOf, hu]
   simp [hp, hu] at hs
  | some d =>
   cases d with
   | struct fs =>
    have hp : partsOf P t = some (fs.toList.map fun f => (f.type, f.offset)) := by simp [partsOf, hu]
    simp only [hp, Bool.and_eq_true, List.all_eq_true] at hs
    unfold DataW.trod at h ⊢
    rw [hu] at h ⊢
    simp only [] at h ⊢
    split at h
    ·rename_i hl
     rw [if_pos hl]
     rw [Option.map_eq_some_iff] at h ⊢
     obtain ⟨xs, h1, h2⟩ := h
     exact ⟨xs, mapM_mono (fun f hf y hy => ih _ _ _ _ (hs.2 (f.type, f.offset) (List.mem_map_of_mem hf)) hy) h1, h2⟩
    ·cases h
   | array k e =>
    have hp : partsOf P t = some ((List.range k).map fun i => (e, i * P.cellsOf e)) := by simp [partsOf, hu]
    simp only [hp, Bool.and_eq_true, List.all_eq_true] at hs
    unfold DataW.trod at h ⊢
    rw [hu] at h ⊢
    simp only [] at h ⊢
    split at h
    ·rename_i hl
     rw [if_pos hl]
     rw [Option.map_eq_some_iff] at h ⊢
     obtain ⟨xs, h1, h2⟩ := h
     exact ⟨xs, mapM_mono (fun i hi y hy => ih _ _ _ _ (hs.2 (e, i * P.cellsOf e) (List.mem_map_of_mem hi)) hy) h1, h2⟩
    ·cases h
   | bool =>
    obtain ⟨b, rfl, rfl⟩ := DataW.trod_bool hu h
    unfold DataW.trod; rw [hu]
   | int k =>
    obtain ⟨b, rfl, rfl, hw⟩ := DataW.trod_int hu h
    unfold DataW.trod; rw [hu]; simp [hw]
   | string =>
    obtain ⟨s, rfl, rfl, hw⟩ := DataW.trod_string hu h
    unfold DataW.trod; rw [hu]; simp [hw]
   | slice e =>
    have hp : partsOf P t = none := by simp [partsOf, hu]
    simp only [hp, hu, Bool.and_eq_true, decide_eq_true_eq] at hs
    rcases DataW.trod_slice hu h with ⟨rfl, rfl⟩ | ⟨a, len, cap, _, _, _, _, rfl, _⟩
    ·unfold DataW.trod; rw [hu]; rfl
    unfold DataW.trod at h ⊢
    rw [hu] at h ⊢
    simp only [if_true] at h ⊢
    split at h
    rotate_left
    ·cases h
    rename_i hc
    rw [if_pos hc]
    rw [Option.bind_eq_some_iff] at h ⊢
    obtain ⟨elems, h1, h2⟩ := h
    rw [Option.map_eq_some_iff] at h2
    obtain ⟨rest, h2, h3⟩ := h2
    have el : ∀ i y, (W.cells? 0 (a.add (i * P.cellsOf e)) (P.cellsOf e)).bind (DataW.trod enc P W 0 (fun _ => true) held n e) = some y → (W'.cells? 0 (a.add (i * P.cellsOf e)) (P.cellsOf e)).bind (DataW.trod enc P W' 0 sp' held n e) = some y := by
     intro i y hy
     rw [Option.bind_eq_some_iff] at hy ⊢
     obtain ⟨cs', g1, g2⟩ := hy
     exact ⟨cs', hk.cells g1, ih _ _ _ _ hs.2 g2⟩
    refine ⟨elems, mapM_mono (fun i _ y hy => el i y hy) h1, ?_⟩
    rw [Option.map_eq_some_iff]
    refine ⟨rest, ?_, h3⟩
    by_cases hd : cap - len = 0
    ·rw [hd] at h2 ⊢
     simp at h2
     subst h2
     cases sp' a.block <;> simp
    ·have hb : a.block < W.heap.size := by
      have hl := mapM_some_length h2
      rw [List.length_range] at hl
      have := mapM_some_get h2 0 0 (by rw [List.getElem?_eq_getElem (by simp; omega)]; simp)
      rw [List.getElem?_eq_getElem (by omega), Option.bind_eq_some_iff] at this
      obtain ⟨cs', g1, _⟩ := this
      obtain ⟨c, t', z, g3, _⟩ := cells_take hs.1 g1
      have hblk : (a.add ((len + 0) * P.cellsOf e)).block = a.block := by unfold Addr.add; split <;> rfl
      rw [hblk] at g3
      exact (Array.getElem?_eq_some_iff.1 g3).1
     rw [if_pos (hsp _ hb)]
     exact mapM_mono (fun i _ y hy => el (len + i) y hy) h2
   | _ =>
    have hp : partsOf P t = none := by simp [partsOf, hu]
    simp [hp, hu, basic] at hs
theorem trodAll_kept (hk : Kept W W') (hsp : ∀ b, b < W.heap.size → sp' b = true) (m : Nat) : ∀ {ts : List TypeId} {vs : List Value} {ds : List (DataW H)} {ps : List MemPlace}, ts.all (supp P m) = true → DataW.TrodAll enc P W 0 (fun _ => true) held ts vs ds ps → DataW.TrodAll enc P W' 0 sp' held ts vs ds ps
 | [], [], [], ps, _, h => h
 | t :: ts, v :: vs, d :: ds, ps, hs, h => by
  simp only [List.all_cons, Bool.and_eq_true] at hs
  obtain ⟨p, q, ⟨fuel, h1⟩, h2, h3⟩ := h
  exact ⟨p, q, ⟨fuel, trod_kept hk hsp m _ _ _ _ hs.1 h1⟩, trodAll_kept hk hsp m hs.2 h2, h3⟩
 | [], [], _ :: _, ps, _, h => by simp [DataW.TrodAll] at h
 | [], _ :: _, _, ps, _, h => by simp [DataW.TrodAll] at h
 | _ :: _, [], _, ps, _, h => by simp [DataW.TrodAll] at h
 | _ :: _, _ :: _, [], ps, _, h => by simp [DataW.TrodAll] at h
def ArgT (P : Program) (m : Nat) (t : TypeId) (x : PV) : Prop := match partsOf P t with
 | some _ => ∃ xs, x = .agg xs ∧ TyT P m t xs
 | none => TyT P m t [x]
def ArgsT (P : Program) (m : Nat) : List TypeId → List PV → Prop
 | [], xs => xs = []
 | t :: ts, xs => ∃ x r, xs = x :: r ∧ ArgT P m t x ∧ ArgsT P m ts r
def fzOf (W : World) : Fzn := fun b => match W.heap[b]? with
 | some (.cells c _ _) => some c.toList
 | _ => none
theorem fzOf_all (W : World) : AllCells (fzOf W) W := fun b c t z h => by simp [fzOf, h]
theorem fzOf_some {b : Nat} {arr : List Value} (h : fzOf W b = some arr) : ∃ c t z, W.heap[b]? = some (.cells c t z) ∧ arr = c.toList := by
 unfold fzOf at h
 split at h
 ·rename_i c t z hb
  injection h with h
  exact ⟨c, t, z, hb, h.symm⟩
 ·cases h
theorem arg_of {m : Nat} {base : Nat} {t : TypeId} {v : Value} {d : DataW H} {ps : List MemPlace} (hs : supp P m t = true) (hval : Value.okWide P W .any base t v) (h : DataW.Trod enc P W 0 (fun _ => true) true t v d ps) : ∃ x, VP (fzOf W) x v ∧ ArgT P m t x := by
 obtain ⟨fuel, h⟩ := h
 obtain ⟨xs, h1, h2, h3⟩ := typed_of_trod (fzOf_all W) m t fuel _ _ hs h
 unfold Value.okWide at hval
 cases hp : partsOf P t with
 | some l =>
  have : ∃ cs, v = .agg cs := by
   unfold partsOf at hp
   split at hp
   ·rename_i fs hu; simp only [hu] at hval; obtain ⟨cs, h, _⟩ := hval; exact ⟨cs, h⟩
   ·rename_i k e hu; simp only [hu] at hval; obtain ⟨cs, h, _⟩ := hval; exact ⟨cs, h⟩
   ·cases hp
  obtain ⟨cs, rfl⟩ := this
  exact ⟨.agg xs, by simp only [VP]; exact ⟨cs, rfl, h1⟩, by simp only [ArgT, hp]; exact ⟨xs, rfl, h3⟩⟩
 | none =>
  have hv : v.cells = #[v] := by
   cases m with
   | zero => simp [supp] at hs
   | succ m =>
    simp only [supp, hp] at hs
    cases hu : P.underlying t with
    | none => simp [hu] at hs
    | some d =>
     simp only [hu] at hs hval
     cases d with
     | struct fs => simp [partsOf, hu] at hp
     | array k e => simp [partsOf, hu] at hp
     | bool => cases v <;> simp_all [Cell.okWide, Cell.ok, Value.cells]
     | int k => cases v <;> simp_all [Cell.okWide, Cell.ok, Value.cells]
     | string => cases v <;> simp_all [Cell.okWide, Cell.ok, Value.cells]
     | slice e => cases v <;> simp_all [Cell.okWide, Cell.ok, Value.cells]
     | _ => simp [basic] at hs
  rw [hv] at h1
  obtain ⟨x, rfl, h4⟩ : ∃ x, xs = [x] ∧ VP (fzOf W) x v := by
   match xs, h1 with
   | [], h1 => simp [VPL] at h1
   | x :: r, h1 =>
    simp only [VPL] at h1
    obtain ⟨u, us, e, g1, g2⟩ := h1
    simp only [List.cons.injEq] at e
    obtain ⟨rfl, rfl⟩ := e
    match r, g2 with
    | [], _ => exact ⟨x, rfl, g1⟩
    | y :: r, g2 => simp [VPL] at g2
  exact ⟨x, h4, by simp only [ArgT, hp]; exact h3⟩
theorem args_of {m base : Nat} : ∀ {ts : List TypeId} {vs : List Value} {ds : List (DataW H)} {ps : List MemPlace}, ts.all (supp P m) = true → (∀ (j : Nat) t v, ts[j]? = some t → vs[j]? = some v → Value.okWide P W .any base t v) → DataW.TrodAll enc P W 0 (fun _ => true) true ts vs ds ps →
  ∃ xs, VPL (fzOf W) xs vs ∧ ArgsT P m ts xs ∧ ds.length = ts.length
 | [], [], [], ps, _, _, _ => ⟨[], by simp [VPL], rfl, rfl⟩
 | t :: ts, v :: vs, d :: ds, ps, hs, hv, h => by
  simp only [List.all_cons, Bool.and_eq_true] at hs
  obtain ⟨p, q, h1, h2, h3⟩ := h
  obtain ⟨x, g1, g2⟩ := arg_of hs.1 (hv 0 t v rfl rfl) h1
  obtain ⟨xs, k1, k2, k3⟩ := args_of hs.2 (fun j t v ht hv' => hv (j + 1) t v ht hv') h2
  exact ⟨x :: xs, by simp only [VPL]; exact ⟨v, vs, rfl, g1, k1⟩, ⟨x, xs, rfl, g2, k2⟩, by simp [k3]⟩
 | [], [], _ :: _, ps, _, _, h => by simp [DataW.TrodAll] at h
 | [], _ :: _, _, ps, _, _, h => by simp [DataW.TrodAll] at h
 | _ :: _, [], _, ps, _, _, h => by simp [DataW.TrodAll] at h
 | _ :: _, _ :: _, [], ps, _, _, h => by simp [DataW.TrodAll] at h
end
def gtOK (P : Program) (m : Nat) : List (Nat × List PV) → List (String × DataW Unit) → Prop
 | [], _ => True
 | (g, cs) :: r, (n, d) :: r' => P.globalNamed n = some g ∧ (∃ t, (P.globals[g]?).map (·.type) = some t ∧ supp P m t = true) ∧ flatD d = some cs ∧ gtOK P m r r'
 | _ :: _, [] => False
theorem glob_of_laid {P : Program} {m : Nat} {W : World} : ∀ {gt : List (Nat × List PV)} {laid : List (String × DataW Unit)} {ps : List MemPlace}, gtOK P m gt laid → DataW.LaidVars P W laid ps → ∀ g cs, gget gt g = some cs → GlobV (fzOf W) g cs
 | [], _, _, _, _, g, cs, h => by simp [gget] at h
 | (g', cs') :: r, [], _, hg, _, g, cs, h => by simp [gtOK] at hg
 | (g', cs') :: r, (n, d) :: r', ps, hg, hl, g, cs, h => by
  obtain ⟨h1, ⟨t, h2, h3⟩, h4, h5⟩ := hg
  obtain ⟨g0, t0, cs0, fuel, p, q, k1, k2, k3, k4, k5, k6⟩ := hl
  rw [h1] at k1
  injection k1 with k1
  subst k1
  rw [h2] at k2
  injection k2 with k2
  subst k2
  simp only [gget] at h
  split at h
  ·rename_i he
   have he := Nat.eq_of_beq_eq_true he
   subst he
   injection h with h
   subst h
   obtain ⟨g1, g2⟩ := laid_of_trod (fz := fzOf W) m t fuel _ _ _ h3 k4 h4
   have hb : ∃ ty z, W.heap[g']? = some (.cells cs0 ty z) := by
    unfold World.var? at k3
    rw [h1] at k3
    simp only [Option.bind_some] at k3
    split at k3
    ·rename_i c ty z hb
     injection k3 with k3
     subst k3
     exact ⟨ty, z, hb⟩
    ·cases k3
   obtain ⟨ty, z, hb⟩ := hb
   exact ⟨by simp only [VP]; exact ⟨g', 0, cs0.toList, cs0.toList, rfl, fzOf_all W _ _ _ _ hb, g1, [], [], by simp, rfl, g2⟩, cs0.toList, fzOf_all W _ _ _ _ hb, VPL_length g1⟩
  ·exact glob_of_laid h5 k5 g cs h
section
variable {cx : Cx}
theorem calls_of_pure {H : Type} {enc : TypeId × Value → H} {W : World} {f : FuncId} {fn : Func} {c : Code} {m base : Nat} {args : Array Value} {ds : List (DataW H)} {ps : List MemPlace}
  (hf : cx.P.funcs[f]? = some fn) (hname : (fn.name == "runtime.NumGoroutine") = false) (hb : fn.body = some c) (hs : fn.params.toList.all (supp cx.P m) = true)
  (hpure : ∀ xs, ArgsT cx.P m fn.params.toList xs → Pure cx f xs (· = .ret [.bool true]))
  (hval : ∀ (j : Nat) t v, fn.params[j]? = some t → args[j]? = some v → Value.okWide cx.P W .any base t v)
  (hA : DataW.TrodAll enc cx.P W 0 (fun _ => true) true fn.params.toList args.toList ds ps)
  (hglob : ∀ g cs, gget cx.gt g = some cs → GlobV (fzOf W) g cs) :
  Calls cx.P f args W fun e W' => e = .returned (.bool true) ∧ W'.os = W.os ∧ W'.output = W.output ∧ ∀ k, k < W.heap.size → W'.heap[k]? = W.heap[k]? := by
 obtain ⟨xs, h1, h2, _⟩ := args_of hs (fun j t v ht hv => hval j t v (by simpa using ht) (by simpa using hv)) hA
 have hR : R cx ⟨fun _ => none, fzOf W⟩ ⟨0, []⟩ W := by
  refine ⟨hglob, fun _ _ => rfl, fun b arr hb => ?_, fun n o hn => by simp [lget] at hn, fun n o q hn => by simp [lget] at hn, fun n o m p q q' hn => by simp [lget] at hn⟩
  obtain ⟨c, t, z, g1, rfl⟩ := fzOf_some hb
  exact ⟨t, z, g1⟩
 have key : ∀ e w', Post cx ⟨fun _ => none, fzOf W⟩ ⟨0, []⟩ W (EndP (· = .ret [.bool true])) e w' → e = .returned (.bool true) ∧ w'.os = W.os ∧ w'.output = W.output ∧ ∀ k, k < W.heap.size → w'.heap[k]? = W.heap[k]? := by
  intro e w' hP
  obtain ⟨r, Γ', hq, _, hE, _, hT, _⟩ := pure_post hR hP
  subst hq
  obtain ⟨v', rfl, hv⟩ := hE
  simp only [VR, VP] at hv
  subst hv
  exact ⟨rfl, hT.os, hT.output, fun k hk => hT.kept k hk own_nil⟩
 have hrun := run_enter hf hname hb args W
 rcases hpure xs h2 ⟨fun _ => none, fzOf W⟩ W args.toList hR (VRL_p.2 h1) with ⟨_, h4⟩ | ⟨v', w', h4, _⟩
 ·exact h4.mono key
 ·rw [hrun] at h4
  injection h4 with h4
  cases h4
theorem post_of_kept {H : Type} {enc : TypeId × Value → H} {W W' : World} {fn : Func} {s : ChangeSpec} {m : Nat} {bt : TypeId} {apart fresh handsOn : Bool} {args : Array Value} {ds gs : List (DataW H)} {before : List MemPlace}
  (hs : fn.params.toList.all (supp cx.P m) = true) (hvars : s.vars = []) (hres : fn.resultTypes = #[bt]) (hbt : cx.P.underlying bt = some .bool)
  (hfn : ∀ ds : List (DataW H), ds.length = fn.params.toList.length → s.fn H ds = { results := [.lit (.bool true)], args := ds })
  (hW : DataW.Whole enc cx.P fn.params.toList s.vars apart W args.toList ds gs before) (hlen : ds.length = fn.params.toList.length)
  (hos : W'.os = W.os) (hout : W'.output = W.output) (hkept : ∀ k, k < W.heap.size → W'.heap[k]? = W.heap[k]?) :
  s.post enc cx.P fn apart fresh handsOn false W args (.bool true) W' := by
 have hk : Kept W W' := fun b o hb => by rw [hkept b (Array.getElem?_eq_some_iff.1 hb).1]; exact hb
 have hW' := hW
 obtain ⟨p, q, h1, h2, _, _, _⟩ := hW'
 rw [hvars] at h2
 obtain ⟨rfl, rfl⟩ := Go.ChangeShapes.trodVars_none h2
 have e : s.fn H (ds ++ []) = { results := [.lit (.bool true)], args := ds } := by rw [List.append_nil]; exact hfn ds hlen
 refine ⟨ds, [], before, [], p, [], hW, ?_, ?_, ?_, ?_, fun h => by cases h⟩
 ·rw [e, hres]
  exact Go.ChangeShapes.trodAll_mk1 (Go.RowKit.shut_bool hbt true)
 ·rw [e]
  exact trodAll_kept hk (fun b hb => by simpa using hb) m hs h1
 ·rw [e, hvars]
  rfl
 ·refine ⟨hos, hout, fun i hi => ?_⟩
  rw [hkept i hi]
  have := Array.getElem?_eq_getElem hi
  rw [this]
  cases W.heap[i] <;> simp
end
end Go.Proofs.YtohfoaplnjcihaaGreatDoor.Y
namespace Go.Proofs.YtohfoaplnjcihaaGreatDoor
open Go Y
set_option maxRecDepth 100000
set_option maxHeartbeats 4000000
theorem ty_u8 {m : Nat} {xs : List PV} (h : TyT Tryz.prog (m + 1) 5 xs) : ∃ b : UInt8, xs = [u8 b] := by
 have hp : partsOf Tryz.prog 5 = none := by simp [partsOf, Tryz.underlying5]
 simp only [TyT, hp, Tryz.underlying5] at h
 obtain ⟨n, rfl, hw⟩ := h
 have := bounds_u8 hw
 refine ⟨UInt8.ofNat n.toNat, ?_⟩
 have e : ((UInt8.ofNat n.toNat).toNat : Int) = n := by
  simp
  omega
 rw [u8, e]
theorem lift_list {α : Type} {f : α → PV} {P : α → Prop} {ys : List PV} (h : ∀ y ∈ ys, ∃ a, y = f a ∧ P a) : ∃ zs : List α, ys = zs.map f ∧ ∀ z ∈ zs, P z := by
 induction ys with
 | nil => exact ⟨[], rfl, by simp⟩
 | cons y r ih =>
  obtain ⟨a, rfl, ha⟩ := h y (by simp)
  obtain ⟨zs, rfl, hz⟩ := ih fun z hz => h z (by simp [hz])
  exact ⟨a :: zs, rfl, fun z hm => by rcases List.mem_cons.1 hm with rfl | hm; exact ha; exact hz z hm⟩
theorem ty_bytes {m : Nat} {xs : List PV} (h : TyT Tryz.prog (m + 2) 40 xs) : ∃ bs : List UInt8, xs = [.lst (bs.map u8)] ∧ bs.length ≤ 9223372036854775807 := by
 have hp : partsOf Tryz.prog 40 = none := by simp [partsOf, Tryz.underlying40]
 have hc : Tryz.prog.cellsOf 5 = 1 := by kernel_rfl
 rw [TyT] at h
 simp only [hp, Tryz.underlying40, hc] at h
 obtain ⟨ys, rfl, hl, hy⟩ := h
 obtain ⟨bs, rfl, _⟩ := lift_list (f := u8) (P := fun _ => True) fun y hy' => by
  obtain ⟨b, hb⟩ := ty_u8 (hy y hy')
  simp at hb
  exact ⟨b, hb, trivial⟩
 exact ⟨bs, rfl, by rw [List.length_map] at hl; exact hl⟩
theorem arg_plain {m : Nat} {t : TypeId} {x : PV} (hp : partsOf Tryz.prog t = none) (h : ArgT Tryz.prog m t x) : TyT Tryz.prog m t [x] := by
 simpa only [ArgT, hp] using h
theorem own : ownKnob Tryz.prog.godebug = none := by kernel_rfl
abbrev laidP : List (String × DataW Unit) := [("math/bits.deBruijn32tab", Rows.laid_math_bits_deBruijn32tab), ("math/bits.deBruijn64tab", Rows.laid_math_bits_deBruijn64tab), ("internal/strconv.uint64pow10", Rows.laid_internal_strconv_uint64pow10), ("haruspex/lex.keys", Rows.laid_haruspex_lex_keys), ("haruspex/lex.marks", Rows.laid_haruspex_lex_marks)]
theorem door_metP (os : Os) (args : Array Value) : laidMetH Tryz.prog laidP ((World.laidAll Tryz.prog os laidP).forCall (fun _ _ => 0) ⟨#[], args, []⟩).memory := by
 rw [MakeChecks.laidMetH_plain _ _ _ (by kernel_rfl)]
 exact laidMet_laidAll _ (by kernel_rfl) (by kernel_rfl)
abbrev gt3 : List (Nat × List PV) := [(5, pow10L.map (.int .u64)), (0, keysL.map .str), (1, marksL.map .str)]
theorem gt_okP : gtOK Tryz.prog 4 gt3 [("internal/strconv.uint64pow10", Rows.laid_internal_strconv_uint64pow10), ("haruspex/lex.keys", Rows.laid_haruspex_lex_keys), ("haruspex/lex.marks", Rows.laid_haruspex_lex_marks)] :=
 ⟨by kernel_rfl, ⟨245, by kernel_rfl, by kernel_rfl⟩, rfl, by kernel_rfl, ⟨226, by kernel_rfl, by kernel_rfl⟩, rfl, by kernel_rfl, ⟨227, by kernel_rfl, by kernel_rfl⟩, rfl, trivial⟩
theorem gget_cases {k n : Nat} {o cs : List PV} {r : List (Nat × List PV)} (h : gget ((k, o) :: r) n = some cs) : (k = n ∧ o = cs) ∨ (¬ k = n ∧ gget r n = some cs) := by
 simp only [gget] at h
 split at h
 ·rename_i e
  injection h with h
  exact .inl ⟨Nat.eq_of_beq_eq_true e, h⟩
 ·rename_i e
  exact .inr ⟨fun c => by rw [c] at e; simp at e, h⟩
theorem gt_reord {g : Nat} {cs : List PV} (h : gget cx.gt g = some cs) : gget gt3 g = some cs := by
 rcases gget_cases h with ⟨rfl, rfl⟩ | ⟨_, h⟩
 ·rfl
 ·rcases gget_cases h with ⟨rfl, rfl⟩ | ⟨_, h⟩
  ·rfl
  ·rcases gget_cases h with ⟨rfl, rfl⟩ | ⟨_, h⟩
   ·rfl
   ·cases h
theorem glob_okP {W : World} (h : laidMetH Tryz.prog laidP W) : ∀ g cs, gget cx.gt g = some cs → GlobV (fzOf W) g cs := by
 rw [MakeChecks.laidMetH_plain _ _ _ (by kernel_rfl)] at h
 obtain ⟨ps, h, _⟩ := h
 obtain ⟨_, _, _, _, _, _, _, _, _, _, h, _⟩ := h
 obtain ⟨_, _, _, _, _, _, _, _, _, _, h, _⟩ := h
 intro g cs hg
 exact glob_of_laid gt_okP h g cs (gt_reord hg)
theorem parseFewest_pure : ∀ xs, ArgsT Tryz.prog 8 Tryz.f6.params.toList xs → Pure cx 6 xs (· = .ret [.bool true]) := by
 intro xs h
 rw [Tryz.params6] at h
 obtain ⟨x0, _, rfl, h0, rfl⟩ := h
 obtain ⟨v0, e0, g0⟩ := ty_bytes (arg_plain (by simp [partsOf, Tryz.underlying40]) h0)
 injection e0 with e0
 subst e0
 exact parseFewest_c v0 g0
theorem parseFewest_lifted (os : Os) (started : os.Started) (H : Type) (enc : TypeId × Value → H) :
  ReturnsInHanded {} Tryz.checked os 6 .any (fun w args => (Rows.parseFewestSpec.pre enc Tryz.prog Tryz.f6 [] false w args ∧ laidMetH Tryz.prog laidP w) ∧ sizedMet enc Tryz.prog Tryz.f6 (OpenSpec.ofChange Rows.parseFewestSpec) false w args)
   (Rows.parseFewestSpec.post enc Tryz.prog Tryz.f6 false true false false) := by
 refine returnsInHanded_of_change_and (C := Tryz.checked) (X := fun w _ => laidMetH Tryz.prog laidP w) (fun _ _ _ hh h => h.of_heap hh) own started (by kernel_rfl) Tryz.func6
  (ChangeSpec.witness_shaped (enc := enc) (C := Tryz.checked) (os := os) (X := fun w _ => laidMetH Tryz.prog laidP w) false (World.laidAll Tryz.prog os laidP) #[.slice none 0 0] 8 (World.laidAll_os _ _ _) (World.shaped_of_ZipB (by kernel_rfl) (by kernel_rfl)) (by kernel_rfl) (by kernel_rfl) (by kernel_rfl) (door_metP os _)) ?_
 intro W base args ds gs before hval hW _ _ hL _
 obtain ⟨p, q, hA, hV, _⟩ := id hW
 have hs : Tryz.f6.params.toList.all (supp Tryz.prog 8) = true := by kernel_rfl
 obtain ⟨_, _, _, hlen⟩ := args_of hs (fun j t v ht hv => hval j t v (by simpa using ht) (by simpa using hv)) hA
 refine (calls_of_pure (cx := cx) Tryz.func6 (by kernel_rfl) rfl hs parseFewest_pure hval hA (glob_okP hL)).mono fun e W' ⟨he, h1, h2, h3⟩ => ?_
 subst he
 exact ⟨_, rfl, post_of_kept (cx := cx) (m := 8) hs rfl (by kernel_rfl) Tryz.underlying4 (fun ds h => by
  rw [Tryz.params6] at h
  match ds, h with
  | [_], _ => rfl) hW hlen h1 h2 h3⟩
theorem parseFewest_holds : Rows.ParseFewestSaid :=
 OpenClaim.holds_of_wide 6 Tryz.f6 rfl rfl rfl rfl rfl rfl rfl ⟨rfl, rfl, rfl, rfl, rfl⟩ rfl rfl rfl rfl rfl (by kernel_rfl) Tryz.func6 (by kernel_rfl)
  (of_decide_eq_true (by kernel_rfl)) (by unfold Func.isWrapper; first | (rw [if_pos (by decide +kernel)]; kernel_rfl) | (rw [if_neg (by decide +kernel)]; exact ⟨rfl, rfl⟩))
  (fun os started H enc _ => parseFewest_lifted os started H enc)
theorem parseFewest_card : Rows.ParseFewestCardSaid :=
 Claim7.holds_tied_plain_at .later [] [.data, .data, .data, .data, .data] true (true, "b46c99eb2204dd8b467615443c82243f622f25a7b7341c27729da0866b8561af") true
  parseFewest_holds (fun _ h => by cases h) (by kernel_rfl) (fun _ h => by cases h) parseFewest_row_tie rfl ⟨rfl, rfl⟩ (by kernel_rfl) rfl
  (fun f fn hf hfn => by
   obtain rfl : f = 6 := Option.some.inj ((show Tryz.prog.funcNamed "haruspex/haruspexlaw38.ParseFewest" = some 6 by kernel_rfl).symm.trans hf) |>.symm
   obtain rfl : fn = Tryz.f6 := (Option.some.inj (Tryz.func6.symm.trans hfn)).symm
   exact ⟨by kernel_rfl, fun j t ht => by
    have hall : (Tryz.f6.params.toList.all fun u => !Tryz.prog.wantsStandIn u) = true := by kernel_rfl
    exact (show Tryz.prog.wantsStandIn t = false by simpa using List.all_eq_true.1 hall t (by simpa using Array.mem_of_getElem? ht))⟩)
  (by kernel_rfl)
#print axioms parseFewest_card
end Go.Proofs.YtohfoaplnjcihaaGreatDoor
