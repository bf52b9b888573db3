/- ParseLong: the row and the card. Parse returns what the reference's does, for texts with as many parts as a number says, of nine kinds. Conditions: those of the card. -/
import Derived.ChangeArms
import Derived.OpenShut
import Derived.WideHanded
import Derived.ChangeSame
import Derived.ProofKit
import Derived.LaidMore
import Derived.LaidLaws
import Derived.Stop.Joined
import Derived.MakeChecks
import Derived.Test.YtohfoaplnjcihaaGreatDoorRows
import Derived.Lay
import Derived.Test.YtohfoaplnjcihaaGreatDoorCards
import Derived.Test.YtohfoaplnjcihaaGreatDoorTie
import Derived.SevenTiedAt
import Derived.Test.YtohfoaplnjcihaaGreatDoorQ5
namespace Go.Proofs.YtohfoaplnjcihaaGreatDoor
open Go Y
set_option maxRecDepth 100000
set_option maxHeartbeats 40000000
abbrev otS : OT := (.pure 0 (.pure 1 (.pure 2 (.pure 3 (.pure 4 (.pure 5 (.pure 6 (.pure 7 (.pure 8 (.pure 9 (.pure 10 (.pure 11 (.eff 12 [] (.pure 13 (.pure 14 (.pure 15 (.pure 16 (.pure 17 (.pure 18 (.pure 19 (.pure 20 (.pure 21 (.pure 22 (.pure 23 (.pure 24 (.pure 25 (.pure 26 (.eff 27 [] (.pure 28 (.pure 29 .fin)) .nil))))))))))))))) .nil)))))))))))))
theorem de_eq {k n k' n' : Int} {nm pl nm' pl' : List UInt8} {rs rs' : List Rf} {cs cs' : List Cs} : ((⟨k, n, nm, pl, rs, cs⟩ : De) = ⟨k', n', nm', pl', rs', cs'⟩) ↔ (k = k' ∧ n = n' ∧ nm = nm' ∧ pl = pl' ∧ rs = rs' ∧ cs = cs') := by
  constructor
  · intro h; injection h with h1 h2 h3 h4 h5 h6; exact ⟨h1, h2, h3, h4, h5, h6⟩
  · rintro ⟨rfl, rfl, rfl, rfl, rfl, rfl⟩; rfl
theorem cs_eq {c c' : Cd} {l l' : List Int} : ((⟨c, l⟩ : Cs) = ⟨c', l'⟩) ↔ (c = c' ∧ l = l') := by
  constructor
  · intro h; injection h with h1 h2; exact ⟨h1, h2⟩
  · rintro ⟨rfl, rfl⟩; rfl
abbrev smH (a b : List De) (x y : De) : Hp := ⟨4, [(3, deO y), (2, deO x), (1, srO (.p (des b))), (0, srO (.p (des a)))]⟩
theorem sameP_c (a b : List De) (ha : BigP a) (hb : BigP b) : Pure cx 24 [srcV a, srcV b] (· = .ret [.bool (cb (a = b))]) := by
  have hla : (a.map De.cells).length = a.length := List.length_map ..
  have hlb : (b.map De.cells).length = b.length := List.length_map ..
  have a1 := ha.len
  refine pure_of_vc Tryz.func24 rfl rfl rfl ?_
  refine And.intro (fun h1 => ?_) (fun h1 => ?_)
  rotate_left
  · have h1 : ¬ ((a.map De.cells).length : Int) = ((b.map De.cells).length : Nat) := h1
    rw [hla, hlb] at h1
    exact end1 _ rfl rfl (by rw [cb_f (fun e => h1 (by rw [e]))])
  have h1 : ((a.map De.cells).length : Int) = ((b.map De.cells).length : Nat) := h1
  rw [hla, hlb] at h1
  have hl : a.length = b.length := by omega
  refine ⟨Nat, fun k => [(2, .ptr 0 0 0), (3, .ptr 1 0 0), (5, .p (i64 k))], fun _ => ⟨2, [(1, srO (.p (des b))), (0, srO (.p (des a)))]⟩, fun k => k ≤ a.length ∧ a.take k = b.take k, fun k => a.length - k, ?_, ?_⟩
  · exact ⟨0, ⟨Nat.zero_le _, rfl⟩, ent_of [] [] [] rfl (sk) (sk) rfl⟩
  rintro k ⟨k1, k2⟩
  refine And.intro (fun m1 => ?_) (fun m1 => ?_)
  rotate_left
  · have m1 : ¬ (k : Int) < ((a.map De.cells).length : Nat) := m1
    rw [hla] at m1
    exact end1 _ rfl rfl (by rw [cb_t (take_end hl (by omega) k2)])
  have m1 : (k : Int) < ((a.map De.cells).length : Nat) := m1
  rw [hla] at m1
  have hk : k < a.length := by omega
  have hk' : k < b.length := by omega
  have c1 := decell hk
  have c2 := decell hk'
  have bx := ha.decl _ (getD_memL de0 hk)
  have bY := hb.decl _ (getD_memL de0 hk')
  have hn := take_next de0 hk hk' k2
  have hd : ¬ a.getD k de0 = b.getD k de0 → ¬ a = b := fun h e => h (by rw [e])
  generalize a.getD k de0 = x at c1 bx hn hd
  generalize b.getD k de0 = y at c2 bY hn hd
  obtain ⟨x1, x2, x3, x4, x5, x6⟩ := x
  obtain ⟨y1, y2, y3, y4, y5, y6⟩ := y
  have l5 : (x5.map Rf.cells).length = x5.length := List.length_map ..
  have l5' : (y5.map Rf.cells).length = y5.length := List.length_map ..
  have l6 : (x6.map Cs.cells).length = x6.length := List.length_map ..
  have l6' : (y6.map Cs.cells).length = y6.length := List.length_map ..
  have bx5 := bx.len
  have bx6 := bx.cases
  have by6 := bY.cases
  simp only [] at bx5 bx6 by6
  refine VDraw.altTo [(2, .ptr 0 0 0), (3, .ptr 1 0 0), (5, .p (i64 k)), (6, .ptr 2 0 0), (7, .ptr 3 0 0)] (smH a b ⟨x1, x2, x3, x4, x5, x6⟩ ⟨y1, y2, y3, y4, y5, y6⟩) (by kernel_rfl) ?_ ?_
  · refine ⟨_, ⟨by omega, (⟨x1, x2, x3, x4, x5, x6⟩ : De).cells, c1, rfl⟩, ?_⟩
    refine ⟨_, ⟨by omega, (⟨y1, y2, y3, y4, y5, y6⟩ : De).cells, c2, rfl⟩, ?_⟩
    refine And.intro ?_ ?_
    · refine ⟨(by repeat' first | exact trivial | exact rfl | exact ⟨rfl, rfl⟩ | exact ⟨by omega, _, c1, rfl⟩ | exact ⟨by omega, _, c2, rfl⟩ | refine And.intro ?_ ?_), ?_⟩
      refine ⟨(by repeat' first | exact trivial | exact rfl | exact ⟨rfl, rfl⟩ | exact ⟨by omega, _, c1, rfl⟩ | exact ⟨by omega, _, c2, rfl⟩ | refine And.intro ?_ ?_), ?_⟩
      refine ⟨(by repeat' first | exact trivial | exact rfl | exact ⟨rfl, rfl⟩ | exact ⟨by omega, _, c1, rfl⟩ | exact ⟨by omega, _, c2, rfl⟩ | refine And.intro ?_ ?_), ?_⟩
      exact ent_of [] [] [] rfl (sk) (sk) rfl
    · refine ⟨(by repeat' first | exact trivial | exact rfl | exact ⟨rfl, rfl⟩ | exact ⟨by omega, _, c1, rfl⟩ | exact ⟨by omega, _, c2, rfl⟩ | refine And.intro ?_ ?_), ?_⟩
      refine ⟨(by repeat' first | exact trivial | exact rfl | exact ⟨rfl, rfl⟩ | exact ⟨by omega, _, c1, rfl⟩ | exact ⟨by omega, _, c2, rfl⟩ | refine And.intro ?_ ?_), ?_⟩
      refine ⟨(by repeat' first | exact trivial | exact rfl | exact ⟨rfl, rfl⟩ | exact ⟨by omega, _, c1, rfl⟩ | exact ⟨by omega, _, c2, rfl⟩ | refine And.intro ?_ ?_), ?_⟩
      exact ent_of [] [(2, 3), (3, 2)] [] rfl (sk) (sk) rfl
  refine And.intro (fun h1 => ?_) (fun h1 => end1 _ rfl rfl (by rw [cb_f (hd (fun e => h1 (de_eq.1 e).1))]))
  have h1 : x1 = y1 := h1
  refine And.intro (fun h2 => ?_) (fun h2 => end1 _ rfl rfl (by rw [cb_f (hd (fun e => h2 (de_eq.1 e).2.1))]))
  have h2 : x2 = y2 := h2
  refine And.intro (fun h3 => ?_) (fun h3 => end1 _ rfl rfl (by rw [cb_f (hd (fun e => h3 (de_eq.1 e).2.2.1))]))
  have h3 : x3 = y3 := h3
  refine And.intro (fun h4 => ?_) (fun h4 => end1 _ rfl rfl (by rw [cb_f (hd (fun e => h4 (de_eq.1 e).2.2.2.1))]))
  have h4 : x4 = y4 := h4
  refine And.intro (fun h5 => ?_) (fun h5 => ?_)
  rotate_left
  · have h5 : ¬ ((x5.map Rf.cells).length : Int) = ((y5.map Rf.cells).length : Nat) := h5
    rw [l5, l5'] at h5
    exact end1 _ rfl rfl (by rw [cb_f (hd (fun e => h5 (by rw [(de_eq.1 e).2.2.2.2.1])))])
  have h5 : ((x5.map Rf.cells).length : Int) = ((y5.map Rf.cells).length : Nat) := h5
  rw [l5, l5'] at h5
  have hl5 : x5.length = y5.length := by omega
  refine And.intro (fun h6 => ?_) (fun h6 => ?_)
  rotate_left
  · have h6 : ¬ ((x6.map Cs.cells).length : Int) = ((y6.map Cs.cells).length : Nat) := h6
    rw [l6, l6'] at h6
    exact end1 _ rfl rfl (by rw [cb_f (hd (fun e => h6 (by rw [(de_eq.1 e).2.2.2.2.2])))])
  have h6 : ((x6.map Cs.cells).length : Int) = ((y6.map Cs.cells).length : Nat) := h6
  rw [l6, l6'] at h6
  have hl6 : x6.length = y6.length := by omega
  refine ⟨Nat, fun j => [(2, .ptr 0 0 0), (3, .ptr 1 0 0), (5, .p (i64 k)), (6, .ptr 2 0 0), (7, .ptr 3 0 0), (8, .p (i64 j))], fun _ => smH a b ⟨x1, x2, x3, x4, x5, x6⟩ ⟨y1, y2, y3, y4, y5, y6⟩, fun j => j ≤ x5.length ∧ x5.take j = y5.take j, fun j => x5.length - j, ?_, ?_⟩
  · exact ⟨0, ⟨Nat.zero_le _, rfl⟩, ent_of [] [] [] rfl (sk) (sk) rfl⟩
  rintro j ⟨j1, j2⟩
  refine And.intro (fun m2 => ?_) (fun m2 => ?_)
  · have m2 : (j : Int) < ((x5.map Rf.cells).length : Nat) := m2
    rw [l5] at m2
    have hj : j < x5.length := by omega
    have hj' : j < y5.length := by omega
    have r1 := rcell hj
    have r2 := rcell hj'
    have hn2 := take_next rf0 hj hj' j2
    have hd2 : ¬ x5.getD j rf0 = y5.getD j rf0 → ¬ x5 = y5 := fun h e => h (by rw [e])
    generalize x5.getD j rf0 = u at r1 hn2 hd2
    generalize y5.getD j rf0 = w at r2 hn2 hd2
    refine VDraw.seq rfl ?_
    refine ⟨_, ⟨by omega, u.cells, r1, rfl⟩, ?_⟩
    refine ⟨_, ⟨by omega, w.cells, r2, rfl⟩, ?_⟩
    refine ⟨⟨by kernel_rfl, by kernel_rfl⟩, fun h7 => ?_, fun h7 => ?_⟩
    rotate_left
    · exact end1 _ rfl rfl (by rw [cb_f (hd (fun e => hd2 (fun e => h7 (by rw [e])) (de_eq.1 e).2.2.2.2.1))])
    have h7 : u = w := rf_ext (by first | exact h7 | (injection h7))
    refine ⟨_, wrap_i64 (by omega) (by omega), ?_⟩
    exact ⟨j + 1, ⟨hj, hn2 h7⟩, ent_of [] [] [] rfl (sk) (sk) rfl, by show x5.length - (j + 1) < x5.length - j; omega⟩
  have m2 : ¬ (j : Int) < ((x5.map Rf.cells).length : Nat) := m2
  rw [l5] at m2
  have h7 : x5 = y5 := take_end hl5 (by omega) j2
  refine ⟨Nat, fun j => [(2, .ptr 0 0 0), (3, .ptr 1 0 0), (5, .p (i64 k)), (6, .ptr 2 0 0), (7, .ptr 3 0 0), (9, .p (i64 j))], fun _ => smH a b ⟨x1, x2, x3, x4, x5, x6⟩ ⟨y1, y2, y3, y4, y5, y6⟩, fun j => j ≤ x6.length ∧ x6.take j = y6.take j, fun j => x6.length - j, ?_, ?_⟩
  · exact ⟨0, ⟨Nat.zero_le _, rfl⟩, ent_of [] [] [] rfl (sk) (sk) rfl⟩
  rintro j ⟨j1, j2⟩
  refine And.intro (fun m2 => ?_) (fun m2 => ?_)
  rotate_left
  · have m2 : ¬ (j : Int) < ((x6.map Cs.cells).length : Nat) := m2
    rw [l6] at m2
    have h8 : x6 = y6 := take_end hl6 (by omega) j2
    refine ⟨_, wrap_i64 (by omega) (by omega), ?_⟩
    exact ⟨k + 1, ⟨hk, hn (de_eq.2 ⟨h1, h2, h3, h4, h7, h8⟩)⟩, ent_of [] [] [] rfl (sk) (sk) rfl, by show a.length - (k + 1) < a.length - k; omega⟩
  have m2 : (j : Int) < ((x6.map Cs.cells).length : Nat) := m2
  rw [l6] at m2
  have hj : j < x6.length := by omega
  have hj' : j < y6.length := by omega
  have hlx := bx6.len
  have s1 := scell hj
  have s2 := scell hj'
  have hm := getD_memL cs0 hj
  have hm' := getD_memL cs0 hj'
  have hn2 := take_next cs0 hj hj' j2
  have hd2 : ¬ x6.getD j cs0 = y6.getD j cs0 → ¬ x6 = y6 := fun h e => h (by rw [e])
  have hC := sameC_c _ _ (bx6.cond _ hm) (by6.cond _ hm')
  have hI := sints_c _ _ (bx6.nums _ hm) (by6.nums _ hm')
  generalize x6.getD j cs0 = u at s1 hn2 hd2 hC hI
  generalize y6.getD j cs0 = w at s2 hn2 hd2 hC hI
  obtain ⟨⟨u1, u2, u3, u4, u5, u6, u7⟩, u8⟩ := u
  obtain ⟨⟨w1, w2, w3, w4, w5, w6, w7⟩, w8⟩ := w
  simp only [] at hC hI
  refine vdraw_ot otS (by kernel_rfl) ?_
  refine ⟨_, ⟨by omega, (⟨.mk u1 u2 u3 u4 u5 u6 u7, u8⟩ : Cs).cells, s1, rfl⟩, ?_⟩
  refine ⟨_, ⟨by omega, (⟨.mk w1 w2 w3 w4 w5 w6 w7, w8⟩ : Cs).cells, s2, rfl⟩, ?_⟩
  refine (Classical.em (Cd.mk u1 u2 u3 u4 u5 u6 u7 = .mk w1 w2 w3 w4 w5 w6 w7)).elim (fun e1 => ?_) (fun e1 => ?_)
  rotate_left
  · rw [cb_f e1] at hC
    refine hC.eq rfl ?_
    exact end1 _ rfl rfl (by rw [cb_f (hd (fun e => hd2 (fun e => e1 (cs_eq.1 e).1) (de_eq.1 e).2.2.2.2.2))])
  rw [cb_t e1] at hC
  refine hC.eq rfl ?_
  refine ⟨_, ⟨by omega, (⟨.mk u1 u2 u3 u4 u5 u6 u7, u8⟩ : Cs).cells, s1, rfl⟩, ?_⟩
  refine ⟨_, ⟨by omega, (⟨.mk w1 w2 w3 w4 w5 w6 w7, w8⟩ : Cs).cells, s2, rfl⟩, ?_⟩
  refine (Classical.em (u8 = w8)).elim (fun e2 => ?_) (fun e2 => ?_)
  rotate_left
  · rw [cb_f e2] at hI
    refine hI.eq rfl ?_
    exact end1 _ rfl rfl (by rw [cb_f (hd (fun e => hd2 (fun e => e2 (cs_eq.1 e).2) (de_eq.1 e).2.2.2.2.2))])
  rw [cb_t e2] at hI
  refine hI.eq rfl ?_
  refine ⟨_, wrap_i64 (by omega) (by omega), ?_⟩
  exact ⟨j + 1, ⟨hj, hn2 (cs_eq.2 ⟨e1, e2⟩)⟩, ent_of [] [] [] rfl (sk) (sk) rfl, by show x6.length - (j + 1) < x6.length - j; omega⟩
end Go.Proofs.YtohfoaplnjcihaaGreatDoor

namespace Go.Proofs.YtohfoaplnjcihaaGreatDoor
open Go Y
set_option maxRecDepth 100000
set_option maxHeartbeats 4000000
def exS0 : List UInt8 := [103, 114, 97, 105, 110, 32, 49, 50, 32, 59, 32, 110, 111, 100, 101, 32, 120, 32, 58, 32, 50, 32, 61, 32, 123, 32, 101, 108, 115, 101, 32, 58, 32, 51, 32, 57, 32, 125, 32, 59]
def exD0 : List De := [⟨1, 12, [], [], [], []⟩, ⟨3, 2, [120], [], [], [⟨cd0, [3, 9]⟩]⟩]
theorem ex_p0 : parR exS0 = .inr exD0 := by kernel_rfl
def exS1 : List UInt8 := [110, 111, 100, 101, 32, 121, 32, 91, 32, 112, 32, 93, 32, 58, 32, 50, 32, 102, 114, 111, 109, 32, 120, 32, 44, 32, 121, 32, 91, 32, 112, 32, 43, 32, 49, 32, 93, 32, 61, 32, 123, 32, 120, 32, 61, 32, 49, 32, 97, 110, 100, 32, 110, 111, 116, 32, 121, 32, 91, 32, 112, 32, 43, 32, 49, 32, 93, 32, 105, 110, 32, 123, 32, 49, 32, 44, 32, 48, 32, 44, 32, 49, 32, 125, 32, 58, 32, 49, 32, 59, 32, 101, 108, 115, 101, 32, 58, 32, 45, 32, 50, 32, 125, 32, 59]
def exD1 : List De := [⟨3, 2, [121], [112], [⟨[120], 0, [], 0⟩, ⟨[121], 1, [112], 1⟩], [⟨.mk 8 0 0 0 rf0 [] [.mk 1 1 0 0 ⟨[120], 0, [], 0⟩ [] [], .mk 7 0 0 0 rf0 [] [.mk 5 0 0 0 ⟨[121], 1, [112], 1⟩ [0, 1] []]], [1]⟩, ⟨cd0, [(-2)]⟩]⟩]
theorem ex_p1 : parR exS1 = .inr exD1 := by kernel_rfl
def exS2 : List UInt8 := [103, 97, 105, 110, 32, 61, 32, 123, 32, 99, 111, 117, 110, 116, 32, 40, 32, 120, 32, 91, 32, 97, 108, 108, 32, 93, 32, 61, 32, 49, 32, 41, 32, 60, 61, 32, 50, 32, 58, 32, 53, 32, 59, 32, 101, 108, 115, 101, 32, 58, 32, 48, 32, 125, 32, 59]
def exD2 : List De := [⟨5, 0, [], [], [], [⟨.mk 6 2 4 1 ⟨[120], 3, [], 0⟩ [] [], [5]⟩, ⟨cd0, [0]⟩]⟩]
theorem ex_p2 : parR exS2 = .inr exD2 := by kernel_rfl
theorem ex_n0 : parR [110, 111, 100, 101, 32, 120, 32, 58, 32, 50, 32, 59] = .inl ((1, 12), 381) := by kernel_rfl
theorem ex_n1 : parR [103, 97, 105, 110, 32, 61, 32, 123, 32, 120, 32, 61, 32, 49, 32, 58, 32, 50, 32, 125, 32, 59] = .inl ((1, 20), 381) := by kernel_rfl
theorem ex_n2 : parR [112, 108, 97, 116, 101, 32, 112, 32, 61, 32, 59] = .inl ((1, 11), 381) := by kernel_rfl
theorem ex_n3 : parR [99, 104, 111, 111, 115, 101, 32, 100, 32, 58, 32, 50, 32, 115, 101, 101, 105, 110, 103, 32, 120] = .inl ((0, 0), 381) := by kernel_rfl
theorem ex_n4 : parR [99, 111, 117, 110, 116] = .inl ((1, 1), 381) := by kernel_rfl
def exC0 : Cd := .mk 8 0 0 0 rf0 [] [.mk 9 0 0 0 rf0 [] [.mk 1 1 0 0 ⟨[97], 0, [], 0⟩ [] [], .mk 1 1 0 0 ⟨[98], 0, [], 0⟩ [] []], .mk 1 1 0 0 ⟨[99], 0, [], 0⟩ [] []]
theorem ex_w0 : txtV [⟨5, 0, [], [], [], [⟨exC0, [5]⟩, ⟨cd0, [0]⟩]⟩] = [.str [103, 97, 105, 110, 32, 61, 32, 123, 32, 40, 32, 97, 32, 61, 32, 49, 32, 111, 114, 32, 98, 32, 61, 32, 49, 32, 41, 32, 97, 110, 100, 32, 99, 32, 61, 32, 49, 32, 58, 32, 53, 32, 59, 32, 101, 108, 115, 101, 32, 58, 32, 48, 32, 125, 32, 59, 10], i64 0] := by kernel_rfl
def exC1 : Cd := .mk 7 0 0 0 rf0 [] [.mk 8 0 0 0 rf0 [] [.mk 1 1 0 0 ⟨[97], 0, [], 0⟩ [] [], .mk 3 2 0 0 ⟨[98], 0, [], 0⟩ [] []]]
theorem ex_w1 : txtV [⟨5, 0, [], [], [], [⟨exC1, [5]⟩, ⟨cd0, [0]⟩]⟩] = [.str [103, 97, 105, 110, 32, 61, 32, 123, 32, 110, 111, 116, 32, 40, 32, 97, 32, 61, 32, 49, 32, 97, 110, 100, 32, 98, 32, 60, 32, 50, 32, 41, 32, 58, 32, 53, 32, 59, 32, 101, 108, 115, 101, 32, 58, 32, 48, 32, 125, 32, 59, 10], i64 0] := by kernel_rfl
end Go.Proofs.YtohfoaplnjcihaaGreatDoor

namespace Go.Proofs.YtohfoaplnjcihaaGreatDoor
open Go Y
set_option maxRecDepth 100000
set_option maxHeartbeats 40000000
abbrev otW : OT := (.pure 0 (.pure 1 (.pure 2 (.pure 4 (.pure 5 (.pure 6 (.pure 7 (.pure 11 (.pure 13 (.pure 14 (.eff 3 [4, 1] (.eff 8 [1] (.pure 9 (.eff 10 [1] (.pure 12 (.pure 15 (.pure 16 (.pure 17 (.eff 18 [] (.pure 19 .fin) .nil))))) .nil)) .nil) .nil)))))))))))
theorem cb_iff {p q : Prop} (h : p ↔ q) : cb p = cb q := by rw [propext h]
theorem parR_big {s : List UInt8} {ds : List De} (h : parR s = .inr ds) : BigP ds := by
  unfold parR at h
  split at h
  · cases h
  · cases hr : readR s with
    | err p c => rw [hr] at h; cases h
    | ok ws =>
      rw [hr] at h
      have hg := read_good hr
      have hl := hg.len
      cases hp : progR ws (fuelW ws) (fuelW ws) [] 0 with
      | inl q => simp only [hp] at h; cases h
      | inr x =>
        obtain ⟨l, q⟩ := x
        simp only [hp] at h
        split at h
        · injection h with h
          subst h
          exact prog_bigP hg (by rw [fuelW]; omega) hp
        · cases h
theorem parR_err {s : List UInt8} {p : Int × Int} {e : Int} (h : parR s = .inl (p, e)) : e = 3 ∨ e = 370 ∨ e = 381 := by
  unfold parR at h
  split at h
  · injection h with h; injection h with _ h; exact .inl h.symm
  · cases hr : readR s with
    | err p c =>
      rw [hr] at h
      injection h with h; injection h with _ h
      have := readN_errP s _ _ _ _ _ hr
      omega
    | ok ws =>
      rw [hr] at h
      cases hp : progR ws (fuelW ws) (fuelW ws) [] 0 with
      | inl q => simp only [hp] at h; injection h with h; injection h with _ h; omega
      | inr x =>
        obtain ⟨l, q⟩ := x
        simp only [hp] at h
        split at h
        · cases h
        · injection h with h; injection h with _ h; omega
theorem refused_yes (s : List UInt8) (l c e : Int) (h : parR s = .inl ((l, c), e)) : Pure cx 28 [.str s, i64 l, i64 c, i64 e] (· = .ret [.bool true]) := by
  have hP := parse_c s
  rw [h] at hP
  refine pure_of_vc Tryz.func28 rfl rfl rfl ?_
  refine hP.eq rfl ?_
  refine And.intro (fun _ => ?_) (fun h => absurd rfl h)
  refine And.intro (fun _ => ?_) (fun h => absurd rfl h)
  refine And.intro (fun _ => ?_) (fun h => absurd rfl h)
  refine And.intro (fun _ => ?_) (fun h => absurd rfl h)
  exact end1 _ rfl rfl rfl
theorem reads_c (s : List UInt8) (want : List De) (hw : BigP want) : Pure cx 37 [.str s, des want] (· = .ret [.bool (cb (parR s = .inr want))]) := by
  have hP := parse_c s
  cases hp : parR s with
  | inl x =>
    obtain ⟨⟨l, c⟩, e⟩ := x
    rw [hp] at hP
    have he := parR_err hp
    refine pure_of_vc Tryz.func37 rfl rfl rfl ?_
    refine hP.eq rfl ?_
    refine And.intro (fun h => absurd (show e = 0 from h) (by omega)) (fun _ => ?_)
    exact end1 _ rfl rfl (by rw [cb_f (fun e => by cases e)])
  | inr ds =>
    rw [hp] at hP
    have hS := sameP_c ds want (parR_big hp) hw
    rw [cb_iff (q := (Sum.inr ds : Sum ((Int × Int) × Int) (List De)) = .inr want) ⟨fun e => by rw [e], fun e => by injection e⟩] at hS
    refine pure_of_vc Tryz.func37 rfl rfl rfl ?_
    refine hP.eq rfl ?_
    refine And.intro (fun _ => ?_) (fun h => absurd rfl h)
    refine And.intro (fun _ => ?_) (fun h => absurd rfl h)
    refine And.intro (fun _ => ?_) (fun h => absurd rfl h)
    refine hS.eq rfl ?_
    exact end1 _ rfl rfl rfl
theorem reads_yes {s : List UInt8} {want : List De} (h : parR s = .inr want) : Pure cx 37 [.str s, des want] (· = .ret [.bool true]) := by
  have := reads_c s want (parR_big h)
  rw [cb_t h] at this
  exact this
theorem is_c (nm : List UInt8) (op n : Int) : Pure cx 31 [.str nm, i64 op, i64 n] (· = .ret [(Cd.mk op n 0 0 ⟨nm, 0, [], 0⟩ [] []).pv]) := by
  refine Pure.nil (r := .ret [.agg [i64 op, i64 n, i64 0, i64 0, .str nm, i64 0, .str [], i64 0, .nils, .nils]]) ?_ ⟨_, rfl, _, _, rfl, nil_leaf2 op n 0 0 ⟨nm, 0, [], 0⟩, rfl⟩
  refine pure_of_vc Tryz.func31 rfl rfl rfl ?_
  exact end1 _ rfl rfl rfl
theorem both_c (op : Int) (l : List Cd) : Pure cx 32 [i64 op, .lsts 10 (cellsL l)] (· = .ret [(Cd.mk op 0 0 0 rf0 [] l).pv]) := by
  refine Pure.nil (r := .ret [.agg [i64 op, i64 0, i64 0, i64 0, .str [], i64 0, .str [], i64 0, .nils, .lsts 10 (cellsL l)]]) ?_ ⟨_, rfl, _, _, rfl, ?_, rfl⟩
  · refine pure_of_vc Tryz.func32 rfl rfl rfl ?_
    exact end1 _ rfl rfl rfl
  · show NilD _ (.agg [i64 op, i64 0, i64 0, i64 0, .str [], i64 0, .str [], i64 0, .lst [], .lsts 10 (cellsL l)])
    simp only [NilD, NilDL]
    exact ⟨_, rfl, _, _, rfl, rfl, _, _, rfl, rfl, _, _, rfl, rfl, _, _, rfl, rfl, _, _, rfl, rfl, _, _, rfl, rfl, _, _, rfl, rfl, _, _, rfl, rfl, _, _, rfl, .inr (.inl rfl), _, _, rfl, ⟨_, rfl, NilDLL.refl _⟩, rfl⟩
def gainD (c : Cd) : De := ⟨5, 0, [], [], [], [⟨c, [5]⟩, ⟨cd0, [0]⟩]⟩
abbrev zc0 : List PV := [i64 0, i64 0, i64 0, i64 0, .str [], i64 0, .str [], i64 0, .nils, .nils]
theorem nil_zc (l : List Int) : NilDL (zc0 ++ [.lst (l.map i64)]) (⟨cd0, l⟩ : Cs).cells := by
  show NilDL [i64 0, i64 0, i64 0, i64 0, .str [], i64 0, .str [], i64 0, .nils, .nils, .lst (l.map i64)] [i64 0, i64 0, i64 0, i64 0, .str [], i64 0, .str [], i64 0, .lst [], .lsts 10 [], .lst (l.map i64)]
  simp only [NilD, NilDL]
  exact ⟨_, _, rfl, rfl, _, _, rfl, rfl, _, _, rfl, rfl, _, _, rfl, rfl, _, _, rfl, rfl, _, _, rfl, rfl, _, _, rfl, rfl, _, _, rfl, rfl, _, _, rfl, .inr (.inl rfl), _, _, rfl, .inr (.inr ⟨10, rfl⟩), _, _, rfl, ⟨_, rfl, NilDL.refl _⟩, rfl⟩
theorem gain_c (c : Cd) : Pure cx 30 [c.pv] (· = .ret [(gainD c).pv]) := by
  refine Pure.nil (r := .ret [.agg [i64 5, i64 0, .str [], .str [], .nils, .lsts 11 [c.cells ++ [.lst [i64 5]], zc0 ++ [.lst [i64 0]]]]]) ?_ ⟨_, rfl, _, _, rfl, ?_, rfl⟩
  · obtain ⟨o, n, r, v, rf, st, ar⟩ := c
    refine pure_of_vc Tryz.func30 rfl rfl rfl ?_
    refine end1 _ rfl ⟨_, rfl, _, _, rfl, rfl, _, _, rfl, rfl, _, _, rfl, rfl, _, _, rfl, rfl, _, _, rfl, .inl rfl, _, _, rfl, ⟨_, rfl, Nat.le_refl _, ⟨_, _, rfl, ?_, _, _, rfl, ?_, rfl⟩⟩, rfl⟩ rfl
    · exact ⟨_, _, rfl, rfl, _, _, rfl, rfl, _, _, rfl, rfl, _, _, rfl, rfl, _, _, rfl, rfl, _, _, rfl, rfl, _, _, rfl, rfl, _, _, rfl, rfl, _, _, rfl, rfl, _, _, rfl, rfl, _, _, rfl, ⟨_, rfl, Nat.le_refl _, rfl⟩, rfl⟩
    · exact ⟨_, _, rfl, rfl, _, _, rfl, rfl, _, _, rfl, rfl, _, _, rfl, rfl, _, _, rfl, rfl, _, _, rfl, rfl, _, _, rfl, rfl, _, _, rfl, rfl, _, _, rfl, .inl rfl, _, _, rfl, .inl rfl, _, _, rfl, ⟨_, rfl, Nat.le_refl _, rfl⟩, rfl⟩
  · show NilD _ (.agg [i64 5, i64 0, .str [], .str [], .lsts 4 [], .lsts 11 [(⟨c, [5]⟩ : Cs).cells, (⟨cd0, [0]⟩ : Cs).cells]])
    simp only [NilD, NilDL]
    refine ⟨_, rfl, _, _, rfl, rfl, _, _, rfl, rfl, _, _, rfl, rfl, _, _, rfl, rfl, _, _, rfl, .inr (.inr ⟨4, rfl⟩), _, _, rfl, ⟨_, rfl, ?_⟩, rfl⟩
    simp only [NilDLL]
    exact ⟨_, _, rfl, NilDL.refl _, _, _, rfl, nil_zc [0], rfl⟩
theorem gain_big {c : Cd} (h : BigC c) : BigP [gainD c] := by
  refine ⟨by show 1 ≤ 9223372036854775807; decide, fun d hd => ?_⟩
  rw [List.mem_singleton] at hd
  subst hd
  have hl : BigL [⟨c, [5]⟩, ⟨cd0, [0]⟩] := by
    refine ⟨by show 2 ≤ 9223372036854775807; decide, fun x hx => ?_, fun x hx => ?_⟩
    · rcases List.mem_cons.1 hx with rfl | hx
      · exact h
      · rw [List.mem_singleton.1 hx]
        exact big_leaf ⟨nil_big, nil_big⟩ (by decide)
    · rcases List.mem_cons.1 hx with rfl | hx
      · show 1 ≤ 9223372036854775807; decide
      · rw [List.mem_singleton.1 hx]; show 1 ≤ 9223372036854775807; decide
  exact ⟨nil_big, nil_big, by show 0 ≤ 9223372036854775807; decide, (fun r hr => by cases hr), hl⟩
abbrev gnA : List UInt8 := [103, 97, 105, 110, 32, 61, 32, 123, 32]
abbrev gnB : List UInt8 := [32, 58, 32, 53, 32, 59, 32, 101, 108, 115, 101, 32, 58, 32, 48, 32, 125, 32, 59, 10]
theorem writes_yes (c : Cd) (want : List UInt8) (hb : BigC c) (hl : want.length ≤ 8000) (h : txtV [gainD c] = [.str ((gnA ++ want) ++ gnB), i64 0]) : Pure cx 49 [c.pv, .str want] (· = .ret [.bool true]) := by
  have hT := ptext_c [gainD c] (gain_big hb)
  rw [h] at hT
  have hG := gain_c c
  clear h hb
  obtain ⟨o, n, r, v, rf, st, ar⟩ := c
  refine pure_of_vc Tryz.func49 rfl rfl rfl ?_
  refine hG.eq rfl ?_
  refine hT.lends [1] rfl ⟨_, _, rfl, ⟨_, rfl, _, _, rfl, ⟨_, rfl, Nat.le_refl _, rfl⟩, rfl⟩, rfl⟩ ?_
  refine And.intro (fun _ => ?_) (fun h => absurd rfl h)
  refine ⟨by show List.length _ + List.length _ ≤ 9223372036854775807; simp only [List.length_append, List.length_cons, List.length_nil]; omega, ?_⟩
  refine ⟨by show List.length _ + List.length _ ≤ 9223372036854775807; simp only [List.length_append, List.length_cons, List.length_nil]; omega, ?_⟩
  refine And.intro (fun _ => ?_) (fun h => absurd rfl h)
  exact end1 _ rfl rfl rfl
theorem leaf_big {nm : List UInt8} {op n : Int} (h : BigS nm) : BigC (.mk op n 0 0 ⟨nm, 0, [], 0⟩ [] []) := big_leaf ⟨h, nil_big⟩ (by decide)
theorem c0_big : BigC exC0 := big_two (big_two (leaf_big (by decide)) (leaf_big (by decide))) (leaf_big (by decide))
theorem c1_big : BigC exC1 := big_one (big_two (leaf_big (by decide)) (leaf_big (by decide)))
theorem works_c : Pure cx 17 [] (· = .ret [.bool true]) := by
  have w0 := writes_yes exC0 [40, 32, 97, 32, 61, 32, 49, 32, 111, 114, 32, 98, 32, 61, 32, 49, 32, 41, 32, 97, 110, 100, 32, 99, 32, 61, 32, 49] c0_big (by decide) ex_w0
  have w1 := writes_yes exC1 [110, 111, 116, 32, 40, 32, 97, 32, 61, 32, 49, 32, 97, 110, 100, 32, 98, 32, 60, 32, 50, 32, 41] c1_big (by decide) ex_w1
  refine pure_of_vc Tryz.func17 rfl rfl rfl ?_
  refine ((reads_yes ex_p0).arg (args' := [.str exS0, .lsts 6 [[i64 1, i64 12, .str [], .str [], .nils, .nils], [i64 3, i64 2, .str [120], .str [], .nils, .lsts 11 [zc0 ++ [.lst [i64 3, i64 9]]]]]]) ?_).lends [0, 1, 2] rfl ?_ ?_
  · show NilDL [.str exS0, .lsts 6 [[i64 1, i64 12, .str [], .str [], .nils, .nils], [i64 3, i64 2, .str [120], .str [], .nils, .lsts 11 [zc0 ++ [.lst [i64 3, i64 9]]]]]] [.str exS0, .lsts 6 [[i64 1, i64 12, .str [], .str [], .lsts 4 [], .lsts 11 []], [i64 3, i64 2, .str [120], .str [], .lsts 4 [], .lsts 11 [(⟨cd0, [3, 9]⟩ : Cs).cells]]]]
    simp only [NilDL, NilD, NilDLL]
    exact ⟨_, _, rfl, rfl, _, _, rfl, ⟨_, rfl, ⟨_, _, rfl, ⟨_, _, rfl, rfl, _, _, rfl, rfl, _, _, rfl, rfl, _, _, rfl, rfl, _, _, rfl, .inr (.inr ⟨4, rfl⟩), _, _, rfl, .inr (.inr ⟨11, rfl⟩), rfl⟩, _, _, rfl, ⟨_, _, rfl, rfl, _, _, rfl, rfl, _, _, rfl, rfl, _, _, rfl, rfl, _, _, rfl, .inr (.inr ⟨4, rfl⟩), _, _, rfl, ⟨_, rfl, ⟨_, _, rfl, nil_zc [3, 9], rfl⟩⟩, rfl⟩, rfl⟩⟩, rfl⟩
  · refine ⟨_, _, rfl, rfl, _, _, rfl, ⟨_, rfl, Nat.le_refl _, ⟨_, _, rfl, ?_, _, _, rfl, ?_, rfl⟩⟩, rfl⟩
    · exact ⟨_, _, rfl, rfl, _, _, rfl, rfl, _, _, rfl, rfl, _, _, rfl, rfl, _, _, rfl, .inl rfl, _, _, rfl, .inl rfl, rfl⟩
    · refine ⟨_, _, rfl, rfl, _, _, rfl, rfl, _, _, rfl, rfl, _, _, rfl, rfl, _, _, rfl, .inl rfl, _, _, rfl, ⟨_, rfl, Nat.le_refl _, ⟨_, _, rfl, ?_, rfl⟩⟩, rfl⟩
      exact ⟨_, _, rfl, rfl, _, _, rfl, rfl, _, _, rfl, rfl, _, _, rfl, rfl, _, _, rfl, rfl, _, _, rfl, rfl, _, _, rfl, rfl, _, _, rfl, rfl, _, _, rfl, .inl rfl, _, _, rfl, .inl rfl, _, _, rfl, ⟨_, rfl, Nat.le_refl _, rfl⟩, rfl⟩
  refine vdraw_ot otW (by kernel_rfl) ?_
  refine (is_c [120] 1 1).eq rfl ?_
  refine ⟨sk, ?_⟩
  refine ((both_c 7 [.mk 5 0 0 0 ⟨[121], 1, [112], 1⟩ [0, 1] []]).arg (args' := [i64 7, .lsts 10 [[i64 5, i64 0, i64 0, i64 0, .str [121], i64 1, .str [112], i64 1, .lst [i64 0, i64 1], .nils]]]) ?_).eq rfl ?_
  · simp only [NilD, NilDL, NilDLL]
    repeat' first | exact rfl | exact NilDL.refl _ | exact NilD.refl _ | exact .inr (.inl rfl) | exact .inr (.inr ⟨_, rfl⟩) | refine ⟨_, _, rfl, ?_, ?_⟩ | refine ⟨_, rfl, ?_⟩ | refine And.intro ?_ ?_
  refine ⟨sk, ?_⟩
  refine (both_c 8 [.mk 1 1 0 0 ⟨[120], 0, [], 0⟩ [] [], .mk 7 0 0 0 rf0 [] [.mk 5 0 0 0 ⟨[121], 1, [112], 1⟩ [0, 1] []]]).eq rfl ?_
  refine ⟨sk, ?_⟩
  refine ((reads_yes ex_p1).arg (args' := [.str exS1, .lsts 6 [[i64 3, i64 2, .str [121], .str [112], .lsts 4 [[.str [120], i64 0, .str [], i64 0], [.str [121], i64 1, .str [112], i64 1]], .lsts 11 [(Cd.cells (.mk 8 0 0 0 rf0 [] [.mk 1 1 0 0 ⟨[120], 0, [], 0⟩ [] [], .mk 7 0 0 0 rf0 [] [.mk 5 0 0 0 ⟨[121], 1, [112], 1⟩ [0, 1] []]])) ++ [.lst [i64 1]], zc0 ++ [.lst [i64 (-2)]]]]]]) ?_).eq rfl ?_
  · show NilDL [.str exS1, .lsts 6 [[i64 3, i64 2, .str [121], .str [112], .lsts 4 [[.str [120], i64 0, .str [], i64 0], [.str [121], i64 1, .str [112], i64 1]], .lsts 11 [(Cd.cells (.mk 8 0 0 0 rf0 [] [.mk 1 1 0 0 ⟨[120], 0, [], 0⟩ [] [], .mk 7 0 0 0 rf0 [] [.mk 5 0 0 0 ⟨[121], 1, [112], 1⟩ [0, 1] []]])) ++ [.lst [i64 1]], zc0 ++ [.lst [i64 (-2)]]]]]] [.str exS1, .lsts 6 [[i64 3, i64 2, .str [121], .str [112], .lsts 4 [[.str [120], i64 0, .str [], i64 0], [.str [121], i64 1, .str [112], i64 1]], .lsts 11 [(⟨.mk 8 0 0 0 rf0 [] [.mk 1 1 0 0 ⟨[120], 0, [], 0⟩ [] [], .mk 7 0 0 0 rf0 [] [.mk 5 0 0 0 ⟨[121], 1, [112], 1⟩ [0, 1] []]], [1]⟩ : Cs).cells, (⟨cd0, [-2]⟩ : Cs).cells]]]]
    simp only [NilD, NilDL, NilDLL]
    repeat' first | exact rfl | exact NilDL.refl _ | exact NilD.refl _ | exact .inr (.inl rfl) | exact .inr (.inr ⟨_, rfl⟩) | refine ⟨_, _, rfl, ?_, ?_⟩ | refine ⟨_, rfl, ?_⟩ | refine And.intro ?_ ?_
  refine (is_c [97] 1 1).eq rfl ?_
  refine (is_c [98] 1 1).eq rfl ?_
  refine (both_c 9 [.mk 1 1 0 0 ⟨[97], 0, [], 0⟩ [] [], .mk 1 1 0 0 ⟨[98], 0, [], 0⟩ [] []]).uses [4] rfl ⟨_, _, rfl, rfl, _, _, rfl, ⟨_, rfl, Nat.le_refl _, rfl⟩, rfl⟩ ?_
  refine (is_c [99] 1 1).eq rfl ?_
  refine (both_c 8 [.mk 9 0 0 0 rf0 [] [.mk 1 1 0 0 ⟨[97], 0, [], 0⟩ [] [], .mk 1 1 0 0 ⟨[98], 0, [], 0⟩ [] []], .mk 1 1 0 0 ⟨[99], 0, [], 0⟩ [] []]).uses [5] rfl ⟨_, _, rfl, rfl, _, _, rfl, ⟨_, rfl, Nat.le_refl _, rfl⟩, rfl⟩ ?_
  refine w0.eq rfl ?_
  refine (is_c [97] 1 1).eq rfl ?_
  refine (is_c [98] 3 2).eq rfl ?_
  refine (both_c 8 [.mk 1 1 0 0 ⟨[97], 0, [], 0⟩ [] [], .mk 3 2 0 0 ⟨[98], 0, [], 0⟩ [] []]).uses [6] rfl ⟨_, _, rfl, rfl, _, _, rfl, ⟨_, rfl, Nat.le_refl _, rfl⟩, rfl⟩ ?_
  refine (both_c 7 [.mk 8 0 0 0 rf0 [] [.mk 1 1 0 0 ⟨[97], 0, [], 0⟩ [] [], .mk 3 2 0 0 ⟨[98], 0, [], 0⟩ [] []]]).uses [7] rfl ⟨_, _, rfl, rfl, _, _, rfl, ⟨_, rfl, Nat.le_refl _, rfl⟩, rfl⟩ ?_
  refine w1.eq rfl ?_
  refine (refused_yes _ _ _ _ ex_n0).eq rfl ?_
  refine (refused_yes _ _ _ _ ex_n1).eq rfl ?_
  refine (refused_yes _ _ _ _ ex_n2).eq rfl ?_
  refine (refused_yes _ _ _ _ ex_n3).eq rfl ?_
  refine (refused_yes _ _ _ _ ex_n4).eq rfl ?_
  refine ((gain_c (.mk 6 2 4 1 ⟨[120], 3, [], 0⟩ [] [])).arg (args' := [.agg [i64 6, i64 2, i64 4, i64 1, .str [120], i64 3, .str [], i64 0, .nils, .nils]]) ⟨_, _, rfl, nil_leaf2 6 2 4 1 ⟨[120], 3, [], 0⟩, rfl⟩).eq rfl ?_
  refine (reads_yes ex_p2).lends [8] rfl ⟨_, _, rfl, rfl, _, _, rfl, ⟨_, rfl, Nat.le_refl _, rfl⟩, rfl⟩ ?_
  exact end1 _ rfl rfl rfl
end Go.Proofs.YtohfoaplnjcihaaGreatDoor

namespace Go.Proofs.YtohfoaplnjcihaaGreatDoor
open Go Y
set_option maxRecDepth 100000
set_option maxHeartbeats 40000000
def repN (w : List UInt8) : Nat → List UInt8
  | 0 => []
  | n + 1 => repN w n ++ w
theorem repN_len (w : List UInt8) : ∀ n, (repN w n).length = n * w.length
  | 0 => by simp [repN]
  | n + 1 => by rw [repN, List.length_append, repN_len w n, Nat.succ_mul]
theorem times_c (w : List UInt8) (k : Nat) (hw : w.length ≤ 100) (hk : k ≤ 300) : Pure cx 25 [.str w, i64 k] (· = .ret [.str (repN w k)]) := by
  refine pure_of_vc Tryz.func25 rfl rfl rfl ?_
  refine ⟨List UInt8 × Nat, fun x => [(0, .p (.str w)), (1, .p (i64 k)), (5, .p (.str x.1)), (6, .p (i64 x.2))], fun _ => ⟨0, []⟩, fun x => x.2 ≤ k ∧ x.1 = repN w x.2, fun x => k - x.2, ?_, ?_⟩
  · exact ⟨([], 0), ⟨Nat.zero_le _, rfl⟩, ent_of [] [] [] rfl (sk) (sk) rfl⟩
  rintro ⟨s, j⟩ ⟨j1, j2⟩
  simp only [] at j1 j2
  have hl : s.length ≤ 30000 := by
    rw [j2, repN_len]
    exact Nat.le_trans (Nat.mul_le_mul (show j ≤ 300 by omega) hw) (by decide)
  (first | refine brLt (fun m1 => ?_) (fun m1 => ?_) | refine brLe (fun m1 => ?_) (fun m1 => ?_) | refine brEq (fun m1 => ?_) (fun m1 => ?_))
  · have m1 : (j : Int) < (k : Nat) := m1
    refine ⟨by show List.length _ + List.length _ ≤ 9223372036854775807; simp only [List.length_append, List.length_cons, List.length_nil]; omega, ?_⟩
    refine ⟨_, wrap_i64 (by omega) (by omega), ?_⟩
    exact ⟨(s ++ w, j + 1), ⟨by show j + 1 ≤ k; omega, by show s ++ w = repN w (j + 1); rw [repN, j2]⟩, ent_of [] [] [] rfl (sk) (sk) rfl, by show k - (j + 1) < k - j; omega⟩
  · have m1 : ¬ (j : Int) < (k : Nat) := m1
    exact end1 _ rfl rfl (by rw [j2, show j = k by omega])
inductive ParS (s : List UInt8) : Prop
  | no (l c e : Int) (h : parR s = .inl ((l, c), e)) (h1 : Pure cx 22 [.str s] (· = .ret [srcV [], i64 l, i64 c, i64 e])) (h2 : Pure cx 23 [.str s] (· = .ret [srcV [], i64 l, i64 c, i64 e])) (h3 : Pure cx 24 [srcV [], srcV []] (· = .ret [.bool true])) : ParS s
  | yes (ds : List De) (h : parR s = .inr ds) (h1 : Pure cx 22 [.str s] (· = .ret [srcV ds, i64 0, i64 0, i64 0])) (h2 : Pure cx 23 [.str s] (· = .ret [srcV ds, i64 0, i64 0, i64 0])) (h3 : Pure cx 24 [srcV ds, srcV ds] (· = .ret [.bool true])) : ParS s
theorem nil_bigP : BigP [] := ⟨by simp, fun d hd => by cases hd⟩
theorem parS (s : List UInt8) : ParS s := by
  have h1 := parse_c s
  have h2 := rParse_c s
  cases hp : parR s with
  | inl x =>
    obtain ⟨⟨l, c⟩, e⟩ := x
    rw [hp] at h1 h2
    have h3 := sameP_c [] [] nil_bigP nil_bigP
    rw [cb_t rfl] at h3
    exact .no l c e hp h1 h2 h3
  | inr ds =>
    rw [hp] at h1 h2
    have h3 := sameP_c ds ds (parR_big hp) (parR_big hp)
    rw [cb_t rfl] at h3
    exact .yes ds hp h1 h2 h3
theorem parseLong_c (kind n : UInt8) : Pure cx 5 [u8 kind, u8 n] (· = .ret [.bool true]) := by
  have hn : n.toNat < 256 := n.toNat_lt
  have hk : kind.toNat < 256 := kind.toNat_lt
  refine pure_of_vc Tryz.func5 rfl rfl rfl ?_
  obtain ⟨k, hkn⟩ : ∃ k, k = n.toNat := ⟨_, rfl⟩
  obtain ⟨d, hd⟩ : ∃ d, d = kind.toNat := ⟨_, rfl⟩
  rw [← hkn] at hn
  rw [← hd] at hk
  have T := fun w hw => times_c w k hw (by omega)
  have t1 := T [40, 32] (by decide)
  have t2 := T [32, 41] (by decide)
  have t3 := T [110, 111, 116, 32] (by decide)
  have t4 := T [32, 111, 114, 32, 97, 32, 61, 32, 49] (by decide)
  have t5 := T [32, 97, 110, 100, 32, 97, 32, 61, 32, 49] (by decide)
  have t6 := T [97, 32, 61, 32, 49, 32, 58, 32, 49, 32, 59, 32] (by decide)
  have t7 := T [32, 49] (by decide)
  have t8 := T [32, 44, 32, 97] (by decide)
  have hD := rdig_c (k : Int) (nat_of (by omega) (by omega))
  have hDl := digT_len (k : Int)
  have t9 := times_c ([32, 44, 32] ++ digT (k : Int)) (k / 2) (by simp only [List.length_append, List.length_cons, List.length_nil]; omega) (by omega)
  have t10 := T [112, 108, 97, 116, 101, 32, 112, 32, 61, 32, 49, 32, 59] (by decide)
  have L := fun (w : List UInt8) (h : w.length ≤ 20) => (show (repN w k).length ≤ 5200 by rw [repN_len]; exact Nat.le_trans (Nat.mul_le_mul (show k ≤ 260 by omega) h) (by decide))
  have l1 := L [40, 32] (by decide)
  have l2 := L [32, 41] (by decide)
  have l3 := L [110, 111, 116, 32] (by decide)
  have l4 := L [32, 111, 114, 32, 97, 32, 61, 32, 49] (by decide)
  have l5 := L [32, 97, 110, 100, 32, 97, 32, 61, 32, 49] (by decide)
  have l6 := L [97, 32, 61, 32, 49, 32, 58, 32, 49, 32, 59, 32] (by decide)
  have l7 := L [32, 49] (by decide)
  have l8 := L [32, 44, 32, 97] (by decide)
  have l9 : (repN ([32, 44, 32] ++ digT (k : Int)) (k / 2)).length ≤ 5200 := by
    rw [repN_len]
    exact Nat.le_trans (Nat.mul_le_mul (show k / 2 ≤ 260 by omega) (show ([32, 44, 32] ++ digT (k : Int)).length ≤ 20 by simp only [List.length_append, List.length_cons, List.length_nil]; omega)) (by decide)
  clear T L
  generalize repN [40, 32] k = r1 at t1 l1
  generalize repN [32, 41] k = r2 at t2 l2
  generalize repN [110, 111, 116, 32] k = r3 at t3 l3
  generalize repN [32, 111, 114, 32, 97, 32, 61, 32, 49] k = r4 at t4 l4
  generalize repN [32, 97, 110, 100, 32, 97, 32, 61, 32, 49] k = r5 at t5 l5
  generalize repN [97, 32, 61, 32, 49, 32, 58, 32, 49, 32, 59, 32] k = r6 at t6 l6
  generalize repN [32, 49] k = r7 at t7 l7
  generalize repN [32, 44, 32, 97] k = r8 at t8 l8
  generalize repN ([32, 44, 32] ++ digT (k : Int)) (k / 2) = r9 at t9 l9
  generalize repN [112, 108, 97, 116, 101, 32, 112, 32, 61, 32, 49, 32, 59] k = r10 at t10
  subst hkn
  refine ⟨_, wrap_i64 (by omega) (by omega), ?_⟩
  refine t1.eq rfl ?_
  refine ⟨by show List.length _ + List.length _ ≤ 9223372036854775807; simp only [List.length_append, List.length_cons, List.length_nil]; omega, ?_⟩
  refine ⟨by show List.length _ + List.length _ ≤ 9223372036854775807; simp only [List.length_append, List.length_cons, List.length_nil]; omega, ?_⟩
  refine t2.eq rfl ?_
  refine ⟨by show List.length _ + List.length _ ≤ 9223372036854775807; simp only [List.length_append, List.length_cons, List.length_nil]; omega, ?_⟩
  refine ⟨by show List.length _ + List.length _ ≤ 9223372036854775807; simp only [List.length_append, List.length_cons, List.length_nil]; omega, ?_⟩
  refine t3.eq rfl ?_
  refine ⟨by show List.length _ + List.length _ ≤ 9223372036854775807; simp only [List.length_append, List.length_cons, List.length_nil]; omega, ?_⟩
  refine ⟨by show List.length _ + List.length _ ≤ 9223372036854775807; simp only [List.length_append, List.length_cons, List.length_nil]; omega, ?_⟩
  refine t4.eq rfl ?_
  refine ⟨by show List.length _ + List.length _ ≤ 9223372036854775807; simp only [List.length_append, List.length_cons, List.length_nil]; omega, ?_⟩
  refine ⟨by show List.length _ + List.length _ ≤ 9223372036854775807; simp only [List.length_append, List.length_cons, List.length_nil]; omega, ?_⟩
  refine t5.eq rfl ?_
  refine ⟨by show List.length _ + List.length _ ≤ 9223372036854775807; simp only [List.length_append, List.length_cons, List.length_nil]; omega, ?_⟩
  refine ⟨by show List.length _ + List.length _ ≤ 9223372036854775807; simp only [List.length_append, List.length_cons, List.length_nil]; omega, ?_⟩
  refine t6.eq rfl ?_
  refine ⟨by show List.length _ + List.length _ ≤ 9223372036854775807; simp only [List.length_append, List.length_cons, List.length_nil]; omega, ?_⟩
  refine ⟨by show List.length _ + List.length _ ≤ 9223372036854775807; simp only [List.length_append, List.length_cons, List.length_nil]; omega, ?_⟩
  refine t7.eq rfl ?_
  refine ⟨by show List.length _ + List.length _ ≤ 9223372036854775807; simp only [List.length_append, List.length_cons, List.length_nil]; omega, ?_⟩
  refine ⟨by show List.length _ + List.length _ ≤ 9223372036854775807; simp only [List.length_append, List.length_cons, List.length_nil]; omega, ?_⟩
  refine t8.eq rfl ?_
  refine ⟨by show List.length _ + List.length _ ≤ 9223372036854775807; simp only [List.length_append, List.length_cons, List.length_nil]; omega, ?_⟩
  refine ⟨by show List.length _ + List.length _ ≤ 9223372036854775807; simp only [List.length_append, List.length_cons, List.length_nil]; omega, ?_⟩
  refine hD.eq rfl ?_
  refine ⟨by show List.length _ + List.length _ ≤ 9223372036854775807; simp only [List.length_append, List.length_cons, List.length_nil]; omega, ?_⟩
  refine ⟨by decide, ((n.toNat / 2 : Nat) : Int), ?_, ?_⟩
  · show ((n.toNat / 2 : Nat) : Int) = IntKind.i64.wrap ((n.toNat : Int).tdiv 2)
    rw [Int.tdiv_eq_ediv_of_nonneg (by omega), show (n.toNat : Int) / 2 = ((n.toNat / 2 : Nat) : Int) by omega]
    exact wrap_i64 (by omega) (by omega)
  refine t9.eq rfl ?_
  refine ⟨by show List.length _ + List.length _ ≤ 9223372036854775807; simp only [List.length_append, List.length_cons, List.length_nil]; omega, ?_⟩
  refine ⟨by show List.length _ + List.length _ ≤ 9223372036854775807; simp only [List.length_append, List.length_cons, List.length_nil]; omega, ?_⟩
  refine t10.eq rfl ?_
  obtain ⟨e, he⟩ : ∃ e, e = kind.toNat % 9 := ⟨_, rfl⟩
  have he9 : e < 9 := by omega
  have e1 : ((kind.toNat : Nat) : Int).tmod 9 = (e : Nat) := by rw [he]; rfl
  obtain ⟨S, hS⟩ : ∃ S : List UInt8, ([.str (((([103, 97, 105, 110, 32, 61, 32, 123, 32] ++ r1) ++ [97, 32, 61, 32, 49]) ++ r2) ++ [32, 58, 32, 49, 32, 59, 32, 101, 108, 115, 101, 32, 58, 32, 49, 32, 125, 32, 59]), .str (([103, 97, 105, 110, 32, 61, 32, 123, 32] ++ r3) ++ [97, 32, 61, 32, 49, 32, 58, 32, 49, 32, 59, 32, 101, 108, 115, 101, 32, 58, 32, 49, 32, 125, 32, 59]), .str (([103, 97, 105, 110, 32, 61, 32, 123, 32, 97, 32, 61, 32, 49] ++ r4) ++ [32, 58, 32, 49, 32, 59, 32, 101, 108, 115, 101, 32, 58, 32, 49, 32, 125, 32, 59]), .str (([103, 97, 105, 110, 32, 61, 32, 123, 32, 97, 32, 61, 32, 49] ++ r5) ++ [32, 58, 32, 49, 32, 59, 32, 101, 108, 115, 101, 32, 58, 32, 49, 32, 125, 32, 59]), .str (([103, 97, 105, 110, 32, 61, 32, 123, 32] ++ r6) ++ [101, 108, 115, 101, 32, 58, 32, 49, 32, 125, 32, 59]), .str (([103, 97, 105, 110, 32, 61, 32, 123, 32, 101, 108, 115, 101, 32, 58, 32, 49] ++ r7) ++ [32, 125, 32, 59]), .str (([103, 97, 105, 110, 32, 102, 114, 111, 109, 32, 97] ++ r8) ++ [32, 61, 32, 123, 32, 101, 108, 115, 101, 32, 58, 32, 49, 32, 125, 32, 59]), .str (([103, 97, 105, 110, 32, 61, 32, 123, 32, 97, 32, 105, 110, 32, 123, 32, 49] ++ r9) ++ [32, 44, 32, 50, 32, 44, 32, 51, 32, 44, 32, 52, 32, 44, 32, 53, 32, 44, 32, 54, 32, 44, 32, 55, 32, 125, 32, 58, 32, 49, 32, 59, 32, 101, 108, 115, 101, 32, 58, 32, 49, 32, 125, 32, 59]), .str (r10)] : List PV)[e]? = some (.str S) := by
    rcases (show e = 0 ∨ e = 1 ∨ e = 2 ∨ e = 3 ∨ e = 4 ∨ e = 5 ∨ e = 6 ∨ e = 7 ∨ e = 8 by omega) with rfl | rfl | rfl | rfl | rfl | rfl | rfl | rfl | rfl <;> exact ⟨_, rfl⟩
  refine ⟨by decide, ?_⟩
  refine ⟨.p (.str S), ⟨⟨by show (0 : Int) ≤ ((kind.toNat : Nat) : Int).tmod 9; rw [e1]; omega, by show ((kind.toNat : Nat) : Int).tmod 9 < 9; rw [e1]; omega⟩, .str S, ldInP1 (by kernel_rfl) (by show ([.str (((([103, 97, 105, 110, 32, 61, 32, 123, 32] ++ r1) ++ [97, 32, 61, 32, 49]) ++ r2) ++ [32, 58, 32, 49, 32, 59, 32, 101, 108, 115, 101, 32, 58, 32, 49, 32, 125, 32, 59]), .str (([103, 97, 105, 110, 32, 61, 32, 123, 32] ++ r3) ++ [97, 32, 61, 32, 49, 32, 58, 32, 49, 32, 59, 32, 101, 108, 115, 101, 32, 58, 32, 49, 32, 125, 32, 59]), .str (([103, 97, 105, 110, 32, 61, 32, 123, 32, 97, 32, 61, 32, 49] ++ r4) ++ [32, 58, 32, 49, 32, 59, 32, 101, 108, 115, 101, 32, 58, 32, 49, 32, 125, 32, 59]), .str (([103, 97, 105, 110, 32, 61, 32, 123, 32, 97, 32, 61, 32, 49] ++ r5) ++ [32, 58, 32, 49, 32, 59, 32, 101, 108, 115, 101, 32, 58, 32, 49, 32, 125, 32, 59]), .str (([103, 97, 105, 110, 32, 61, 32, 123, 32] ++ r6) ++ [101, 108, 115, 101, 32, 58, 32, 49, 32, 125, 32, 59]), .str (([103, 97, 105, 110, 32, 61, 32, 123, 32, 101, 108, 115, 101, 32, 58, 32, 49] ++ r7) ++ [32, 125, 32, 59]), .str (([103, 97, 105, 110, 32, 102, 114, 111, 109, 32, 97] ++ r8) ++ [32, 61, 32, 123, 32, 101, 108, 115, 101, 32, 58, 32, 49, 32, 125, 32, 59]), .str (([103, 97, 105, 110, 32, 61, 32, 123, 32, 97, 32, 105, 110, 32, 123, 32, 49] ++ r9) ++ [32, 44, 32, 50, 32, 44, 32, 51, 32, 44, 32, 52, 32, 44, 32, 53, 32, 44, 32, 54, 32, 44, 32, 55, 32, 125, 32, 58, 32, 49, 32, 59, 32, 101, 108, 115, 101, 32, 58, 32, 49, 32, 125, 32, 59]), .str (r10)] : List PV)[(((kind.toNat : Nat) : Int).tmod 9).toNat * 1]? = _; rw [e1, Int.toNat_natCast, Nat.mul_one]; exact hS), rfl⟩, ?_⟩
  clear hS
  cases parS S with
  | no l c e h h1 h2 h3 =>
    refine h1.eq rfl ?_
    refine h2.eq rfl ?_
    refine And.intro (fun _ => ?_) (fun h => absurd rfl h)
    refine And.intro (fun _ => ?_) (fun h => absurd rfl h)
    refine And.intro (fun _ => ?_) (fun h => absurd rfl h)
    refine h3.eq rfl ?_
    refine works_c.eq rfl ?_
    exact end1 _ rfl rfl rfl
  | yes ds h h1 h2 h3 =>
    refine h1.eq rfl ?_
    refine h2.eq rfl ?_
    refine And.intro (fun _ => ?_) (fun h => absurd rfl h)
    refine And.intro (fun _ => ?_) (fun h => absurd rfl h)
    refine And.intro (fun _ => ?_) (fun h => absurd rfl h)
    refine h3.eq rfl ?_
    refine works_c.eq rfl ?_
    exact end1 _ rfl rfl rfl
end Go.Proofs.YtohfoaplnjcihaaGreatDoor

namespace Go.Proofs.YtohfoaplnjcihaaGreatDoor.Y
open Go
def partsOf (P : Program) (t : TypeId) : Option (List (TypeId × Nat)) :=
  match P.underlying t with
  | some (.struct fs) => some (fs.toList.map fun f => (f.type, f.offset))
  | some (.array k e) => some ((List.range k).map fun i => (e, i * P.cellsOf e))
  | _ => none
def tiles (P : Program) : List (TypeId × Nat) → Nat → Option Nat
  | [], o => some o
  | f :: r, o => if f.2 = o then tiles P r (o + P.cellsOf f.1) else none
theorem tiles_le {P : Program} : ∀ {l : List (TypeId × Nat)} {o n : Nat}, tiles P l o = some n → o ≤ n
  | [], o, n, h => by simp only [tiles, Option.some.injEq] at h; omega
  | f :: r, o, n, h => by
    simp only [tiles] at h
    split at h
    · have := tiles_le h; omega
    · cases h
def basic : TypeDesc → Bool
  | .bool => true
  | .int _ => true
  | .string => true
  | _ => false
def supp (P : Program) : Nat → TypeId → Bool
  | 0, _ => false
  | n + 1, t => match partsOf P t with
    | some l => decide (tiles P l 0 = some (P.cellsOf t)) && l.all fun f => supp P n f.1
    | none => match P.underlying t with
      | some (.slice e) => decide (0 < P.cellsOf e) && supp P n e
      | some d => basic d
      | none => false
def Flds (P : Program) (p : TypeId → List PV → Prop) : List (TypeId × Nat) → List PV → Prop
  | [], xs => xs = []
  | f :: r, xs => ∃ ys zs, xs = ys ++ zs ∧ ys.length = P.cellsOf f.1 ∧ p f.1 ys ∧ Flds P p r zs
def TyT (P : Program) : Nat → TypeId → List PV → Prop
  | 0, _, _ => False
  | m + 1, t, xs => match partsOf P t with
    | some l => Flds P (TyT P m) l xs
    | none => match P.underlying t with
      | some .bool => ∃ b, xs = [.bool b]
      | some (.int k) => ∃ n, xs = [.int k n] ∧ (Lit.int k n).wf = true
      | some .string => ∃ s, xs = [.str s] ∧ s.length ≤ maxLen
      | some (.slice e) => match Nat.beq (P.cellsOf e) 1 with
        | true => ∃ ys, xs = [.lst ys] ∧ ys.length ≤ maxLen ∧ ∀ y ∈ ys, TyT P m e [y]
        | false => ∃ yss, xs = [.lsts (P.cellsOf e) yss] ∧ yss.length ≤ maxLen ∧ ∀ ys ∈ yss, TyT P m e ys
      | _ => False
section
variable {H : Type} {enc : TypeId × Value → H} {P : Program} {W : World} {sp : Nat → Bool} {held : Bool}
theorem cells_take {a : Addr} {n : Nat} {cs : List Value} (hn : 0 < n) (h : W.cells? 0 a n = some cs) :
    ∃ c t z, W.heap[a.block]? = some (.cells c t z) ∧ a.spot = none ∧ cs.length = n ∧ a.off + n ≤ c.toList.length ∧ cs = (c.toList.drop a.off).take n := by
  unfold World.cells? at h
  rw [if_pos (Nat.zero_le _)] at h
  have hl := mapM_some_length h
  rw [List.length_range] at hl
  have hg : ∀ i, i < n → W.cell? (a.add i) = cs[i]? := fun i hi => mapM_some_get h i i (by simp [hi])
  have h0 := hg 0 hn
  have ha : a.add 0 = a := by simp [Addr.add]
  rw [ha, List.getElem?_eq_getElem (by omega)] at h0
  unfold World.cell? at h0
  split at h0
  · rename_i c t z hb
    have hs : a.spot = none := by
      cases hs : a.spot with
      | none => rfl
      | some _ => simp [hs] at h0
    have hcell : ∀ i, i < n → c[a.off + i]? = cs[i]? := by
      intro i hi
      have := hg i hi
      unfold World.cell? at this
      have hblk : (a.add i).block = a.block := by unfold Addr.add; split <;> rfl
      have hsp : (a.add i).spot = none := by unfold Addr.add; split <;> first | exact hs | rfl
      have hoff : (a.add i).off = a.off + i := by unfold Addr.add; split <;> simp_all
      rw [hblk, hb] at this
      simp only [hsp, hoff] at this
      simpa using this
    have hlen : a.off + n ≤ c.toList.length := by
      have := hcell (n - 1) (by omega)
      rw [List.getElem?_eq_getElem (by omega)] at this
      have := (Array.getElem?_eq_some_iff.1 this).1
      simp
      omega
    refine ⟨c, t, z, hb, hs, hl, hlen, ?_⟩
    refine List.ext_getElem? fun i => ?_
    by_cases hi : i < n
    · rw [← hcell i hi, List.getElem?_take_of_lt hi, List.getElem?_drop]
      simp
    · rw [List.getElem?_eq_none (by omega), List.getElem?_eq_none (by simp; omega)]
  · cases h0
def AllCells (fz : Fzn) (W : World) : Prop := ∀ b c t z, W.heap[b]? = some (.cells c t z) → fz b = some c.toList
def Rd (P : Program) (fz : Fzn) (m : Nat) (t : TypeId) (cs : List Value) : Prop := ∃ xs, VPL fz xs cs ∧ (∀ u ∈ cs, plainV u = true) ∧ TyT P m t xs
theorem flds_of {fz : Fzn} {m : Nat} {cs : List Value} : ∀ (l : List (TypeId × Nat)) (o : Nat), tiles P l o = some cs.length → (∀ f ∈ l, Rd P fz m f.1 ((cs.drop f.2).take (P.cellsOf f.1))) →
    ∃ xs, VPL fz xs (cs.drop o) ∧ (∀ u ∈ cs.drop o, plainV u = true) ∧ Flds P (TyT P m) l xs
  | [], o, ht, _ => by
    simp only [tiles, Option.some.injEq] at ht
    subst ht
    exact ⟨[], by simp [VPL], by simp, rfl⟩
  | f :: r, o, ht, hr => by
    simp only [tiles] at ht
    split at ht
    · rename_i ho
      have hle := tiles_le ht
      obtain ⟨ys, h1, h2, h3⟩ := hr f (by simp)
      obtain ⟨zs, k1, k2, k3⟩ := flds_of r (o + P.cellsOf f.1) ht fun g hg => hr g (by simp [hg])
      rw [ho] at h1 h2
      have e : cs.drop o = (cs.drop o).take (P.cellsOf f.1) ++ cs.drop (o + P.cellsOf f.1) := by
        rw [← List.drop_drop, List.take_append_drop]
      refine ⟨ys ++ zs, ?_, ?_, ys, zs, rfl, ?_, h3, k3⟩
      · rw [e]; exact VPL_append h1 k1
      · rw [e]; intro u hu; rcases List.mem_append.1 hu with hu | hu
        · exact h2 u hu
        · exact k2 u hu
      · rw [← VPL_length h1, List.length_take, List.length_drop]; omega
    · cases ht
theorem parts_trod {t : TypeId} {l : List (TypeId × Nat)} (hp : partsOf P t = some l) {n : Nat} {cs : List Value} {x : DataW H × List MemPlace} (h : DataW.trod enc P W 0 sp held n t cs = some x) :
    ∃ (xs : List (DataW H × List MemPlace)) (k : Nat), n = k + 1 ∧ x = (.agg (xs.map (·.1)), xs.flatMap (·.2)) ∧ cs.length = P.cellsOf t ∧ xs.length = l.length ∧
      ∀ (i : Nat) (f : TypeId × Nat), l[i]? = some f → DataW.trod enc P W 0 sp held k f.1 ((cs.drop f.2).take (P.cellsOf f.1)) = xs[i]? := by
  unfold partsOf at hp
  split at hp
  · rename_i fs hu
    injection hp with hp
    subst hp
    obtain ⟨xs, k, h1, h2, h3, h4, h5⟩ := DataW.trod_struct hu h
    refine ⟨xs, k, h1, h2, h3, by simpa using h4, fun i f hf => ?_⟩
    rw [List.getElem?_map, Option.map_eq_some_iff] at hf
    obtain ⟨g, hg, rfl⟩ := hf
    exact h5 i g (by simpa using hg)
  · rename_i k' e hu
    injection hp with hp
    subst hp
    obtain ⟨xs, k, h1, h2, h3, h4, h5⟩ := DataW.trod_array hu h
    refine ⟨xs, k, h1, h2, h3, by simpa using h4, fun i f hf => ?_⟩
    rw [List.getElem?_map, Option.map_eq_some_iff] at hf
    obtain ⟨j, hj, rfl⟩ := hf
    have hi := (List.getElem?_eq_some_iff.1 hj)
    obtain ⟨hi, hj⟩ := hi
    simp at hi hj
    subst hj
    exact h5 i hi
  · cases hp
theorem flat_singles {l : List (List PV)} (h : ∀ cs ∈ l, cs.length = 1) : l.flatten.length = l.length ∧ ∀ y ∈ l.flatten, [y] ∈ l := by
  induction l with
  | nil => simp
  | cons x r ih =>
    have hx := h x (by simp)
    obtain ⟨y, rfl⟩ : ∃ y, x = [y] := by
      match x, hx with
      | [y], _ => exact ⟨y, rfl⟩
    obtain ⟨h1, h2⟩ := ih fun c hc => h c (by simp [hc])
    refine ⟨by simp [h1], fun z hz => ?_⟩
    simp at hz
    rcases hz with rfl | hz
    · simp
    · have := h2 z (by simpa using hz)
      simp [this]
theorem typed_of_trod {fz : Fzn} (hfz : AllCells fz W) : ∀ (m : Nat) (t : TypeId) (n : Nat) (cs : List Value) (x : DataW H × List MemPlace), supp P m t = true → DataW.trod enc P W 0 sp held n t cs = some x → Rd P fz m t cs
  | 0, _, _, _, _, hs, _ => by simp [supp] at hs
  | m + 1, t, n, cs, x, hs, h => by
    have ih := typed_of_trod hfz m
    simp only [supp] at hs
    cases hp : partsOf P t with
    | some l =>
      simp only [hp, Bool.and_eq_true, decide_eq_true_eq, List.all_eq_true] at hs
      obtain ⟨xs, k, h1, h2, h3, h4, h5⟩ := parts_trod hp h
      obtain ⟨ys, g1, g2, g3⟩ := flds_of (fz := fz) (m := m) (cs := cs) l 0 (by rw [h3]; exact hs.1) fun f hf => by
        obtain ⟨i, hi, rfl⟩ := List.getElem_of_mem hf
        have := h5 i _ (List.getElem?_eq_getElem hi)
        rw [List.getElem?_eq_getElem (by omega)] at this
        exact ih _ _ _ _ (hs.2 _ hf) this
      exact ⟨ys, by simpa using g1, by simpa using g2, by simp only [TyT, hp]; exact g3⟩
    | none =>
      simp only [hp] at hs
      cases hu : P.underlying t with
      | none => simp [hu] at hs
      | some d =>
        simp only [hu] at hs
        cases d with
        | bool =>
          obtain ⟨b, rfl, _⟩ := DataW.trod_bool hu h
          exact ⟨[.bool b], by simp [VPL, VP], by simp [plainV], by simp [TyT, hp, hu]⟩
        | int k =>
          obtain ⟨b, rfl, _, hw⟩ := DataW.trod_int hu h
          exact ⟨[.int k b], by simp [VPL, VP], by simp [plainV], by simp [TyT, hp, hu, hw]⟩
        | string =>
          obtain ⟨⟨⟨s⟩⟩, rfl, _, hw⟩ := DataW.trod_string hu h
          exact ⟨[.str s], by simp [VPL, VP], by simp [plainV], by simp only [TyT, hp, hu]; exact ⟨s, rfl, hw⟩⟩
        | slice e =>
          simp only [Bool.and_eq_true, decide_eq_true_eq] at hs
          obtain ⟨hs0, hse⟩ := hs
          have fin : ∀ (v : Value) (len : Nat) (yss : List (List PV)), len ≤ maxLen → yss.length = len → (∀ ys ∈ yss, ys.length = P.cellsOf e ∧ TyT P m e ys) → plainV v = true →
              (yss = [] → ∃ a c, v = .slice a 0 c) → (yss ≠ [] → ∃ b o c arr us, v = .slice (some ⟨b, o, none⟩) len c ∧ len ≤ c ∧ fz b = some arr ∧ VPLL fz (P.cellsOf e) yss us ∧ Seg arr o us) → Rd P fz (m + 1) t [v] := by
            intro v len yss hml hlen hty hpl hnil hcons
            by_cases h1 : P.cellsOf e = 1
            · have hfl := flat_singles (l := yss) fun c hc => by rw [(hty c hc).1, h1]
              refine ⟨[.lst yss.flatten], ?_, by simpa using hpl, ?_⟩
              · simp only [VPL]
                refine ⟨v, [], rfl, ?_, rfl⟩
                simp only [VP]
                by_cases hy : yss = []
                · exact .inl ⟨by simp [hy], hnil hy⟩
                · obtain ⟨b, o, c, arr, us, k1, k2, k3, k4, k5⟩ := hcons hy
                  exact .inr ⟨b, o, c, arr, us, by rw [hfl.1, hlen]; exact k1, by rw [hfl.1, hlen]; exact k2, k3, (VPLL_flat.1 k4).1, k5⟩
              · simp only [TyT, hp, hu, h1]
                exact ⟨_, rfl, by rw [hfl.1, hlen]; exact hml, fun y hy => (hty _ (hfl.2 y hy)).2⟩
            · refine ⟨[.lsts (P.cellsOf e) yss], ?_, by simpa using hpl, ?_⟩
              · simp only [VPL]
                refine ⟨v, [], rfl, ?_, rfl⟩
                simp only [VP]
                by_cases hy : yss = []
                · exact .inl ⟨hy, hnil hy⟩
                · obtain ⟨b, o, c, arr, us, k1, k2, k3, k4, k5⟩ := hcons hy
                  exact .inr ⟨b, o, c, arr, us, by rw [hlen]; exact k1, by rw [hlen]; exact k2, k3, k4, k5⟩
              · have hb : Nat.beq (P.cellsOf e) 1 = false := beq_ne h1
                simp only [TyT, hp, hu, hb]
                exact ⟨_, rfl, by rw [hlen]; exact hml, fun y hy => (hty _ hy).2⟩
          rcases DataW.trod_slice hu h with ⟨rfl, _⟩ | ⟨a, len, cap, elems, rest, n', rfl, rfl, _, _, hlc, hcm, hel, hE, _, _⟩
          · exact fin _ 0 [] (by simp [maxLen]) rfl (by simp) rfl (fun _ => ⟨none, 0, rfl⟩) (by simp)
          · have hcs : ∀ i, i < len → ∃ cs', W.cells? 0 (a.add (i * P.cellsOf e)) (P.cellsOf e) = some cs' ∧ Rd P fz m e cs' := by
              intro i hi
              have := hE i hi
              rw [List.getElem?_eq_getElem (by omega), Option.bind_eq_some_iff] at this
              obtain ⟨cs', h1, h2⟩ := this
              exact ⟨cs', h1, ih _ _ _ _ hse h2⟩
            by_cases hl0 : len = 0
            · subst hl0
              exact fin _ 0 [] (by simp [maxLen]) rfl (by simp) rfl (fun _ => ⟨_, _, rfl⟩) (by simp)
            · obtain ⟨cs0, c1, _⟩ := hcs 0 (by omega)
              have ha : a.add (0 * P.cellsOf e) = a := by simp [Addr.add]
              rw [ha] at c1
              obtain ⟨c, tt, z, hb, hsp, _, _, _⟩ := cells_take hs0 c1
              have key : ∀ k, k ≤ len → ∃ yss us, yss.length = k ∧ VPLL fz (P.cellsOf e) yss us ∧ (∀ u ∈ us, plainV u = true) ∧ (∀ ys ∈ yss, ys.length = P.cellsOf e ∧ TyT P m e ys) ∧ (k ≠ 0 → a.off + k * P.cellsOf e ≤ c.toList.length) ∧ us = (c.toList.drop a.off).take (k * P.cellsOf e) := by
                intro k
                induction k with
                | zero => intro _; exact ⟨[], [], rfl, by simp [VPLL], by simp, by simp, by simp, by simp⟩
                | succ k ihk =>
                  intro hk
                  obtain ⟨yss, us, k1, k2, k3, k4, k5, k6⟩ := ihk (by omega)
                  obtain ⟨cs', d1, ys, d2, d3, d4⟩ := hcs k (by omega)
                  obtain ⟨c', tt', z', e1, e2, e3, e4, e5⟩ := cells_take hs0 d1
                  have hblk : (a.add (k * P.cellsOf e)).block = a.block := by unfold Addr.add; split <;> rfl
                  have hoff : (a.add (k * P.cellsOf e)).off = a.off + k * P.cellsOf e := by unfold Addr.add; split <;> simp_all
                  rw [hblk, hb] at e1
                  simp only [Option.some.injEq, Obj.cells.injEq] at e1
                  obtain ⟨rfl, _, _⟩ := e1
                  rw [hoff] at e4 e5
                  have hys : ys.length = P.cellsOf e := by rw [← VPL_length d2, e3]
                  have hf := VPLL_flat.1 k2
                  refine ⟨yss ++ [ys], us ++ cs', by simp [k1], VPLL_flat.2 ⟨?_, ?_⟩, ?_, ?_, fun _ => by rw [Nat.succ_mul]; omega, ?_⟩
                  · simpa using VPL_append hf.1 d2
                  · intro q hq; rcases List.mem_append.1 hq with hq | hq
                    · exact hf.2 q hq
                    · simp at hq; subst hq; exact hys
                  · intro u hu; rcases List.mem_append.1 hu with hu | hu
                    · exact k3 u hu
                    · exact d3 u hu
                  · intro q hq; rcases List.mem_append.1 hq with hq | hq
                    · exact k4 q hq
                    · simp at hq; subst hq; exact ⟨hys, d4⟩
                  · rw [k6, e5, Nat.succ_mul, List.take_add, List.drop_drop]
              obtain ⟨yss, us, k1, k2, k3, k4, k5, k6⟩ := key len (Nat.le_refl _)
              have k5 := k5 hl0
              have hne : yss ≠ [] := by intro e; subst e; simp at k1; omega
              refine fin _ len yss (by omega) k1 k4 rfl (fun e => absurd e hne) fun _ => ⟨a.block, a.off, cap, c.toList, us, ?_, hlc, hfz _ _ _ _ hb, k2, ?_⟩
              · obtain ⟨ab, ao, asp⟩ := a; simp only [] at hsp; subst hsp; rfl
              · refine ⟨c.toList.take a.off, c.toList.drop (a.off + len * P.cellsOf e), ?_, ?_, k3⟩
                · rw [k6, List.append_assoc, ← List.drop_drop, List.take_append_drop, List.take_append_drop]
                · rw [List.length_take]; omega
        | _ => simp [basic] at hs
mutual
def flatD : DataW H → Option (List PV)
  | .lit (.bool b) => some [.bool b]
  | .lit (.int k n) => some [.int k n]
  | .lit (.string s) => some [.str s]
  | .agg ps => flatDL ps
  | _ => none
def flatDL : List (DataW H) → Option (List PV)
  | [] => some []
  | d :: r => match flatD d, flatDL r with
    | some xs, some ys => some (xs ++ ys)
    | _, _ => none
end
theorem fldsD_of {fz : Fzn} {cs : List Value} {Q : DataW H → List Value → Prop} (hQ : ∀ d us xs, Q d us → flatD d = some xs → VPL fz xs us ∧ ∀ u ∈ us, plainV u = true) : ∀ (l : List (TypeId × Nat)) (ds : List (DataW H)) (o : Nat) (xs : List PV), tiles P l o = some cs.length → ds.length = l.length →
    (∀ (i : Nat) f d, l[i]? = some f → ds[i]? = some d → Q d ((cs.drop f.2).take (P.cellsOf f.1))) → flatDL ds = some xs → VPL fz xs (cs.drop o) ∧ ∀ u ∈ cs.drop o, plainV u = true
  | [], ds, o, xs, ht, hl, _, hd => by
    simp only [tiles, Option.some.injEq] at ht
    subst ht
    obtain rfl := List.eq_nil_of_length_eq_zero hl
    simp only [flatDL, Option.some.injEq] at hd
    subst hd
    simp [VPL]
  | f :: r, [], o, xs, ht, hl, _, hd => by simp at hl
  | f :: r, d :: ds, o, xs, ht, hl, hr, hd => by
    simp only [tiles] at ht
    split at ht
    · rename_i ho
      simp only [flatDL] at hd
      split at hd
      · rename_i ys zs e1 e2
        injection hd with hd
        subst hd
        have h1 := hQ d _ ys (hr 0 f d rfl rfl) e1
        have h2 := fldsD_of hQ r ds (o + P.cellsOf f.1) zs ht (by simpa using hl) (fun i g e hg he => hr (i + 1) g e hg he) e2
        rw [ho] at h1
        have e : cs.drop o = (cs.drop o).take (P.cellsOf f.1) ++ cs.drop (o + P.cellsOf f.1) := by
          rw [← List.drop_drop, List.take_append_drop]
        rw [e]
        refine ⟨VPL_append h1.1 h2.1, fun u hu => ?_⟩
        rcases List.mem_append.1 hu with hu | hu
        · exact h1.2 u hu
        · exact h2.2 u hu
      · cases hd
    · cases ht
theorem laid_of_trod {fz : Fzn} : ∀ (m : Nat) (t : TypeId) (n : Nat) (cs : List Value) (x : DataW H × List MemPlace) (xs : List PV), supp P m t = true → DataW.trod enc P W 0 sp held n t cs = some x → flatD x.1 = some xs → VPL fz xs cs ∧ ∀ u ∈ cs, plainV u = true
  | 0, _, _, _, _, _, hs, _, _ => by simp [supp] at hs
  | m + 1, t, n, cs, x, xs, hs, h, hd => by
    have ih := laid_of_trod (fz := fz) m
    simp only [supp] at hs
    cases hp : partsOf P t with
    | some l =>
      simp only [hp, Bool.and_eq_true, decide_eq_true_eq, List.all_eq_true] at hs
      obtain ⟨ys, k, h1, h2, h3, h4, h5⟩ := parts_trod hp h
      rw [h2] at hd
      simp only [flatD] at hd
      have := fldsD_of (fz := fz) (P := P) (cs := cs) (Q := fun d us => ∀ xs, flatD d = some xs → VPL fz xs us ∧ ∀ u ∈ us, plainV u = true) (fun d us xs hq hx => hq xs hx) l (ys.map (·.1)) 0 xs (by rw [h3]; exact hs.1) (by simpa using h4) (fun i f d hf hd' => by
        rw [List.getElem?_map, Option.map_eq_some_iff] at hd'
        obtain ⟨y, hy, rfl⟩ := hd'
        have e := h5 i f hf
        rw [hy] at e
        intro xs hx
        exact ih _ _ _ _ xs (hs.2 _ (List.mem_of_getElem? hf)) e hx) hd
      simpa using this
    | none =>
      simp only [hp] at hs
      cases hu : P.underlying t with
      | none => simp [hu] at hs
      | some d =>
        simp only [hu] at hs
        cases d with
        | bool =>
          obtain ⟨b, rfl, rfl⟩ := DataW.trod_bool hu h
          simp only [flatD, Option.some.injEq] at hd
          subst hd
          exact ⟨by simp [VPL, VP], by simp [plainV]⟩
        | int k =>
          obtain ⟨b, rfl, rfl, hw⟩ := DataW.trod_int hu h
          simp only [flatD, Option.some.injEq] at hd
          subst hd
          exact ⟨by simp [VPL, VP], by simp [plainV]⟩
        | string =>
          obtain ⟨⟨⟨s⟩⟩, rfl, rfl, hw⟩ := DataW.trod_string hu h
          simp only [flatD, Option.some.injEq] at hd
          subst hd
          exact ⟨by simp [VPL, VP], by simp [plainV]⟩
        | slice e =>
          rcases DataW.trod_slice hu h with ⟨rfl, rfl⟩ | ⟨a, len, cap, elems, rest, n', rfl, rfl, rfl, _⟩
          · simp [flatD] at hd
          · simp [flatD] at hd
        | _ => simp [basic] at hs
end
end Go.Proofs.YtohfoaplnjcihaaGreatDoor.Y

namespace Go.Proofs.YtohfoaplnjcihaaGreatDoor.Y
open Go
theorem mapM_mono {α β : Type} {f g : α → Option β} : ∀ {l : List α} {r : List β}, (∀ x ∈ l, ∀ y, f x = some y → g x = some y) → l.mapM f = some r → l.mapM g = some r
  | [], r, _, h => by simpa using h
  | x :: l, r, hfg, h => by
    simp only [List.mapM_cons, Option.bind_eq_bind, Option.bind_eq_some_iff, Option.pure_def, Option.some.injEq] at h ⊢
    obtain ⟨y, h1, ys, h2, h3⟩ := h
    exact ⟨y, hfg x (by simp) y h1, ys, mapM_mono (fun z hz => hfg z (by simp [hz])) h2, h3⟩
def Kept (W W' : World) : Prop := ∀ (b : Nat) (o : Obj), W.heap[b]? = some o → W'.heap[b]? = some o
section
variable {H : Type} {enc : TypeId × Value → H} {P : Program} {W W' : World} {sp' : Nat → Bool} {held : Bool}
theorem Kept.cell (hk : Kept W W') {a : Addr} {v : Value} (h : W.cell? a = some v) : W'.cell? a = some v := by
  unfold World.cell? at h ⊢
  split at h
  · rename_i c t z hb
    rw [hk _ _ hb]
    exact h
  · cases h
theorem Kept.cells (hk : Kept W W') {a : Addr} {n : Nat} {cs : List Value} (h : W.cells? 0 a n = some cs) : W'.cells? 0 a n = some cs := by
  unfold World.cells? at h ⊢
  rw [if_pos (Nat.zero_le _)] at h ⊢
  exact mapM_mono (fun _ _ _ hx => hk.cell hx) h
theorem trod_kept (hk : Kept W W') (hsp : ∀ b, b < W.heap.size → sp' b = true) : ∀ (m : Nat) (t : TypeId) (n : Nat) (cs : List Value) (x : DataW H × List MemPlace), supp P m t = true → DataW.trod enc P W 0 (fun _ => true) held n t cs = some x → DataW.trod enc P W' 0 sp' held n t cs = some x
  | 0, _, _, _, _, hs, _ => by simp [supp] at hs
  | m + 1, t, 0, cs, x, hs, h => by simp [DataW.trod] at h
  | m + 1, t, n + 1, cs, x, hs, h => by
    have ih := trod_kept hk hsp m
    simp only [supp] at hs
    cases hu : P.underlying t with
    | none =>
      have hp : partsOf P t = none := by simp [partsOf, hu]
      simp [hp, hu] at hs
    | some d =>
      cases d with
      | struct fs =>
        have hp : partsOf P t = some (fs.toList.map fun f => (f.type, f.offset)) := by simp [partsOf, hu]
        simp only [hp, Bool.and_eq_true, List.all_eq_true] at hs
        unfold DataW.trod at h ⊢
        rw [hu] at h ⊢
        simp only [] at h ⊢
        split at h
        · rename_i hl
          rw [if_pos hl]
          rw [Option.map_eq_some_iff] at h ⊢
          obtain ⟨xs, h1, h2⟩ := h
          exact ⟨xs, mapM_mono (fun f hf y hy => ih _ _ _ _ (hs.2 (f.type, f.offset) (List.mem_map_of_mem hf)) hy) h1, h2⟩
        · cases h
      | array k e =>
        have hp : partsOf P t = some ((List.range k).map fun i => (e, i * P.cellsOf e)) := by simp [partsOf, hu]
        simp only [hp, Bool.and_eq_true, List.all_eq_true] at hs
        unfold DataW.trod at h ⊢
        rw [hu] at h ⊢
        simp only [] at h ⊢
        split at h
        · rename_i hl
          rw [if_pos hl]
          rw [Option.map_eq_some_iff] at h ⊢
          obtain ⟨xs, h1, h2⟩ := h
          exact ⟨xs, mapM_mono (fun i hi y hy => ih _ _ _ _ (hs.2 (e, i * P.cellsOf e) (List.mem_map_of_mem hi)) hy) h1, h2⟩
        · cases h
      | bool =>
        obtain ⟨b, rfl, rfl⟩ := DataW.trod_bool hu h
        unfold DataW.trod; rw [hu]
      | int k =>
        obtain ⟨b, rfl, rfl, hw⟩ := DataW.trod_int hu h
        unfold DataW.trod; rw [hu]; simp [hw]
      | string =>
        obtain ⟨s, rfl, rfl, hw⟩ := DataW.trod_string hu h
        unfold DataW.trod; rw [hu]; simp [hw]
      | slice e =>
        have hp : partsOf P t = none := by simp [partsOf, hu]
        simp only [hp, hu, Bool.and_eq_true, decide_eq_true_eq] at hs
        rcases DataW.trod_slice hu h with ⟨rfl, rfl⟩ | ⟨a, len, cap, _, _, _, _, rfl, _⟩
        · unfold DataW.trod; rw [hu]; rfl
        unfold DataW.trod at h ⊢
        rw [hu] at h ⊢
        simp only [if_true] at h ⊢
        split at h
        rotate_left
        · cases h
        rename_i hc
        rw [if_pos hc]
        rw [Option.bind_eq_some_iff] at h ⊢
        obtain ⟨elems, h1, h2⟩ := h
        rw [Option.map_eq_some_iff] at h2
        obtain ⟨rest, h2, h3⟩ := h2
        have el : ∀ i y, (W.cells? 0 (a.add (i * P.cellsOf e)) (P.cellsOf e)).bind (DataW.trod enc P W 0 (fun _ => true) held n e) = some y → (W'.cells? 0 (a.add (i * P.cellsOf e)) (P.cellsOf e)).bind (DataW.trod enc P W' 0 sp' held n e) = some y := by
          intro i y hy
          rw [Option.bind_eq_some_iff] at hy ⊢
          obtain ⟨cs', g1, g2⟩ := hy
          exact ⟨cs', hk.cells g1, ih _ _ _ _ hs.2 g2⟩
        refine ⟨elems, mapM_mono (fun i _ y hy => el i y hy) h1, ?_⟩
        rw [Option.map_eq_some_iff]
        refine ⟨rest, ?_, h3⟩
        by_cases hd : cap - len = 0
        · rw [hd] at h2 ⊢
          simp at h2
          subst h2
          cases sp' a.block <;> simp
        · have hb : a.block < W.heap.size := by
            have hl := mapM_some_length h2
            rw [List.length_range] at hl
            have := mapM_some_get h2 0 0 (by rw [List.getElem?_eq_getElem (by simp; omega)]; simp)
            rw [List.getElem?_eq_getElem (by omega), Option.bind_eq_some_iff] at this
            obtain ⟨cs', g1, _⟩ := this
            obtain ⟨c, t', z, g3, _⟩ := cells_take hs.1 g1
            have hblk : (a.add ((len + 0) * P.cellsOf e)).block = a.block := by unfold Addr.add; split <;> rfl
            rw [hblk] at g3
            exact (Array.getElem?_eq_some_iff.1 g3).1
          rw [if_pos (hsp _ hb)]
          exact mapM_mono (fun i _ y hy => el (len + i) y hy) h2
      | _ =>
        have hp : partsOf P t = none := by simp [partsOf, hu]
        simp [hp, hu, basic] at hs
theorem trodAll_kept (hk : Kept W W') (hsp : ∀ b, b < W.heap.size → sp' b = true) (m : Nat) : ∀ {ts : List TypeId} {vs : List Value} {ds : List (DataW H)} {ps : List MemPlace}, ts.all (supp P m) = true → DataW.TrodAll enc P W 0 (fun _ => true) held ts vs ds ps → DataW.TrodAll enc P W' 0 sp' held ts vs ds ps
  | [], [], [], ps, _, h => h
  | t :: ts, v :: vs, d :: ds, ps, hs, h => by
    simp only [List.all_cons, Bool.and_eq_true] at hs
    obtain ⟨p, q, ⟨fuel, h1⟩, h2, h3⟩ := h
    exact ⟨p, q, ⟨fuel, trod_kept hk hsp m _ _ _ _ hs.1 h1⟩, trodAll_kept hk hsp m hs.2 h2, h3⟩
  | [], [], _ :: _, ps, _, h => by simp [DataW.TrodAll] at h
  | [], _ :: _, _, ps, _, h => by simp [DataW.TrodAll] at h
  | _ :: _, [], _, ps, _, h => by simp [DataW.TrodAll] at h
  | _ :: _, _ :: _, [], ps, _, h => by simp [DataW.TrodAll] at h
def ArgT (P : Program) (m : Nat) (t : TypeId) (x : PV) : Prop := match partsOf P t with
  | some _ => ∃ xs, x = .agg xs ∧ TyT P m t xs
  | none => TyT P m t [x]
def ArgsT (P : Program) (m : Nat) : List TypeId → List PV → Prop
  | [], xs => xs = []
  | t :: ts, xs => ∃ x r, xs = x :: r ∧ ArgT P m t x ∧ ArgsT P m ts r
def fzOf (W : World) : Fzn := fun b => match W.heap[b]? with
  | some (.cells c _ _) => some c.toList
  | _ => none
theorem fzOf_all (W : World) : AllCells (fzOf W) W := fun b c t z h => by simp [fzOf, h]
theorem fzOf_some {b : Nat} {arr : List Value} (h : fzOf W b = some arr) : ∃ c t z, W.heap[b]? = some (.cells c t z) ∧ arr = c.toList := by
  unfold fzOf at h
  split at h
  · rename_i c t z hb
    injection h with h
    exact ⟨c, t, z, hb, h.symm⟩
  · cases h
theorem arg_of {m : Nat} {base : Nat} {t : TypeId} {v : Value} {d : DataW H} {ps : List MemPlace} (hs : supp P m t = true) (hval : Value.okWide P W .any base t v) (h : DataW.Trod enc P W 0 (fun _ => true) true t v d ps) : ∃ x, VP (fzOf W) x v ∧ ArgT P m t x := by
  obtain ⟨fuel, h⟩ := h
  obtain ⟨xs, h1, h2, h3⟩ := typed_of_trod (fzOf_all W) m t fuel _ _ hs h
  unfold Value.okWide at hval
  cases hp : partsOf P t with
  | some l =>
    have : ∃ cs, v = .agg cs := by
      unfold partsOf at hp
      split at hp
      · rename_i fs hu; simp only [hu] at hval; obtain ⟨cs, h, _⟩ := hval; exact ⟨cs, h⟩
      · rename_i k e hu; simp only [hu] at hval; obtain ⟨cs, h, _⟩ := hval; exact ⟨cs, h⟩
      · cases hp
    obtain ⟨cs, rfl⟩ := this
    exact ⟨.agg xs, by simp only [VP]; exact ⟨cs, rfl, h1⟩, by simp only [ArgT, hp]; exact ⟨xs, rfl, h3⟩⟩
  | none =>
    have hv : v.cells = #[v] := by
      cases m with
      | zero => simp [supp] at hs
      | succ m =>
        simp only [supp, hp] at hs
        cases hu : P.underlying t with
        | none => simp [hu] at hs
        | some d =>
          simp only [hu] at hs hval
          cases d with
          | struct fs => simp [partsOf, hu] at hp
          | array k e => simp [partsOf, hu] at hp
          | bool => cases v <;> simp_all [Cell.okWide, Cell.ok, Value.cells]
          | int k => cases v <;> simp_all [Cell.okWide, Cell.ok, Value.cells]
          | string => cases v <;> simp_all [Cell.okWide, Cell.ok, Value.cells]
          | slice e => cases v <;> simp_all [Cell.okWide, Cell.ok, Value.cells]
          | _ => simp [basic] at hs
    rw [hv] at h1
    obtain ⟨x, rfl, h4⟩ : ∃ x, xs = [x] ∧ VP (fzOf W) x v := by
      match xs, h1 with
      | [], h1 => simp [VPL] at h1
      | x :: r, h1 =>
        simp only [VPL] at h1
        obtain ⟨u, us, e, g1, g2⟩ := h1
        simp only [List.cons.injEq] at e
        obtain ⟨rfl, rfl⟩ := e
        match r, g2 with
        | [], _ => exact ⟨x, rfl, g1⟩
        | y :: r, g2 => simp [VPL] at g2
    exact ⟨x, h4, by simp only [ArgT, hp]; exact h3⟩
theorem args_of {m base : Nat} : ∀ {ts : List TypeId} {vs : List Value} {ds : List (DataW H)} {ps : List MemPlace}, ts.all (supp P m) = true → (∀ (j : Nat) t v, ts[j]? = some t → vs[j]? = some v → Value.okWide P W .any base t v) → DataW.TrodAll enc P W 0 (fun _ => true) true ts vs ds ps →
    ∃ xs, VPL (fzOf W) xs vs ∧ ArgsT P m ts xs ∧ ds.length = ts.length
  | [], [], [], ps, _, _, _ => ⟨[], by simp [VPL], rfl, rfl⟩
  | t :: ts, v :: vs, d :: ds, ps, hs, hv, h => by
    simp only [List.all_cons, Bool.and_eq_true] at hs
    obtain ⟨p, q, h1, h2, h3⟩ := h
    obtain ⟨x, g1, g2⟩ := arg_of hs.1 (hv 0 t v rfl rfl) h1
    obtain ⟨xs, k1, k2, k3⟩ := args_of hs.2 (fun j t v ht hv' => hv (j + 1) t v ht hv') h2
    exact ⟨x :: xs, by simp only [VPL]; exact ⟨v, vs, rfl, g1, k1⟩, ⟨x, xs, rfl, g2, k2⟩, by simp [k3]⟩
  | [], [], _ :: _, ps, _, _, h => by simp [DataW.TrodAll] at h
  | [], _ :: _, _, ps, _, _, h => by simp [DataW.TrodAll] at h
  | _ :: _, [], _, ps, _, _, h => by simp [DataW.TrodAll] at h
  | _ :: _, _ :: _, [], ps, _, _, h => by simp [DataW.TrodAll] at h
end
def gtOK (P : Program) (m : Nat) : List (Nat × List PV) → List (String × DataW Unit) → Prop
  | [], _ => True
  | (g, cs) :: r, (n, d) :: r' => P.globalNamed n = some g ∧ (∃ t, (P.globals[g]?).map (·.type) = some t ∧ supp P m t = true) ∧ flatD d = some cs ∧ gtOK P m r r'
  | _ :: _, [] => False
theorem glob_of_laid {P : Program} {m : Nat} {W : World} : ∀ {gt : List (Nat × List PV)} {laid : List (String × DataW Unit)} {ps : List MemPlace}, gtOK P m gt laid → DataW.LaidVars P W laid ps → ∀ g cs, gget gt g = some cs → GlobV (fzOf W) g cs
  | [], _, _, _, _, g, cs, h => by simp [gget] at h
  | (g', cs') :: r, [], _, hg, _, g, cs, h => by simp [gtOK] at hg
  | (g', cs') :: r, (n, d) :: r', ps, hg, hl, g, cs, h => by
    obtain ⟨h1, ⟨t, h2, h3⟩, h4, h5⟩ := hg
    obtain ⟨g0, t0, cs0, fuel, p, q, k1, k2, k3, k4, k5, k6⟩ := hl
    rw [h1] at k1
    injection k1 with k1
    subst k1
    rw [h2] at k2
    injection k2 with k2
    subst k2
    simp only [gget] at h
    split at h
    · rename_i he
      have he := Nat.eq_of_beq_eq_true he
      subst he
      injection h with h
      subst h
      obtain ⟨g1, g2⟩ := laid_of_trod (fz := fzOf W) m t fuel _ _ _ h3 k4 h4
      have hb : ∃ ty z, W.heap[g']? = some (.cells cs0 ty z) := by
        unfold World.var? at k3
        rw [h1] at k3
        simp only [Option.bind_some] at k3
        split at k3
        · rename_i c ty z hb
          injection k3 with k3
          subst k3
          exact ⟨ty, z, hb⟩
        · cases k3
      obtain ⟨ty, z, hb⟩ := hb
      exact ⟨by simp only [VP]; exact ⟨g', 0, cs0.toList, cs0.toList, rfl, fzOf_all W _ _ _ _ hb, g1, [], [], by simp, rfl, g2⟩, cs0.toList, fzOf_all W _ _ _ _ hb, VPL_length g1⟩
    · exact glob_of_laid h5 k5 g cs h
section
variable {cx : Cx}
theorem calls_of_pure {H : Type} {enc : TypeId × Value → H} {W : World} {f : FuncId} {fn : Func} {c : Code} {m base : Nat} {args : Array Value} {ds : List (DataW H)} {ps : List MemPlace}
    (hf : cx.P.funcs[f]? = some fn) (hname : (fn.name == "runtime.NumGoroutine") = false) (hb : fn.body = some c) (hs : fn.params.toList.all (supp cx.P m) = true)
    (hpure : ∀ xs, ArgsT cx.P m fn.params.toList xs → Pure cx f xs (· = .ret [.bool true]))
    (hval : ∀ (j : Nat) t v, fn.params[j]? = some t → args[j]? = some v → Value.okWide cx.P W .any base t v)
    (hA : DataW.TrodAll enc cx.P W 0 (fun _ => true) true fn.params.toList args.toList ds ps)
    (hglob : ∀ g cs, gget cx.gt g = some cs → GlobV (fzOf W) g cs) :
    Calls cx.P f args W fun e W' => e = .returned (.bool true) ∧ W'.os = W.os ∧ W'.output = W.output ∧ ∀ k, k < W.heap.size → W'.heap[k]? = W.heap[k]? := by
  obtain ⟨xs, h1, h2, _⟩ := args_of hs (fun j t v ht hv => hval j t v (by simpa using ht) (by simpa using hv)) hA
  have hR : R cx ⟨fun _ => none, fzOf W⟩ ⟨0, []⟩ W := by
    refine ⟨hglob, fun _ _ => rfl, fun b arr hb => ?_, fun n o hn => by simp [lget] at hn, fun n o q hn => by simp [lget] at hn, fun n o m p q q' hn => by simp [lget] at hn⟩
    obtain ⟨c, t, z, g1, rfl⟩ := fzOf_some hb
    exact ⟨t, z, g1⟩
  have key : ∀ e w', Post cx ⟨fun _ => none, fzOf W⟩ ⟨0, []⟩ W (EndP (· = .ret [.bool true])) e w' → e = .returned (.bool true) ∧ w'.os = W.os ∧ w'.output = W.output ∧ ∀ k, k < W.heap.size → w'.heap[k]? = W.heap[k]? := by
    intro e w' hP
    obtain ⟨r, Γ', hq, _, hE, _, hT, _⟩ := pure_post hR hP
    subst hq
    obtain ⟨v', rfl, hv⟩ := hE
    simp only [VR, VP] at hv
    subst hv
    exact ⟨rfl, hT.os, hT.output, fun k hk => hT.kept k hk own_nil⟩
  have hrun := run_enter hf hname hb args W
  rcases hpure xs h2 ⟨fun _ => none, fzOf W⟩ W args.toList hR (VRL_p.2 h1) with ⟨_, h4⟩ | ⟨v', w', h4, _⟩
  · exact h4.mono key
  · rw [hrun] at h4
    injection h4 with h4
    cases h4
theorem post_of_kept {H : Type} {enc : TypeId × Value → H} {W W' : World} {fn : Func} {s : ChangeSpec} {m : Nat} {bt : TypeId} {apart fresh handsOn : Bool} {args : Array Value} {ds gs : List (DataW H)} {before : List MemPlace}
    (hs : fn.params.toList.all (supp cx.P m) = true) (hvars : s.vars = []) (hres : fn.resultTypes = #[bt]) (hbt : cx.P.underlying bt = some .bool)
    (hfn : ∀ ds : List (DataW H), ds.length = fn.params.toList.length → s.fn H ds = { results := [.lit (.bool true)], args := ds })
    (hW : DataW.Whole enc cx.P fn.params.toList s.vars apart W args.toList ds gs before) (hlen : ds.length = fn.params.toList.length)
    (hos : W'.os = W.os) (hout : W'.output = W.output) (hkept : ∀ k, k < W.heap.size → W'.heap[k]? = W.heap[k]?) :
    s.post enc cx.P fn apart fresh handsOn false W args (.bool true) W' := by
  have hk : Kept W W' := fun b o hb => by rw [hkept b (Array.getElem?_eq_some_iff.1 hb).1]; exact hb
  have hW' := hW
  obtain ⟨p, q, h1, h2, _, _, _⟩ := hW'
  rw [hvars] at h2
  obtain ⟨rfl, rfl⟩ := Go.ChangeShapes.trodVars_none h2
  have e : s.fn H (ds ++ []) = { results := [.lit (.bool true)], args := ds } := by rw [List.append_nil]; exact hfn ds hlen
  refine ⟨ds, [], before, [], p, [], hW, ?_, ?_, ?_, ?_, fun h => by cases h⟩
  · rw [e, hres]
    exact Go.ChangeShapes.trodAll_mk1 (Go.RowKit.shut_bool hbt true)
  · rw [e]
    exact trodAll_kept hk (fun b hb => by simpa using hb) m hs h1
  · rw [e, hvars]
    rfl
  · refine ⟨hos, hout, fun i hi => ?_⟩
    rw [hkept i hi]
    have := Array.getElem?_eq_getElem hi
    rw [this]
    cases W.heap[i] <;> simp
end
end Go.Proofs.YtohfoaplnjcihaaGreatDoor.Y

namespace Go.Proofs.YtohfoaplnjcihaaGreatDoor
open Go Y
set_option maxRecDepth 100000
set_option maxHeartbeats 4000000
theorem ty_u8 {m : Nat} {xs : List PV} (h : TyT Tryz.prog (m + 1) 5 xs) : ∃ b : UInt8, xs = [u8 b] := by
  have hp : partsOf Tryz.prog 5 = none := by simp [partsOf, Tryz.underlying5]
  simp only [TyT, hp, Tryz.underlying5] at h
  obtain ⟨n, rfl, hw⟩ := h
  have := bounds_u8 hw
  refine ⟨UInt8.ofNat n.toNat, ?_⟩
  have e : ((UInt8.ofNat n.toNat).toNat : Int) = n := by
    simp
    omega
  rw [u8, e]
theorem arg_plain {m : Nat} {t : TypeId} {x : PV} (hp : partsOf Tryz.prog t = none) (h : ArgT Tryz.prog m t x) : TyT Tryz.prog m t [x] := by
  simpa only [ArgT, hp] using h
end Go.Proofs.YtohfoaplnjcihaaGreatDoor

namespace Go.Proofs.YtohfoaplnjcihaaGreatDoor
open Go Y
set_option maxRecDepth 100000
theorem own : ownKnob Tryz.prog.godebug = none := by kernel_rfl
abbrev laidP : List (String × DataW Unit) := [("math/bits.deBruijn32tab", Rows.laid_math_bits_deBruijn32tab), ("math/bits.deBruijn64tab", Rows.laid_math_bits_deBruijn64tab), ("internal/strconv.uint64pow10", Rows.laid_internal_strconv_uint64pow10), ("haruspex/lex.keys", Rows.laid_haruspex_lex_keys), ("haruspex/lex.marks", Rows.laid_haruspex_lex_marks)]
theorem door_metP (os : Os) (args : Array Value) : laidMetH Tryz.prog laidP ((World.laidAll Tryz.prog os laidP).forCall (fun _ _ => 0) ⟨#[], args, []⟩).memory := by
  rw [MakeChecks.laidMetH_plain _ _ _ (by kernel_rfl)]
  exact laidMet_laidAll _ (by kernel_rfl) (by kernel_rfl)
abbrev gt3 : List (Nat × List PV) := [(5, pow10L.map (.int .u64)), (0, keysL.map .str), (1, marksL.map .str)]
theorem gt_okP : gtOK Tryz.prog 4 gt3 [("internal/strconv.uint64pow10", Rows.laid_internal_strconv_uint64pow10), ("haruspex/lex.keys", Rows.laid_haruspex_lex_keys), ("haruspex/lex.marks", Rows.laid_haruspex_lex_marks)] :=
  ⟨by kernel_rfl, ⟨245, by kernel_rfl, by kernel_rfl⟩, rfl, by kernel_rfl, ⟨226, by kernel_rfl, by kernel_rfl⟩, rfl, by kernel_rfl, ⟨227, by kernel_rfl, by kernel_rfl⟩, rfl, trivial⟩
theorem gget_cases {k n : Nat} {o cs : List PV} {r : List (Nat × List PV)} (h : gget ((k, o) :: r) n = some cs) : (k = n ∧ o = cs) ∨ (¬ k = n ∧ gget r n = some cs) := by
  simp only [gget] at h
  split at h
  · rename_i e
    injection h with h
    exact .inl ⟨Nat.eq_of_beq_eq_true e, h⟩
  · rename_i e
    exact .inr ⟨fun c => by rw [c] at e; simp at e, h⟩
theorem gt_reord {g : Nat} {cs : List PV} (h : gget cx.gt g = some cs) : gget gt3 g = some cs := by
  rcases gget_cases h with ⟨rfl, rfl⟩ | ⟨_, h⟩
  · rfl
  · rcases gget_cases h with ⟨rfl, rfl⟩ | ⟨_, h⟩
    · rfl
    · rcases gget_cases h with ⟨rfl, rfl⟩ | ⟨_, h⟩
      · rfl
      · cases h
theorem glob_okP {W : World} (h : laidMetH Tryz.prog laidP W) : ∀ g cs, gget cx.gt g = some cs → GlobV (fzOf W) g cs := by
  rw [MakeChecks.laidMetH_plain _ _ _ (by kernel_rfl)] at h
  obtain ⟨ps, h, _⟩ := h
  obtain ⟨_, _, _, _, _, _, _, _, _, _, h, _⟩ := h
  obtain ⟨_, _, _, _, _, _, _, _, _, _, h, _⟩ := h
  intro g cs hg
  exact glob_of_laid gt_okP h g cs (gt_reord hg)
end Go.Proofs.YtohfoaplnjcihaaGreatDoor

namespace Go.Proofs.YtohfoaplnjcihaaGreatDoor
open Go Y
set_option maxRecDepth 100000
theorem parseLong_pure : ∀ xs, ArgsT Tryz.prog 8 Tryz.f5.params.toList xs → Pure cx 5 xs (· = .ret [.bool true]) := by
  intro xs h
  rw [Tryz.params5] at h
  obtain ⟨x0, _, rfl, h0, x1, _, rfl, h1, rfl⟩ := h
  obtain ⟨v0, e0⟩ := ty_u8 (arg_plain (by simp [partsOf, Tryz.underlying5]) h0)
  injection e0 with e0
  subst e0
  obtain ⟨v1, e1⟩ := ty_u8 (arg_plain (by simp [partsOf, Tryz.underlying5]) h1)
  injection e1 with e1
  subst e1
  exact parseLong_c v0 v1
theorem parseLong_lifted (os : Os) (started : os.Started) (H : Type) (enc : TypeId × Value → H) :
    ReturnsInHanded {} Tryz.checked os 5 .any (fun w args => (Rows.parseLongSpec.pre enc Tryz.prog Tryz.f5 [] false w args ∧ laidMetH Tryz.prog laidP w) ∧ sizedMet enc Tryz.prog Tryz.f5 (OpenSpec.ofChange Rows.parseLongSpec) false w args)
      (Rows.parseLongSpec.post enc Tryz.prog Tryz.f5 false true false false) := by
  refine returnsInHanded_of_change_and (C := Tryz.checked) (X := fun w _ => laidMetH Tryz.prog laidP w) (fun _ _ _ hh h => h.of_heap hh) own started (by kernel_rfl) Tryz.func5
    (ChangeSpec.witness_shaped (enc := enc) (C := Tryz.checked) (os := os) (X := fun w _ => laidMetH Tryz.prog laidP w) false (World.laidAll Tryz.prog os laidP) #[.int .u8 0, .int .u8 0] 8 (World.laidAll_os _ _ _) (World.shaped_of_ZipB (by kernel_rfl) (by kernel_rfl)) (by kernel_rfl) (by kernel_rfl) (by kernel_rfl) (door_metP os _)) ?_
  intro W base args ds gs before hval hW _ _ hL _
  obtain ⟨p, q, hA, hV, _⟩ := id hW
  have hs : Tryz.f5.params.toList.all (supp Tryz.prog 8) = true := by kernel_rfl
  obtain ⟨_, _, _, hlen⟩ := args_of hs (fun j t v ht hv => hval j t v (by simpa using ht) (by simpa using hv)) hA
  refine (calls_of_pure (cx := cx) Tryz.func5 (by kernel_rfl) rfl hs parseLong_pure hval hA (glob_okP hL)).mono fun e W' ⟨he, h1, h2, h3⟩ => ?_
  subst he
  exact ⟨_, rfl, post_of_kept (cx := cx) (m := 8) hs rfl (by kernel_rfl) Tryz.underlying4 (fun ds h => by
    rw [Tryz.params5] at h
    match ds, h with
    | [_, _], _ => rfl) hW hlen h1 h2 h3⟩
theorem parseLong_holds : Rows.ParseLongSaid :=
  OpenClaim.holds_of_wide 5 Tryz.f5 rfl rfl rfl rfl rfl rfl rfl ⟨rfl, rfl, rfl, rfl, rfl⟩ rfl rfl rfl rfl rfl (by kernel_rfl) Tryz.func5 (by kernel_rfl)
    (of_decide_eq_true (by kernel_rfl)) (by unfold Func.isWrapper; first | (rw [if_pos (by decide +kernel)]; kernel_rfl) | (rw [if_neg (by decide +kernel)]; exact ⟨rfl, rfl⟩))
    (fun os started H enc _ => parseLong_lifted os started H enc)
theorem parseLong_card : Rows.ParseLongCardSaid :=
  Claim7.holds_tied_plain_at .later [] [.data, .data, .data, .data, .data] true (true, "b46c99eb2204dd8b467615443c82243f622f25a7b7341c27729da0866b8561af") true
    parseLong_holds (fun _ h => by cases h) (by kernel_rfl) (fun _ h => by cases h) parseLong_row_tie rfl ⟨rfl, rfl⟩ (by kernel_rfl) rfl
    (fun f fn hf hfn => by
      obtain rfl : f = 5 := Option.some.inj ((show Tryz.prog.funcNamed "haruspex/haruspexlaw38.ParseLong" = some 5 by kernel_rfl).symm.trans hf) |>.symm
      obtain rfl : fn = Tryz.f5 := (Option.some.inj (Tryz.func5.symm.trans hfn)).symm
      exact ⟨by kernel_rfl, fun j t ht => by
        have hall : (Tryz.f5.params.toList.all fun u => !Tryz.prog.wantsStandIn u) = true := by kernel_rfl
        exact (show Tryz.prog.wantsStandIn t = false by simpa using List.all_eq_true.1 hall t (by simpa using Array.mem_of_getElem? ht))⟩)
    (by kernel_rfl)
#print axioms parseLong_card
end Go.Proofs.YtohfoaplnjcihaaGreatDoor
