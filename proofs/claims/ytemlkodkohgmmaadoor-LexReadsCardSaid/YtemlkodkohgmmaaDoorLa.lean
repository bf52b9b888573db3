/- The small functions of package lex. -/
import Derived.Test.YtemlkodkohgmmaaDoorProg
import Derived.Test.YtemlkodkohgmmaaDoorYw
namespace Go.Proofs.YtemlkodkohgmmaaDoor
open Go Y

def keysL : List (List UInt8) := [[103, 114, 97, 105, 110], [112, 108, 97, 116, 101], [110, 111, 100, 101], [99, 104, 111, 111, 115, 101], [103, 97, 105, 110], [102, 114, 111, 109], [115, 101, 101, 105, 110, 103], [101, 108, 115, 101], [97, 110, 100], [111, 114], [110, 111, 116], [105, 110], [97, 108, 108], [99, 111, 117, 110, 116]]
def marksL : List (List UInt8) := [[58], [59], [44], [40], [41], [91], [93], [123], [125], [61], [60], [43], [45], [47, 61], [60, 61], [46, 46]]

noncomputable def cx : Cx := ⟨Tryd.prog, [(0, keysL.map .str), (1, marksL.map .str)]⟩

abbrev u8 (b : UInt8) : PV := .int .u8 (b.toNat : Int)
abbrev i64 (n : Int) : PV := .int .i64 n

def isDig (b : UInt8) : Bool := decide (48 ≤ b.toNat) && decide (b.toNat ≤ 57)
def isLet (b : UInt8) : Bool := (decide (65 ≤ b.toNat) && decide (b.toNat ≤ 90)) || (decide (97 ≤ b.toNat) && decide (b.toNat ≤ 122))
def isAln (b : UInt8) : Bool := isDig b || isLet b

set_option maxRecDepth 100000

theorem retB {a b : Bool} (h : a = b) : PEnd.ret [.bool a] = .ret [.bool b] := by rw [h]
theorem retI {k : IntKind} {a b : Int} (h : a = b) : PEnd.ret [.int k a] = .ret [.int k b] := by rw [h]

theorem digit_c (b : UInt8) : Pure cx 69 [u8 b] (· = .ret [.bool (isDig b)]) := by
  refine pure_of_vc Tryd.func69 rfl rfl rfl ?_
  refine And.intro (fun h1 => ?_) (fun h1 => ?_)
  · refine And.intro (fun h2 => ?_) (fun h2 => ?_)
    · exact end1 _ rfl rfl (retB (by simp [isDig]; omega))
    · exact end1 _ rfl rfl (retB (by simp [isDig]; omega))
  · exact end1 _ rfl rfl (retB (by simp [isDig]; omega))
theorem letter_c (b : UInt8) : Pure cx 65 [u8 b] (· = .ret [.bool (isLet b)]) := by
  refine pure_of_vc Tryd.func65 rfl rfl rfl ?_
  refine And.intro (fun h1 => ?_) (fun h1 => ?_)
  · refine And.intro (fun h2 => ?_) (fun h2 => ?_)
    · exact end1 _ rfl rfl (retB (by simp [isLet]; omega))
    · refine And.intro (fun h3 => ?_) (fun h3 => ?_)
      · refine And.intro (fun h4 => ?_) (fun h4 => ?_)
        · exact end1 _ rfl rfl (retB (by simp [isLet]; omega))
        · exact end1 _ rfl rfl (retB (by simp [isLet]; omega))
      · exact end1 _ rfl rfl (retB (by simp [isLet]; omega))
  · refine And.intro (fun h3 => ?_) (fun h3 => ?_)
    · refine And.intro (fun h4 => ?_) (fun h4 => ?_)
      · exact end1 _ rfl rfl (retB (by simp [isLet]; omega))
      · exact end1 _ rfl rfl (retB (by simp [isLet]; omega))
    · exact end1 _ rfl rfl (retB (by simp [isLet]; omega))
theorem alnum_c (b : UInt8) : Pure cx 67 [u8 b] (· = .ret [.bool (isAln b)]) := by
  refine pure_of_vc Tryd.func67 rfl rfl rfl ?_
  refine (digit_c b).eq rfl ?_
  cases hd : isDig b
  · refine (letter_c b).eq rfl ?_
    exact end1 _ rfl rfl (retB (by simp [isAln, hd]))
  · exact end1 _ rfl rfl (retB (by simp [isAln, hd]))

/-- How many octets at the beginning are in a set. -/
def spanN (f : UInt8 → Bool) : List UInt8 → Nat
  | [] => 0
  | c :: r => if f c then spanN f r + 1 else 0
theorem spanN_le (f : UInt8 → Bool) (s : List UInt8) : spanN f s ≤ s.length := by
  induction s with
  | nil => simp [spanN]
  | cons c r ih => simp only [spanN]; split <;> simp <;> omega

theorem run_c (s : List UInt8) : Pure cx 66 [.str s] (· = .ret [.fn (.func 84) [] [.fp [.str s]]]) := by
  refine pure_of_vc Tryd.func66 rfl rfl rfl ?_
  exact end1 _ rfl ⟨rfl, _, _, rfl, rfl, ⟨_, _, rfl, ⟨_, rfl, _, _, rfl, rfl, rfl⟩, rfl⟩⟩ rfl

theorem run1_c (g : FuncId) (f : UInt8 → Bool) (hf : ∀ b, Pure cx g [u8 b] (· = .ret [.bool (f b)])) (s : List UInt8) (hs : s.length ≤ 100000) :
    Pure cx 84 [.fn (.func g) [] [], .fp [.str s]] (· = .ret [i64 (spanN f s)]) := by
  refine pure_of_vc Tryd.func84 rfl rfl rfl ?_
  refine ⟨Nat, fun k => [(4, .p (i64 k)), (0, .p (.fn (.func g) [] [])), (1, .p (.fp [.str s]))], fun _ => ⟨0, []⟩, fun k => k ≤ s.length ∧ spanN f s = k + spanN f (s.drop k), fun k => s.length - k, ?_, ?_⟩
  · exact ⟨0, ⟨by omega, by simp⟩, ent0 rfl ⟨rfl, rfl, rfl, trivial⟩ trivial rfl⟩
  · rintro k ⟨hk, he⟩
    refine And.intro (fun h1 => ?_) (fun h1 => ?_)
    · have hk' : k < s.length := by omega
      have hc : s.drop k = s[k] :: s.drop (k + 1) := List.drop_eq_getElem_cons hk'
      refine ⟨_, ⟨by omega, s[k], List.getElem?_eq_getElem hk', rfl⟩, ?_⟩
      refine (hf s[k]).eq rfl ?_
      cases hb : f s[k]
      · refine end1 _ rfl rfl (retI ?_)
        rw [he, hc]
        simp [spanN, hb]
      · refine ⟨(k : Int) + 1, wrap_i64 (by omega) (by omega), k + 1, ⟨by omega, ?_⟩, ent0 rfl ⟨rfl, rfl, rfl, trivial⟩ trivial rfl, ?_⟩
        · rw [he, hc]
          simp [spanN, hb]
          omega
        · show s.length - (k + 1) < s.length - k
          omega
    · have : k = s.length := by omega
      subst this
      refine end1 _ rfl rfl (retI ?_)
      rw [he]
      simp [spanN]
end Go.Proofs.YtemlkodkohgmmaaDoor
