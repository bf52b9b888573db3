/- The chapter's examples. -/
import Derived.Test.YtemlkodkohgmmaaDoorLs
namespace Go.Proofs.YtemlkodkohgmmaaDoor
open Go Y
set_option maxRecDepth 100000
set_option maxHeartbeats 4000000

theorem works_c : Pure cx 13 [] (· = .ret [.bool true]) := by
  have e0 : givesN [110, 111, 100, 101, 32, 97, 50, 58, 51] [⟨2, [110, 111, 100, 101], 1, 1⟩, ⟨1, [97, 50], 1, 6⟩, ⟨4, [58], 1, 8⟩, ⟨3, [51], 1, 9⟩] = true := by decide
  have e1 : givesN [120, 45, 45, 121, 10, 32, 40, 42, 97, 40, 42, 98, 42, 41, 99, 42, 41, 60, 61, 46, 46] [⟨1, [120], 1, 1⟩, ⟨4, [60, 61], 2, 13⟩, ⟨4, [46, 46], 2, 15⟩] = true := by decide
  have e2 : givesN [45, 32, 45] [⟨4, [45], 1, 1⟩, ⟨4, [45], 1, 3⟩] = true := by decide
  have e3 : givesN [45, 45] [] = true := by decide
  have e4 : refusedN [97, 32, 40, 42, 32, 98, 32, 40, 42, 32, 99, 32, 42, 41] 1 3 370 = true := by decide
  have e5 : refusedN [40, 42, 41] 1 1 370 = true := by decide
  have e6 : refusedN [97, 32, 47, 98] 1 3 370 = true := by decide
  have e7 : refusedN [48, 48, 55] 1 1 370 = true := by decide
  have e8 : refusedN [49, 97] 1 1 370 = true := by decide
  have e9 : refusedN [97, 98, 99, 100, 101, 102, 103, 104, 105, 106, 107] 1 1 370 = true := by decide
  have e10 : joinsN [10, 32, 32, 120, 61] [⟨1, [120], 2, 3⟩, ⟨4, [61], 2, 4⟩] = true := by decide
  have e11 : joinsN [] [] = true := by decide
  have e12 : (joinN [⟨1, [120], 1, 1⟩, ⟨1, [121], 1, 2⟩]).2 = 371 := by decide
  have e13 : (joinN [⟨4, [45], 1, 1⟩, ⟨4, [45], 1, 2⟩]).2 = 371 := by decide
  have e14 : (joinN [⟨1, [120], 1, 2⟩, ⟨1, [121], 1, 1⟩]).2 = 371 := by decide
  have e15 : (joinN [⟨2, [110, 111, 100], 1, 1⟩]).2 = 370 := by decide
  refine pure_of_vc Tryd.func13 rfl rfl rfl ?_
  refine (lawWord_c 2 [110, 111, 100, 101] 1 1).eq rfl ?_
  refine (lawWord_c 1 [97, 50] 1 6).eq rfl ?_
  refine (lawWord_c 4 [58] 1 8).eq rfl ?_
  refine (lawWord_c 3 [51] 1 9).eq rfl ?_
  have g := gives_c [110, 111, 100, 101, 32, 97, 50, 58, 51] [⟨2, [110, 111, 100, 101], 1, 1⟩, ⟨1, [97, 50], 1, 6⟩, ⟨4, [58], 1, 8⟩, ⟨3, [51], 1, 9⟩] (by decide)
  rw [e0] at g
  refine g.lends [0] rfl ⟨_, _, rfl, rfl, _, _, rfl, ⟨_, rfl, by decide, rfl⟩, rfl⟩ ?_
  clear g
  refine (lawWord_c 1 [120] 1 1).eq rfl ?_
  refine (lawWord_c 4 [60, 61] 2 13).eq rfl ?_
  refine (lawWord_c 4 [46, 46] 2 15).eq rfl ?_
  have g := gives_c [120, 45, 45, 121, 10, 32, 40, 42, 97, 40, 42, 98, 42, 41, 99, 42, 41, 60, 61, 46, 46] [⟨1, [120], 1, 1⟩, ⟨4, [60, 61], 2, 13⟩, ⟨4, [46, 46], 2, 15⟩] (by decide)
  rw [e1] at g
  refine g.lends [1] rfl ⟨_, _, rfl, rfl, _, _, rfl, ⟨_, rfl, by decide, rfl⟩, rfl⟩ ?_
  clear g
  refine (lawWord_c 4 [45] 1 1).eq rfl ?_
  refine (lawWord_c 4 [45] 1 3).eq rfl ?_
  have g := gives_c [45, 32, 45] [⟨4, [45], 1, 1⟩, ⟨4, [45], 1, 3⟩] (by decide)
  rw [e2] at g
  refine g.lends [2] rfl ⟨_, _, rfl, rfl, _, _, rfl, ⟨_, rfl, by decide, rfl⟩, rfl⟩ ?_
  clear g
  have g := gives_c [45, 45] [] (by decide)
  rw [e3] at g
  refine g.lends [] rfl ⟨_, _, rfl, rfl, _, _, rfl, .inr (.inr ⟨4, rfl⟩), rfl⟩ ?_
  clear g
  have g := refused_c [97, 32, 40, 42, 32, 98, 32, 40, 42, 32, 99, 32, 42, 41] 1 3 370
  rw [e4] at g
  refine g.eq rfl ?_
  clear g
  have g := refused_c [40, 42, 41] 1 1 370
  rw [e5] at g
  refine g.eq rfl ?_
  clear g
  have g := refused_c [97, 32, 47, 98] 1 3 370
  rw [e6] at g
  refine g.eq rfl ?_
  clear g
  have g := refused_c [48, 48, 55] 1 1 370
  rw [e7] at g
  refine g.eq rfl ?_
  clear g
  have g := refused_c [49, 97] 1 1 370
  rw [e8] at g
  refine g.eq rfl ?_
  clear g
  have g := refused_c [97, 98, 99, 100, 101, 102, 103, 104, 105, 106, 107] 1 1 370
  rw [e9] at g
  refine g.eq rfl ?_
  clear g
  refine (lawWord_c 1 [120] 2 3).eq rfl ?_
  refine (lawWord_c 4 [61] 2 4).eq rfl ?_
  have g := joins_c [10, 32, 32, 120, 61] [⟨1, [120], 2, 3⟩, ⟨4, [61], 2, 4⟩] (by decide)
  rw [e10] at g
  refine g.lends [3] rfl ⟨_, _, rfl, rfl, _, _, rfl, ⟨_, rfl, by decide, rfl⟩, rfl⟩ ?_
  clear g
  have g := joins_c [] [] (by decide)
  rw [e11] at g
  refine g.lends [] rfl ⟨_, _, rfl, rfl, _, _, rfl, .inr (.inr ⟨4, rfl⟩), rfl⟩ ?_
  clear g
  refine (lawWord_c 1 [120] 1 1).eq rfl ?_
  refine (lawWord_c 1 [121] 1 2).eq rfl ?_
  have g := apart_c [⟨1, [120], 1, 1⟩, ⟨1, [121], 1, 2⟩] (by decide)
  rw [e12] at g
  refine g.lends [4] rfl ⟨_, _, rfl, ⟨_, rfl, by decide, rfl⟩, rfl⟩ ?_
  refine And.intro (fun h => ?_) (fun h => absurd (show (371 : Int) = 371 from rfl) h)
  clear g h
  refine (lawWord_c 4 [45] 1 1).eq rfl ?_
  refine (lawWord_c 4 [45] 1 2).eq rfl ?_
  have g := apart_c [⟨4, [45], 1, 1⟩, ⟨4, [45], 1, 2⟩] (by decide)
  rw [e13] at g
  refine g.lends [5] rfl ⟨_, _, rfl, ⟨_, rfl, by decide, rfl⟩, rfl⟩ ?_
  refine And.intro (fun h => ?_) (fun h => absurd (show (371 : Int) = 371 from rfl) h)
  clear g h
  refine (lawWord_c 1 [120] 1 2).eq rfl ?_
  refine (lawWord_c 1 [121] 1 1).eq rfl ?_
  have g := apart_c [⟨1, [120], 1, 2⟩, ⟨1, [121], 1, 1⟩] (by decide)
  rw [e14] at g
  refine g.lends [6] rfl ⟨_, _, rfl, ⟨_, rfl, by decide, rfl⟩, rfl⟩ ?_
  refine And.intro (fun h => ?_) (fun h => absurd (show (371 : Int) = 371 from rfl) h)
  clear g h
  refine (lawWord_c 2 [110, 111, 100] 1 1).eq rfl ?_
  have g := apart_c [⟨2, [110, 111, 100], 1, 1⟩] (by decide)
  rw [e15] at g
  refine g.lends [7] rfl ⟨_, _, rfl, ⟨_, rfl, by decide, rfl⟩, rfl⟩ ?_
  refine And.intro (fun h => ?_) (fun h => absurd (show (370 : Int) = 370 from rfl) h)
  clear g h
  exact end1 _ rfl rfl rfl
end Go.Proofs.YtemlkodkohgmmaaDoor
