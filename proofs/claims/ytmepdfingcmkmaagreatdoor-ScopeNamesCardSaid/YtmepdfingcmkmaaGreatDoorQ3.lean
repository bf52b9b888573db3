/- Part 3 of the proof: Lf Lg Lh Li Lj Lk Ll Lm Ka Kb Kc Kd Ke Kf Kg Kh Sq Ki Kj Kk Kl Km Kn Ba Ln Ko Kp Kq Kr Ks Ta Tb Tc -/
import Derived.Shelf.Strings.Builder1
import Derived.Shelf.Strings.Builder2
import Derived.Shelf.Small.Bits
import Derived.Shelf.Strings.BuilderF
import Derived.Shelf.Strconv.Itoa0
import Derived.Shelf.Sort.Plain
import Derived.Shelf.Strings.Prefix
import Derived.Shelf.Bits.Mul64
import Derived.Shelf.Strings.Repeat
import Derived.Ground.Names2Prog
import Derived.Shelf.Slices.CompactI
import Derived.Shelf.Slices.SearchI
import Derived.Shelf.Slices.Cells
import Derived.Shelf.Slices.In.SortNone
import Derived.Test.YtmepdfingcmkmaaGreatDoorProg
import Derived.Lib.MakeNoZero
import Derived.Laws.Externs
import Derived.Test.YtmepdfingcmkmaaGreatDoorQ2
namespace Go.Proofs.YtmepdfingcmkmaaGreatDoor
open Go Y
set_option maxRecDepth 100000
set_option maxHeartbeats 4000000
structure Wd where
 kind:Int
 text:List UInt8
 line:Int
 col:Int
deriving DecidableEq
abbrev Wd.cells (w:Wd):List PV:=[i64 w.kind, .str w.text,i64 w.line,i64 w.col]
def oneN (r : List UInt8) : Int × List UInt8 :=
  if 0 < spanN isAln r then
    (if inL keysL (r.take (spanN isAln r)) then (2, r.take (spanN isAln r))
     else if isDig ((r.take (spanN isAln r)).headD 0) then (3, r.take (spanN isAln r)) else (1, r.take (spanN isAln r)))
  else if 1 < r.length && inL marksL (r.take 2) then (4, r.take 2) else (4, r.take 1)
theorem word_c (s:List UInt8) (hs:s.length≤8000) (k:Nat) (hk:k<s.length) :
  HoldsG cx 100 [.ptr 0 0 0] (rs s k) fun e H'=>match rightN (oneN (s.drop k)).1 (oneN (s.drop k)).2 with
   | true=>k+(oneN (s.drop k)).2.length≤s.length∧e=.returned (.p (.agg (Wd.cells ⟨(oneN (s.drop k)).1,(oneN (s.drop k)).2,(at_ s k).1,(at_ s k).2⟩)))∧H'=rs s (k+(oneN (s.drop k)).2.length)
   | false=>e=.panicked [⟨.p (err (at_ s k) 370),false⟩]∧H'=rs s k:=by
 refine holdsN_of_vc Tryz.func100 rfl rfl rfl ?_
 have hr:s.drop k=s[k]::s.drop (k+1):=List.drop_eq_getElem_cons hk
 have hlen:(s.drop k).length=s.length - k:=List.length_drop
 have hsp:=spanN_le isAln (s.drop k)
 refine VDraw.seqTo [(0, .ptr 0 0 0),(2, .ptr 1 0 0),(3, .ptr 2 0 0)] ⟨3,[(0,⟨157,false, .bx (rdr (at_ s k) s k)⟩),(1,⟨122,false, .bx [.p (i64 0),vS [], .p (i64 0), .p (i64 0)]⟩),(2,⟨122,false, .bx [.p (i64 4),vS [], .p (i64 (at_ s k).1), .p (i64 (at_ s k).2)]⟩)]⟩ rfl ?_ ?_
 ·refine⟨sk,?_⟩
  exact ent0 rfl ⟨⟨rfl,rfl⟩,⟨rfl,rfl⟩,⟨rfl,rfl⟩,trivial⟩ ⟨⟨_,rfl,rfl,rfl,_,rfl,_,_,rfl,rfl,_,_,rfl,rfl,_,_,rfl,rfl,_,_,rfl,rfl,rfl⟩,⟨_,rfl,rfl,rfl,_,rfl,_,_,rfl,rfl,_,_,rfl,rfl,_,_,rfl,rfl,_,_,rfl,rfl,rfl⟩,⟨_,rfl,rfl,rfl,_,rfl,_,_,rfl,rfl,_,_,rfl,rfl,_,_,rfl,rfl,_,_,rfl,rfl,rfl⟩,trivial⟩ rfl
 refine VDraw.seqTo [(0, .ptr 0 0 0),(2, .ptr 1 0 0),(3, .ptr 2 0 0),(4,vS (s.drop k))] ⟨3,[(0,⟨157,false, .bx (rdr (at_ s k) s k)⟩),(1,⟨122,false, .bx [.p (i64 0),vS [], .p (i64 0), .p (i64 0)]⟩),(2,⟨122,false, .bx [.p (i64 4),vS [], .p (i64 (at_ s k).1), .p (i64 (at_ s k).2)]⟩)]⟩ rfl ?_ ?_
 ·refine⟨⟨by omega,by omega⟩,?_⟩
  exact ent0 rfl ⟨⟨rfl,rfl⟩,⟨rfl,rfl⟩,⟨rfl,rfl⟩,rfl,trivial⟩ ⟨⟨_,rfl,rfl,rfl,_,rfl,_,_,rfl,rfl,_,_,rfl,rfl,_,_,rfl,rfl,_,_,rfl,rfl,rfl⟩,⟨_,rfl,rfl,rfl,_,rfl,_,_,rfl,rfl,_,_,rfl,rfl,_,_,rfl,rfl,_,_,rfl,rfl,rfl⟩,⟨_,rfl,rfl,rfl,_,rfl,_,_,rfl,rfl,_,_,rfl,rfl,_,_,rfl,rfl,_,_,rfl,rfl,rfl⟩,trivial⟩ rfl
 refine(run_c (s.drop k)).eq rfl ?_
 refine(run1_c _ isAln alnum_c (s.drop k) (by omega)).eq rfl ?_
 refine And.intro (fun h1=>?_) (fun h1=>?_)
 ·have h1:(0:Int)<(spanN isAln (s.drop k):Nat):=h1
  refine⟨⟨by omega,by show((spanN isAln (s.drop k):Nat):Int)≤((s.drop k).length:Nat);omega⟩,?_⟩
  have hpos:0<spanN isAln (s.drop k):=by omega
  have htl:((s.drop k).take (spanN isAln (s.drop k))).length=spanN isAln (s.drop k):=by rw [List.length_take];omega
  have hK:=isKey_c ((s.drop k).take (spanN isAln (s.drop k)))
  by_cases hkey:inL keysL ((s.drop k).take (spanN isAln (s.drop k)))=true
  rotate_left
  ·rw [Bool.not_eq_true] at hkey
   rw [hkey] at hK
   refine hK.eq rfl ?_
   obtain⟨c,r,hcr⟩:∃ c r,(s.drop k).take (spanN isAln (s.drop k))=c::r:=by
    cases ht:(s.drop k).take (spanN isAln (s.drop k)) with
    | nil=>rw [ht] at htl;simp at htl;omega
    | cons c r=>exact⟨c,r,rfl⟩
   refine⟨_,⟨by omega,c,by show((s.drop k).take (spanN isAln (s.drop k)))[0]?=_;rw [hcr];rfl,rfl⟩,?_⟩
   have hD:=digit_c c
   by_cases hd:isDig c=true
   rotate_left
   ·rw [Bool.not_eq_true] at hd
    rw [hd] at hD
    refine hD.eq rfl ?_
    have e1:=(show oneN (s.drop k)=(1,(s.drop k).take (spanN isAln (s.drop k))) by rw [oneN,if_pos hpos,if_neg (by rw [hkey];simp),if_neg (by rw [hcr];simp [hd])])
    have hl:=(show k+((s.drop k).take (spanN isAln (s.drop k))).length≤s.length by omega)
    have hP:=proper_c 1 ((s.drop k).take (spanN isAln (s.drop k))) (by omega)
    by_cases hp:rightN 1 ((s.drop k).take (spanN isAln (s.drop k)))=true
    rotate_left
    ·rw [Bool.not_eq_true] at hp
     rw [hp] at hP
     refine hP.eq rfl ?_
     refine⟨[],[],[], .panicked [⟨.p (err (at_ s k) 370),false⟩],rs s k,rfl,⟨_,rfl,_,_,rfl,rfl,rfl⟩,⟨⟨_,rfl,rfl,rfl,_,rfl,_,_,rfl,rfl,_,_,rfl,rfl,_,_,rfl,rfl,_,_,rfl,rfl,rfl⟩,trivial⟩,?_⟩
     rw [e1]
     show(match rightN 1 ((s.drop k).take (spanN isAln (s.drop k))) with | true=>_ | false=>_)
     rw [hp]
     exact⟨rfl,rfl⟩
    ·rw [hp] at hP
     refine hP.eq rfl ?_
     refine(step_c s hs k (List.length ((s.drop k).take (spanN isAln (s.drop k)))) (by omega)).useE [] [] rfl ⟨⟨_,rfl,rfl,rfl,_,rfl,_,_,rfl,rfl,_,_,rfl,rfl,_,_,rfl,rfl,_,_,rfl,rfl,rfl⟩,trivial⟩ ⟨_,_,rfl,⟨rfl,rfl⟩,_,_,rfl,rfl,rfl⟩ ?_
     refine⟨[],[],[], .returned (.p (.agg (Wd.cells ⟨1,((s.drop k).take (spanN isAln (s.drop k))),(at_ s k).1,(at_ s k).2⟩))),rs s (k+(List.length ((s.drop k).take (spanN isAln (s.drop k))))),rfl,⟨_,rfl,rfl⟩,⟨⟨_,rfl,rfl,rfl,_,rfl,_,_,rfl,rfl,_,_,rfl,rfl,_,_,rfl,rfl,_,_,rfl,rfl,rfl⟩,trivial⟩,?_⟩
     rw [e1]
     show(match rightN 1 ((s.drop k).take (spanN isAln (s.drop k))) with | true=>_ | false=>_)
     rw [hp]
     exact⟨by omega,rfl,rfl⟩
   ·rw [hd] at hD
    refine hD.eq rfl ?_
    have e1:=(show oneN (s.drop k)=(3,(s.drop k).take (spanN isAln (s.drop k))) by rw [oneN,if_pos hpos,if_neg (by rw [hkey];simp),if_pos (by rw [hcr];simp [hd])])
    have hl:=(show k+((s.drop k).take (spanN isAln (s.drop k))).length≤s.length by omega)
    have hP:=proper_c 3 ((s.drop k).take (spanN isAln (s.drop k))) (by omega)
    by_cases hp:rightN 3 ((s.drop k).take (spanN isAln (s.drop k)))=true
    rotate_left
    ·rw [Bool.not_eq_true] at hp
     rw [hp] at hP
     refine hP.eq rfl ?_
     refine⟨[],[],[], .panicked [⟨.p (err (at_ s k) 370),false⟩],rs s k,rfl,⟨_,rfl,_,_,rfl,rfl,rfl⟩,⟨⟨_,rfl,rfl,rfl,_,rfl,_,_,rfl,rfl,_,_,rfl,rfl,_,_,rfl,rfl,_,_,rfl,rfl,rfl⟩,trivial⟩,?_⟩
     rw [e1]
     show(match rightN 3 ((s.drop k).take (spanN isAln (s.drop k))) with | true=>_ | false=>_)
     rw [hp]
     exact⟨rfl,rfl⟩
    ·rw [hp] at hP
     refine hP.eq rfl ?_
     refine(step_c s hs k (List.length ((s.drop k).take (spanN isAln (s.drop k)))) (by omega)).useE [] [] rfl ⟨⟨_,rfl,rfl,rfl,_,rfl,_,_,rfl,rfl,_,_,rfl,rfl,_,_,rfl,rfl,_,_,rfl,rfl,rfl⟩,trivial⟩ ⟨_,_,rfl,⟨rfl,rfl⟩,_,_,rfl,rfl,rfl⟩ ?_
     refine⟨[],[],[], .returned (.p (.agg (Wd.cells ⟨3,((s.drop k).take (spanN isAln (s.drop k))),(at_ s k).1,(at_ s k).2⟩))),rs s (k+(List.length ((s.drop k).take (spanN isAln (s.drop k))))),rfl,⟨_,rfl,rfl⟩,⟨⟨_,rfl,rfl,rfl,_,rfl,_,_,rfl,rfl,_,_,rfl,rfl,_,_,rfl,rfl,_,_,rfl,rfl,rfl⟩,trivial⟩,?_⟩
     rw [e1]
     show(match rightN 3 ((s.drop k).take (spanN isAln (s.drop k))) with | true=>_ | false=>_)
     rw [hp]
     exact⟨by omega,rfl,rfl⟩
  ·rw [hkey] at hK
   refine hK.eq rfl ?_
   have e1:=(show oneN (s.drop k)=(2,(s.drop k).take (spanN isAln (s.drop k))) by rw [oneN,if_pos hpos,if_pos hkey])
   have hl:=(show k+((s.drop k).take (spanN isAln (s.drop k))).length≤s.length by omega)
   have hP:=proper_c 2 ((s.drop k).take (spanN isAln (s.drop k))) (by omega)
   by_cases hp:rightN 2 ((s.drop k).take (spanN isAln (s.drop k)))=true
   rotate_left
   ·rw [Bool.not_eq_true] at hp
    rw [hp] at hP
    refine hP.eq rfl ?_
    refine⟨[],[],[], .panicked [⟨.p (err (at_ s k) 370),false⟩],rs s k,rfl,⟨_,rfl,_,_,rfl,rfl,rfl⟩,⟨⟨_,rfl,rfl,rfl,_,rfl,_,_,rfl,rfl,_,_,rfl,rfl,_,_,rfl,rfl,_,_,rfl,rfl,rfl⟩,trivial⟩,?_⟩
    rw [e1]
    show(match rightN 2 ((s.drop k).take (spanN isAln (s.drop k))) with | true=>_ | false=>_)
    rw [hp]
    exact⟨rfl,rfl⟩
   ·rw [hp] at hP
    refine hP.eq rfl ?_
    refine(step_c s hs k (List.length ((s.drop k).take (spanN isAln (s.drop k)))) (by omega)).useE [] [] rfl ⟨⟨_,rfl,rfl,rfl,_,rfl,_,_,rfl,rfl,_,_,rfl,rfl,_,_,rfl,rfl,_,_,rfl,rfl,rfl⟩,trivial⟩ ⟨_,_,rfl,⟨rfl,rfl⟩,_,_,rfl,rfl,rfl⟩ ?_
    refine⟨[],[],[], .returned (.p (.agg (Wd.cells ⟨2,((s.drop k).take (spanN isAln (s.drop k))),(at_ s k).1,(at_ s k).2⟩))),rs s (k+(List.length ((s.drop k).take (spanN isAln (s.drop k))))),rfl,⟨_,rfl,rfl⟩,⟨⟨_,rfl,rfl,rfl,_,rfl,_,_,rfl,rfl,_,_,rfl,rfl,_,_,rfl,rfl,_,_,rfl,rfl,rfl⟩,trivial⟩,?_⟩
    rw [e1]
    show(match rightN 2 ((s.drop k).take (spanN isAln (s.drop k))) with | true=>_ | false=>_)
    rw [hp]
    exact⟨by omega,rfl,rfl⟩
 ·have h1:¬ (0:Int)<(spanN isAln (s.drop k):Nat):=h1
  have hpos:¬ 0<spanN isAln (s.drop k):=by omega
  have ht1:((s.drop k).take 1).length=1:=by rw [List.length_take];omega
  refine And.intro (fun h2=>?_) (fun h2=>?_)
  ·have h2:(1:Int)<((s.drop k).length:Nat):=h2
   have ht2:((s.drop k).take 2).length=2:=by rw [List.length_take];omega
   refine⟨⟨by omega,by show(2:Int)≤((s.drop k).length:Nat);omega⟩,?_⟩
   have hM:=isMark_c ((s.drop k).take 2)
   by_cases hm:inL marksL ((s.drop k).take 2)=true
   rotate_left
   ·rw [Bool.not_eq_true] at hm
    rw [hm] at hM
    refine hM.eq rfl ?_
    refine⟨⟨by omega,by show(1:Int)≤((s.drop k).length:Nat);omega⟩,?_⟩
    have e1:=(show oneN (s.drop k)=(4,(s.drop k).take 1) by rw [oneN,if_neg hpos,if_neg (by rw [hm];simp)])
    have hl:=(show k+((s.drop k).take 1).length≤s.length by omega)
    have hP:=proper_c 4 ((s.drop k).take 1) (by omega)
    by_cases hp:rightN 4 ((s.drop k).take 1)=true
    rotate_left
    ·rw [Bool.not_eq_true] at hp
     rw [hp] at hP
     refine hP.eq rfl ?_
     refine⟨[],[],[], .panicked [⟨.p (err (at_ s k) 370),false⟩],rs s k,rfl,⟨_,rfl,_,_,rfl,rfl,rfl⟩,⟨⟨_,rfl,rfl,rfl,_,rfl,_,_,rfl,rfl,_,_,rfl,rfl,_,_,rfl,rfl,_,_,rfl,rfl,rfl⟩,trivial⟩,?_⟩
     rw [e1]
     show(match rightN 4 ((s.drop k).take 1) with | true=>_ | false=>_)
     rw [hp]
     exact⟨rfl,rfl⟩
    ·rw [hp] at hP
     refine hP.eq rfl ?_
     refine(step_c s hs k (List.length ((s.drop k).take 1)) (by omega)).useE [] [] rfl ⟨⟨_,rfl,rfl,rfl,_,rfl,_,_,rfl,rfl,_,_,rfl,rfl,_,_,rfl,rfl,_,_,rfl,rfl,rfl⟩,trivial⟩ ⟨_,_,rfl,⟨rfl,rfl⟩,_,_,rfl,rfl,rfl⟩ ?_
     refine⟨[],[],[], .returned (.p (.agg (Wd.cells ⟨4,((s.drop k).take 1),(at_ s k).1,(at_ s k).2⟩))),rs s (k+(List.length ((s.drop k).take 1))),rfl,⟨_,rfl,rfl⟩,⟨⟨_,rfl,rfl,rfl,_,rfl,_,_,rfl,rfl,_,_,rfl,rfl,_,_,rfl,rfl,_,_,rfl,rfl,rfl⟩,trivial⟩,?_⟩
     rw [e1]
     show(match rightN 4 ((s.drop k).take 1) with | true=>_ | false=>_)
     rw [hp]
     exact⟨by omega,rfl,rfl⟩
   ·rw [hm] at hM
    refine hM.eq rfl ?_
    refine⟨⟨by omega,by show(2:Int)≤((s.drop k).length:Nat);omega⟩,?_⟩
    have e1:=(show oneN (s.drop k)=(4,(s.drop k).take 2) by rw [oneN,if_neg hpos,if_pos (by rw [hm,decide_eq_true (by omega)];rfl)])
    have hl:=(show k+((s.drop k).take 2).length≤s.length by omega)
    have hP:=proper_c 4 ((s.drop k).take 2) (by omega)
    by_cases hp:rightN 4 ((s.drop k).take 2)=true
    rotate_left
    ·rw [Bool.not_eq_true] at hp
     rw [hp] at hP
     refine hP.eq rfl ?_
     refine⟨[],[],[], .panicked [⟨.p (err (at_ s k) 370),false⟩],rs s k,rfl,⟨_,rfl,_,_,rfl,rfl,rfl⟩,⟨⟨_,rfl,rfl,rfl,_,rfl,_,_,rfl,rfl,_,_,rfl,rfl,_,_,rfl,rfl,_,_,rfl,rfl,rfl⟩,trivial⟩,?_⟩
     rw [e1]
     show(match rightN 4 ((s.drop k).take 2) with | true=>_ | false=>_)
     rw [hp]
     exact⟨rfl,rfl⟩
    ·rw [hp] at hP
     refine hP.eq rfl ?_
     refine(step_c s hs k (List.length ((s.drop k).take 2)) (by omega)).useE [] [] rfl ⟨⟨_,rfl,rfl,rfl,_,rfl,_,_,rfl,rfl,_,_,rfl,rfl,_,_,rfl,rfl,_,_,rfl,rfl,rfl⟩,trivial⟩ ⟨_,_,rfl,⟨rfl,rfl⟩,_,_,rfl,rfl,rfl⟩ ?_
     refine⟨[],[],[], .returned (.p (.agg (Wd.cells ⟨4,((s.drop k).take 2),(at_ s k).1,(at_ s k).2⟩))),rs s (k+(List.length ((s.drop k).take 2))),rfl,⟨_,rfl,rfl⟩,⟨⟨_,rfl,rfl,rfl,_,rfl,_,_,rfl,rfl,_,_,rfl,rfl,_,_,rfl,rfl,_,_,rfl,rfl,rfl⟩,trivial⟩,?_⟩
     rw [e1]
     show(match rightN 4 ((s.drop k).take 2) with | true=>_ | false=>_)
     rw [hp]
     exact⟨by omega,rfl,rfl⟩
  ·have h2:¬ (1:Int)<((s.drop k).length:Nat):=h2
   refine⟨⟨by omega,by show(1:Int)≤((s.drop k).length:Nat);omega⟩,?_⟩
   have e1:=(show oneN (s.drop k)=(4,(s.drop k).take 1) by rw [oneN,if_neg hpos,if_neg (by rw [decide_eq_false (by omega)];simp)])
   have hl:=(show k+((s.drop k).take 1).length≤s.length by omega)
   have hP:=proper_c 4 ((s.drop k).take 1) (by omega)
   by_cases hp:rightN 4 ((s.drop k).take 1)=true
   rotate_left
   ·rw [Bool.not_eq_true] at hp
    rw [hp] at hP
    refine hP.eq rfl ?_
    refine⟨[],[],[], .panicked [⟨.p (err (at_ s k) 370),false⟩],rs s k,rfl,⟨_,rfl,_,_,rfl,rfl,rfl⟩,⟨⟨_,rfl,rfl,rfl,_,rfl,_,_,rfl,rfl,_,_,rfl,rfl,_,_,rfl,rfl,_,_,rfl,rfl,rfl⟩,trivial⟩,?_⟩
    rw [e1]
    show(match rightN 4 ((s.drop k).take 1) with | true=>_ | false=>_)
    rw [hp]
    exact⟨rfl,rfl⟩
   ·rw [hp] at hP
    refine hP.eq rfl ?_
    refine(step_c s hs k (List.length ((s.drop k).take 1)) (by omega)).useE [] [] rfl ⟨⟨_,rfl,rfl,rfl,_,rfl,_,_,rfl,rfl,_,_,rfl,rfl,_,_,rfl,rfl,_,_,rfl,rfl,rfl⟩,trivial⟩ ⟨_,_,rfl,⟨rfl,rfl⟩,_,_,rfl,rfl,rfl⟩ ?_
    refine⟨[],[],[], .returned (.p (.agg (Wd.cells ⟨4,((s.drop k).take 1),(at_ s k).1,(at_ s k).2⟩))),rs s (k+(List.length ((s.drop k).take 1))),rfl,⟨_,rfl,rfl⟩,⟨⟨_,rfl,rfl,rfl,_,rfl,_,_,rfl,rfl,_,_,rfl,rfl,_,_,rfl,rfl,_,_,rfl,rfl,rfl⟩,trivial⟩,?_⟩
    rw [e1]
    show(match rightN 4 ((s.drop k).take 1) with | true=>_ | false=>_)
    rw [hp]
    exact⟨by omega,rfl,rfl⟩
inductive RdR where
 | ok (ws:List Wd)
 | err (p:Nat × Nat) (c:Int)
def readB (rec:Nat→List Wd→RdR) (s:List UInt8) (k:Nat) (acc:List Wd):RdR:=
 if s.length≤k then .ok acc
 else match rightN (oneN (s.drop k)).1 (oneN (s.drop k)).2 with
  | false=>.err (at_ s k) 370
  | true=>if acc.length=1500 then .err (at_ s k) 3
   else rec (k+(oneN (s.drop k)).2.length) (acc++[⟨(oneN (s.drop k)).1,(oneN (s.drop k)).2,(at_ s k).1,(at_ s k).2⟩])
def readN:Nat→List UInt8→Nat→List Wd→RdR
 | 0,_,_,acc=>.ok acc
 | f+1,s,k,acc=>match skipN s.length (s.drop k) with
  | .inr n=>.err (at_ s (k+n)) 370
  | .inl n=>readB (readN f s) s (k+n) acc
def readR (s:List UInt8):RdR:=readN (s.length+1) s 0 []
theorem one_pos {r:List UInt8} (h:r ≠ []):1≤(oneN r).2.length:=by
 have h1:1≤r.length:=by cases r <;> simp at h ⊢
 have h2:=spanN_le isAln r
 unfold oneN
 split
 ·split
  ·simp;omega
  ·split <;> simp <;> omega
 ·split <;> simp <;> omega
theorem words_c (o:AObj) (_ho:isCells o.c=true) :
  HoldsG cx 68 [.ptr 0 0 0] ⟨1,[(0,o)]⟩ fun e H'=>e=.returned (.fn (.func 98) [] [.ptr 1 0 0])∧H'=⟨2,[(1,⟨155,false, .bx [.ptr 0 0 0]⟩),(0,o)]⟩:=by
 refine holds_of_vc Tryz.func68 rfl rfl rfl ?_
 exact⟨rfl,rfl⟩
def readV (s:List UInt8):List PV:=
 if 8000<s.length then [.lsts 4 [],i64 0,i64 0,i64 3]
 else match readR s with
  | .ok ws=>[.lsts 4 (ws.map Wd.cells),i64 0,i64 0,i64 0]
  | .err p c=>[.lsts 4 [],i64 p.1,i64 p.2,i64 c]
def rdL (s:List UInt8) (st:LoopState) (N:Nat) (σ:Sg) (ps:List Tmp) (ac bd:Code) (k:Nat) (out:AV):List (Nat × AObj):=
 [(7,⟨0,false, .lp st none 6 N σ ps ac bd 6⟩),(6,⟨0,false, .df⟩),(5,⟨155,false, .bx [.ptr 4 0 0]⟩),(4,⟨157,false, .bx (rdr (at_ s k) s k)⟩),(3,⟨43,false, .bx [.p (i64 0)]⟩),(2,⟨3,false, .bx [.p (i64 0)]⟩),(1,⟨3,false, .bx [.p (i64 0)]⟩),(0,⟨118,false, .bx [out]⟩)]
def rdA (acc:List Wd):AObj:=⟨122,false, .pus (acc.map Wd.cells)⟩
def rdM (s:List UInt8) (st:LoopState) (N:Nat) (σ:Sg) (ps:List Tmp) (ac bd:Code) (k:Nat) (acc:List Wd) (out:AV):List (Nat × AObj):=
 [(4,⟨157,false, .bx (rdr (at_ s k) s k)⟩),(8,rdA acc),(7,⟨0,false, .lp st none 6 N σ ps ac bd 6⟩),(6,⟨0,false, .df⟩),(5,⟨155,false, .bx [.ptr 4 0 0]⟩),(3,⟨43,false, .bx [.p (i64 0)]⟩),(2,⟨3,false, .bx [.p (i64 0)]⟩),(1,⟨3,false, .bx [.p (i64 0)]⟩),(0,⟨118,false, .bx [out]⟩)]
def rdN (s:List UInt8) (N:Nat) (σ:Sg) (ps:List Tmp) (ac bd:Code) (k:Nat) (acc:List Wd) (w:Wd):List (Nat × AObj):=
 [(11,rdA (acc++[w])),(10,rdA [w]),(9,⟨122,false, .bx (w.cells.map .p)⟩),(4,⟨157,false, .bx (rdr (at_ s k) s k)⟩),(7,⟨0,false, .lp .ready none 6 N σ ps ac bd 6⟩),(6,⟨0,false, .df⟩),(5,⟨155,false, .bx [.ptr 4 0 0]⟩),(3,⟨43,false, .bx [.p (i64 0)]⟩),(2,⟨3,false, .bx [.p (i64 0)]⟩),(1,⟨3,false, .bx [.p (i64 0)]⟩),(0,⟨118,false, .bx [.sl 11 4 0 (acc.length+1)]⟩)]
theorem sumC (x:Nat ⊕ Nat):(∃ n,x=.inl n)∨∃ n,x=.inr n:=by
 cases x with
 | inl n=>exact .inl ⟨n,rfl⟩
 | inr n=>exact .inr ⟨n,rfl⟩
theorem iter_c (s:List UInt8) (hs:s.length≤8000) (N:Nat) (σ σ1:Sg) (ds:List AD) (ps:List Tmp) (ac bd:Code) (Q:KQ)
  (hok:∀ k acc,readR s=.ok acc→Q .normal σ1 ds ⟨9,(8,rdA acc)::rdL s .exhausted N σ ps ac bd k (.sl 8 4 0 acc.length)⟩)
  (hp1:∀ p c k acc st,readR s=.err p c→Q (.panic [⟨.p (err p c),false⟩]) σ1 ds ⟨9,(8,rdA acc)::rdL s st N σ ps ac bd k (.sl 8 4 0 acc.length)⟩)
  (hrd:∀ k acc (w:Wd) (K:AE→Hp→Prop),acc.length≤1500 →
    (acc.length=1500→K (.panicked [⟨.p (.iface 153 (.agg [i64 w.line,i64 w.col,i64 3])),false⟩]) ⟨10,(9,⟨122,false, .bx (w.cells.map .p)⟩)::rdM s .busy N σ ps ac bd k acc (.sl 8 4 0 acc.length)⟩) →
    (acc.length<1500→K (.returned (vB true)) ⟨12,rdN s N σ ps ac bd k acc w⟩) →
    RoundH cx 7 [.p (.agg w.cells)] ⟨9,rdM s .ready N σ ps ac bd k acc (.sl 8 4 0 acc.length)⟩ K) :
  HoldsG cx 98 [.fn (.yield 7) [] [], .ptr 5 0 0] ⟨8,rdL s .ready N σ ps ac bd 0 (.p .nils)⟩ (RangeQ 7 σ1 ds Q):=by
 refine holdsN_of_vc Tryz.func98 rfl rfl rfl ?_
 have hB:=blank_c s hs 0 s.length (by omega) (by omega)
 have hR:readR s=match skipN s.length (s.drop 0) with
  | .inr n=>.err (at_ s (0+n)) 370
  | .inl n=>readB (readN s.length s) s (0+n) []:=rfl
 refine Or.elim (sumC (skipN s.length (s.drop 0))) (fun hn=>Exists.elim hn fun n hsk=>?_) (fun hn=>Exists.elim hn fun n hsk=>?_)
 ·simp only [hsk] at hB hR
  refine hB.holds.useN [] [(0,4)] rfl ⟨⟨_,rfl,rfl,rfl,_,rfl,_,_,rfl,rfl,_,_,rfl,rfl,_,_,rfl,rfl,_,_,rfl,rfl,rfl⟩,trivial⟩ ⟨_,_,rfl,⟨rfl,rfl⟩,rfl⟩ fun e0 H0' hq=>?_
  obtain⟨k1,rfl,rfl⟩:=hq
  refine⟨rfl,?_⟩
  refine⟨Nat × Nat × List Wd,fun x=>[(0, .fn (.yield 7) [] []),(1, .ptr 5 0 0)],fun x=>⟨9,(8,rdA x.2.2)::rdL s .ready N σ ps ac bd x.1 (.sl 8 4 0 x.2.2.length)⟩,
   fun x=>x.1≤s.length∧s.length - x.1≤x.2.1∧x.2.2.length≤1500∧readR s=readB (readN x.2.1 s) s x.1 x.2.2,fun x=>s.length - x.1,?_,?_⟩
  ·refine⟨(0+n,s.length,[]),⟨k1,by simp,by simp,hR⟩,?_⟩
   exact ent_of [] [] [(8,4)] rfl (sk) (sk) rfl
  ·rintro⟨k,f,acc⟩ ⟨g1,g2,g3,g4⟩
   simp only [] at g1 g2 g3 g4
   refine VDraw.seq rfl ?_
   refine And.intro (fun h1=>?_) (fun h1=>?_)
   ·have h1:(k:Int)<(s.length:Int):=h1
    have hlt:k<s.length:=by omega
    have hW:=word_c s hs k hlt
    have hne:s.drop k ≠ []:=by intro e;have:=congrArg List.length e;rw [List.length_drop] at this;simp only [List.length_nil] at this;omega
    have hpos:=one_pos hne
    have hb:readB (readN f s) s k acc=match rightN (oneN (s.drop k)).1 (oneN (s.drop k)).2 with
      | false=>.err (at_ s k) 370
      | true=>if acc.length=1500 then .err (at_ s k) 3
       else readN f s (k+(oneN (s.drop k)).2.length) (acc++[⟨(oneN (s.drop k)).1,(oneN (s.drop k)).2,(at_ s k).1,(at_ s k).2⟩]):=by
     rw [readB,if_neg (by omega)]
    by_cases hr:rightN (oneN (s.drop k)).1 (oneN (s.drop k)).2=true
    rotate_left
    ·rw [Bool.not_eq_true] at hr
     simp only [hr] at hW hb
     refine hW.holds.useN [] [(0,4)] rfl ⟨⟨_,rfl,rfl,rfl,_,rfl,_,_,rfl,rfl,_,_,rfl,rfl,_,_,rfl,rfl,_,_,rfl,rfl,rfl⟩,trivial⟩ ⟨_,_,rfl,⟨rfl,rfl⟩,rfl⟩ fun e0 H0' hq=>?_
     obtain⟨rfl,rfl⟩:=hq
     refine⟨rfl,?_⟩
     exact⟨[],[(8,8)],[], .panicked [⟨.p (err (at_ s k) 370),false⟩],⟨9,(8,rdA acc)::rdL s .ready N σ ps ac bd k (.sl 8 4 0 acc.length)⟩,rfl,sk,sk,hp1 _ _ k acc .ready (g4.trans hb)⟩
    ·simp only [hr] at hW hb
     refine hW.holds.useN [] [(0,4)] rfl ⟨⟨_,rfl,rfl,rfl,_,rfl,_,_,rfl,rfl,_,_,rfl,rfl,_,_,rfl,rfl,_,_,rfl,rfl,rfl⟩,trivial⟩ ⟨_,_,rfl,⟨rfl,rfl⟩,rfl⟩ fun e0 H0' hq=>?_
     obtain⟨k1,rfl,rfl⟩:=hq
     refine⟨rfl,?_⟩
     refine hrd _ acc ⟨(oneN (s.drop k)).1,(oneN (s.drop k)).2,(at_ s k).1,(at_ s k).2⟩ _ g3 (fun h2=>?_) (fun h2=>?_)
     ·rw [if_pos h2] at hb
      exact⟨[],[(8,8)],[], .panicked [⟨.p (err (at_ s k) 3),false⟩],⟨9,(8,rdA acc)::rdL s .busy N σ ps ac bd (k+(oneN (s.drop k)).2.length) (.sl 8 4 0 acc.length)⟩,rfl,sk,sk,hp1 _ _ _ acc .busy (g4.trans hb)⟩
     ·rw [if_neg (by omega)] at hb
      have hw0:∀ w:Wd,AV.sl 11 4 0 (acc.length+1)=AV.sl 11 4 0 (acc++[w]).length:=fun w=>by rw [List.length_append];rfl
      obtain⟨f',rfl⟩:∃ n,f=n+1:=⟨f - 1,by omega⟩
      have hB:=blank_c s hs (k+(oneN (s.drop k)).2.length) s.length k1 (by omega)
      rw [readN] at hb
      refine Or.elim (sumC (skipN s.length (s.drop (k+(oneN (s.drop k)).2.length)))) (fun hn=>Exists.elim hn fun n hsk=>?_) (fun hn=>Exists.elim hn fun n hsk=>?_)
      ·simp only [hsk] at hB hb
       refine hB.holds.useN [] [(0,4)] rfl ⟨⟨_,rfl,rfl,rfl,_,rfl,_,_,rfl,rfl,_,_,rfl,rfl,_,_,rfl,rfl,_,_,rfl,rfl,rfl⟩,trivial⟩ ⟨_,_,rfl,⟨rfl,rfl⟩,rfl⟩ fun e0 H0' hq=>?_
       obtain⟨k2,rfl,rfl⟩:=hq
       refine⟨rfl,?_⟩
       refine⟨(k+(oneN (s.drop k)).2.length+n,f',acc++[⟨(oneN (s.drop k)).1,(oneN (s.drop k)).2,(at_ s k).1,(at_ s k).2⟩]),⟨k2,by simp only [];omega,by simp;omega,g4.trans hb⟩,?_,by simp only [];omega⟩
       exact ent_of [] [(8,11)] [] rfl ⟨⟨rfl,_,_,rfl,rfl,rfl⟩,⟨rfl,rfl⟩,trivial⟩ ⟨⟨_,rfl,rfl,rfl,rfl⟩,⟨_,rfl,rfl,rfl,rfl,rfl,rfl⟩,⟨_,rfl,rfl,rfl,rfl⟩,⟨_,rfl,rfl,rfl,_,rfl,_,_,rfl,⟨rfl,rfl⟩,rfl⟩,⟨_,rfl,rfl,rfl,_,rfl,_,_,rfl,rfl,_,_,rfl,rfl,_,_,rfl,rfl,_,_,rfl,rfl,rfl⟩,⟨_,rfl,rfl,rfl,_,rfl,_,_,rfl,rfl,rfl⟩,⟨_,rfl,rfl,rfl,_,rfl,_,_,rfl,rfl,rfl⟩,⟨_,rfl,rfl,rfl,_,rfl,_,_,rfl,rfl,rfl⟩,⟨_,rfl,rfl,rfl,_,rfl,_,_,rfl,hw0 _,rfl⟩,trivial⟩ rfl
      ·simp only [hsk] at hB hb
       refine hB.holds.useN [] [(0,4)] rfl ⟨⟨_,rfl,rfl,rfl,_,rfl,_,_,rfl,rfl,_,_,rfl,rfl,_,_,rfl,rfl,_,_,rfl,rfl,rfl⟩,trivial⟩ ⟨_,_,rfl,⟨rfl,rfl⟩,rfl⟩ fun e0 H0' hq=>?_
       obtain⟨k2,rfl,k',k3,rfl⟩:=hq
       refine⟨rfl,?_⟩
       exact⟨[],[(8,11)],[], .panicked [⟨.p (err (at_ s (k+(oneN (s.drop k)).2.length+n)) 370),false⟩],⟨9,(8,rdA (acc++[(⟨(oneN (s.drop k)).1,(oneN (s.drop k)).2,(at_ s k).1,(at_ s k).2⟩:Wd)]))::rdL s .ready N σ ps ac bd k' (.sl 8 4 0 (acc++[(⟨(oneN (s.drop k)).1,(oneN (s.drop k)).2,(at_ s k).1,(at_ s k).2⟩:Wd)]).length)⟩,rfl,⟨_,rfl,_,_,rfl,rfl,rfl⟩,⟨⟨_,rfl,rfl,rfl,rfl⟩,⟨_,rfl,rfl,rfl,rfl,rfl,rfl⟩,⟨_,rfl,rfl,rfl,rfl⟩,⟨_,rfl,rfl,rfl,_,rfl,_,_,rfl,⟨rfl,rfl⟩,rfl⟩,⟨_,rfl,rfl,rfl,_,rfl,_,_,rfl,rfl,_,_,rfl,rfl,_,_,rfl,rfl,_,_,rfl,rfl,rfl⟩,⟨_,rfl,rfl,rfl,_,rfl,_,_,rfl,rfl,rfl⟩,⟨_,rfl,rfl,rfl,_,rfl,_,_,rfl,rfl,rfl⟩,⟨_,rfl,rfl,rfl,_,rfl,_,_,rfl,rfl,rfl⟩,⟨_,rfl,rfl,rfl,_,rfl,_,_,rfl,hw0 _,rfl⟩,trivial⟩,hp1 _ _ k' _ .ready (g4.trans hb)⟩
   ·have h1:¬ (k:Int)<(s.length:Int):=h1
    have e:readR s=.ok acc:=by rw [g4,readB,if_pos (by omega)]
    exact⟨[],[(8,8)],[], .returned und,⟨9,(8,rdA acc)::rdL s .ready N σ ps ac bd k (.sl 8 4 0 acc.length)⟩,rfl,sk,sk,hok k acc e⟩
 ·simp only [hsk] at hB hR
  refine hB.holds.useN [] [(0,4)] rfl ⟨⟨_,rfl,rfl,rfl,_,rfl,_,_,rfl,rfl,_,_,rfl,rfl,_,_,rfl,rfl,_,_,rfl,rfl,rfl⟩,trivial⟩ ⟨_,_,rfl,⟨rfl,rfl⟩,rfl⟩ fun e0 H0' hq=>?_
  obtain⟨k1,rfl,k',k2,rfl⟩:=hq
  refine⟨rfl,?_⟩
  exact⟨[],[],[(8,4)], .panicked [⟨.p (err (at_ s (0+n)) 370),false⟩],⟨9,(8,rdA [])::rdL s .ready N σ ps ac bd k' (.sl 8 4 0 0)⟩,rfl,sk,sk,hp1 _ _ k' [] .ready hR⟩
theorem read_c (s:List UInt8):Pure cx 44 [.str s] (·=.ret (readV s)):=by
 refine pure_of_vc Tryz.func44 rfl rfl rfl ?_
 refine And.intro (fun h1=>?_) (fun h1=>?_)
 ·have h1:(8000:Int)<s.length:=h1
  have e:readV s=[.lsts 4 [],i64 0,i64 0,i64 3]:=by rw [readV,if_pos (by omega)]
  rw [e]
  exact end4 (.lsts 4 []) (i64 0) (i64 0) (i64 3) rfl (.inr (.inr ⟨4,rfl⟩)) rfl rfl rfl rfl
 ·have hs:s.length≤8000:=by have h1:¬ (8000:Int)<s.length:=h1;omega
  have hw:=words_c ⟨157,false, .bx (rdr (at_ s 0) s 0)⟩ rfl
  refine hw.useE [] [(0,4)] rfl ⟨⟨_,rfl,rfl,rfl,_,rfl,_,_,rfl,rfl,_,_,rfl,rfl,_,_,rfl,rfl,_,_,rfl,rfl,rfl⟩,trivial⟩ ⟨_,_,rfl,⟨rfl,rfl⟩,rfl⟩ ?_
  refine range_of ?_
  intro σ' ps ac bd e1 e2 e3 e4
  have hrd:∀ k acc (w:Wd) (K:AE→Hp→Prop),acc.length≤1500 →
    (acc.length=1500→K (.panicked [⟨.p (.iface 153 (.agg [i64 w.line,i64 w.col,i64 3])),false⟩]) ⟨10,(9,⟨122,false, .bx (w.cells.map .p)⟩)::rdM s .busy Tryz.f44.ntmps σ' ps ac bd k acc (.sl 8 4 0 acc.length)⟩) →
    (acc.length<1500→K (.returned (vB true)) ⟨12,rdN s Tryz.f44.ntmps σ' ps ac bd k acc w⟩) →
    RoundH cx 7 [.p (.agg w.cells)] ⟨9,rdM s .ready Tryz.f44.ntmps σ' ps ac bd k acc (.sl 8 4 0 acc.length)⟩ K:=by
   intro k acc w K hacc hK1 hK2
   subst e1 e2 e3 e4
   refine round_of_vc rfl rfl rfl ?_
   refine And.intro (fun h2=>?_) (fun h2=>?_)
   ·have h2:(acc.length:Int)=1500:=h2
    exact hK1 (by omega)
   ·have h2:¬ (acc.length:Int)=1500:=h2
    refine⟨by show 0+1≤1;omega,[w.cells],rfl,?_⟩
    refine⟨by show 0+acc.length≤(acc.map Wd.cells).length;simp,acc.map Wd.cells,?_,?_⟩
    ·show acc.map Wd.cells=((acc.map Wd.cells).drop 0).take acc.length
     rw [List.drop_zero,List.take_of_length_le (by simp)]
    refine⟨by show(acc.length+1) * 40≤140737488355328;omega,(acc++[w]).map Wd.cells,by simp,?_⟩
    exact hK2 (by omega)
  refine iter_c s hs _ σ' _ _ ps ac bd _ ?_ ?_ hrd
  ·intro k acc hr
   have e:readV s=[.lsts 4 (acc.map Wd.cells),i64 0,i64 0,i64 0]:=by rw [readV,if_neg (by omega),hr]
   rw [e]
   refine holdsD_rec Tryz.func67 rfl rfl rfl ?_
   refine⟨[],[(0,0),(1,1),(2,2),(3,3),(8,8)],[], .returned und,⟨9,[(8,rdA acc),(3,⟨43,false, .bx [.p (i64 0)]⟩),(2,⟨3,false, .bx [.p (i64 0)]⟩),(1,⟨3,false, .bx [.p (i64 0)]⟩),(0,⟨118,false, .bx [.sl 8 4 0 acc.length]⟩)]⟩,rfl,sk,sk,?_⟩
   refine end4 (.lsts 4 (acc.map Wd.cells)) (i64 0) (i64 0) (i64 0) rfl ?_ rfl rfl rfl rfl
   exact⟨_,rfl,by simp,by rw [List.drop_zero,List.take_of_length_le (by simp)]⟩
  ·intro p c k acc st hr
   have e:readV s=[.lsts 4 [],i64 p.1,i64 p.2,i64 c]:=by rw [readV,if_neg (by omega),hr]
   rw [e]
   refine holdsD_rec Tryz.func67 rfl rfl rfl ?_
   refine VDraw.seq rfl ?_
   refine⟨sk,?_⟩
   refine⟨sk,?_⟩
   refine⟨sk,?_⟩
   refine⟨[],[(0,0),(1,1),(2,2),(3,3)],[], .returned und,⟨9,[(3,⟨43,false, .bx [.p (i64 c)]⟩),(2,⟨3,false, .bx [.p (i64 p.2)]⟩),(1,⟨3,false, .bx [.p (i64 p.1)]⟩),(0,⟨118,false, .bx [.p .nils]⟩)]⟩,rfl,sk,sk,?_⟩
   exact end4 (.lsts 4 []) (i64 p.1) (i64 p.2) (i64 c) rfl (.inr (.inr ⟨4,rfl⟩)) rfl rfl rfl rfl
end Go.Proofs.YtmepdfingcmkmaaGreatDoor
namespace Go.Proofs.YtmepdfingcmkmaaGreatDoor
open Go Y
set_option maxRecDepth 100000
set_option maxHeartbeats 4000000
abbrev tGrain:List UInt8:=[103,114,97,105,110]
abbrev tPlate:List UInt8:=[112,108,97,116,101]
abbrev tNode:List UInt8:=[110,111,100,101]
abbrev tChoose:List UInt8:=[99,104,111,111,115,101]
abbrev tGain:List UInt8:=[103,97,105,110]
abbrev tFrom:List UInt8:=[102,114,111,109]
abbrev tSeeing:List UInt8:=[115,101,101,105,110,103]
abbrev tElse:List UInt8:=[101,108,115,101]
abbrev tAnd:List UInt8:=[97,110,100]
abbrev tOr:List UInt8:=[111,114]
abbrev tNot:List UInt8:=[110,111,116]
abbrev tIn:List UInt8:=[105,110]
abbrev tAll:List UInt8:=[97,108,108]
abbrev tCount:List UInt8:=[99,111,117,110,116]
abbrev tCol:List UInt8:=[58]
abbrev tSemi:List UInt8:=[59]
abbrev tComma:List UInt8:=[44]
abbrev tLP:List UInt8:=[40]
abbrev tRP:List UInt8:=[41]
abbrev tLB:List UInt8:=[91]
abbrev tRB:List UInt8:=[93]
abbrev tLC:List UInt8:=[123]
abbrev tRC:List UInt8:=[125]
abbrev tEq:List UInt8:=[61]
abbrev tLt:List UInt8:=[60]
abbrev tPlus:List UInt8:=[43]
abbrev tMinus:List UInt8:=[45]
abbrev tNe:List UInt8:=[47,61]
abbrev tLe:List UInt8:=[60,61]
abbrev TWord:TypeId:=122
abbrev TCond:TypeId:=31
abbrev TCase:TypeId:=33
abbrev TDecl:TypeId:=37
abbrev TRef:TypeId:=23
abbrev TInt:TypeId:=3
abbrev TStr:TypeId:=9
structure Rf where
 name:List UInt8
 mode:Int
 plate:List UInt8
 n:Int
deriving DecidableEq
inductive Cd where
 | mk (op n rel val:Int) (ref:Rf) (set:List Int) (args:List Cd)
structure Cs where
 cond:Cd
 nums:List Int
structure De where
 kind:Int
 n:Int
 name:List UInt8
 plate:List UInt8
 refs:List Rf
 cases:List Cs
abbrev ints (l:List Int):PV:=.lst (l.map i64)
abbrev strs (l:List (List UInt8)):PV:=.lst (l.map .str)
abbrev Rf.cells (r:Rf):List PV:=[.str r.name,i64 r.mode, .str r.plate,i64 r.n]
abbrev Rf.pv (r:Rf):PV:=.agg r.cells
abbrev rfl_ (l:List Rf):PV:=.lsts 4 (l.map Rf.cells)
mutual
def Cd.cells:Cd→List PV
 | .mk op n rel val r set args=>[i64 op,i64 n,i64 rel,i64 val, .str r.name,i64 r.mode, .str r.plate,i64 r.n,ints set, .lsts 10 (cellsL args)]
def cellsL:List Cd→List (List PV)
 | []=>[]
 | c::r=>c.cells::cellsL r
end
theorem cellsL_map:∀ l:List Cd,cellsL l=l.map Cd.cells
 | []=>rfl
 | c::r=>by rw [cellsL,cellsL_map r];rfl
abbrev Cd.pv (c:Cd):PV:=.agg c.cells
abbrev cds (l:List Cd):PV:=.lsts 10 (l.map Cd.cells)
def Cs.cells (c:Cs):List PV:=c.cond.cells++[ints c.nums]
abbrev Cs.pv (c:Cs):PV:=.agg c.cells
abbrev css (l:List Cs):PV:=.lsts 11 (l.map Cs.cells)
def De.cells (d:De):List PV:=[i64 d.kind,i64 d.n, .str d.name, .str d.plate,rfl_ d.refs,css d.cases]
abbrev De.pv (d:De):PV:=.agg d.cells
abbrev des (l:List De):PV:=.lsts 6 (l.map De.cells)
abbrev srcV (l:List De):PV:=.agg [des l]
def rf0:Rf:=⟨[],0,[],0⟩
def cd0:Cd:=.mk 0 0 0 0 rf0 [] []
def wd0:Wd:=⟨0,[],0,0⟩
def wat (ws:List Wd) (q:Nat):Wd:=ws.getD q wd0
abbrev txt (ws:List Wd) (q:Nat):List UInt8:=(wat ws q).text
abbrev knd (ws:List Wd) (q:Nat):Int:=(wat ws q).kind
theorem wat_end {ws:List Wd} {q:Nat} (h:ws.length≤q):wat ws q=wd0:=by
 rw [wat,List.getD_eq_getElem?_getD,List.getElem?_eq_none h];rfl
structure GoodW (ws:List Wd):Prop where
 right:∀ w∈ws,rightN w.kind w.text=true
 len:ws.length≤1500
theorem GoodW.at {ws:List Wd} (h:GoodW ws) {q:Nat} (hq:q<ws.length):rightN (knd ws q) (txt ws q)=true:=
 h.right _ (by rw [wat,List.getD_eq_getElem?_getD,List.getElem?_eq_getElem hq];exact List.getElem_mem hq)
theorem txt_lt {ws:List Wd} {q:Nat} (h:txt ws q ≠ []):q<ws.length:=by
 rcases Nat.lt_or_ge q ws.length with h1 | h1
 ·exact h1
 ·exact absurd (by rw [txt,wat_end h1];rfl) h
theorem knd_lt {ws:List Wd} {q:Nat} (h:knd ws q ≠ 0):q<ws.length:=by
 rcases Nat.lt_or_ge q ws.length with h1 | h1
 ·exact h1
 ·exact absurd (by rw [knd,wat_end h1];rfl) h
def valD (t:List UInt8):Int:=t.foldl (fun n b=>10 * n+((b.toNat:Int) - 48)) 0
abbrev Rd (α:Type):=Sum Nat (α × Nat)
def Rd.then {α β:Type} (r:Rd α) (k:α→Nat→Rd β):Rd β:=match r with
 | .inl e=>.inl e
 | .inr (a,p)=>k a p
section
variable (ws:List Wd)
def mustR (s:List UInt8) (q:Nat):Rd Unit:=if txt ws q=s then .inr ((),q+1) else .inl q
def mustsR:List (List UInt8)→Nat→Rd Unit
 | [],q=>.inr ((),q)
 | s::r,q=>(mustR ws s q).then fun _ q=>mustsR r q
def nameR (q:Nat):Rd (List UInt8):=if knd ws q=1 then .inr (txt ws q,q+1) else .inl q
def numR (q:Nat):Rd Int:=if knd ws q=3 then .inr (valD (txt ws q),q+1) else .inl q
def refTail (nm:List UInt8) (mode:Int) (pl:List UInt8) (n:Int) (q:Nat):Rd Rf:=(mustR ws tRB q).then fun _ q=>.inr (⟨nm,mode,pl,n⟩,q)
def refR (q : Nat) : Rd Rf := (nameR ws q).then fun nm q =>
  if txt ws q = tLB then
    (if txt ws (q + 1) = tAll then refTail ws nm 3 [] 0 (q + 2)
     else if knd ws (q + 1) = 3 then (numR ws (q + 1)).then fun n q => refTail ws nm 2 [] n q
     else (nameR ws (q + 1)).then fun pl q => if txt ws q = tPlus then (numR ws (q + 1)).then fun n q => refTail ws nm 1 pl n q else refTail ws nm 1 pl 0 q)
  else .inr (⟨nm, 0, [], 0⟩, q)
def moreR {α:Type} (rd:Nat→Rd α):Nat→List α→Nat→Rd (List α)
 | 0,_,q=>.inl q
 | f+1,acc,q=>if txt ws q=tComma then(rd (q+1)).then fun a q=>moreR rd f (acc++[a]) q else .inr (acc,q)
def listR {α:Type} (rd:Nat→Rd α) (F:Nat) (q:Nat):Rd (List α):=(rd q).then fun a q=>moreR ws rd F [a] q
def refsR (F:Nat) (key:List UInt8) (q:Nat):Rd (List Rf):=if txt ws q=key then listR ws (refR ws) F (q+1) else .inr ([],q)
def relR (q:Nat):Rd Int:=
 if txt ws q=tEq then .inr (1,q+1) else if txt ws q=tNe then .inr (2,q+1) else if txt ws q=tLt then .inr (3,q+1) else if txt ws q=tLe then .inr (4,q+1) else .inl q
def insN:List Int→Int→List Int
 | [],n=>[n]
 | x::l,n=>if n<x then n::x::l else if x=n then x::l else x::insN l n
def setN (l:List Int):List Int:=l.foldl insN []
def intR (q:Nat):Rd Int:=if txt ws q=tMinus then(numR ws (q+1)).then fun n q=>.inr (-n,q) else numR ws q
def intsR:Nat→List Int→Nat→Rd (List Int)
 | 0,_,q=>.inl q
 | f+1,acc,q=>if txt ws q=tMinus∨knd ws q=3 then(intR ws q).then fun n q=>intsR f (acc++[n]) q else .inr (acc,q)
def numsR (F:Nat) (q:Nat):Rd (List Int):=(intR ws q).then fun n q=>intsR ws F [n] q
mutual
def condR:Nat→Nat→Rd Cd
 | 0,q=>.inl q
 | F+1,q=>(conjR F q).then fun c q=>orR F c q
def orR:Nat→Cd→Nat→Rd Cd
 | 0,_,q=>.inl q
 | F+1,c,q=>if txt ws q=tOr then(conjR F (q+1)).then fun d q=>orR F (.mk 9 0 0 0 rf0 [] [c,d]) q else .inr (c,q)
def conjR:Nat→Nat→Rd Cd
 | 0,q=>.inl q
 | F+1,q=>(negR F q).then fun c q=>andR F c q
def andR:Nat→Cd→Nat→Rd Cd
 | 0,_,q=>.inl q
 | F+1,c,q=>if txt ws q=tAnd then(negR F (q+1)).then fun d q=>andR F (.mk 8 0 0 0 rf0 [] [c,d]) q else .inr (c,q)
def negR:Nat→Nat→Rd Cd
 | 0,q=>.inl q
 | F+1,q=>if txt ws q=tNot then(negR F (q+1)).then fun c q=>.inr (.mk 7 0 0 0 rf0 [] [c],q) else testR F q
def testR:Nat→Nat→Rd Cd
 | 0,q=>.inl q
 | F+1,q=>
  if txt ws q=tLP then(condR F (q+1)).then fun c q=>(mustR ws tRP q).then fun _ q=>.inr (c,q)
  else if txt ws q=tCount then(mustR ws tLP (q+1)).then fun _ q=>(nameR ws q).then fun nm q=>(mustsR ws [tLB,tAll,tRB,tEq] q).then fun _ q=>(numR ws q).then fun v q=>
   (mustR ws tRP q).then fun _ q=>(relR ws q).then fun r q=>(numR ws q).then fun n q=>.inr (.mk 6 n r v ⟨nm,3,[],0⟩ [] [],q)
  else(refR ws q).then fun r q=>if txt ws q=tIn then(mustR ws tLC (q+1)).then fun _ q=>(listR ws (numR ws) F q).then fun l q=>(mustR ws tRC q).then fun _ q=>.inr (.mk 5 0 0 0 r (setN l) [],q)
   else(relR ws q).then fun o q=>(numR ws q).then fun n q=>.inr (.mk o n 0 0 r [] [],q)
end
def ruleEnd (F:Nat) (acc:List Cs) (q:Nat):Rd (List Cs):=(mustR ws tCol q).then fun _ q=>(numsR ws F q).then fun l q=>(mustR ws tRC q).then fun _ q=>.inr (acc++[⟨cd0,l⟩],q)
def casesR (F:Nat):Nat→List Cs→Nat→Rd (List Cs)
 | 0,_,q=>.inl q
 | f+1,acc,q=>if txt ws q=tElse then ruleEnd ws F acc (q+1)
  else(condR ws F q).then fun c q=>(mustR ws tCol q).then fun _ q=>(numsR ws F q).then fun l q=>(mustR ws tSemi q).then fun _ q=>casesR F f (acc++[⟨c,l⟩]) q
def ruleR (F:Nat) (q:Nat):Rd (List Cs):=(mustR ws tLC q).then fun _ q=>casesR ws F F [] q
def grainR (q:Nat):Rd De:=(numR ws q).then fun n q=>.inr (⟨1,n,[],[],[],[]⟩,q)
def plateR (q:Nat):Rd De:=(nameR ws q).then fun nm q=>(mustR ws tEq q).then fun _ q=>(numR ws q).then fun n q=>.inr (⟨2,n,nm,[],[],[]⟩,q)
def nodeTail (F:Nat) (nm pl:List UInt8) (q:Nat):Rd De:=(mustR ws tCol q).then fun _ q=>(numR ws q).then fun n q=>(refsR ws F tFrom q).then fun l q=>(mustR ws tEq q).then fun _ q=>(ruleR ws F q).then fun cs q=>.inr (⟨3,n,nm,pl,l,cs⟩,q)
def nodeR (F:Nat) (q:Nat):Rd De:=(nameR ws q).then fun nm q=>
 if txt ws q=tLB then(nameR ws (q+1)).then fun pl q=>(mustR ws tRB q).then fun _ q=>nodeTail ws F nm pl q else nodeTail ws F nm [] q
def chooseR (F:Nat) (q:Nat):Rd De:=(nameR ws q).then fun nm q=>(mustR ws tCol q).then fun _ q=>(numR ws q).then fun n q=>(refsR ws F tSeeing q).then fun l q=>.inr (⟨4,n,nm,[],l,[]⟩,q)
def gainR (F:Nat) (q:Nat):Rd De:=(refsR ws F tFrom q).then fun l q=>(mustR ws tEq q).then fun _ q=>(ruleR ws F q).then fun cs q=>.inr (⟨5,0,[],[],l,cs⟩,q)
def declR (F:Nat) (q:Nat):Rd De:=
 if txt ws q=tGrain then grainR ws (q+1) else if txt ws q=tPlate then plateR ws (q+1) else if txt ws q=tNode then nodeR ws F (q+1)
 else if txt ws q=tChoose then chooseR ws F (q+1) else if txt ws q=tGain then gainR ws F (q+1) else .inl q
def progR (F:Nat):Nat→List De→Nat→Rd (List De)
 | 0,_,q=>.inl q
 | f+1,acc,q=>if q<ws.length then(declR ws F q).then fun d q=>(mustR ws tSemi q).then fun _ q=>progR F f (acc++[d]) q else .inr (acc,q)
end
end Go.Proofs.YtmepdfingcmkmaaGreatDoor
namespace Go.Proofs.YtmepdfingcmkmaaGreatDoor
open Go Y
set_option maxRecDepth 100000
set_option maxHeartbeats 4000000
theorem map_at {α β:Type} {f:α→β} {l:List α} {k:Nat} (d:α) (h:k<l.length):(l.map f)[k]?=some (f (l.getD k d)):=by
 rw [List.getElem?_map,List.getD_eq_getElem?_getD,List.getElem?_eq_getElem h];rfl
theorem icell {l:List Int} {k:Nat} (h:k<l.length):(l.map i64)[k]?=some (i64 (l.getD k 0)):=map_at 0 h
theorem tcell {l:List (List UInt8)} {k:Nat} (h:k<l.length):(l.map PV.str)[k]?=some (.str (l.getD k [])):=map_at [] h
theorem wdcell {ws:List Wd} {k:Nat} (h:k<ws.length):(ws.map Wd.cells)[k]?=some (wat ws k).cells:=map_at wd0 h
theorem take_succ_getD {α:Type} {l:List α} {k:Nat} (d:α) (h:k<l.length):l.take (k+1)=l.take k++[l.getD k d]:=by
 rw [List.take_add_one,List.getD_eq_getElem?_getD,List.getElem?_eq_getElem h];rfl
theorem getD_memL {α:Type} {l:List α} {k:Nat} (d:α) (h:k<l.length):l.getD k d∈l:=by
 rw [List.getD_eq_getElem?_getD,List.getElem?_eq_getElem h];exact List.getElem_mem h
theorem take_all {α:Type} {l:List α} {k:Nat} (h:l.length≤k):l.take k=l:=List.take_of_length_le h
theorem snoc_len {α:Type} (l:List α) (x:α):(l++[x]).length=l.length+1:=by simp
theorem dropD {α:Type} {l:List α} {k:Nat} (d:α) (h:k<l.length):l.drop k=l.getD k d::l.drop (k+1):=by
 rw [List.drop_eq_getElem_cons h,List.getD_eq_getElem?_getD,List.getElem?_eq_getElem h];rfl
def psO (ws:List Wd) (q:Nat):AObj:=⟨129,false, .bx [.p (.lsts 4 (ws.map Wd.cells)), .p (i64 q)]⟩
abbrev psH (ws:List Wd) (q:Nat):Hp:=⟨1,[(0,psO ws q)]⟩
def failV (ws:List Wd) (q:Nat):AV:=.p (.iface TWord (.agg (wat ws q).cells))
abbrev failX (ws:List Wd) (q:Nat):AE:=.panicked [⟨failV ws q,false⟩]
theorem text_h (ws:List Wd) (q:Nat) (hl:ws.length≤1500) (hq:q≤ws.length):HoldsG cx 74 [.ptr 0 0 0] (psH ws q) fun e H'=>e=.returned (.p (.str (txt ws q)))∧H'=psH ws q:=by
 refine holds_of_vc Tryz.func74 rfl rfl rfl ?_
 have hl':(ws.map Wd.cells).length=ws.length:=List.length_map ..
 refine VDraw.seq rfl ?_
 (first | refine brLt (fun h1=>?_) (fun h1=>?_) | refine brLe (fun h1=>?_) (fun h1=>?_) | refine brEq (fun h1=>?_) (fun h1=>?_))
 ·have h1:(q:Int)<((ws.map Wd.cells).length:Nat):=h1
  rw [hl'] at h1
  refine VDraw.seq rfl ?_
  refine⟨_,⟨by omega,(wat ws q).cells,wdcell (by omega),rfl⟩,?_⟩
  exact⟨rfl,rfl⟩
 ·have h1:¬ (q:Int)<((ws.map Wd.cells).length:Nat):=h1
  rw [hl'] at h1
  exact⟨by rw [txt,wat_end (by omega)];rfl,rfl⟩
theorem kind_h (ws:List Wd) (q:Nat) (hl:ws.length≤1500) (hq:q≤ws.length):HoldsG cx 132 [.ptr 0 0 0] (psH ws q) fun e H'=>e=.returned (.p (i64 (knd ws q)))∧H'=psH ws q:=by
 refine holds_of_vc Tryz.func132 rfl rfl rfl ?_
 have hl':(ws.map Wd.cells).length=ws.length:=List.length_map ..
 refine VDraw.seq rfl ?_
 (first | refine brLt (fun h1=>?_) (fun h1=>?_) | refine brLe (fun h1=>?_) (fun h1=>?_) | refine brEq (fun h1=>?_) (fun h1=>?_))
 ·have h1:(q:Int)<((ws.map Wd.cells).length:Nat):=h1
  rw [hl'] at h1
  refine VDraw.seq rfl ?_
  refine⟨_,⟨by omega,(wat ws q).cells,wdcell (by omega),rfl⟩,?_⟩
  exact⟨rfl,rfl⟩
 ·have h1:¬ (q:Int)<((ws.map Wd.cells).length:Nat):=h1
  rw [hl'] at h1
  exact⟨by rw [knd,wat_end (by omega)];rfl,rfl⟩
theorem fail_h (ws:List Wd) (q:Nat) (hl:ws.length≤1500) (hq:q≤ws.length):HoldsG cx 75 [.ptr 0 0 0] (psH ws q) fun e H'=>e=failX ws q∧H'=psH ws q:=by
 refine holds_of_vc Tryz.func75 rfl rfl rfl ?_
 have hl':(ws.map Wd.cells).length=ws.length:=List.length_map ..
 refine VDraw.seq rfl ?_
 (first | refine brLt (fun h1=>?_) (fun h1=>?_) | refine brLe (fun h1=>?_) (fun h1=>?_) | refine brEq (fun h1=>?_) (fun h1=>?_))
 ·have h1:(q:Int)<((ws.map Wd.cells).length:Nat):=h1
  rw [hl'] at h1
  refine VDraw.seq rfl ?_
  refine⟨_,⟨by omega,(wat ws q).cells,wdcell (by omega),rfl⟩,?_⟩
  exact⟨rfl,rfl⟩
 ·have h1:¬ (q:Int)<((ws.map Wd.cells).length:Nat):=h1
  rw [hl'] at h1
  exact⟨by rw [failX,failV,wat_end (by omega)];rfl,rfl⟩
def skQ (ws:List Wd) (q:Nat) (s:List UInt8) (e:AE) (H':Hp):Prop:=(txt ws q=s→e=.returned (vB true)∧H'=psH ws (q+1))∧(¬ txt ws q=s→e=.returned (vB false)∧H'=psH ws q)
theorem skip_h (ws:List Wd) (q:Nat) (s:List UInt8) (hl:ws.length≤1500) (hq:q≤ws.length):HoldsG cx 103 [.ptr 0 0 0, .p (.str s)] (psH ws q) (skQ ws q s):=by
 refine holds_of_vc Tryz.func103 rfl rfl rfl ?_
 refine(text_h ws q hl hq).holds.mono fun e H' h=>?_
 obtain⟨rfl,rfl⟩:=h
 (first | refine brLt (fun h1=>?_) (fun h1=>?_) | refine brLe (fun h1=>?_) (fun h1=>?_) | refine brEq (fun h1=>?_) (fun h1=>?_))
 ·have h1:txt ws q=s:=h1
  refine⟨_,wrap_i64 (by omega) (by omega),?_⟩
  exact⟨fun _=>⟨rfl,rfl⟩,fun h=>absurd h1 h⟩
 ·have h1:¬ txt ws q=s:=h1
  exact⟨fun h=>absurd h h1,fun _=>⟨rfl,rfl⟩⟩
theorem comma_h (ws:List Wd) (q:Nat) (hl:ws.length≤1500) (hq:q≤ws.length):HoldsG cx 134 [.ptr 0 0 0] (psH ws q) (skQ ws q tComma):=by
 refine holds_of_vc Tryz.func134 rfl rfl rfl ?_
 refine(skip_h ws q tComma hl hq).holds.mono fun e H' h=>?_
 by_cases h1:txt ws q=tComma
 ·obtain⟨rfl,rfl⟩:=h.1 h1
  exact⟨fun _=>⟨rfl,rfl⟩,fun h=>absurd h1 h⟩
 ·obtain⟨rfl,rfl⟩:=h.2 h1
  exact⟨fun h=>absurd h h1,fun _=>⟨rfl,rfl⟩⟩
def rdQ {α:Type} (ws:List Wd) (r:Rd α) (val:α→AV) (e:AE) (H':Hp):Prop:=match r with
 | .inl p=>e=failX ws p∧H'=⟨1,[]⟩
 | .inr (a,q)=>q≤ws.length∧e=.returned (val a)∧H'=psH ws q
theorem name_h (ws:List Wd) (q:Nat) (hl:ws.length≤1500) (hq:q≤ws.length):HoldsG cx 102 [.ptr 0 0 0] (psH ws q) (rdQ ws (nameR ws q) fun t=>.p (.str t)):=by
 refine holdsN_of_vc Tryz.func102 rfl rfl rfl ?_
 have hl':(ws.map Wd.cells).length=ws.length:=List.length_map ..
 refine(kind_h ws q hl hq).holds.mono fun e H' h=>?_
 obtain⟨rfl,rfl⟩:=h
 (first | refine brLt (fun h1=>?_) (fun h1=>?_) | refine brLe (fun h1=>?_) (fun h1=>?_) | refine brEq (fun h1=>?_) (fun h1=>?_))
 ·have h1:knd ws q=1:=h1
  have hlt:q<ws.length:=knd_lt (by rw [h1];decide)
  refine⟨_,wrap_i64 (by omega) (by omega),?_⟩
  refine VDraw.seq rfl ?_
  refine⟨(q:Int),by rw [show(q:Int)+1 - 1=(q:Int) by omega];exact wrap_i64 (by omega) (by omega),?_⟩
  refine⟨_,⟨by omega,(wat ws q).cells,wdcell hlt,rfl⟩,?_⟩
  exact⟨[],[],[], .returned (.p (.str (txt ws q))),psH ws (q+1),rfl,sk,sk,by rw [nameR,if_pos h1];exact⟨hlt,rfl,rfl⟩⟩
 ·have h1:¬ knd ws q=1:=h1
  refine(fail_h ws q hl hq).holds.mono fun e H' h=>?_
  obtain⟨rfl,rfl⟩:=h
  exact⟨[],[],[],failX ws q,⟨1,[]⟩,rfl,⟨_,rfl,_,_,rfl,rfl,rfl⟩,trivial,by rw [(show nameR ws q=.inl q by rw [nameR,if_neg h1])];exact⟨rfl,rfl⟩⟩
theorem decode_at {s:List UInt8} {i:Nat} (h:i<s.length) (hb:(s.getD i 0).toNat<128):Utf8.decode ⟨⟨s⟩⟩ i=((s.getD i 0).toNat,1):=by
 have e:(ByteArray.get! ⟨⟨s⟩⟩ (i+0))=s.getD i 0:=by
  rw [Nat.add_zero,List.getD_eq_getElem?_getD]
  show(⟨s⟩:Array UInt8)[i]! = _
  rw [getElem!_def,List.getElem?_toArray,List.getElem?_eq_getElem h];rfl
 unfold Utf8.decode
 simp only [e]
 rw [if_pos hb]
theorem valD_snoc (t:List UInt8) (b:UInt8):valD (t++[b])=10 * valD t+((b.toNat:Int) - 48):=by rw [valD,valD,List.foldl_append];rfl
theorem valD_take {t:List UInt8} (h:∀ b∈t,48≤b.toNat∧b.toNat≤57):∀ k,k≤t.length→0≤valD (t.take k)∧valD (t.take k)<10 ^ k
 | 0,_=>by rw [List.take_zero];exact⟨Int.le_refl 0,by decide⟩
 | k+1,hk=>by
  have ih:=valD_take h k (by omega)
  have hb:=h _ (getD_memL 0 (show k<t.length by omega))
  rw [take_succ_getD 0 (by omega),valD_snoc,Int.pow_succ]
  omega
theorem num_dig {t:List UInt8} (h:numN t=true):t.length≤4∧∀ b∈t,48≤b.toNat∧b.toNat≤57:=by
 unfold numN at h
 simp only [Bool.and_eq_true,decide_eq_true_eq] at h
 obtain⟨⟨⟨h1,h2⟩,h3⟩,h4⟩:=h
 refine⟨h2,?_⟩
 have key:∀ l:List UInt8,spanN isDig l=l.length→∀ b∈l,48≤b.toNat∧b.toNat≤57:=by
  intro l
  induction l with
  | nil=>intro _ b hb;simp at hb
  | cons c r ih=>
   intro he b hb
   simp only [spanN] at he
   split at he
   ·rename_i hc
    simp only [isDig,Bool.and_eq_true,decide_eq_true_eq] at hc
    rcases List.mem_cons.1 hb with rfl | hb
    ·exact hc
    ·exact ih (by simpa using he) b hb
   ·simp at he
 exact key t h3
theorem num_ok {ws:List Wd} (hg:GoodW ws) {q:Nat} (h:knd ws q=3):numN (txt ws q)=true:=by
 have:=hg.at (knd_lt (by rw [h];decide))
 rw [h] at this
 exact this
theorem wrap_i32 {n:Int} (h0:-2147483648≤n) (h1:n≤2147483647):n=IntKind.i32.wrap n:=by
 simp [IntKind.wrap,IntKind.bits,IntKind.signed]
 omega
theorem number_h (ws:List Wd) (q:Nat) (hg:GoodW ws) (hq:q≤ws.length):HoldsG cx 101 [.ptr 0 0 0] (psH ws q) (rdQ ws (numR ws q) fun n=>.p (i64 n)):=by
 refine holdsN_of_vc Tryz.func101 rfl rfl rfl ?_
 have hl:=hg.len
 refine(kind_h ws q hl hq).holds.mono fun e H' h=>?_
 obtain⟨rfl,rfl⟩:=h
 (first | refine brLt (fun h1=>?_) (fun h1=>?_) | refine brLe (fun h1=>?_) (fun h1=>?_) | refine brEq (fun h1=>?_) (fun h1=>?_))
 rotate_left
 ·have h1:¬ knd ws q=3:=h1
  refine(fail_h ws q hl hq).holds.mono fun e H' h=>?_
  obtain⟨rfl,rfl⟩:=h
  exact⟨[],[],[],failX ws q,⟨1,[]⟩,rfl,⟨_,rfl,_,_,rfl,rfl,rfl⟩,trivial,by rw [(show numR ws q=.inl q by rw [numR,if_neg h1])];exact⟨rfl,rfl⟩⟩
 have h1:knd ws q=3:=h1
 have hlt:q<ws.length:=knd_lt (by rw [h1];decide)
 obtain⟨ht4,hdg⟩:=num_dig (num_ok hg h1)
 obtain⟨t,ht⟩:∃ t,t=txt ws q:=⟨_,rfl⟩
 rw [← ht] at ht4 hdg
 refine(text_h ws q hl hq).holds.mono fun e H' h=>?_
 obtain⟨rfl,rfl⟩:=h
 refine⟨Nat,fun k=>[(0, .ptr 0 0 0),(3, .p (i64 (valD (t.take k)))),(19, .ptr 1 0 0)],fun k=>⟨2,[(1,⟨TStr,false, .it t k⟩),(0,psO ws q)]⟩,fun k=>k≤t.length,fun k=>t.length - k,?_,?_⟩
 ·exact⟨0,Nat.zero_le _,ent_of [] [] [] rfl ⟨⟨rfl,rfl⟩,rfl,⟨rfl,rfl⟩,trivial⟩ ⟨⟨_,rfl,rfl,rfl,congrArg (fun t=>Cn.it t 0) ht.symm⟩,⟨_,rfl,rfl,rfl,_,rfl,_,_,rfl,rfl,_,_,rfl,rfl,rfl⟩,trivial⟩ rfl⟩
 intro k hk
 refine And.intro (fun h2=>?_) (fun h2=>?_)
 ·have hke:k=t.length:=by omega
  subst hke
  refine⟨_,wrap_i64 (by omega) (by omega),?_⟩
  exact⟨[],[],[], .returned (.p (i64 (valD t))),psH ws (q+1),rfl,⟨_,rfl,by rw [take_all (Nat.le_refl _)];rfl⟩,sk,by rw [numR,if_pos h1,← ht];exact⟨hlt,rfl,rfl⟩⟩
 ·obtain⟨b,hb⟩:∃ b,b=t.getD k 0:=⟨_,rfl⟩
  have hbd:=hdg b (by rw [hb];exact getD_memL 0 h2)
  have hv:=valD_take hdg k hk
  have hp:(10:Int) ^ k≤10 ^ 4:=by
   rcases (show k=0∨k=1∨k=2∨k=3∨k=4 by omega) with rfl | rfl | rfl | rfl | rfl <;> decide
  have hp4:(10:Int) ^ 4=10000:=by decide
  refine⟨b.toNat,1,by rw [decode_at h2 (by rw [← hb];omega),← hb],?_⟩
  refine⟨10 * valD (t.take k),wrap_i64 (by omega) (by omega),?_⟩
  refine⟨(b.toNat:Int) - 48,wrap_i32 (by omega) (by omega),?_⟩
  refine⟨(b.toNat:Int) - 48,wrap_i64 (by omega) (by omega),?_⟩
  refine⟨valD (t.take (k+1)),by rw [take_succ_getD 0 h2,← hb,valD_snoc];exact wrap_i64 (by omega) (by omega),?_⟩
  exact⟨k+1,h2,ent_of [] [] [] rfl ⟨⟨rfl,rfl⟩,rfl,⟨rfl,rfl⟩,trivial⟩ ⟨⟨_,rfl,rfl,rfl,rfl⟩,⟨_,rfl,rfl,rfl,_,rfl,_,_,rfl,rfl,_,_,rfl,rfl,rfl⟩,trivial⟩ rfl,by show t.length - (k+1)<t.length - k;omega⟩
theorem expect_h (ws:List Wd) (q0:Nat) (l:List (List UInt8)) (hl:ws.length≤1500) (hq:q0≤ws.length) (hn:∀ s∈l,s ≠ []) (hw:l.length≤1000) :
  HoldsG cx 76 [.ptr 0 0 0, .p (strs l)] (psH ws q0) (rdQ ws (mustsR ws l q0) fun _=>und):=by
 refine holdsN_of_vc Tryz.func76 rfl rfl rfl ?_
 refine⟨Nat × Nat,fun x=>[(0, .ptr 0 0 0),(6, .p (strs l)),(7, .p (i64 l.length)),(8, .p (i64 x.1))],fun x=>psH ws x.2,fun x=>x.1≤l.length∧x.2≤ws.length∧mustsR ws (l.drop x.1) x.2=mustsR ws l q0,fun x=>l.length - x.1,?_,?_⟩
 ·exact⟨(0,q0),⟨by simp,hq,rfl⟩,ent_of [] [] [] rfl ⟨⟨rfl,rfl⟩,rfl,congrArg (fun n:Nat=>i64 n) (List.length_map ..).symm,rfl,trivial⟩ (sk) rfl⟩
 rintro⟨k,q⟩ ⟨k1,k2,k3⟩
 simp only [] at k1 k2 k3
 (first | refine brLt (fun h1=>?_) (fun h1=>?_) | refine brLe (fun h1=>?_) (fun h1=>?_) | refine brEq (fun h1=>?_) (fun h1=>?_))
 ·have h1:(k:Int)<(l.length:Nat):=h1
  have hk:k<l.length:=by omega
  obtain⟨s,hs⟩:∃ s,s=l.getD k []:=⟨_,rfl⟩
  rw [dropD [] hk,← hs,mustsR,mustR] at k3
  refine⟨_,⟨by omega, .str s,by rw [hs];exact tcell hk,rfl⟩,?_⟩
  by_cases h2:txt ws q=s
  ·rw [if_pos h2] at k3
   have hlt:q<ws.length:=txt_lt (by rw [h2,hs];exact hn _ (getD_memL [] hk))
   refine(skip_h ws q s hl k2).holds.mono fun e H' hq=>?_
   obtain⟨rfl,rfl⟩:=hq.1 h2
   refine⟨_,wrap_i64 (by omega) (by omega),?_⟩
   exact⟨(k+1,q+1),⟨by simp only [];omega,hlt,k3⟩,ent_of [] [] [] rfl (sk) (sk) rfl,by show l.length - (k+1)<l.length - k;omega⟩
  ·rw [if_neg h2] at k3
   refine(skip_h ws q s hl k2).holds.mono fun e H' hq=>?_
   obtain⟨rfl,rfl⟩:=hq.2 h2
   refine(fail_h ws q hl k2).holds.mono fun e H' hq=>?_
   obtain⟨rfl,rfl⟩:=hq
   exact⟨[],[],[],failX ws q,⟨1,[]⟩,rfl,⟨_,rfl,_,_,rfl,rfl,rfl⟩,trivial,by rw [k3.symm];exact⟨rfl,rfl⟩⟩
 ·have h1:¬ (k:Int)<(l.length:Nat):=h1
  rw [show l.drop k=[] from List.drop_eq_nil_of_le (by omega),mustsR] at k3
  exact⟨[],[],[], .returned und,psH ws q,rfl,sk,sk,by rw [← k3];exact⟨k2,rfl,rfl⟩⟩
theorem then_inr {α β:Type} (a:α) (q:Nat) (k:α→Nat→Rd β):Rd.then (.inr (a,q)) k=k a q:=rfl
theorem musts1 (ws:List Wd) (s:List UInt8) (q:Nat):mustsR ws [s] q=mustR ws s q:=by
 rw [mustsR]
 cases h:mustR ws s q with
 | inl e=>rfl
 | inr x=>rfl
def rO (r:Rf):AObj:=⟨TRef,false, .bx (r.cells.map .p)⟩
def sO (l:List (List UInt8)):AObj:=⟨TStr,true, .pu (l.map .str)⟩
theorem ref_h (ws:List Wd) (q0:Nat) (hg:GoodW ws) (hq0:q0≤ws.length):HoldsG cx 136 [.ptr 0 0 0] (psH ws q0) (rdQ ws (refR ws q0) fun r=>.p r.pv):=by
 generalize hR:refR ws q0=R
 rw [refR] at hR
 refine holdsN_of_vc Tryz.func136 rfl rfl rfl ?_
 have hl:=hg.len
 refine(name_h ws q0 hl hq0).holds.useT [] [] rfl (sk) (sk) fun e0 H0 hq=>?_
 rcases h1:nameR ws q0 with p | ⟨nm,q1⟩
 ·rw [h1] at hq hR
  obtain⟨rfl,rfl⟩:=hq
  refine⟨rfl,_,_,rfl,rfl,?_⟩
  exact⟨[],[],[],failX ws p,⟨1,[]⟩,rfl,⟨_,rfl,_,_,rfl,rfl,rfl⟩,trivial,by rw [← hR];exact⟨rfl,rfl⟩⟩
 rw [h1] at hq hR
 obtain⟨q1l,rfl,rfl⟩:=hq
 refine⟨rfl,_,⟨2,(0,psO ws q1)::[(1,rO rf0)]⟩,rfl,rfl,?_⟩
 simp only [then_inr] at hR
 by_cases c1:txt ws q1=tLB
 rotate_left
 ·refine(skip_h ws q1 tLB hl q1l).holds.useT [] [] rfl (sk) (sk) fun e0 H0 hq=>?_
  obtain⟨rfl,rfl⟩:=hq.2 c1
  refine⟨rfl,_,⟨3,(0,psO ws q1)::[(2,rO ⟨nm,0,[],0⟩),(1,rO rf0)]⟩,rfl,rfl,?_⟩
  rw [if_neg c1] at hR
  exact⟨[],[],[], .returned (.p (⟨nm,0,[],0⟩:Rf).pv),psH ws q1,rfl,sk,sk,by rw [← hR];exact⟨q1l,rfl,rfl⟩⟩
 have q2l:q1+1≤ws.length:=txt_lt (by rw [c1];decide)
 refine(skip_h ws q1 tLB hl q1l).holds.useT [] [] rfl (sk) (sk) fun e0 H0 hq=>?_
 obtain⟨rfl,rfl⟩:=hq.1 c1
 refine⟨rfl,_,⟨3,(0,psO ws (q1+1))::[(2,rO ⟨nm,0,[],0⟩),(1,rO rf0)]⟩,rfl,rfl,?_⟩
 rw [if_pos c1] at hR
 by_cases c2:txt ws (q1+1)=tAll
 ·rw [if_pos c2] at hR
  have q2l':q1+2≤ws.length:=txt_lt (by rw [c2];decide)
  refine(skip_h ws (q1+1) tAll hl q2l).holds.useT [] [] rfl (sk) (sk) fun e0 H0 hq=>?_
  obtain⟨rfl,rfl⟩:=hq.1 c2
  refine⟨rfl,_,⟨3,(0,psO ws (q1+2))::[(2,rO ⟨nm,0,[],0⟩),(1,rO rf0)]⟩,rfl,rfl,?_⟩
  rw [refTail,← musts1] at hR
  refine(expect_h ws (q1+2) [tRB] hl q2l' (by simp) (by simp)).holds.useT [3] [] rfl (sk) ⟨_,_,rfl,⟨rfl,rfl⟩,_,_,rfl,⟨_,rfl,by decide,rfl⟩,rfl⟩ fun e0 H0 hq=>?_
  rcases hm:mustsR ws [tRB] (q1+2) with p | ⟨u,q9⟩
  ·rw [hm] at hq hR
   obtain⟨rfl,rfl⟩:=hq
   refine⟨rfl,_,_,rfl,rfl,?_⟩
   exact⟨[],[],[],failX ws p,⟨1,[]⟩,rfl,⟨_,rfl,_,_,rfl,rfl,rfl⟩,trivial,by rw [← hR];exact⟨rfl,rfl⟩⟩
  rw [hm] at hq hR
  obtain⟨q9l,rfl,rfl⟩:=hq
  refine⟨rfl,_,⟨4,(0,psO ws q9)::[(3,sO [tRB]),(2,rO ⟨nm,3,[],0⟩),(1,rO rf0)]⟩,rfl,rfl,?_⟩
  simp only [then_inr] at hR
  exact⟨[],[],[], .returned (.p (⟨nm,3,[],0⟩:Rf).pv),psH ws q9,rfl,sk,sk,by rw [← hR];exact⟨q9l,rfl,rfl⟩⟩
 rw [if_neg c2] at hR
 refine(skip_h ws (q1+1) tAll hl q2l).holds.useT [] [] rfl (sk) (sk) fun e0 H0 hq=>?_
 obtain⟨rfl,rfl⟩:=hq.2 c2
 refine⟨rfl,_,⟨3,(0,psO ws (q1+1))::[(2,rO ⟨nm,0,[],0⟩),(1,rO rf0)]⟩,rfl,rfl,?_⟩
 refine(kind_h ws (q1+1) hl q2l).holds.useT [] [] rfl (sk) (sk) fun e0 H0 hq=>?_
 obtain⟨rfl,rfl⟩:=hq
 refine⟨rfl,_,⟨3,(0,psO ws (q1+1))::[(2,rO ⟨nm,0,[],0⟩),(1,rO rf0)]⟩,rfl,rfl,?_⟩
 (first | refine brLt (fun c3=>?_) (fun c3=>?_) | refine brLe (fun c3=>?_) (fun c3=>?_) | refine brEq (fun c3=>?_) (fun c3=>?_))
 ·have c3:knd ws (q1+1)=3:=c3
  rw [if_pos c3] at hR
  refine(number_h ws (q1+1) hg q2l).holds.useT [] [] rfl (sk) (sk) fun e0 H0 hq=>?_
  rcases h4:numR ws (q1+1) with p | ⟨n,q4⟩
  ·rw [h4] at hq hR
   obtain⟨rfl,rfl⟩:=hq
   refine⟨rfl,_,_,rfl,rfl,?_⟩
   exact⟨[],[],[],failX ws p,⟨1,[]⟩,rfl,⟨_,rfl,_,_,rfl,rfl,rfl⟩,trivial,by rw [← hR];exact⟨rfl,rfl⟩⟩
  rw [h4] at hq hR
  obtain⟨q4l,rfl,rfl⟩:=hq
  refine⟨rfl,_,⟨3,(0,psO ws q4)::[(2,rO ⟨nm,2,[],0⟩),(1,rO rf0)]⟩,rfl,rfl,?_⟩
  simp only [then_inr] at hR
  rw [refTail,← musts1] at hR
  refine(expect_h ws q4 [tRB] hl q4l (by simp) (by simp)).holds.useT [3] [] rfl (sk) ⟨_,_,rfl,⟨rfl,rfl⟩,_,_,rfl,⟨_,rfl,by decide,rfl⟩,rfl⟩ fun e0 H0 hq=>?_
  rcases hm:mustsR ws [tRB] q4 with p | ⟨u,q9⟩
  ·rw [hm] at hq hR
   obtain⟨rfl,rfl⟩:=hq
   refine⟨rfl,_,_,rfl,rfl,?_⟩
   exact⟨[],[],[],failX ws p,⟨1,[]⟩,rfl,⟨_,rfl,_,_,rfl,rfl,rfl⟩,trivial,by rw [← hR];exact⟨rfl,rfl⟩⟩
  rw [hm] at hq hR
  obtain⟨q9l,rfl,rfl⟩:=hq
  refine⟨rfl,_,⟨4,(0,psO ws q9)::[(3,sO [tRB]),(2,rO ⟨nm,2,[],n⟩),(1,rO rf0)]⟩,rfl,rfl,?_⟩
  simp only [then_inr] at hR
  exact⟨[],[],[], .returned (.p (⟨nm,2,[],n⟩:Rf).pv),psH ws q9,rfl,sk,sk,by rw [← hR];exact⟨q9l,rfl,rfl⟩⟩
 have c3:¬ knd ws (q1+1)=3:=c3
 rw [if_neg c3] at hR
 refine(name_h ws (q1+1) hl q2l).holds.useT [] [] rfl (sk) (sk) fun e0 H0 hq=>?_
 rcases h5:nameR ws (q1+1) with p | ⟨pl,q5⟩
 ·rw [h5] at hq hR
  obtain⟨rfl,rfl⟩:=hq
  refine⟨rfl,_,_,rfl,rfl,?_⟩
  exact⟨[],[],[],failX ws p,⟨1,[]⟩,rfl,⟨_,rfl,_,_,rfl,rfl,rfl⟩,trivial,by rw [← hR];exact⟨rfl,rfl⟩⟩
 rw [h5] at hq hR
 obtain⟨q5l,rfl,rfl⟩:=hq
 refine⟨rfl,_,⟨3,(0,psO ws q5)::[(2,rO ⟨nm,1,[],0⟩),(1,rO rf0)]⟩,rfl,rfl,?_⟩
 simp only [then_inr] at hR
 by_cases c6:txt ws q5=tPlus
 ·rw [if_pos c6] at hR
  have q6l:q5+1≤ws.length:=txt_lt (by rw [c6];decide)
  refine(skip_h ws q5 tPlus hl q5l).holds.useT [] [] rfl (sk) (sk) fun e0 H0 hq=>?_
  obtain⟨rfl,rfl⟩:=hq.1 c6
  refine⟨rfl,_,⟨3,(0,psO ws (q5+1))::[(2,rO ⟨nm,1,pl,0⟩),(1,rO rf0)]⟩,rfl,rfl,?_⟩
  refine(number_h ws (q5+1) hg q6l).holds.useT [] [] rfl (sk) (sk) fun e0 H0 hq=>?_
  rcases h7:numR ws (q5+1) with p | ⟨n,q7⟩
  ·rw [h7] at hq hR
   obtain⟨rfl,rfl⟩:=hq
   refine⟨rfl,_,_,rfl,rfl,?_⟩
   exact⟨[],[],[],failX ws p,⟨1,[]⟩,rfl,⟨_,rfl,_,_,rfl,rfl,rfl⟩,trivial,by rw [← hR];exact⟨rfl,rfl⟩⟩
  rw [h7] at hq hR
  obtain⟨q7l,rfl,rfl⟩:=hq
  refine⟨rfl,_,⟨3,(0,psO ws q7)::[(2,rO ⟨nm,1,pl,0⟩),(1,rO rf0)]⟩,rfl,rfl,?_⟩
  simp only [then_inr] at hR
  rw [refTail,← musts1] at hR
  refine(expect_h ws q7 [tRB] hl q7l (by simp) (by simp)).holds.useT [3] [] rfl (sk) ⟨_,_,rfl,⟨rfl,rfl⟩,_,_,rfl,⟨_,rfl,by decide,rfl⟩,rfl⟩ fun e0 H0 hq=>?_
  rcases hm:mustsR ws [tRB] q7 with p | ⟨u,q9⟩
  ·rw [hm] at hq hR
   obtain⟨rfl,rfl⟩:=hq
   refine⟨rfl,_,_,rfl,rfl,?_⟩
   exact⟨[],[],[],failX ws p,⟨1,[]⟩,rfl,⟨_,rfl,_,_,rfl,rfl,rfl⟩,trivial,by rw [← hR];exact⟨rfl,rfl⟩⟩
  rw [hm] at hq hR
  obtain⟨q9l,rfl,rfl⟩:=hq
  refine⟨rfl,_,⟨4,(0,psO ws q9)::[(3,sO [tRB]),(2,rO ⟨nm,1,pl,n⟩),(1,rO rf0)]⟩,rfl,rfl,?_⟩
  simp only [then_inr] at hR
  exact⟨[],[],[], .returned (.p (⟨nm,1,pl,n⟩:Rf).pv),psH ws q9,rfl,sk,sk,by rw [← hR];exact⟨q9l,rfl,rfl⟩⟩
 ·rw [if_neg c6] at hR
  refine(skip_h ws q5 tPlus hl q5l).holds.useT [] [] rfl (sk) (sk) fun e0 H0 hq=>?_
  obtain⟨rfl,rfl⟩:=hq.2 c6
  refine⟨rfl,_,⟨3,(0,psO ws q5)::[(2,rO ⟨nm,1,pl,0⟩),(1,rO rf0)]⟩,rfl,rfl,?_⟩
  rw [refTail,← musts1] at hR
  refine(expect_h ws q5 [tRB] hl q5l (by simp) (by simp)).holds.useT [3] [] rfl (sk) ⟨_,_,rfl,⟨rfl,rfl⟩,_,_,rfl,⟨_,rfl,by decide,rfl⟩,rfl⟩ fun e0 H0 hq=>?_
  rcases hm:mustsR ws [tRB] q5 with p | ⟨u,q9⟩
  ·rw [hm] at hq hR
   obtain⟨rfl,rfl⟩:=hq
   refine⟨rfl,_,_,rfl,rfl,?_⟩
   exact⟨[],[],[],failX ws p,⟨1,[]⟩,rfl,⟨_,rfl,_,_,rfl,rfl,rfl⟩,trivial,by rw [← hR];exact⟨rfl,rfl⟩⟩
  rw [hm] at hq hR
  obtain⟨q9l,rfl,rfl⟩:=hq
  refine⟨rfl,_,⟨4,(0,psO ws q9)::[(3,sO [tRB]),(2,rO ⟨nm,1,pl,0⟩),(1,rO rf0)]⟩,rfl,rfl,?_⟩
  simp only [then_inr] at hR
  exact⟨[],[],[], .returned (.p (⟨nm,1,pl,0⟩:Rf).pv),psH ws q9,rfl,sk,sk,by rw [← hR];exact⟨q9l,rfl,rfl⟩⟩
def LI {α:Type} (R:Rd α) (go:Nat→Rd α) (m:Nat):Prop:=∃ f,m<f∧R=go f
theorem LI.is {α:Type} {R x:Rd α} {go:Nat→Rd α} {m:Nat} (h:LI R go m) (hgo:∀ f,go (f+1)=x):R=x:=by
 obtain⟨f,hf,rfl⟩:=h
 obtain⟨f,rfl⟩:∃ g,f=g+1:=⟨f - 1,by omega⟩
 exact hgo f
theorem LI.nxt {α:Type} {R:Rd α} {go go':Nat→Rd α} {m m':Nat} (h:LI R go m) (hgo:∀ f,go (f+1)=go' f) (hm:m'<m):LI R go' m':=by
 obtain⟨f,hf,rfl⟩:=h
 obtain⟨f,rfl⟩:∃ g,f=g+1:=⟨f - 1,by omega⟩
 exact⟨f,by omega,hgo f⟩
theorem name_lt {ws:List Wd} {q q':Nat} {t:List UInt8} (h:nameR ws q=.inr (t,q')):q<q':=by
 rw [nameR] at h
 split at h
 ·injection h with h;injection h with h1 h2;omega
 ·cases h
theorem num_lt {ws:List Wd} {q q':Nat} {n:Int} (h:numR ws q=.inr (n,q')):q<q':=by
 rw [numR] at h
 split at h
 ·injection h with h;injection h with h1 h2;omega
 ·cases h
theorem must_lt {ws:List Wd} {s:List UInt8} {q q':Nat} {u:Unit} (h:mustR ws s q=.inr (u,q')):q<q':=by
 rw [mustR] at h
 split at h
 ·injection h with h;injection h with h1 h2;omega
 ·cases h
theorem then_ok {α β:Type} {r:Rd α} {k:α→Nat→Rd β} {b:β} {q:Nat} (h:r.then k=.inr (b,q)):∃ a p,r=.inr (a,p)∧k a p=.inr (b,q):=by
 cases r with
 | inl e=>cases h
 | inr x=>exact⟨x.1,x.2,rfl,h⟩
theorem tail_lt {ws:List Wd} {nm pl:List UInt8} {m n:Int} {q q':Nat} {r:Rf} (h:refTail ws nm m pl n q=.inr (r,q')):q<q':=by
 obtain⟨u,p,h1,h2⟩:=then_ok h
 have:=must_lt h1
 injection h2 with h2;injection h2 with h3 h4;omega
theorem ref_lt {ws:List Wd} {q q':Nat} {r:Rf} (h:refR ws q=.inr (r,q')):q<q':=by
 rw [refR] at h
 obtain⟨nm,q1,h1,h⟩:=then_ok h
 have:=name_lt h1
 try simp only [] at h
 split at h
 ·split at h
  ·have:=tail_lt h;omega
  ·split at h
   ·obtain⟨n,q2,h2,h⟩:=then_ok h
    have:=num_lt h2
    have:=tail_lt h;omega
   ·obtain⟨pl,q2,h2,h⟩:=then_ok h
    have:=name_lt h2
    try simp only [] at h
    split at h
    ·obtain⟨n,q3,h3,h⟩:=then_ok h
     have:=num_lt h3
     have:=tail_lt h;omega
    ·have:=tail_lt h;omega
 ·injection h with h;injection h with h3 h4;omega
def bxO:AObj:=⟨125,false, .bx [.ptr 0 0 0]⟩
abbrev pbH (ws:List Wd) (q:Nat):Hp:=⟨2,[(0,psO ws q),(1,bxO)]⟩
def rdQ2 {α:Type} (ws:List Wd) (r:Rd α) (val:α→AV) (e:AE) (H':Hp):Prop:=match r with
 | .inl p=>e=failX ws p∧H'=⟨2,[]⟩
 | .inr (a,q)=>q≤ws.length∧e=.returned (val a)∧H'=pbH ws q
theorem refs1_h (ws:List Wd) (q0:Nat) (hg:GoodW ws) (hq0:q0≤ws.length):HoldsG cx 135 [.ptr 1 0 0] (pbH ws q0) (rdQ2 ws (refR ws q0) fun r=>.p r.pv):=by
 generalize hR:refR ws q0=R
 refine holdsN_of_vc Tryz.func135 rfl rfl rfl ?_
 have hl:=hg.len
 have hc:=ref_h ws q0 hg hq0
 rw [hR] at hc
 refine hc.holds.useT [] [] rfl (sk) (sk) fun e0 H0 hq=>?_
 rcases R with p | ⟨r,q1⟩
 ·obtain⟨rfl,rfl⟩:=hq
  refine⟨rfl,_,_,rfl,rfl,?_⟩
  exact⟨[],[],[],failX ws p,⟨2,[]⟩,rfl,⟨_,rfl,_,_,rfl,rfl,rfl⟩,trivial,rfl,rfl⟩
 obtain⟨q1l,rfl,rfl⟩:=hq
 refine⟨rfl,_,⟨3,(0,psO ws q1)::[(2,rO rf0),(1,bxO)]⟩,rfl,rfl,?_⟩
 exact⟨[],[],[], .returned (.p r.pv),pbH ws q1,rfl,sk,sk,q1l,rfl,rfl⟩
def refsO (l:List Rf):AObj:=⟨TRef,false, .pus (l.map Rf.cells)⟩
def cmF:AV:=.fn (.func 134) [.ptr 0 0 0] []
def rfF:AV:=.fn (.func 135) [] [.ptr 1 0 0]
theorem listRef_h (ws:List Wd) (F q0:Nat) (hF:ws.length<F) (hg:GoodW ws) (hq0:q0≤ws.length):HoldsG cx 133 [cmF,rfF] (pbH ws q0) (rdQ2 ws (listR ws (refR ws) F q0) fun l=>.p (rfl_ l)):=by
 generalize hR:listR ws (refR ws) F q0=R
 rw [listR] at hR
 refine holdsN_of_vc Tryz.func133 rfl rfl rfl ?_
 have hl:=hg.len
 refine(refs1_h ws q0 hg hq0).holds.useT [] [] rfl (sk) (sk) fun e0 H0 hq=>?_
 rcases h1:refR ws q0 with p | ⟨r0,q1⟩
 ·rw [h1] at hq hR
  obtain⟨rfl,rfl⟩:=hq
  refine⟨rfl,_,_,rfl,rfl,?_⟩
  exact⟨[],[],[],failX ws p,⟨2,[]⟩,rfl,⟨_,rfl,_,_,rfl,rfl,rfl⟩,trivial,by rw [← hR];exact⟨rfl,rfl⟩⟩
 rw [h1] at hq hR
 obtain⟨q1l,rfl,rfl⟩:=hq
 refine⟨rfl,_,pbH ws q1,rfl,rfl,?_⟩
 simp only [then_inr] at hR
 refine⟨List Rf × Nat,fun x=>[(0,cmF),(1,rfF),(5, .sl 2 4 0 x.1.length)],fun x=>⟨3,[(2,refsO x.1),(0,psO ws x.2),(1,bxO)]⟩,fun x=>x.2≤ws.length∧x.1.length≤x.2∧LI R (fun f=>moreR ws (refR ws) f x.1 x.2) (ws.length - x.2),fun x=>ws.length - x.2,?_,?_⟩
 ·exact⟨([r0],q1),⟨q1l,by simp only [List.length_singleton];have:=ref_lt h1;omega,⟨F,by omega,hR.symm⟩⟩,ent_of [] [] [] rfl ⟨⟨rfl,_,_,rfl,⟨_,_,rfl,⟨rfl,rfl⟩,rfl⟩,rfl⟩,⟨rfl,_,_,rfl,rfl,⟨_,_,rfl,⟨rfl,rfl⟩,rfl⟩⟩,rfl,trivial⟩ (sk) rfl⟩
 rintro⟨acc,q⟩ ⟨k1,k2,k3⟩
 simp only [] at k1 k2 k3
 by_cases c1:txt ws q=tComma
 ·have ql:q+1≤ws.length:=txt_lt (by rw [c1];decide)
  refine(comma_h ws q hl k1).holds.useT [] [] rfl (sk) (sk) fun e0 H0 hq=>?_
  obtain⟨rfl,rfl⟩:=hq.1 c1
  refine⟨rfl,_,⟨3,(0,psO ws (q+1))::[(2,refsO acc),(1,bxO)]⟩,rfl,rfl,?_⟩
  refine(refs1_h ws (q+1) hg ql).holds.useT [] [] rfl (sk) (sk) fun e0 H0 hq=>?_
  rcases h2:refR ws (q+1) with p | ⟨r,q2⟩
  ·rw [h2] at hq
   obtain⟨rfl,rfl⟩:=hq
   refine⟨rfl,_,_,rfl,rfl,?_⟩
   have hR:=k3.is (x:=.inl p) fun f=>by rw [moreR,if_pos c1,h2];rfl
   exact⟨[],[],[],failX ws p,⟨2,[]⟩,rfl,⟨_,rfl,_,_,rfl,rfl,rfl⟩,trivial,by rw [hR];exact⟨rfl,rfl⟩⟩
  rw [h2] at hq
  obtain⟨q2l,rfl,rfl⟩:=hq
  have hlt:=ref_lt h2
  refine⟨rfl,_,⟨3,(0,psO ws q2)::(1,bxO)::[(2,refsO acc)]⟩,rfl,rfl,?_⟩
  refine⟨by show 0+1≤1;omega,[r.cells],rfl,?_⟩
  refine⟨by show 0+acc.length≤(acc.map Rf.cells).length;simp,acc.map Rf.cells,takeAll (by simp),by show(acc.length+1) * 48≤140737488355328;omega,(acc++[r]).map Rf.cells,by simp,?_⟩
  exact⟨(acc++[r],q2),⟨q2l,by simp only [snoc_len];omega,k3.nxt (fun f=>by rw [moreR,if_pos c1,h2];rfl) (by omega)⟩,ent_of [] [(2,4)] [] rfl ⟨⟨rfl,_,_,rfl,⟨_,_,rfl,⟨rfl,rfl⟩,rfl⟩,rfl⟩,⟨rfl,_,_,rfl,rfl,⟨_,_,rfl,⟨rfl,rfl⟩,rfl⟩⟩,congrArg (fun k:Nat=>AV.sl 4 4 0 k) (snoc_len acc r).symm,trivial⟩ (sk) rfl,by show ws.length - q2<ws.length - q;omega⟩
 ·refine(comma_h ws q hl k1).holds.useT [] [] rfl (sk) (sk) fun e0 H0 hq=>?_
  obtain⟨rfl,rfl⟩:=hq.2 c1
  refine⟨rfl,_,⟨3,(0,psO ws q)::[(2,refsO acc),(1,bxO)]⟩,rfl,rfl,?_⟩
  have hR:=k3.is (x:=.inr (acc,q)) fun f=>by rw [moreR,if_neg c1]
  exact⟨[2],[],[], .returned (.p (rfl_ acc)),pbH ws q,rfl,⟨_,rfl,⟨_,rfl,by show 0+acc.length≤(acc.map Rf.cells).length;simp,takeAll (by simp)⟩⟩,sk,by rw [hR];exact⟨k1,rfl,rfl⟩⟩
theorem num_bd {ws:List Wd} (hg:GoodW ws) {q q':Nat} {n:Int} (h:numR ws q=.inr (n,q')):0≤n∧n≤9999:=by
 rw [numR] at h
 split at h
 ·rename_i hk
  injection h with h;injection h with h1 h2
  obtain⟨h4,hd⟩:=num_dig (num_ok hg hk)
  have hv:=valD_take hd _ (Nat.le_refl _)
  rw [take_all (Nat.le_refl _),h1] at hv
  have hp:(10:Int) ^ (txt ws q).length≤10 ^ 4:=by
   rcases (show(txt ws q).length=0∨(txt ws q).length=1∨(txt ws q).length=2∨(txt ws q).length=3∨(txt ws q).length=4 by omega) with e | e | e | e | e <;> rw [e] <;> decide
  have hp4:(10:Int) ^ 4=10000:=by decide
  omega
 ·cases h
theorem refs_h (ws:List Wd) (F q0:Nat) (key:List UInt8) (hk:key ≠ []) (hF:ws.length<F) (hg:GoodW ws) (hq0:q0≤ws.length):HoldsG cx 104 [.ptr 0 0 0, .p (.str key)] (psH ws q0) (rdQ ws (refsR ws F key q0) fun l=>.p (rfl_ l)):=by
 generalize hR:refsR ws F key q0=R
 rw [refsR] at hR
 refine holdsN_of_vc Tryz.func104 rfl rfl rfl ?_
 have hl:=hg.len
 by_cases c1:txt ws q0=key
 rotate_left
 ·rw [if_neg c1] at hR
  refine(skip_h ws q0 key hl hq0).holds.useT [] [] rfl (sk) (sk) fun e0 H0 hq=>?_
  obtain⟨rfl,rfl⟩:=hq.2 c1
  refine⟨rfl,_,⟨2,(0,psO ws q0)::[(1,bxO)]⟩,rfl,rfl,?_⟩
  exact⟨[],[],[], .returned (.p (rfl_ [])),psH ws q0,rfl,⟨_,rfl, .inr (.inr ⟨4,rfl⟩)⟩,sk,by rw [← hR];exact⟨hq0,rfl,rfl⟩⟩
 rw [if_pos c1] at hR
 have q1l:q0+1≤ws.length:=txt_lt (by rw [c1];exact hk)
 refine(skip_h ws q0 key hl hq0).holds.useT [] [] rfl (sk) (sk) fun e0 H0 hq=>?_
 obtain⟨rfl,rfl⟩:=hq.1 c1
 refine⟨rfl,_,⟨2,(0,psO ws (q0+1))::[(1,bxO)]⟩,rfl,rfl,?_⟩
 have hc:=listRef_h ws F (q0+1) hF hg q1l
 rw [hR] at hc
 refine hc.holds.useT [] [] rfl (sk) ⟨_,_,rfl,⟨rfl,_,_,rfl,⟨_,_,rfl,⟨rfl,rfl⟩,rfl⟩,rfl⟩,_,_,rfl,⟨rfl,_,_,rfl,rfl,⟨_,_,rfl,⟨rfl,rfl⟩,rfl⟩⟩,rfl⟩ fun e0 H0 hq=>?_
 rcases R with p | ⟨l,q2⟩
 ·obtain⟨rfl,rfl⟩:=hq
  refine⟨rfl,_,_,rfl,rfl,?_⟩
  exact⟨[],[],[],failX ws p,⟨1,[]⟩,rfl,⟨_,rfl,_,_,rfl,rfl,rfl⟩,trivial,rfl,rfl⟩
 obtain⟨q2l,rfl,rfl⟩:=hq
 refine⟨rfl,_,⟨2,[(0,psO ws q2),(1,bxO)]⟩,rfl,rfl,?_⟩
 exact⟨[],[],[], .returned (.p (rfl_ l)),psH ws q2,rfl,sk,sk,q2l,rfl,rfl⟩
theorem relation_h (ws:List Wd) (q0:Nat) (hl:ws.length≤1500) (hq0:q0≤ws.length):HoldsG cx 156 [.ptr 0 0 0] (psH ws q0) (rdQ ws (relR ws q0) fun n=>.p (i64 n)):=by
 generalize hR:relR ws q0=R
 rw [relR] at hR
 refine holdsN_of_vc Tryz.func156 rfl rfl rfl ?_
 by_cases c1:txt ws q0=tEq
 ·have q1l:q0<ws.length:=txt_lt (by rw [c1];decide)
  rw [if_pos c1] at hR
  refine(skip_h ws q0 tEq hl hq0).holds.useT [] [] rfl (sk) (sk) fun e0 H0 hq=>?_
  obtain⟨rfl,rfl⟩:=hq.1 c1
  refine⟨rfl,_,⟨1,(0,psO ws (q0+1))::[]⟩,rfl,rfl,?_⟩
  exact⟨[],[],[], .returned (.p (i64 1)),psH ws (q0+1),rfl,sk,sk,by rw [← hR];exact⟨by omega,rfl,rfl⟩⟩
 rw [if_neg c1] at hR
 refine(skip_h ws q0 tEq hl hq0).holds.useT [] [] rfl (sk) (sk) fun e0 H0 hq=>?_
 obtain⟨rfl,rfl⟩:=hq.2 c1
 refine⟨rfl,_,⟨1,(0,psO ws q0)::[]⟩,rfl,rfl,?_⟩
 by_cases c2:txt ws q0=tNe
 ·have q1l:q0<ws.length:=txt_lt (by rw [c2];decide)
  rw [if_pos c2] at hR
  refine(skip_h ws q0 tNe hl hq0).holds.useT [] [] rfl (sk) (sk) fun e0 H0 hq=>?_
  obtain⟨rfl,rfl⟩:=hq.1 c2
  refine⟨rfl,_,⟨1,(0,psO ws (q0+1))::[]⟩,rfl,rfl,?_⟩
  exact⟨[],[],[], .returned (.p (i64 2)),psH ws (q0+1),rfl,sk,sk,by rw [← hR];exact⟨by omega,rfl,rfl⟩⟩
 rw [if_neg c2] at hR
 refine(skip_h ws q0 tNe hl hq0).holds.useT [] [] rfl (sk) (sk) fun e0 H0 hq=>?_
 obtain⟨rfl,rfl⟩:=hq.2 c2
 refine⟨rfl,_,⟨1,(0,psO ws q0)::[]⟩,rfl,rfl,?_⟩
 by_cases c3:txt ws q0=tLt
 ·have q1l:q0<ws.length:=txt_lt (by rw [c3];decide)
  rw [if_pos c3] at hR
  refine(skip_h ws q0 tLt hl hq0).holds.useT [] [] rfl (sk) (sk) fun e0 H0 hq=>?_
  obtain⟨rfl,rfl⟩:=hq.1 c3
  refine⟨rfl,_,⟨1,(0,psO ws (q0+1))::[]⟩,rfl,rfl,?_⟩
  exact⟨[],[],[], .returned (.p (i64 3)),psH ws (q0+1),rfl,sk,sk,by rw [← hR];exact⟨by omega,rfl,rfl⟩⟩
 rw [if_neg c3] at hR
 refine(skip_h ws q0 tLt hl hq0).holds.useT [] [] rfl (sk) (sk) fun e0 H0 hq=>?_
 obtain⟨rfl,rfl⟩:=hq.2 c3
 refine⟨rfl,_,⟨1,(0,psO ws q0)::[]⟩,rfl,rfl,?_⟩
 by_cases c4:txt ws q0=tLe
 ·have q1l:q0<ws.length:=txt_lt (by rw [c4];decide)
  rw [if_pos c4] at hR
  refine(skip_h ws q0 tLe hl hq0).holds.useT [] [] rfl (sk) (sk) fun e0 H0 hq=>?_
  obtain⟨rfl,rfl⟩:=hq.1 c4
  refine⟨rfl,_,⟨1,(0,psO ws (q0+1))::[]⟩,rfl,rfl,?_⟩
  exact⟨[],[],[], .returned (.p (i64 4)),psH ws (q0+1),rfl,sk,sk,by rw [← hR];exact⟨by omega,rfl,rfl⟩⟩
 rw [if_neg c4] at hR
 refine(skip_h ws q0 tLe hl hq0).holds.useT [] [] rfl (sk) (sk) fun e0 H0 hq=>?_
 obtain⟨rfl,rfl⟩:=hq.2 c4
 refine⟨rfl,_,⟨1,(0,psO ws q0)::[]⟩,rfl,rfl,?_⟩
 refine(fail_h ws q0 hl hq0).holds.useT [] [] rfl (sk) (sk) fun e0 H0 hq=>?_
 obtain⟨rfl,rfl⟩:=hq
 refine⟨rfl,_,⟨1,(0,psO ws q0)::[]⟩,rfl,rfl,?_⟩
 exact⟨[],[],[],failX ws q0,⟨1,[]⟩,rfl,⟨_,rfl,_,_,rfl,rfl,rfl⟩,trivial,by rw [← hR];exact⟨rfl,rfl⟩⟩
def moQ (ws:List Wd) (q:Nat) (e:AE) (H':Hp):Prop:=((txt ws q=tMinus∨knd ws q=3)→e=.returned (vB true)∧H'=pbH ws q)∧(¬ (txt ws q=tMinus∨knd ws q=3)→e=.returned (vB false)∧H'=pbH ws q)
theorem numbers1_h (ws:List Wd) (q0:Nat) (hl:ws.length≤1500) (hq0:q0≤ws.length):HoldsG cx 152 [.ptr 1 0 0] (pbH ws q0) (moQ ws q0):=by
 refine holdsN_of_vc Tryz.func152 rfl rfl rfl ?_
 refine(text_h ws q0 hl hq0).holds.useT [] [] rfl (sk) (sk) fun e0 H0 hq=>?_
 obtain⟨rfl,rfl⟩:=hq
 refine⟨rfl,_,⟨2,(0,psO ws q0)::[(1,bxO)]⟩,rfl,rfl,?_⟩
 (first | refine brLt (fun c1=>?_) (fun c1=>?_) | refine brLe (fun c1=>?_) (fun c1=>?_) | refine brEq (fun c1=>?_) (fun c1=>?_))
 ·have c1:txt ws q0=tMinus:=c1
  exact⟨[],[],[], .returned (vB true),pbH ws q0,rfl,sk,sk,fun _=>⟨rfl,rfl⟩,fun h=>absurd (.inl c1) h⟩
 have c1:¬ txt ws q0=tMinus:=c1
 refine(kind_h ws q0 hl hq0).holds.useT [] [] rfl (sk) (sk) fun e0 H0 hq=>?_
 obtain⟨rfl,rfl⟩:=hq
 refine⟨rfl,_,⟨2,(0,psO ws q0)::[(1,bxO)]⟩,rfl,rfl,?_⟩
 (first | refine brLt (fun c2=>?_) (fun c2=>?_) | refine brLe (fun c2=>?_) (fun c2=>?_) | refine brEq (fun c2=>?_) (fun c2=>?_))
 ·have c2:knd ws q0=3:=c2
  exact⟨[],[],[], .returned (vB true),pbH ws q0,rfl,sk,sk,fun _=>⟨rfl,rfl⟩,fun h=>absurd (.inr c2) h⟩
 have c2:¬ knd ws q0=3:=c2
 exact⟨[],[],[], .returned (vB false),pbH ws q0,rfl,sk,sk,fun h=>absurd h (not_or.2 ⟨c1,c2⟩),fun _=>⟨rfl,rfl⟩⟩
theorem numbers2_h (ws:List Wd) (q0:Nat) (hg:GoodW ws) (hq0:q0≤ws.length):HoldsG cx 154 [.ptr 1 0 0] (pbH ws q0) (rdQ2 ws (intR ws q0) fun n=>.p (i64 n)):=by
 generalize hR:intR ws q0=R
 rw [intR] at hR
 have hl:=hg.len
 refine holdsN_of_vc Tryz.func154 rfl rfl rfl ?_
 by_cases c1:txt ws q0=tMinus
 ·have q1l:q0+1≤ws.length:=txt_lt (by rw [c1];decide)
  rw [if_pos c1] at hR
  refine(skip_h ws q0 tMinus hl hq0).holds.useT [] [] rfl (sk) (sk) fun e0 H0 hq=>?_
  obtain⟨rfl,rfl⟩:=hq.1 c1
  refine⟨rfl,_,⟨2,(0,psO ws (q0+1))::[(1,bxO)]⟩,rfl,rfl,?_⟩
  refine(number_h ws (q0+1) hg q1l).holds.useT [] [] rfl (sk) (sk) fun e0 H0 hq=>?_
  rcases h1:numR ws (q0+1) with p | ⟨n,q2⟩
  ·rw [h1] at hq hR
   obtain⟨rfl,rfl⟩:=hq
   refine⟨rfl,_,_,rfl,rfl,?_⟩
   exact⟨[],[],[],failX ws p,⟨2,[]⟩,rfl,⟨_,rfl,_,_,rfl,rfl,rfl⟩,trivial,by rw [← hR];exact⟨rfl,rfl⟩⟩
  have hb:=num_bd hg h1
  rw [h1] at hq hR
  obtain⟨q2l,rfl,rfl⟩:=hq
  refine⟨rfl,_,⟨2,(0,psO ws q2)::[(1,bxO)]⟩,rfl,rfl,?_⟩
  refine⟨-n,by show _=IntKind.i64.wrap (0 - n);rw [Int.zero_sub];exact wrap_i64 (by omega) (by omega),?_⟩
  exact⟨[],[],[], .returned (.p (i64 (-n))),pbH ws q2,rfl,sk,sk,by rw [← hR];exact⟨q2l,rfl,rfl⟩⟩
 rw [if_neg c1] at hR
 refine(skip_h ws q0 tMinus hl hq0).holds.useT [] [] rfl (sk) (sk) fun e0 H0 hq=>?_
 obtain⟨rfl,rfl⟩:=hq.2 c1
 refine⟨rfl,_,⟨2,(0,psO ws q0)::[(1,bxO)]⟩,rfl,rfl,?_⟩
 refine(number_h ws q0 hg hq0).holds.useT [] [] rfl (sk) (sk) fun e0 H0 hq=>?_
 rw [hR] at hq
 rcases R with p | ⟨n,q2⟩
 ·obtain⟨rfl,rfl⟩:=hq
  refine⟨rfl,_,_,rfl,rfl,?_⟩
  exact⟨[],[],[],failX ws p,⟨2,[]⟩,rfl,⟨_,rfl,_,_,rfl,rfl,rfl⟩,trivial,rfl,rfl⟩
 obtain⟨q2l,rfl,rfl⟩:=hq
 refine⟨rfl,_,⟨2,(0,psO ws q2)::[(1,bxO)]⟩,rfl,rfl,?_⟩
 exact⟨[],[],[], .returned (.p (i64 n)),pbH ws q2,rfl,sk,sk,q2l,rfl,rfl⟩
theorem int_lt {ws:List Wd} {q q':Nat} {n:Int} (h:intR ws q=.inr (n,q')):q<q':=by
 rw [intR] at h
 split at h
 ·obtain⟨m,q2,h2,h⟩:=then_ok h
  have:=num_lt h2
  injection h with h;injection h with h3 h4;omega
 ·exact num_lt h
def iO (l:List Int):AObj:=⟨TInt,false, .pu (l.map i64)⟩
def nmF:AV:=.fn (.func 152) [] [.ptr 1 0 0]
def nrF:AV:=.fn (.func 154) [] [.ptr 1 0 0]
def nbF:AV:=.fn (.func 101) [.ptr 0 0 0] []
theorem listNums_h (ws:List Wd) (F q0:Nat) (hF:ws.length<F) (hg:GoodW ws) (hq0:q0≤ws.length):HoldsG cx 153 [nmF,nrF] (pbH ws q0) (rdQ2 ws (numsR ws F q0) fun l=>.p (ints l)):=by
 generalize hR:numsR ws F q0=R
 rw [numsR] at hR
 refine holdsN_of_vc Tryz.func153 rfl rfl rfl ?_
 have hl:=hg.len
 refine(numbers2_h ws q0 hg hq0).holds.useT [] [] rfl (sk) (sk) fun e0 H0 hq=>?_
 rcases h1:intR ws q0 with p | ⟨n0,q1⟩
 ·rw [h1] at hq hR
  obtain⟨rfl,rfl⟩:=hq
  refine⟨rfl,_,_,rfl,rfl,?_⟩
  exact⟨[],[],[],failX ws p,⟨2,[]⟩,rfl,⟨_,rfl,_,_,rfl,rfl,rfl⟩,trivial,by rw [← hR];exact⟨rfl,rfl⟩⟩
 rw [h1] at hq hR
 obtain⟨q1l,rfl,rfl⟩:=hq
 refine⟨rfl,_,pbH ws q1,rfl,rfl,?_⟩
 simp only [then_inr] at hR
 refine⟨List Int × Nat,fun x=>[(0,nmF),(1,nrF),(5, .sl 2 1 0 x.1.length)],fun x=>⟨3,[(2,iO x.1),(0,psO ws x.2),(1,bxO)]⟩,fun x=>x.2≤ws.length∧x.1.length≤x.2∧LI R (fun f=>intsR ws f x.1 x.2) (ws.length - x.2),fun x=>ws.length - x.2,?_,?_⟩
 ·exact⟨([n0],q1),⟨q1l,by simp only [List.length_singleton];have:=int_lt h1;omega,⟨F,by omega,hR.symm⟩⟩,ent_of [] [] [] rfl ⟨⟨rfl,_,_,rfl,rfl,⟨_,_,rfl,⟨rfl,rfl⟩,rfl⟩⟩,⟨rfl,_,_,rfl,rfl,⟨_,_,rfl,⟨rfl,rfl⟩,rfl⟩⟩,rfl,trivial⟩ (sk) rfl⟩
 rintro⟨acc,q⟩ ⟨k1,k2,k3⟩
 simp only [] at k1 k2 k3
 by_cases c1:txt ws q=tMinus∨knd ws q=3
 ·have ql:q≤ws.length:=k1
  refine(numbers1_h ws q hl k1).holds.useT [] [] rfl (sk) (sk) fun e0 H0 hq=>?_
  obtain⟨rfl,rfl⟩:=hq.1 c1
  refine⟨rfl,_,⟨3,[(0,psO ws q),(1,bxO),(2,iO acc)]⟩,rfl,rfl,?_⟩
  refine(numbers2_h ws q hg ql).holds.useT [] [] rfl (sk) (sk) fun e0 H0 hq=>?_
  rcases h2:intR ws q with p | ⟨n,q2⟩
  ·rw [h2] at hq
   obtain⟨rfl,rfl⟩:=hq
   refine⟨rfl,_,_,rfl,rfl,?_⟩
   have hR:=k3.is (x:=.inl p) fun f=>by rw [intsR,if_pos c1,h2];rfl
   exact⟨[],[],[],failX ws p,⟨2,[]⟩,rfl,⟨_,rfl,_,_,rfl,rfl,rfl⟩,trivial,by rw [hR];exact⟨rfl,rfl⟩⟩
  rw [h2] at hq
  obtain⟨q2l,rfl,rfl⟩:=hq
  have hlt:=int_lt h2
  refine⟨rfl,_,⟨3,(0,psO ws q2)::(1,bxO)::[(2,iO acc)]⟩,rfl,rfl,?_⟩
  refine⟨by show 0+1≤1;omega,[i64 n],rfl,?_⟩
  refine⟨by show 0+acc.length≤(acc.map i64).length;simp,acc.map i64,takeAll (by simp),by show(acc.length+1) * 8≤140737488355328;omega,(acc++[n]).map i64,by simp,?_⟩
  exact⟨(acc++[n],q2),⟨q2l,by simp only [snoc_len];omega,k3.nxt (fun f=>by rw [intsR,if_pos c1,h2];rfl) (by omega)⟩,ent_of [] [(2,4)] [] rfl ⟨⟨rfl,_,_,rfl,rfl,⟨_,_,rfl,⟨rfl,rfl⟩,rfl⟩⟩,⟨rfl,_,_,rfl,rfl,⟨_,_,rfl,⟨rfl,rfl⟩,rfl⟩⟩,congrArg (fun k:Nat=>AV.sl 4 1 0 k) (snoc_len acc n).symm,trivial⟩ (sk) rfl,by show ws.length - q2<ws.length - q;omega⟩
 ·refine(numbers1_h ws q hl k1).holds.useT [] [] rfl (sk) (sk) fun e0 H0 hq=>?_
  obtain⟨rfl,rfl⟩:=hq.2 c1
  refine⟨rfl,_,⟨3,[(0,psO ws q),(1,bxO),(2,iO acc)]⟩,rfl,rfl,?_⟩
  have hR:=k3.is (x:=.inr (acc,q)) fun f=>by rw [intsR,if_neg c1]
  exact⟨[2],[],[], .returned (.p (ints acc)),pbH ws q,rfl,⟨_,rfl,⟨_,rfl,by show 0+acc.length≤(acc.map i64).length;simp,takeAll (by simp)⟩⟩,sk,by rw [hR];exact⟨k1,rfl,rfl⟩⟩
def rdQO (ws:List Wd) (r:Rd (List Int)) (e:AE) (H':Hp):Prop:=match r with
 | .inl p=>e=failX ws p∧H'=⟨1,[]⟩
 | .inr (l,q)=>(q≤ws.length∧l.length≤q)∧e=.returned (.sl 1 1 0 l.length)∧H'=⟨2,[(1,iO l),(0,psO ws q)]⟩
theorem listComma_h (ws:List Wd) (F q0:Nat) (hF:ws.length - q0<F) (hg:GoodW ws) (hq0:q0≤ws.length):HoldsG cx 153 [cmF,nbF] (psH ws q0) (rdQO ws (listR ws (numR ws) F q0)):=by
 generalize hR:listR ws (numR ws) F q0=R
 rw [listR] at hR
 refine holdsN_of_vc Tryz.func153 rfl rfl rfl ?_
 have hl:=hg.len
 refine(number_h ws q0 hg hq0).holds.useT [] [] rfl (sk) (sk) fun e0 H0 hq=>?_
 rcases h1:numR ws q0 with p | ⟨n0,q1⟩
 ·rw [h1] at hq hR
  obtain⟨rfl,rfl⟩:=hq
  refine⟨rfl,_,_,rfl,rfl,?_⟩
  exact⟨[],[],[],failX ws p,⟨1,[]⟩,rfl,⟨_,rfl,_,_,rfl,rfl,rfl⟩,trivial,by rw [← hR];exact⟨rfl,rfl⟩⟩
 rw [h1] at hq hR
 obtain⟨q1l,rfl,rfl⟩:=hq
 refine⟨rfl,_,psH ws q1,rfl,rfl,?_⟩
 simp only [then_inr] at hR
 refine⟨List Int × Nat,fun x=>[(0,cmF),(1,nbF),(5, .sl 1 1 0 x.1.length)],fun x=>⟨2,[(1,iO x.1),(0,psO ws x.2)]⟩,fun x=>x.2≤ws.length∧x.1.length≤x.2∧LI R (fun f=>moreR ws (numR ws) f x.1 x.2) (ws.length - x.2),fun x=>ws.length - x.2,?_,?_⟩
 ·exact⟨([n0],q1),⟨q1l,by simp only [List.length_singleton];have:=num_lt h1;omega,⟨F,by show ws.length - q1<F;have:=num_lt h1;omega,hR.symm⟩⟩,ent_of [] [] [] rfl ⟨⟨rfl,_,_,rfl,⟨_,_,rfl,⟨rfl,rfl⟩,rfl⟩,rfl⟩,⟨rfl,_,_,rfl,⟨_,_,rfl,⟨rfl,rfl⟩,rfl⟩,rfl⟩,rfl,trivial⟩ (sk) rfl⟩
 rintro⟨acc,q⟩ ⟨k1,k2,k3⟩
 simp only [] at k1 k2 k3
 by_cases c1:txt ws q=tComma
 ·have ql:q+1≤ws.length:=txt_lt (by rw [c1];decide)
  refine(comma_h ws q hl k1).holds.useT [] [] rfl (sk) (sk) fun e0 H0 hq=>?_
  obtain⟨rfl,rfl⟩:=hq.1 c1
  refine⟨rfl,_,⟨2,(0,psO ws (q+1))::[(1,iO acc)]⟩,rfl,rfl,?_⟩
  refine(number_h ws (q+1) hg ql).holds.useT [] [] rfl (sk) (sk) fun e0 H0 hq=>?_
  rcases h2:numR ws (q+1) with p | ⟨n,q2⟩
  ·rw [h2] at hq
   obtain⟨rfl,rfl⟩:=hq
   refine⟨rfl,_,_,rfl,rfl,?_⟩
   have hR:=k3.is (x:=.inl p) fun f=>by rw [moreR,if_pos c1,h2];rfl
   exact⟨[],[],[],failX ws p,⟨1,[]⟩,rfl,⟨_,rfl,_,_,rfl,rfl,rfl⟩,trivial,by rw [hR];exact⟨rfl,rfl⟩⟩
  rw [h2] at hq
  obtain⟨q2l,rfl,rfl⟩:=hq
  have hlt:=num_lt h2
  refine⟨rfl,_,⟨2,(0,psO ws q2)::[(1,iO acc)]⟩,rfl,rfl,?_⟩
  refine⟨by show 0+1≤1;omega,[i64 n],rfl,?_⟩
  refine⟨by show 0+acc.length≤(acc.map i64).length;simp,acc.map i64,takeAll (by simp),by show(acc.length+1) * 8≤140737488355328;omega,(acc++[n]).map i64,by simp,?_⟩
  exact⟨(acc++[n],q2),⟨q2l,by simp only [snoc_len];omega,k3.nxt (fun f=>by rw [moreR,if_pos c1,h2];rfl) (by omega)⟩,ent_of [] [(1,3)] [] rfl ⟨⟨rfl,_,_,rfl,⟨_,_,rfl,⟨rfl,rfl⟩,rfl⟩,rfl⟩,⟨rfl,_,_,rfl,⟨_,_,rfl,⟨rfl,rfl⟩,rfl⟩,rfl⟩,congrArg (fun k:Nat=>AV.sl 3 1 0 k) (snoc_len acc n).symm,trivial⟩ (sk) rfl,by show ws.length - q2<ws.length - q;omega⟩
 ·refine(comma_h ws q hl k1).holds.useT [] [] rfl (sk) (sk) fun e0 H0 hq=>?_
  obtain⟨rfl,rfl⟩:=hq.2 c1
  refine⟨rfl,_,⟨2,(0,psO ws q)::[(1,iO acc)]⟩,rfl,rfl,?_⟩
  have hR:=k3.is (x:=.inr (acc,q)) fun f=>by rw [moreR,if_neg c1]
  exact⟨[],[],[], .returned (.sl 1 1 0 acc.length),⟨2,[(1,iO acc),(0,psO ws q)]⟩,rfl,⟨_,rfl,rfl⟩,sk,by rw [hR];exact⟨⟨k1,k2⟩,rfl,rfl⟩⟩
theorem numbers_h (ws:List Wd) (F q0:Nat) (hF:ws.length<F) (hg:GoodW ws) (hq0:q0≤ws.length):HoldsG cx 138 [.ptr 0 0 0] (psH ws q0) (rdQ ws (numsR ws F q0) fun l=>.p (ints l)):=by
 have hc:=listNums_h ws F q0 hF hg hq0
 generalize numsR ws F q0=R at hc ⊢
 refine holdsN_of_vc Tryz.func138 rfl rfl rfl ?_
 refine hc.holds.useT [] [] rfl (sk) ⟨_,_,rfl,⟨rfl,_,_,rfl,rfl,⟨_,_,rfl,⟨rfl,rfl⟩,rfl⟩⟩,_,_,rfl,⟨rfl,_,_,rfl,rfl,⟨_,_,rfl,⟨rfl,rfl⟩,rfl⟩⟩,rfl⟩ fun e0 H0 hq=>?_
 rcases R with p | ⟨l,q2⟩
 ·obtain⟨rfl,rfl⟩:=hq
  refine⟨rfl,_,_,rfl,rfl,?_⟩
  exact⟨[],[],[],failX ws p,⟨1,[]⟩,rfl,⟨_,rfl,_,_,rfl,rfl,rfl⟩,trivial,rfl,rfl⟩
 obtain⟨q2l,rfl,rfl⟩:=hq
 refine⟨rfl,_,⟨2,[(0,psO ws q2),(1,bxO)]⟩,rfl,rfl,?_⟩
 exact⟨[],[],[], .returned (.p (ints l)),psH ws q2,rfl,sk,sk,q2l,rfl,rfl⟩
theorem snoc_ind {α:Type} {P:List α→Prop} (h0:P []) (h1:∀ l x,P l→P (l++[x])) (l:List α):P l:=by
 rw [← List.reverse_reverse l]
 induction l.reverse with
 | nil=>exact h0
 | cons x r ih=>rw [List.reverse_cons];exact h1 _ x ih
def stepC (acc:List Int) (x:Int):List Int:=if acc.getLast?=some x then acc else acc++[x]
def cmpN (l:List Int):List Int:=l.foldl stepC []
theorem cmp_snoc (l:List Int) (x:Int):cmpN (l++[x])=stepC (cmpN l) x:=by rw [cmpN,cmpN,List.foldl_append];rfl
theorem step_last (acc:List Int) (x:Int):(stepC acc x).getLast?=some x:=by
 unfold stepC
 split
 ·assumption
 ·rw [List.getLast?_append];rfl
theorem step_mem (acc:List Int) (x y:Int):y∈stepC acc x ↔ y∈acc∨y=x:=by
 unfold stepC
 split
 ·rename_i h
  constructor
  ·exact .inl
  ·rintro (h1 | rfl)
   ·exact h1
   ·exact List.mem_of_getLast? h
 ·rw [List.mem_append,List.mem_singleton]
theorem cmp_last:∀ l:List Int,l ≠ []→(cmpN l).getLast?=l.getLast?:=by
 refine snoc_ind (fun h=>absurd rfl h) fun l x _ _=>?_
 rw [cmp_snoc,step_last,List.getLast?_append];rfl
theorem cmp_mem (l:List Int) (y:Int):y∈cmpN l ↔ y∈l:=by
 refine snoc_ind (P:=fun l=>y∈cmpN l ↔ y∈l) Iff.rfl (fun l x ih=>?_) l
 rw [cmp_snoc,step_mem,ih,List.mem_append,List.mem_singleton]
def Inc (l:List Int):Prop:=l.Pairwise (· < ·)
theorem inc_snoc {l:List Int} {x:Int} (h:Inc l) (hx:∀ y∈l,y<x):Inc (l++[x]):=by
 rw [Inc,List.pairwise_append]
 exact⟨h,List.pairwise_singleton _ _,fun a ha b hb=>by rw [List.mem_singleton.1 hb];exact hx a ha⟩
theorem inc_last:∀ {l:List Int},Inc l→∀ {z:Int},l.getLast?=some z→∀ y∈l,y≤z:=by
 intro l
 refine snoc_ind (P:=fun l=>Inc l→∀ {z:Int},l.getLast?=some z→∀ y∈l,y≤z) (fun _ z _ y hy=>by simp at hy) (fun l x _ h z hz y hy=>?_) l
 rw [List.getLast?_append] at hz
 have hz:x=z:=by simpa using hz
 subst hz
 rw [Inc,List.pairwise_append] at h
 rcases List.mem_append.1 hy with hy | hy
 ·have:=h.2.2 y hy x (List.mem_singleton.2 rfl)
  exact Int.le_of_lt this
 ·rw [List.mem_singleton.1 hy];exact Int.le_refl _
theorem cmp_inc (l:List Int):l.Pairwise (·≤·)→Inc (cmpN l):=by
 refine snoc_ind (P:=fun l=>l.Pairwise (·≤·)→Inc (cmpN l)) (fun _=>List.Pairwise.nil) (fun l x ih h=>?_) l
 rw [List.pairwise_append] at h
 have ih:=ih h.1
 rw [cmp_snoc]
 unfold stepC
 split
 ·exact ih
 ·rename_i hne
  refine inc_snoc ih fun y hy=>?_
  have hyl:=(cmp_mem l y).1 hy
  have hyx:=h.2.2 y hyl x (List.mem_singleton.2 rfl)
  rcases Int.lt_or_eq_of_le hyx with h1 | h1
  ·exact h1
  ·exfalso
   have hl:l ≠ []:=fun e=>by rw [e] at hyl;simp at hyl
   obtain⟨z,hz⟩:∃ z,(cmpN l).getLast?=some z:=by
    rw [cmp_last l hl]
    exact⟨_,List.getLast?_eq_some_getLast hl⟩
   have h2:=inc_last ih hz y hy
   have hzl:z∈l:=(cmp_mem l z).1 (List.mem_of_getLast? hz)
   have h3:=h.2.2 z hzl x (List.mem_singleton.2 rfl)
   exact hne (by rw [hz];congr 1;omega)
theorem ins_mem (l:List Int) (n y:Int):y∈insN l n ↔ y=n∨y∈l:=by
 induction l with
 | nil=>simp [insN]
 | cons x l ih=>
  rw [insN]
  split
  ·simp
  ·split
   ·rename_i h;subst h;simp
   ·rw [List.mem_cons,ih,List.mem_cons]
    constructor
    ·rintro (h | h | h) <;> simp [h]
    ·rintro (h | h | h) <;> simp [h]
theorem ins_inc (l:List Int) (n:Int) (h:Inc l):Inc (insN l n):=by
 induction l with
 | nil=>exact List.pairwise_singleton _ _
 | cons x l ih=>
  rw [Inc,List.pairwise_cons] at h
  rw [insN]
  split
  ·rename_i hn
   rw [Inc,List.pairwise_cons]
   refine⟨fun y hy=>?_,List.pairwise_cons.2 h⟩
   rcases List.mem_cons.1 hy with rfl | hy
   ·exact hn
   ·have:=h.1 y hy;omega
  ·split
   ·exact List.pairwise_cons.2 h
   ·rw [Inc,List.pairwise_cons]
    refine⟨fun y hy=>?_,ih h.2⟩
    rcases (ins_mem l n y).1 hy with rfl | hy
    ·omega
    ·exact h.1 y hy
theorem set_fold:∀ (l acc:List Int),Inc acc→Inc (l.foldl insN acc)∧∀ y,y∈l.foldl insN acc ↔ y∈acc∨y∈l
 | [],acc,h=>⟨h,fun y=>by simp⟩
 | x::l,acc,h=>by
  obtain⟨h1,h2⟩:=set_fold l (insN acc x) (ins_inc acc x h)
  refine⟨h1,fun y=>?_⟩
  rw [List.foldl_cons,h2,ins_mem,List.mem_cons]
  constructor
  ·rintro ((h | h) | h) <;> simp [h]
  ·rintro (h | h | h) <;> simp [h]
theorem inc_ext:∀ {a b:List Int},Inc a→Inc b→(∀ y,y∈a ↔ y∈b)→a=b
 | [],[],_,_,_=>rfl
 | [],y::b,_,_,h=>by have:=(h y).2 (by simp);simp at this
 | x::a,[],_,_,h=>by have:=(h x).1 (by simp);simp at this
 | x::a,y::b,ha,hb,h=>by
  rw [Inc,List.pairwise_cons] at ha hb
  have hxy:x=y:=by
   have h1:=(h x).1 (by simp)
   have h2:=(h y).2 (by simp)
   rcases List.mem_cons.1 h1 with h1 | h1
   ·exact h1
   ·rcases List.mem_cons.1 h2 with h2 | h2
    ·exact h2.symm
    ·have:=hb.1 x h1
     have:=ha.1 y h2
     omega
  subst hxy
  have:a=b:=inc_ext ha.2 hb.2 fun z=>by
   constructor
   ·intro hz
    have h1:=(h z).1 (by simp [hz])
    rcases List.mem_cons.1 h1 with rfl | h1
    ·exact absurd (ha.1 z hz) (Int.lt_irrefl z)
    ·exact h1
   ·intro hz
    have h1:=(h z).2 (by simp [hz])
    rcases List.mem_cons.1 h1 with rfl | h1
    ·exact absurd (hb.1 z hz) (Int.lt_irrefl z)
    ·exact h1
  rw [this]
theorem set_sorted {l s:List Int} (hp:s.Perm l) (hs:s.Pairwise (·≤·)):cmpN s=setN l:=by
 have h1:=set_fold l [] List.Pairwise.nil
 refine inc_ext (cmp_inc s hs) h1.1 fun y=>?_
 rw [cmp_mem,setN,h1.2,hp.mem_iff]
 simp
theorem step_len (acc:List Int) (x:Int):(stepC acc x).length≤acc.length+1:=by
 unfold stepC
 split <;> simp
theorem cmp_len (l:List Int):(cmpN l).length≤l.length:=by
 refine snoc_ind (P:=fun l=>(cmpN l).length≤l.length) (Nat.le_refl _) (fun l x ih=>?_) l
 rw [cmp_snoc]
 have:=step_len (cmpN l) x
 simp only [List.length_append,List.length_singleton];omega
end Go.Proofs.YtmepdfingcmkmaaGreatDoor
namespace Go.Proofs
open Go.Shelf
def Tryz.lays189_ren:Go.Shelf.Ren:=⟨fun | 189=>157 | 125=>160 | 257=>159 | 128=>170 | 129=>171 | 294=>161 | 295=>162 | 296=>163 | 297=>164 | 298=>165 | 299=>166 | 216=>167 | 300=>168 | 301=>169 | 328=>172 | 329=>173 | 330=>174 | 331=>175 | 332=>176 | 215=>177 | 343=>178 | n=>n,fun | 28=>28 | 3=>3 | 46=>105 | 0=>0 | 51=>143 | 53=>146 | 4=>4 | 183=>224 | 182=>223 | 131=>134 | 5=>5 | 9=>9 | 218=>231 | 222=>191 | 228=>236 | 229=>237 | n=>n,fun | n=>n⟩
theorem Tryz.lays189:Go.Proofs.Lays.n189 Tryz.prog Tryz.lays189_ren:={
 mixed:=by kernel_rfl
 f125:=Tryz.func160.trans (congrArg some (by kernel_rfl))
 f128:=Tryz.func170.trans (congrArg some (by kernel_rfl))
 f129:=Tryz.func171.trans (congrArg some (by kernel_rfl))
 f189:=Tryz.func157.trans (congrArg some (by kernel_rfl))
 f215:=Tryz.func177.trans (congrArg some (by kernel_rfl))
 f216:=Tryz.func167.trans (congrArg some (by kernel_rfl))
 f257:=Tryz.func159.trans (congrArg some (by kernel_rfl))
 f294:=Tryz.func161.trans (congrArg some (by kernel_rfl))
 f295:=Tryz.func162.trans (congrArg some (by kernel_rfl))
 f296:=Tryz.func163.trans (congrArg some (by kernel_rfl))
 f297:=Tryz.func164.trans (congrArg some (by kernel_rfl))
 f298:=Tryz.func165.trans (congrArg some (by kernel_rfl))
 f299:=Tryz.func166.trans (congrArg some (by kernel_rfl))
 f300:=Tryz.func168.trans (congrArg some (by kernel_rfl))
 f301:=Tryz.func169.trans (congrArg some (by kernel_rfl))
 f328:=Tryz.func172.trans (congrArg some (by kernel_rfl))
 f329:=Tryz.func173.trans (congrArg some (by kernel_rfl))
 f330:=Tryz.func174.trans (congrArg some (by kernel_rfl))
 f331:=Tryz.func175.trans (congrArg some (by kernel_rfl))
 f332:=Tryz.func176.trans (congrArg some (by kernel_rfl))
 f343:=Tryz.func178.trans (congrArg some (by kernel_rfl))
 t0:=Tryz.underlying0
 a0:=Tryz.isAgg0
 z0:=Tryz.sizeOf0
 v0:=Tryz.zeroValue0
 t3:=Tryz.underlying3
 a3:=Tryz.isAgg3
 z3:=Tryz.sizeOf3
 v3:=Tryz.zeroValue3
 t4:=Tryz.underlying4
 a4:=Tryz.isAgg4
 z4:=Tryz.sizeOf4
 v4:=Tryz.zeroValue4
 t5:=Tryz.underlying5
 a5:=Tryz.isAgg5
 z5:=Tryz.sizeOf5
 v5:=Tryz.zeroValue5
 t9:=Tryz.underlying9
 a9:=Tryz.isAgg9
 z9:=Tryz.sizeOf9
 v9:=Tryz.zeroValue9
 t28:=Tryz.underlying28
 a28:=Tryz.isAgg28
 z28:=Tryz.sizeOf28
 v28:=Tryz.zeroValue28
 t46:=Tryz.underlying105
 a46:=Tryz.isAgg105
 z46:=Tryz.sizeOf105
 v46:=Tryz.zeroValue105
 t51:=Tryz.underlying143
 a51:=Tryz.isAgg143
 z51:=Tryz.sizeOf143
 v51:=Tryz.zeroValue143
 t53:=Tryz.underlying146
 a53:=Tryz.isAgg146
 z53:=Tryz.sizeOf146
 v53:=Tryz.zeroValue146
 t131:=Tryz.underlying134
 a131:=Tryz.isAgg134
 z131:=Tryz.sizeOf134
 v131:=Tryz.zeroValue134
 t182:=Tryz.underlying223
 a182:=Tryz.isAgg223
 z182:=Tryz.sizeOf223
 v182:=Tryz.zeroValue223
 t183:=Tryz.underlying224
 a183:=Tryz.isAgg224
 z183:=Tryz.sizeOf224
 v183:=Tryz.zeroValue224
 t218:=Tryz.underlying231
 a218:=Tryz.isAgg231
 z218:=Tryz.sizeOf231
 v218:=Tryz.zeroValue231
 t222:=Tryz.underlying191
 a222:=Tryz.isAgg191
 z222:=Tryz.sizeOf191
 v222:=Tryz.zeroValue191
 t228:=Tryz.underlying236
 a228:=Tryz.isAgg236
 z228:=Tryz.sizeOf236
 v228:=Tryz.zeroValue236
 t229:=Tryz.underlying237
 a229:=Tryz.isAgg237
 z229:=Tryz.sizeOf237
 v229:=Tryz.zeroValue237 }
open Go.Sort Go.RowKit in
theorem Tryz.slices_Sort_int (blk off cap:Nat) (zs:List Int) (w:World) (hH:Holds (Value.int .i64) w blk off zs.toArray) (hblk:blk<w.heap.size) (hsz:zs.length<4611686018427387904) :
  Calls Tryz.prog 157 #[.slice (some ⟨blk,off,none⟩) zs.length cap] w fun e w'=>
   e=.returned (.tuple #[])∧∃ n os,w'=grow (putRow (Value.int .i64) (Sort.ahead w n) blk off (zs.mergeSort fun x y=>decide (x≤y)).toArray) os:=Any.slices_Sort_int Tryz.lays189 blk off cap zs w hH hblk hsz
def Tryz.laysNm220_ren:Go.Shelf.Ren:=⟨fun | 20=>158 | n=>n,fun | 22=>28 | 3=>3 | 4=>4 | 0=>0 | n=>n,fun | n=>n⟩
theorem Tryz.laysNm220:Go.Proofs.Lays2.n20 Tryz.prog Tryz.laysNm220_ren:={
 mixed:=by kernel_rfl
 f20:=Tryz.func158.trans (congrArg some (by kernel_rfl))
 t0:=Tryz.underlying0
 a0:=Tryz.isAgg0
 z0:=Tryz.sizeOf0
 v0:=Tryz.zeroValue0
 t3:=Tryz.underlying3
 a3:=Tryz.isAgg3
 z3:=Tryz.sizeOf3
 v3:=Tryz.zeroValue3
 t4:=Tryz.underlying4
 a4:=Tryz.isAgg4
 z4:=Tryz.sizeOf4
 v4:=Tryz.zeroValue4
 t22:=Tryz.underlying28
 a22:=Tryz.isAgg28
 z22:=Tryz.sizeOf28
 v22:=Tryz.zeroValue28
 i3:=by kernel_rfl }
open Go.RowKit Go.Lib Go.Sort in
theorem Tryz.slices_Compact_int (blk off cap:Nat) (zs:List Int) (w:World) (hH:Holds (Value.int .i64) w blk off zs.toArray) (hsz:zs.length≤9223372036854775807) (hcap:zs.length≤cap) :
  Calls Tryz.prog 158 #[.slice (some ⟨blk,off,none⟩) zs.length cap] w fun e w'=>e=.returned (.slice (some ⟨blk,off,none⟩) (Lib.compact zs).length cap)∧∃ q,w'=putRow (Value.int .i64) (Sort.ahead w q) blk off (Lib.compact zs++List.replicate (zs.length - (Lib.compact zs).length) 0).toArray:=Any.slices_Compact_int Tryz.laysNm220 blk off cap zs w hH hsz hcap
open Go.RowKit Go.Lib Go.Sort in
theorem Tryz.slices_Compact_int_empty (a:Option Addr) (cap:Nat) (w:World) :
  Calls Tryz.prog 158 #[.slice a 0 cap] w fun e w'=>e=.returned (.slice a 0 cap)∧w'=w:=Any.slices_Compact_int_empty Tryz.laysNm220 a cap w
open Go.RowKit Go.Sort in
theorem Tryz.slices_Sort_int_none (p:Option Addr) (cap:Nat) (w:World) :
  Calls Tryz.prog 157 #[.slice p 0 cap] w fun e w'=>e=.returned (.tuple #[])∧w'=w:=Any.slices_Sort_int_none Tryz.lays189 p cap w
end Go.Proofs
namespace Go.Proofs.YtmepdfingcmkmaaGreatDoor
open Go Y
set_option maxRecDepth 100000
set_option maxHeartbeats 4000000
theorem arr_get {l:List Int} {k:Nat} (h:k<l.length):l.toArray[k]! = l.getD k 0:=by
 rw [getElem!_pos l.toArray k (by simpa using h),List.getD_eq_getElem?_getD,List.getElem?_eq_getElem h];rfl
theorem last_take {l:List Int} {m:Nat} (h:m<l.length):(l.take (m+1)).getLast?=some (l.getD m 0):=by
 rw [take_succ_getD 0 h,List.getLast?_append];rfl
theorem upTo_eq (zs:List Int):∀ m,m≤zs.length→Lib.compactUpTo zs.toArray m=cmpN (zs.take m)
 | 0,_=>rfl
 | m+1,h=>by
  rw [Lib.compactUpTo_succ,upTo_eq zs m (by omega),take_succ_getD 0 (by omega),cmp_snoc,arr_get (by omega)]
  cases m with
  | zero=>rfl
  | succ m=>
   have hl:(cmpN (zs.take (m+1))).getLast?=some (zs.getD m 0):=by
    rw [cmp_last _ (fun e=>by have:=congrArg List.length e;simp at this;rw [this] at h;simp at h),last_take (by omega)]
   unfold stepC
   rw [hl]
   by_cases e:zs.getD m 0=zs.getD (m+1) 0
   ·have hk:Lib.keeps zs.toArray (m+1)=false:=Lib.keeps_neg (by omega) (by rw [Nat.add_sub_cancel,arr_get (by omega),arr_get (by omega)];exact e.symm)
    simp only [hk,Bool.false_eq_true,if_false,List.append_nil]
    rw [if_pos (by rw [e])]
   ·have hk:Lib.keeps zs.toArray (m+1)=true:=Lib.keeps_pos (by rw [Nat.add_sub_cancel,arr_get (by omega),arr_get (by omega)];exact fun h=>e h.symm)
    simp only [hk,if_true]
    rw [if_neg (fun h=>e (Option.some.inj h))]
theorem compact_eq (zs:List Int):Lib.compact zs=cmpN zs:=by
 rw [Lib.compact,upTo_eq zs _ (Nat.le_refl _),List.take_length]
theorem later_grown {Γ:Gm} {H:Hp} {w w':World} (h:R cx Γ H w) (e1:w'.os=w.os) (e2:w'.tape=w.tape) (e3:w'.output=w.output) (e4:w.heap.size≤w'.heap.size) (e5:∀ k,k<w.heap.size→w'.heap[k]?=w.heap[k]?):Later cx H.next Γ H w Γ H w':=by
 have hlt:∀ {b:Nat} {x:Obj},w.heap[b]?=some x→b<w.heap.size:=fun hx=>(Array.getElem?_eq_some_iff.1 hx).1
 refine⟨⟨h.glob,h.fresh,fun b arr hf=>?_,fun n o hn=>?_,h.own,h.apart⟩,Ext.refl _ _,Nat.le_refl _,⟨e1,e2,e3,e4,fun k hk _=>e5 k hk,fun k hk=>.inr hk,Fzn.le_refl _,fun k a hk=>.inl hk⟩⟩
 ·obtain⟨t,z,e⟩:=h.fzok b arr hf
  exact⟨t,z,by rw [e5 b (hlt e)];exact e⟩
 ·obtain⟨q,h1,h2⟩:=h.objs n o hn
  exact⟨q,h1,h2.ext (Gm.le_refl _) fun hl=>e5 _ (h2.blk_lt hl)⟩
theorem vpl_ints {fz:Fzn}:∀ {l:List Int} {us:List Value},VPL fz (l.map i64) us→us=l.map (Value.int .i64)
 | [],us,h=>by simpa [VPL] using h
 | x::l,us,h=>by
  simp only [List.map_cons,VPL] at h
  obtain⟨u,us',rfl,h1,h2⟩:=h
  simp only [VP] at h1
  rw [h1,vpl_ints h2];rfl
theorem ints_vpl {fz:Fzn}:∀ l:List Int,VPL fz (l.map i64) (l.map (Value.int .i64))
 | []=>by simp [VPL]
 | x::l=>by simp only [List.map_cons,VPL];exact⟨_,_,rfl,by simp only [VP],ints_vpl l⟩
theorem put_ints {ys:List Int} {us rest:List Value} (h:us.length=ys.length):Sort.putCells (Value.int .i64) 0 ys.toArray ⟨us++rest⟩=⟨ys.map (Value.int .i64)++rest⟩:=by
 apply Array.ext
 ·simp [Sort.putCells,h]
 ·intro i h1 h2
  have hi:i<(us++rest).length:=by simpa [Sort.putCells] using h1
  simp only [Sort.putCells,Array.getElem_mapIdx,List.getElem_toArray]
  by_cases hk:i<ys.length
  ·rw [if_pos ⟨Nat.zero_le _,by simpa using hk⟩,List.getElem_append_left (by simpa using hk),List.getElem_map,Nat.sub_zero,getElem!_pos ys.toArray i (by simpa using hk)];rfl
  ·rw [if_neg (by simp;omega),List.getElem_append_right (by omega),List.getElem_append_right (by simp;omega)]
   simp [h]
structure RowW (xs:List Int) (Γ:Gm) (w:World) (q:Pl) where
 us:List Value
 rest:List Value
 z:Nat × Nat
 cells:w.heap[q.blk]?=some (.cells ⟨us++rest⟩ TInt z)
 free:Free z (us++rest).length
 sz:szOf cx.P TInt=some q.s
 pos:0<q.s
 len:(us++rest).length=q.tc * q.s
 vals:us=xs.map (Value.int .i64)
 one:q.s=1
theorem row_of {xs:List Int} {Γ:Gm} {w:World} {q:Pl} (hR:R cx Γ ⟨1,[(0,iO xs)]⟩ w) (hq1:Γ.nm 0=some q) (hnl:q.nl=false):∃ _:RowW xs Γ w q,q.blk<w.heap.size:=by
 obtain⟨q',hq',hob⟩:=hR.objs 0 (iO xs) rfl
 rw [hq1] at hq'
 injection hq' with hq'
 subst hq'
 rcases (ObjR_cells rfl).1 hob with ⟨h,_⟩ | ⟨_,us,rest,z,g1,g2,g3,g4,g5,g6,g7,g8,g9⟩
 ·rw [hnl] at h;cases h
 exact⟨⟨us,rest,z,g1,g2,g3,g4,g5,vpl_ints (VRL_p.1 g6),g8⟩,hob.blk_lt hnl⟩
theorem RowW.holds {xs:List Int} {Γ:Gm} {w:World} {q:Pl} (r:RowW xs Γ w q):Sort.Holds (Value.int .i64) w q.blk 0 xs.toArray:=by
 intro j hj
 have hj:j<xs.length:=by simpa using hj
 have hul:r.us.length=xs.length:=by rw [r.vals,List.length_map]
 have hx:(r.us++r.rest)[0+j]?=some (.int .i64 xs.toArray[j]!):=by
  rw [Nat.zero_add,List.getElem?_append_left (by omega),r.vals,List.getElem?_map,List.getElem?_eq_getElem hj,getElem!_pos xs.toArray j (by simpa using hj)];rfl
 refine⟨?_,?_⟩
 ·show(match w.heap[q.blk]? with | some (.cells c _ _)=>(if (none:Option Nat).isSome then none else c[0+j]?) | _=>none)=_
  rw [r.cells]
  show(List.toArray (r.us++r.rest))[0+j]?=_
  rw [List.getElem?_toArray];exact hx
 ·show(match w.heap[q.blk]? with | some (.cells _ _ (lo,hi))=>decide (lo≤0+j) && decide (0+j<hi) | _=>false)=false
  rw [r.cells]
  show(decide (r.z.1≤0+j) && decide (0+j<r.z.2))=false
  have hlen:j<(r.us++r.rest).length:=by rw [List.length_append];omega
  rw [Bool.and_eq_false_iff,decide_eq_false_iff_not,decide_eq_false_iff_not]
  rcases r.free with g2 | g2 <;> omega
theorem RowW.later {xs ys:List Int} {Γ:Gm} {w:World} {q:Pl} (r:RowW xs Γ w q) (hR:R cx Γ ⟨1,[(0,iO xs)]⟩ w) (hq1:Γ.nm 0=some q) (hnl:q.nl=false) (hlt:q.blk<w.heap.size) (hl:ys.length=xs.length) (n:Nat) (os:Array Obj) :
  Later cx 1 Γ ⟨1,[(0,iO xs)]⟩ w Γ ⟨1,[(0,iO ys)]⟩ (Sort.grow (Sort.putRow (Value.int .i64) (Sort.ahead w n) q.blk 0 ys.toArray) os):=by
 have hsz:r.us.length=ys.length:=by rw [r.vals,List.length_map,hl]
 have hput:=put_ints (rest:=r.rest) hsz
 have hob':ObjR cx.P Γ (putBlk w q.blk (.cells ⟨ys.map (Value.int .i64)++r.rest⟩ TInt r.z)) q (iO ys):=by
  have hlen:(ys.map (Value.int .i64)++r.rest).length=(r.us++r.rest).length:=by rw [List.length_append,List.length_append,hsz,List.length_map]
  exact(ObjR_cells rfl).2 (.inr ⟨hnl,_,r.rest,r.z,putBlk_same r.cells,by rw [hlen];exact r.free,r.sz,r.pos,by rw [hlen];exact r.len,VRL_p.2 (ints_vpl ys),fun u hu=>by obtain⟨x,_,rfl⟩:=List.mem_map.1 hu;rfl,r.one,fun h=>nomatch h⟩)
 have L1:=hR.repl (n:=0) (o:=iO xs) (o':=iO ys) rfl rfl hq1 hnl rfl hob'
 refine L1.trans (later_grown L1.1 rfl rfl rfl ?_ fun k hk=>?_)
 ·show(putBlk w q.blk _).heap.size≤_
  simp [putBlk,Sort.grow,Sort.putRow,Sort.mapBlock,Sort.ahead]
 ·have hk:k<w.heap.size:=by simpa [putBlk] using hk
  show((w.heap.modify q.blk (Sort.onCells (Sort.putCells (Value.int .i64) 0 ys.toArray)))++os)[k]?=(w.heap.setIfInBounds q.blk _)[k]?
  rw [Array.getElem?_append_left (by simpa using hk),Array.getElem?_modify,Array.getElem?_setIfInBounds]
  by_cases e:q.blk=k
  ·subst e
   rw [if_pos rfl,if_pos rfl,if_pos hlt,r.cells]
   show some (Obj.cells (Sort.putCells (Value.int .i64) 0 ys.toArray ⟨r.us++r.rest⟩) TInt r.z)=_
   rw [hput]
  ·rw [if_neg e,if_neg e]
theorem sl_of {xs:List Int} {Γ:Gm} {v:Value} (h:VR Γ (.sl 0 1 0 xs.length) v) (h0:xs ≠ []):∃ q,Γ.nm 0=some q∧q.nl=false∧xs.length≤q.tc∧v=.slice (some ⟨q.blk,0,none⟩) xs.length q.tc:=by
 simp only [VR] at h
 obtain⟨q,h1,h2,h3⟩:=h
 have hp:0<xs.length:=List.length_pos_iff.2 h0
 rcases h3 with ⟨_,_,h,_⟩ | ⟨hnl,htc,o,rfl,ho⟩
 ·omega
 ·have ho:o=0:=by rcases ho with h | h <;> omega
  subst ho
  exact⟨q,h1,hnl,by omega,by rw [Nat.sub_zero]⟩
theorem sl_nil {Γ:Gm} {v:Value} (h:VR Γ (.sl 0 1 0 0) v):∃ p c,v=.slice p 0 c:=by
 simp only [VR] at h
 obtain⟨q,h1,h2,h3⟩:=h
 rcases h3 with ⟨_,_,_,rfl⟩ | ⟨_,_,o,rfl,_⟩
 ·exact⟨_,_,rfl⟩
 ·exact⟨_,_,rfl⟩
theorem sort_h (xs:List Int) (hs:xs.length≤100000):HoldsG cx 157 [.sl 0 1 0 xs.length] ⟨1,[(0,iO xs)]⟩ fun e H'=>∃ ys:List Int,ys.Perm xs∧ys.Pairwise (·≤·)∧e=.returned und∧H'=⟨1,[(0,iO ys)]⟩:=by
 intro Γ w args' hR hA
 simp only [VRL] at hA
 obtain⟨a,as',rfl,hq,rfl⟩:=hA
 refine⟨rfl,?_⟩
 by_cases h0:xs=[]
 ·subst h0
  obtain⟨p,c,rfl⟩:=sl_nil hq
  refine(Tryz.slices_Sort_int_none p c w).mono ?_
  rintro e w' ⟨rfl,rfl⟩
  exact⟨.returned und,_,Γ,⟨[], .refl _,List.Pairwise.nil,rfl,rfl⟩,⟨_,rfl,by simp [VR,VRL]⟩,Later.refl hR _ (Nat.le_refl _)⟩
 obtain⟨q,hq1,hnl,htc,rfl⟩:=sl_of hq h0
 obtain⟨r,hlt⟩:=row_of hR hq1 hnl
 refine(Tryz.slices_Sort_int q.blk 0 q.tc xs w r.holds hlt (by omega)).mono ?_
 rintro e w' ⟨rfl,n,os,rfl⟩
 have hperm:=List.mergeSort_perm xs fun x y=>decide (x≤y)
 refine⟨.returned und,_,Γ,⟨_,hperm,?_,rfl,rfl⟩,⟨_,rfl,by simp [VR,VRL]⟩,r.later hR hq1 hnl hlt hperm.length_eq n os⟩
 have:=List.pairwise_mergeSort (le:=fun x y:Int=>decide (x≤y)) (fun a b c h1 h2=>by simp at *;omega) (fun a b=>by simp;omega) xs
 exact this.imp fun h=>by simpa using h
theorem compact_h (xs:List Int) (hs:xs.length≤100000):HoldsG cx 158 [.sl 0 1 0 xs.length] ⟨1,[(0,iO xs)]⟩ fun e H'=>e=.returned (.sl 0 1 0 (cmpN xs).length)∧H'=⟨1,[(0,iO (cmpN xs++List.replicate (xs.length - (cmpN xs).length) 0))]⟩:=by
 intro Γ w args' hR hA
 simp only [VRL] at hA
 obtain⟨a,as',rfl,hq,rfl⟩:=hA
 refine⟨rfl,?_⟩
 by_cases h0:xs=[]
 ·subst h0
  have hq':=hq
  obtain⟨p,c,rfl⟩:=sl_nil hq
  refine(Tryz.slices_Compact_int_empty p c w).mono ?_
  rintro e w' ⟨rfl,rfl⟩
  exact⟨.returned (.sl 0 1 0 0),_,Γ,⟨rfl,rfl⟩,⟨_,rfl,hq'⟩,Later.refl hR _ (Nat.le_refl _)⟩
 have hq':=hq
 obtain⟨q,hq1,hnl,htc,rfl⟩:=sl_of hq h0
 obtain⟨r,hlt⟩:=row_of hR hq1 hnl
 refine(Tryz.slices_Compact_int q.blk 0 q.tc xs w r.holds (by omega) htc).mono ?_
 rintro e w' ⟨rfl,n,rfl⟩
 rw [compact_eq]
 have hcl:=cmp_len xs
 have hL:=r.later (ys:=cmpN xs++List.replicate (xs.length - (cmpN xs).length) 0) hR hq1 hnl hlt (by rw [List.length_append,List.length_replicate];omega) n #[]
 rw [Sort.grow_empty] at hL
 refine⟨.returned (.sl 0 1 0 (cmpN xs).length),_,Γ,⟨rfl,rfl⟩,⟨_,rfl,?_⟩,hL⟩
 simp only [VR]
 exact⟨q,hq1,r.one, .inr ⟨hnl,by omega,0,by rw [Nat.sub_zero], .inl (by omega)⟩⟩
def rdQN (ws:List Wd) (r:Rd Cd) (e:AE) (H':Hp):Prop:=match r with
 | .inl p=>e=failX ws p∧H'=⟨1,[]⟩
 | .inr (c,q)=>q≤ws.length∧(∃ y,e=.returned (.p y)∧NilD y c.pv)∧H'=psH ws q
abbrev cdQ (ws:List Wd) (r:Rd Cd):AE→Hp→Prop:=rdQ ws r fun c=>.p c.pv
theorem rdN_weak {ws:List Wd} {g:FuncId} {args:List AV} {H:Hp} {r:Rd Cd} (h:HoldsG cx g args H (rdQN ws r)):HoldsG cx g args H (cdQ ws r):=
 h.weak fun e H' hq=>by
  rcases r with p | ⟨c,q⟩
  ·obtain⟨rfl,rfl⟩:=hq
   exact⟨_,rfl,rfl,rfl⟩
  ·obtain⟨h1,⟨y,rfl,h2⟩,rfl⟩:=hq
   exact⟨.returned (.p c.pv),⟨_,rfl,by simp only [NilA];exact⟨_,rfl,h2⟩⟩,h1,rfl,rfl⟩
theorem nil_leaf (o n r v:Int) (rf:Rf) (st:List Int):NilD (.agg [i64 o,i64 n,i64 r,i64 v, .str rf.name,i64 rf.mode, .str rf.plate,i64 rf.n,ints st, .nils]) (Cd.mk o n r v rf st []).pv:=by
 show NilD _ (.agg [i64 o,i64 n,i64 r,i64 v, .str rf.name,i64 rf.mode, .str rf.plate,i64 rf.n,ints st, .lsts 10 []])
 simp only [NilD,NilDL]
 exact⟨_,rfl,_,_,rfl,rfl,_,_,rfl,rfl,_,_,rfl,rfl,_,_,rfl,rfl,_,_,rfl,rfl,_,_,rfl,rfl,_,_,rfl,rfl,_,_,rfl,rfl,_,_,rfl,⟨_,rfl,NilDL.refl _⟩,_,_,rfl, .inr (.inr ⟨10,rfl⟩),rfl⟩
theorem nil_leaf2 (o n r v:Int) (rf:Rf):NilD (.agg [i64 o,i64 n,i64 r,i64 v, .str rf.name,i64 rf.mode, .str rf.plate,i64 rf.n, .nils, .nils]) (Cd.mk o n r v rf [] []).pv:=by
 show NilD _ (.agg [i64 o,i64 n,i64 r,i64 v, .str rf.name,i64 rf.mode, .str rf.plate,i64 rf.n, .lst [], .lsts 10 []])
 simp only [NilD,NilDL]
 exact⟨_,rfl,_,_,rfl,rfl,_,_,rfl,rfl,_,_,rfl,rfl,_,_,rfl,rfl,_,_,rfl,rfl,_,_,rfl,rfl,_,_,rfl,rfl,_,_,rfl,rfl,_,_,rfl, .inr (.inl rfl),_,_,rfl, .inr (.inr ⟨10,rfl⟩),rfl⟩
def cO (cs:List AV):AObj:=⟨TCond,false, .bx cs⟩
abbrev zc:AObj:=cO [.p (i64 0), .p (i64 0), .p (i64 0), .p (i64 0), .p (.str []), .p (i64 0), .p (.str []), .p (i64 0), .p .nils, .p .nils]
abbrev lfS (rf:Rf) (k:Nat):AObj:=cO [.p (i64 5), .p (i64 0), .p (i64 0), .p (i64 0), .p (.str rf.name), .p (i64 rf.mode), .p (.str rf.plate), .p (i64 rf.n), .sl 4 1 0 k, .p .nils]
abbrev lf (o n r v:Int) (rf:Rf):AObj:=cO [.p (i64 o), .p (i64 n), .p (i64 r), .p (i64 v), .p (.str rf.name), .p (i64 rf.mode), .p (.str rf.plate), .p (i64 rf.n), .p .nils, .p .nils]
abbrev CondOK (ws:List Wd) (F:Nat) (q:Nat):Prop:=HoldsG cx 137 [.ptr 0 0 0] (psH ws q) (cdQ ws (condR ws F q))
theorem test_h (ws:List Wd) (F q0:Nat) (hg:GoodW ws) (hq0:q0≤ws.length) (hF:4 * (ws.length - q0)+1≤F+1) (hC:∀ q,q≤ws.length→4 * (ws.length - q)+4≤F→CondOK ws F q) :
  HoldsG cx 155 [.ptr 0 0 0] (psH ws q0) (cdQ ws (testR ws (F+1) q0)):=by
 refine rdN_weak ?_
 generalize hR:testR ws (F+1) q0=R
 rw [testR] at hR
 refine holdsN_of_vc Tryz.func155 rfl rfl rfl ?_
 have hl:=hg.len
 by_cases c1:txt ws q0=tLP
 ·have q1l:q0+1≤ws.length:=txt_lt (by rw [c1];decide)
  rw [if_pos c1] at hR
  refine(skip_h ws q0 tLP hl hq0).holds.useT [] [] rfl (sk) (sk) fun e0 H0 hq=>?_
  obtain⟨rfl,rfl⟩:=hq.1 c1
  refine⟨rfl,_,⟨2,(0,psO ws (q0+1))::[(1,zc)]⟩,rfl,rfl,?_⟩
  refine(hC (q0+1) q1l (by omega)).holds.useT [] [] rfl (sk) (sk) fun e0 H0 hq=>?_
  rcases h1:condR ws F (q0+1) with p | ⟨⟨o,n,rl,vl,rf,st,ar⟩,q2⟩
  ·rw [h1] at hq hR
   obtain⟨rfl,rfl⟩:=hq
   refine⟨rfl,_,_,rfl,rfl,?_⟩
   exact⟨[],[],[],failX ws p,⟨1,[]⟩,rfl,⟨_,rfl,_,_,rfl,rfl,rfl⟩,trivial,by rw [← hR];exact⟨rfl,rfl⟩⟩
  rw [h1] at hq hR
  obtain⟨q2l,rfl,rfl⟩:=hq
  refine⟨rfl,_,⟨2,(0,psO ws q2)::[(1,zc)]⟩,rfl,rfl,?_⟩
  simp only [then_inr] at hR
  rw [← musts1] at hR
  refine(expect_h ws q2 [tRP] hl q2l (by simp) (by simp)).holds.useT [3] [] rfl (sk) ⟨_,_,rfl,⟨rfl,rfl⟩,_,_,rfl,⟨_,rfl,by decide,rfl⟩,rfl⟩ fun e0 H0 hq=>?_
  rcases h2:mustsR ws [tRP] q2 with p | ⟨u,q3⟩
  ·rw [h2] at hq hR
   obtain⟨rfl,rfl⟩:=hq
   refine⟨rfl,_,_,rfl,rfl,?_⟩
   exact⟨[],[],[],failX ws p,⟨1,[]⟩,rfl,⟨_,rfl,_,_,rfl,rfl,rfl⟩,trivial,by rw [← hR];exact⟨rfl,rfl⟩⟩
  rw [h2] at hq hR
  obtain⟨q3l,rfl,rfl⟩:=hq
  refine⟨rfl,_,⟨4,(0,psO ws q3)::[(3,sO [tRP]),(2,cO ((Cd.mk o n rl vl rf st ar).cells.map .p)),(1,zc)]⟩,rfl,rfl,?_⟩
  simp only [then_inr] at hR
  exact⟨[],[],[], .returned (.p (Cd.mk o n rl vl rf st ar).pv),psH ws q3,rfl,sk,sk,by rw [← hR];exact⟨q3l,⟨_,rfl,NilD.refl _⟩,rfl⟩⟩
 rw [if_neg c1] at hR
 refine(skip_h ws q0 tLP hl hq0).holds.useT [] [] rfl (sk) (sk) fun e0 H0 hq=>?_
 obtain⟨rfl,rfl⟩:=hq.2 c1
 refine⟨rfl,_,⟨2,(0,psO ws q0)::[(1,zc)]⟩,rfl,rfl,?_⟩
 by_cases c2:txt ws q0=tCount
 ·have q1l:q0+1≤ws.length:=txt_lt (by rw [c2];decide)
  rw [if_pos c2] at hR
  obtain⟨q1,hq1⟩:∃ q1,q1=q0+1:=⟨_,rfl⟩
  have q1l:q1≤ws.length:=by omega
  rw [← hq1] at hR
  refine(skip_h ws q0 tCount hl hq0).holds.useT [] [] rfl (sk) (sk) fun e0 H0 hq=>?_
  obtain⟨rfl,rfl⟩:=hq.1 c2
  refine⟨rfl,_,⟨2,(0,psO ws (q0+1))::[(1,zc)]⟩,rfl,rfl,?_⟩
  rw [← hq1]
  rw [← musts1] at hR
  refine(expect_h ws q1 [tLP] hl q1l (by simp) (by simp)).holds.useT [2] [] rfl (sk) ⟨_,_,rfl,⟨rfl,rfl⟩,_,_,rfl,⟨_,rfl,by decide,rfl⟩,rfl⟩ fun e0 H0 hq=>?_
  rcases h1:mustsR ws [tLP] q1 with p | ⟨u1,q2⟩
  ·rw [h1] at hq hR
   obtain⟨rfl,rfl⟩:=hq
   refine⟨rfl,_,_,rfl,rfl,?_⟩
   exact⟨[],[],[],failX ws p,⟨1,[]⟩,rfl,⟨_,rfl,_,_,rfl,rfl,rfl⟩,trivial,by rw [← hR];exact⟨rfl,rfl⟩⟩
  rw [h1] at hq hR
  obtain⟨q2l,rfl,rfl⟩:=hq
  refine⟨rfl,_,⟨3,(0,psO ws q2)::[(2,sO [tLP]),(1,zc)]⟩,rfl,rfl,?_⟩
  simp only [then_inr] at hR
  refine(name_h ws q2 hl q2l).holds.useT [] [] rfl (sk) (sk) fun e0 H0 hq=>?_
  rcases h2:nameR ws q2 with p | ⟨nm,q3⟩
  ·rw [h2] at hq hR
   obtain⟨rfl,rfl⟩:=hq
   refine⟨rfl,_,_,rfl,rfl,?_⟩
   exact⟨[],[],[],failX ws p,⟨1,[]⟩,rfl,⟨_,rfl,_,_,rfl,rfl,rfl⟩,trivial,by rw [← hR];exact⟨rfl,rfl⟩⟩
  rw [h2] at hq hR
  obtain⟨q3l,rfl,rfl⟩:=hq
  refine⟨rfl,_,⟨3,(0,psO ws q3)::[(2,sO [tLP]),(1,zc)]⟩,rfl,rfl,?_⟩
  simp only [then_inr] at hR
  refine(expect_h ws q3 [tLB,tAll,tRB,tEq] hl q3l (by simp) (by simp)).holds.useT [4] [] rfl (sk) ⟨_,_,rfl,⟨rfl,rfl⟩,_,_,rfl,⟨_,rfl,by decide,rfl⟩,rfl⟩ fun e0 H0 hq=>?_
  rcases h3:mustsR ws [tLB,tAll,tRB,tEq] q3 with p | ⟨u3,q4⟩
  ·rw [h3] at hq hR
   obtain⟨rfl,rfl⟩:=hq
   refine⟨rfl,_,_,rfl,rfl,?_⟩
   exact⟨[],[],[],failX ws p,⟨1,[]⟩,rfl,⟨_,rfl,_,_,rfl,rfl,rfl⟩,trivial,by rw [← hR];exact⟨rfl,rfl⟩⟩
  rw [h3] at hq hR
  obtain⟨q4l,rfl,rfl⟩:=hq
  refine⟨rfl,_,⟨5,(0,psO ws q4)::[(4,sO [tLB,tAll,tRB,tEq]),(3,lf 6 0 0 0 ⟨nm,3,[],0⟩),(2,sO [tLP]),(1,zc)]⟩,rfl,rfl,?_⟩
  simp only [then_inr] at hR
  refine(number_h ws q4 hg q4l).holds.useT [] [] rfl (sk) (sk) fun e0 H0 hq=>?_
  rcases h4:numR ws q4 with p | ⟨v,q5⟩
  ·rw [h4] at hq hR
   obtain⟨rfl,rfl⟩:=hq
   refine⟨rfl,_,_,rfl,rfl,?_⟩
   exact⟨[],[],[],failX ws p,⟨1,[]⟩,rfl,⟨_,rfl,_,_,rfl,rfl,rfl⟩,trivial,by rw [← hR];exact⟨rfl,rfl⟩⟩
  rw [h4] at hq hR
  obtain⟨q5l,rfl,rfl⟩:=hq
  refine⟨rfl,_,⟨5,(0,psO ws q5)::[(4,sO [tLB,tAll,tRB,tEq]),(3,lf 6 0 0 0 ⟨nm,3,[],0⟩),(2,sO [tLP]),(1,zc)]⟩,rfl,rfl,?_⟩
  simp only [then_inr] at hR
  rw [← musts1] at hR
  refine(expect_h ws q5 [tRP] hl q5l (by simp) (by simp)).holds.useT [5] [] rfl (sk) ⟨_,_,rfl,⟨rfl,rfl⟩,_,_,rfl,⟨_,rfl,by decide,rfl⟩,rfl⟩ fun e0 H0 hq=>?_
  rcases h5:mustsR ws [tRP] q5 with p | ⟨u5,q6⟩
  ·rw [h5] at hq hR
   obtain⟨rfl,rfl⟩:=hq
   refine⟨rfl,_,_,rfl,rfl,?_⟩
   exact⟨[],[],[],failX ws p,⟨1,[]⟩,rfl,⟨_,rfl,_,_,rfl,rfl,rfl⟩,trivial,by rw [← hR];exact⟨rfl,rfl⟩⟩
  rw [h5] at hq hR
  obtain⟨q6l,rfl,rfl⟩:=hq
  refine⟨rfl,_,⟨6,(0,psO ws q6)::[(5,sO [tRP]),(4,sO [tLB,tAll,tRB,tEq]),(3,lf 6 0 0 v ⟨nm,3,[],0⟩),(2,sO [tLP]),(1,zc)]⟩,rfl,rfl,?_⟩
  simp only [then_inr] at hR
  refine(relation_h ws q6 hl q6l).holds.useT [] [] rfl (sk) (sk) fun e0 H0 hq=>?_
  rcases h6:relR ws q6 with p | ⟨r,q7⟩
  ·rw [h6] at hq hR
   obtain⟨rfl,rfl⟩:=hq
   refine⟨rfl,_,_,rfl,rfl,?_⟩
   exact⟨[],[],[],failX ws p,⟨1,[]⟩,rfl,⟨_,rfl,_,_,rfl,rfl,rfl⟩,trivial,by rw [← hR];exact⟨rfl,rfl⟩⟩
  rw [h6] at hq hR
  obtain⟨q7l,rfl,rfl⟩:=hq
  refine⟨rfl,_,⟨6,(0,psO ws q7)::[(5,sO [tRP]),(4,sO [tLB,tAll,tRB,tEq]),(3,lf 6 0 0 v ⟨nm,3,[],0⟩),(2,sO [tLP]),(1,zc)]⟩,rfl,rfl,?_⟩
  simp only [then_inr] at hR
  refine(number_h ws q7 hg q7l).holds.useT [] [] rfl (sk) (sk) fun e0 H0 hq=>?_
  rcases h7:numR ws q7 with p | ⟨n,q8⟩
  ·rw [h7] at hq hR
   obtain⟨rfl,rfl⟩:=hq
   refine⟨rfl,_,_,rfl,rfl,?_⟩
   exact⟨[],[],[],failX ws p,⟨1,[]⟩,rfl,⟨_,rfl,_,_,rfl,rfl,rfl⟩,trivial,by rw [← hR];exact⟨rfl,rfl⟩⟩
  rw [h7] at hq hR
  obtain⟨q8l,rfl,rfl⟩:=hq
  refine⟨rfl,_,⟨6,(0,psO ws q8)::[(5,sO [tRP]),(4,sO [tLB,tAll,tRB,tEq]),(3,lf 6 0 r v ⟨nm,3,[],0⟩),(2,sO [tLP]),(1,zc)]⟩,rfl,rfl,?_⟩
  simp only [then_inr] at hR
  exact⟨[],[],[], .returned (.p (.agg [i64 6,i64 n,i64 r,i64 v, .str nm,i64 3, .str [],i64 0, .nils, .nils])),psH ws q8,rfl,sk,sk,by rw [← hR];exact⟨q8l,⟨_,rfl,nil_leaf2 6 n r v ⟨nm,3,[],0⟩⟩,rfl⟩⟩
 rw [if_neg c2] at hR
 refine(skip_h ws q0 tCount hl hq0).holds.useT [] [] rfl (sk) (sk) fun e0 H0 hq=>?_
 obtain⟨rfl,rfl⟩:=hq.2 c2
 refine⟨rfl,_,⟨2,(0,psO ws q0)::[(1,zc)]⟩,rfl,rfl,?_⟩
 refine(ref_h ws q0 hg hq0).holds.useT [] [] rfl (sk) (sk) fun e0 H0 hq=>?_
 rcases h1:refR ws q0 with p | ⟨rf,q1⟩
 ·rw [h1] at hq hR
  obtain⟨rfl,rfl⟩:=hq
  refine⟨rfl,_,_,rfl,rfl,?_⟩
  exact⟨[],[],[],failX ws p,⟨1,[]⟩,rfl,⟨_,rfl,_,_,rfl,rfl,rfl⟩,trivial,by rw [← hR];exact⟨rfl,rfl⟩⟩
 rw [h1] at hq hR
 obtain⟨q1l,rfl,rfl⟩:=hq
 refine⟨rfl,_,⟨2,(0,psO ws q1)::[(1,zc)]⟩,rfl,rfl,?_⟩
 simp only [then_inr] at hR
 by_cases c3:txt ws q1=tIn
 rotate_left
 ·rw [if_neg c3] at hR
  refine(skip_h ws q1 tIn hl q1l).holds.useT [] [] rfl (sk) (sk) fun e0 H0 hq=>?_
  obtain⟨rfl,rfl⟩:=hq.2 c3
  refine⟨rfl,_,⟨3,(0,psO ws q1)::[(2,lf 0 0 0 0 rf),(1,zc)]⟩,rfl,rfl,?_⟩
  refine(relation_h ws q1 hl q1l).holds.useT [] [] rfl (sk) (sk) fun e0 H0 hq=>?_
  rcases h2:relR ws q1 with p | ⟨o,q2⟩
  ·rw [h2] at hq hR
   obtain⟨rfl,rfl⟩:=hq
   refine⟨rfl,_,_,rfl,rfl,?_⟩
   exact⟨[],[],[],failX ws p,⟨1,[]⟩,rfl,⟨_,rfl,_,_,rfl,rfl,rfl⟩,trivial,by rw [← hR];exact⟨rfl,rfl⟩⟩
  rw [h2] at hq hR
  obtain⟨q2l,rfl,rfl⟩:=hq
  refine⟨rfl,_,⟨3,(0,psO ws q2)::[(2,lf 0 0 0 0 rf),(1,zc)]⟩,rfl,rfl,?_⟩
  simp only [then_inr] at hR
  refine(number_h ws q2 hg q2l).holds.useT [] [] rfl (sk) (sk) fun e0 H0 hq=>?_
  rcases h3:numR ws q2 with p | ⟨n,q3⟩
  ·rw [h3] at hq hR
   obtain⟨rfl,rfl⟩:=hq
   refine⟨rfl,_,_,rfl,rfl,?_⟩
   exact⟨[],[],[],failX ws p,⟨1,[]⟩,rfl,⟨_,rfl,_,_,rfl,rfl,rfl⟩,trivial,by rw [← hR];exact⟨rfl,rfl⟩⟩
  rw [h3] at hq hR
  obtain⟨q3l,rfl,rfl⟩:=hq
  refine⟨rfl,_,⟨3,(0,psO ws q3)::[(2,lf o 0 0 0 rf),(1,zc)]⟩,rfl,rfl,?_⟩
  simp only [then_inr] at hR
  exact⟨[],[],[], .returned (.p (.agg [i64 o,i64 n,i64 0,i64 0, .str rf.name,i64 rf.mode, .str rf.plate,i64 rf.n, .nils, .nils])),psH ws q3,rfl,sk,sk,by rw [← hR];exact⟨q3l,⟨_,rfl,nil_leaf2 o n 0 0 rf⟩,rfl⟩⟩
 have q2l:q1+1≤ws.length:=txt_lt (by rw [c3];decide)
 rw [if_pos c3] at hR
 refine(skip_h ws q1 tIn hl q1l).holds.useT [] [] rfl (sk) (sk) fun e0 H0 hq=>?_
 obtain⟨rfl,rfl⟩:=hq.1 c3
 refine⟨rfl,_,⟨3,(0,psO ws (q1+1))::[(2,lf 0 0 0 0 rf),(1,zc)]⟩,rfl,rfl,?_⟩
 obtain⟨q2,hq2⟩:∃ q2,q2=q1+1:=⟨_,rfl⟩
 rw [← hq2] at hR q2l
 rw [← hq2]
 rw [← musts1] at hR
 refine(expect_h ws q2 [tLC] hl q2l (by simp) (by simp)).holds.useT [3] [] rfl (sk) ⟨_,_,rfl,⟨rfl,rfl⟩,_,_,rfl,⟨_,rfl,by decide,rfl⟩,rfl⟩ fun e0 H0 hq=>?_
 rcases h2:mustsR ws [tLC] q2 with p | ⟨u2,q3⟩
 ·rw [h2] at hq hR
  obtain⟨rfl,rfl⟩:=hq
  refine⟨rfl,_,_,rfl,rfl,?_⟩
  exact⟨[],[],[],failX ws p,⟨1,[]⟩,rfl,⟨_,rfl,_,_,rfl,rfl,rfl⟩,trivial,by rw [← hR];exact⟨rfl,rfl⟩⟩
 rw [h2] at hq hR
 obtain⟨q3l,rfl,rfl⟩:=hq
 refine⟨rfl,_,⟨4,(0,psO ws q3)::[(3,sO [tLC]),(2,lf 5 0 0 0 rf),(1,zc)]⟩,rfl,rfl,?_⟩
 simp only [then_inr] at hR
 have hlt:=ref_lt h1
 have hm2:=must_lt (ws:=ws) (s:=tLC) (q:=q2) (q':=q3) (u:=u2) (by rw [← musts1];exact h2)
 refine(listComma_h ws F q3 (by omega) hg q3l).holds.useT [] [] rfl (sk) ⟨_,_,rfl,⟨rfl,_,_,rfl,⟨_,_,rfl,⟨rfl,rfl⟩,rfl⟩,rfl⟩,_,_,rfl,⟨rfl,_,_,rfl,⟨_,_,rfl,⟨rfl,rfl⟩,rfl⟩,rfl⟩,rfl⟩ fun e0 H0 hq=>?_
 rcases h3:listR ws (numR ws) F q3 with p | ⟨l,q4⟩
 ·rw [h3] at hq hR
  obtain⟨rfl,rfl⟩:=hq
  refine⟨rfl,_,_,rfl,rfl,?_⟩
  exact⟨[],[],[],failX ws p,⟨1,[]⟩,rfl,⟨_,rfl,_,_,rfl,rfl,rfl⟩,trivial,by rw [← hR];exact⟨rfl,rfl⟩⟩
 rw [h3] at hq hR
 obtain⟨⟨q4l,hll⟩,rfl,rfl⟩:=hq
 refine⟨rfl,_,⟨5,[(4,iO l),(0,psO ws q4),(3,sO [tLC]),(2,lf 5 0 0 0 rf),(1,zc)]⟩,rfl,rfl,?_⟩
 simp only [then_inr] at hR
 rw [← musts1] at hR
 refine(expect_h ws q4 [tRC] hl q4l (by simp) (by simp)).holds.useT [5] [] rfl (sk) ⟨_,_,rfl,⟨rfl,rfl⟩,_,_,rfl,⟨_,rfl,by decide,rfl⟩,rfl⟩ fun e0 H0 hq=>?_
 rcases h4:mustsR ws [tRC] q4 with p | ⟨u4,q5⟩
 ·rw [h4] at hq hR
  obtain⟨rfl,rfl⟩:=hq
  refine⟨rfl,_,_,rfl,rfl,?_⟩
  exact⟨[],[],[],failX ws p,⟨1,[]⟩,rfl,⟨_,rfl,_,_,rfl,rfl,rfl⟩,trivial,by rw [← hR];exact⟨rfl,rfl⟩⟩
 rw [h4] at hq hR
 obtain⟨q5l,rfl,rfl⟩:=hq
 refine⟨rfl,_,⟨6,(0,psO ws q5)::[(5,sO [tRC]),(4,iO l),(3,sO [tLC]),(2,lfS rf l.length),(1,zc)]⟩,rfl,rfl,?_⟩
 simp only [then_inr] at hR
 refine(sort_h l (by omega)).holds.useT [] [(0,4)] rfl (sk) (sk) fun e0 H0 hq=>?_
 obtain⟨ys,hp,hs,rfl,rfl⟩:=hq
 have hlen:=hp.length_eq
 refine⟨rfl,_,⟨6,[(4,iO ys),(0,psO ws q5),(5,sO [tRC]),(3,sO [tLC]),(2,lfS rf l.length),(1,zc)]⟩,rfl,rfl,?_⟩
 have hCp:=compact_h ys (by omega)
 rw [hlen] at hCp
 have hcl:=cmp_len ys
 refine hCp.holds.useT [] [(0,4)] rfl (sk) (sk) fun e0 H0 hq=>?_
 obtain⟨rfl,rfl⟩:=hq
 refine⟨rfl,_,⟨6,[(4,iO (cmpN ys++List.replicate (l.length - (cmpN ys).length) 0)),(0,psO ws q5),(5,sO [tRC]),(3,sO [tLC]),(2,lfS rf l.length),(1,zc)]⟩,rfl,rfl,?_⟩
 rw [← set_sorted hp hs] at hR
 refine⟨[4],[],[], .returned (.p (Cd.mk 5 0 0 0 rf (cmpN ys) []).pv),psH ws q5,rfl,⟨_,rfl,?_⟩,sk,by rw [← hR];exact⟨q5l,⟨_,rfl,NilD.refl _⟩,rfl⟩⟩
 refine⟨_,rfl,_,_,rfl,rfl,_,_,rfl,rfl,_,_,rfl,rfl,_,_,rfl,rfl,_,_,rfl,rfl,_,_,rfl,rfl,_,_,rfl,rfl,_,_,rfl,rfl,_,_,rfl,⟨(cmpN ys).map i64,rfl,by show 0+(cmpN ys).length≤((cmpN ys++List.replicate (l.length - (cmpN ys).length) 0).map i64).length;simp,?_⟩,_,_,rfl, .inr (.inr ⟨10,rfl⟩),rfl⟩
 show(cmpN ys).map i64=(((cmpN ys++List.replicate (l.length - (cmpN ys).length) 0).map i64).drop 0).take (cmpN ys).length
 rw [List.drop_zero,List.map_append,List.take_left' (List.length_map ..)]
theorem rel_lt {ws:List Wd} {q q':Nat} {n:Int} (h:relR ws q=.inr (n,q')):q<q':=by
 rw [relR] at h
 split at h
 ·injection h with h;injection h with h1 h2;omega
 ·split at h
  ·injection h with h;injection h with h1 h2;omega
  ·split at h
   ·injection h with h;injection h with h1 h2;omega
   ·split at h
    ·injection h with h;injection h with h1 h2;omega
    ·cases h
theorem more_le {α:Type} {ws:List Wd} {rd:Nat→Rd α} (hrd:∀ q a q',rd q=.inr (a,q')→q<q'):∀ (f:Nat) {acc l:List α} {q q':Nat},moreR ws rd f acc q=.inr (l,q')→q≤q'
 | 0,_,_,_,_,h=>by cases h
 | f+1,acc,l,q,q',h=>by
  rw [moreR] at h
  split at h
  ·obtain⟨a,q1,h1,h⟩:=then_ok h
   have:=hrd _ _ _ h1
   have:=more_le hrd f h
   omega
  ·injection h with h;injection h with h1 h2;omega
theorem list_lt {α:Type} {ws:List Wd} {rd:Nat→Rd α} (hrd:∀ q a q',rd q=.inr (a,q')→q<q') {F q q':Nat} {l:List α} (h:listR ws rd F q=.inr (l,q')):q<q':=by
 rw [listR] at h
 obtain⟨a,q1,h1,h⟩:=then_ok h
 have:=hrd _ _ _ h1
 have:=more_le hrd F h
 omega
structure CLt (ws:List Wd) (F:Nat):Prop where
 cond:∀ {q c q'},condR ws F q=.inr (c,q')→q<q'
 orr:∀ {d q c q'},orR ws F d q=.inr (c,q')→q≤q'
 conj:∀ {q c q'},conjR ws F q=.inr (c,q')→q<q'
 andr:∀ {d q c q'},andR ws F d q=.inr (c,q')→q≤q'
 neg:∀ {q c q'},negR ws F q=.inr (c,q')→q<q'
 test:∀ {q c q'},testR ws F q=.inr (c,q')→q<q'
theorem c_lt (ws:List Wd):∀ F,CLt ws F
 | 0=>by
  constructor
  ·intro q c q' h;rw [condR] at h;cases h
  ·intro d q c q' h;rw [orR] at h;cases h
  ·intro q c q' h;rw [conjR] at h;cases h
  ·intro d q c q' h;rw [andR] at h;cases h
  ·intro q c q' h;rw [negR] at h;cases h
  ·intro q c q' h;rw [testR] at h;cases h
 | F+1=>by
  have ih:=c_lt ws F
  constructor
  ·intro q c q' h
   rw [condR] at h
   obtain⟨a,p,h1,h⟩:=then_ok h
   have:=ih.conj h1
   have:=ih.orr h
   omega
  ·intro d q c q' h
   rw [orR] at h
   split at h
   ·obtain⟨a,p,h1,h⟩:=then_ok h
    have:=ih.conj h1
    have:=ih.orr h
    omega
   ·injection h with h;injection h with h1 h2;omega
  ·intro q c q' h
   rw [conjR] at h
   obtain⟨a,p,h1,h⟩:=then_ok h
   have:=ih.neg h1
   have:=ih.andr h
   omega
  ·intro d q c q' h
   rw [andR] at h
   split at h
   ·obtain⟨a,p,h1,h⟩:=then_ok h
    have:=ih.neg h1
    have:=ih.andr h
    omega
   ·injection h with h;injection h with h1 h2;omega
  ·intro q c q' h
   rw [negR] at h
   split at h
   ·obtain⟨a,p,h1,h⟩:=then_ok h
    have:=ih.neg h1
    injection h with h;injection h with h1 h2;omega
   ·exact ih.test h
  ·intro q c q' h
   rw [testR] at h
   split at h
   ·obtain⟨a,p,h1,h⟩:=then_ok h
    have:=ih.cond h1
    obtain⟨u,p2,h2,h⟩:=then_ok h
    have:=must_lt h2
    injection h with h;injection h with h1 h2;omega
   ·split at h
    ·obtain⟨u,p1,h1,h⟩:=then_ok h
     have:=must_lt h1
     obtain⟨nm,p2,h2,h⟩:=then_ok h
     have:=name_lt h2
     obtain⟨u3,p3,h3,h⟩:=then_ok h
     obtain⟨v,p4,h4,h⟩:=then_ok h
     have:=num_lt h4
     obtain⟨u5,p5,h5,h⟩:=then_ok h
     have:=must_lt h5
     obtain⟨r,p6,h6,h⟩:=then_ok h
     have:=rel_lt h6
     obtain⟨n,p7,h7,h⟩:=then_ok h
     have:=num_lt h7
     have h3':p2≤p3:=by
      rw [mustsR] at h3
      obtain⟨_,a1,g1,h3⟩:=then_ok h3
      rw [mustsR] at h3
      obtain⟨_,a2,g2,h3⟩:=then_ok h3
      rw [mustsR] at h3
      obtain⟨_,a3,g3,h3⟩:=then_ok h3
      rw [mustsR] at h3
      obtain⟨_,a4,g4,h3⟩:=then_ok h3
      have:=must_lt g1
      have:=must_lt g2
      have:=must_lt g3
      have:=must_lt g4
      injection h3 with h3;injection h3 with h3 h3';omega
     injection h with h;injection h with h1 h2;omega
    ·obtain⟨r,p1,h1,h⟩:=then_ok h
     have:=ref_lt h1
     try simp only [] at h
     split at h
     ·obtain⟨u,p2,h2,h⟩:=then_ok h
      have:=must_lt h2
      obtain⟨l,p3,h3,h⟩:=then_ok h
      have:=list_lt (fun q a q' h=>num_lt h) h3
      obtain⟨u4,p4,h4,h⟩:=then_ok h
      have:=must_lt h4
      injection h with h;injection h with h1 h2;omega
     ·obtain⟨o,p2,h2,h⟩:=then_ok h
      have:=rel_lt h2
      obtain⟨n,p3,h3,h⟩:=then_ok h
      have:=num_lt h3
      injection h with h;injection h with h1 h2;omega
theorem neg_lt {ws:List Wd} (F:Nat) {q q':Nat} {c:Cd} (h:negR ws F q=.inr (c,q')):q<q':=(c_lt ws F).neg h
theorem conj_lt {ws:List Wd} (F:Nat) {q q':Nat} {c:Cd} (h:conjR ws F q=.inr (c,q')):q<q':=(c_lt ws F).conj h
def ngF:AV:=.fn (.func 151) [.ptr 0 0 0] []
def cjF:AV:=.fn (.func 150) [] [.ptr 1 0 0]
theorem and_h (ws:List Wd) (F q0:Nat) (hg:GoodW ws) (hq0:q0≤ws.length) (hF:4 * (ws.length - q0)+3≤F+1) (hC:∀ q,q≤ws.length→∀ f,f≤F→4 * (ws.length - q)+2≤f→HoldsG cx 151 [.ptr 0 0 0] (psH ws q) (cdQ ws (negR ws f q))) :
  HoldsG cx 149 [.ptr 0 0 0, .p (.str tAnd), .p (i64 8),ngF] (psH ws q0) (rdQ ws (conjR ws (F+1) q0) fun c=>.p c.pv):=by
 generalize hR:conjR ws (F+1) q0=R
 rw [conjR] at hR
 refine holdsN_of_vc Tryz.func149 rfl rfl rfl ?_
 have hl:=hg.len
 refine(hC q0 hq0 F (Nat.le_refl _) (by omega)).holds.useT [] [] rfl (sk) (sk) fun e0 H0 hq=>?_
 rcases h1:negR ws F q0 with p | ⟨⟨o,n,rl,vl,rf,st,ar⟩,q1⟩
 ·rw [h1] at hq hR
  obtain⟨rfl,rfl⟩:=hq
  refine⟨rfl,_,_,rfl,rfl,?_⟩
  exact⟨[],[],[],failX ws p,⟨1,[]⟩,rfl,⟨_,rfl,_,_,rfl,rfl,rfl⟩,trivial,by rw [← hR];exact⟨rfl,rfl⟩⟩
 rw [h1] at hq hR
 obtain⟨q1l,rfl,rfl⟩:=hq
 have hlt:=neg_lt F h1
 refine⟨rfl,_,⟨2,(0,psO ws q1)::[(1,zc)]⟩,rfl,rfl,?_⟩
 simp only [then_inr] at hR
 refine⟨Cd × Nat,fun x=>[(0, .ptr 0 0 0),(1, .p (.str tAnd)),(2, .p (i64 8)),(3,ngF),(8, .ptr 1 0 0),(9, .ptr 2 0 0)],fun x=>⟨3,[(2,cO (x.1.cells.map .p)),(0,psO ws x.2),(1,zc)]⟩,fun x=>x.2≤ws.length∧∃ f,f≤F∧4 * (ws.length - x.2)+2≤f∧R=andR ws f x.1 x.2,fun x=>ws.length - x.2,?_,?_⟩
 ·exact⟨(.mk o n rl vl rf st ar,q1),⟨q1l,F,Nat.le_refl _,by simp only [];omega,hR.symm⟩,ent_of [] [] [] rfl ⟨⟨rfl,rfl⟩,rfl,rfl,⟨rfl,_,_,rfl,⟨_,_,rfl,⟨rfl,rfl⟩,rfl⟩,rfl⟩,⟨rfl,rfl⟩,⟨rfl,rfl⟩,trivial⟩ (sk) rfl⟩
 rintro⟨⟨o,n,rl,vl,rf,st,ar⟩,q⟩ ⟨k1,f,k0,k2,k3⟩
 simp only [] at k1 k0 k2 k3
 obtain⟨f,rfl⟩:∃ g,f=g+1:=⟨f - 1,by omega⟩
 rw [andR] at k3
 by_cases c1:txt ws q=tAnd
 ·have ql:q+1≤ws.length:=txt_lt (by rw [c1];decide)
  rw [if_pos c1] at k3
  refine(skip_h ws q tAnd hl k1).holds.useT [] [] rfl (sk) (sk) fun e0 H0 hq=>?_
  obtain⟨rfl,rfl⟩:=hq.1 c1
  refine⟨rfl,_,⟨3,(0,psO ws (q+1))::[(2,cO ((Cd.mk o n rl vl rf st ar).cells.map .p)),(1,zc)]⟩,rfl,rfl,?_⟩
  refine VDraw.seq rfl ?_
  refine(hC (q+1) ql f (by omega) (by omega)).holds.useT [] [] rfl (sk) (sk) fun e0 H0 hq=>?_
  rcases h2:negR ws f (q+1) with p | ⟨⟨o',n',rl',vl',rf',st',ar'⟩,q2⟩
  ·rw [h2] at hq k3
   obtain⟨rfl,rfl⟩:=hq
   refine⟨rfl,_,_,rfl,rfl,?_⟩
   exact⟨[],[],[],failX ws p,⟨1,[]⟩,rfl,⟨_,rfl,_,_,rfl,rfl,rfl⟩,trivial,by rw [k3];exact⟨rfl,rfl⟩⟩
  rw [h2] at hq k3
  obtain⟨q2l,rfl,rfl⟩:=hq
  have hlt2:=neg_lt f h2
  refine⟨rfl,_,⟨3,(0,psO ws q2)::[(2,cO ((Cd.mk o n rl vl rf st ar).cells.map .p)),(1,zc)]⟩,rfl,rfl,?_⟩
  refine⟨sk,?_⟩
  exact⟨(.mk 8 0 0 0 rf0 [] [.mk o n rl vl rf st ar, .mk o' n' rl' vl' rf' st' ar'],q2),⟨q2l,f,by omega,by simp only [];omega,k3⟩,ent_of [3] [] [] rfl ⟨⟨rfl,rfl⟩,rfl,rfl,⟨rfl,_,_,rfl,⟨_,_,rfl,⟨rfl,rfl⟩,rfl⟩,rfl⟩,⟨rfl,rfl⟩,⟨rfl,rfl⟩,trivial⟩
   ⟨⟨_,rfl,rfl,rfl,_,rfl,_,_,rfl,rfl,_,_,rfl,rfl,_,_,rfl,rfl,_,_,rfl,rfl,_,_,rfl,rfl,_,_,rfl,rfl,_,_,rfl,rfl,_,_,rfl,rfl,_,_,rfl, .inr (.inl rfl),_,_,rfl,⟨_,rfl,by show 0+2≤2;omega,rfl⟩,rfl⟩,sk⟩ rfl,by show ws.length - q2<ws.length - q;omega⟩
 ·rw [if_neg c1] at k3
  refine(skip_h ws q tAnd hl k1).holds.useT [] [] rfl (sk) (sk) fun e0 H0 hq=>?_
  obtain⟨rfl,rfl⟩:=hq.2 c1
  refine⟨rfl,_,⟨3,(0,psO ws q)::[(2,cO ((Cd.mk o n rl vl rf st ar).cells.map .p)),(1,zc)]⟩,rfl,rfl,?_⟩
  exact⟨[],[],[], .returned (.p (Cd.mk o n rl vl rf st ar).pv),psH ws q,rfl,sk,sk,by rw [k3];exact⟨k1,rfl,rfl⟩⟩
theorem or_h (ws:List Wd) (F q0:Nat) (hg:GoodW ws) (hq0:q0≤ws.length) (hF:4 * (ws.length - q0)+4≤F+1) (hC:∀ q,q≤ws.length→∀ f,f≤F→4 * (ws.length - q)+3≤f→HoldsG cx 150 [.ptr 1 0 0] (pbH ws q) (rdQ2 ws (conjR ws f q) fun c=>.p c.pv)) :
  HoldsG cx 149 [.ptr 0 0 0, .p (.str tOr), .p (i64 9),cjF] (pbH ws q0) (rdQ2 ws (condR ws (F+1) q0) fun c=>.p c.pv):=by
 generalize hR:condR ws (F+1) q0=R
 rw [condR] at hR
 refine holdsN_of_vc Tryz.func149 rfl rfl rfl ?_
 have hl:=hg.len
 refine(hC q0 hq0 F (Nat.le_refl _) (by omega)).holds.useT [] [] rfl (sk) (sk) fun e0 H0 hq=>?_
 rcases h1:conjR ws F q0 with p | ⟨⟨o,n,rl,vl,rf,st,ar⟩,q1⟩
 ·rw [h1] at hq hR
  obtain⟨rfl,rfl⟩:=hq
  refine⟨rfl,_,_,rfl,rfl,?_⟩
  exact⟨[],[],[],failX ws p,⟨2,[]⟩,rfl,⟨_,rfl,_,_,rfl,rfl,rfl⟩,trivial,by rw [← hR];exact⟨rfl,rfl⟩⟩
 rw [h1] at hq hR
 obtain⟨q1l,rfl,rfl⟩:=hq
 have hlt:=conj_lt F h1
 refine⟨rfl,_,⟨3,(0,psO ws q1)::[(1,bxO),(2,zc)]⟩,rfl,rfl,?_⟩
 simp only [then_inr] at hR
 refine⟨Cd × Nat,fun x=>[(0, .ptr 0 0 0),(1, .p (.str tOr)),(2, .p (i64 9)),(3,cjF),(8, .ptr 2 0 0),(9, .ptr 3 0 0)],fun x=>⟨4,[(3,cO (x.1.cells.map .p)),(0,psO ws x.2),(1,bxO),(2,zc)]⟩,fun x=>x.2≤ws.length∧∃ f,f≤F∧4 * (ws.length - x.2)+3≤f∧R=orR ws f x.1 x.2,fun x=>ws.length - x.2,?_,?_⟩
 ·exact⟨(.mk o n rl vl rf st ar,q1),⟨q1l,F,Nat.le_refl _,by simp only [];omega,hR.symm⟩,ent_of [] [] [] rfl ⟨⟨rfl,rfl⟩,rfl,rfl,⟨rfl,_,_,rfl,rfl,⟨_,_,rfl,⟨rfl,rfl⟩,rfl⟩⟩,⟨rfl,rfl⟩,⟨rfl,rfl⟩,trivial⟩ (sk) rfl⟩
 rintro⟨⟨o,n,rl,vl,rf,st,ar⟩,q⟩ ⟨k1,f,k0,k2,k3⟩
 simp only [] at k1 k0 k2 k3
 obtain⟨f,rfl⟩:∃ g,f=g+1:=⟨f - 1,by omega⟩
 rw [orR] at k3
 by_cases c1:txt ws q=tOr
 ·have ql:q+1≤ws.length:=txt_lt (by rw [c1];decide)
  rw [if_pos c1] at k3
  refine(skip_h ws q tOr hl k1).holds.useT [] [] rfl (sk) (sk) fun e0 H0 hq=>?_
  obtain⟨rfl,rfl⟩:=hq.1 c1
  refine⟨rfl,_,⟨4,(0,psO ws (q+1))::[(3,cO ((Cd.mk o n rl vl rf st ar).cells.map .p)),(1,bxO),(2,zc)]⟩,rfl,rfl,?_⟩
  refine VDraw.seq rfl ?_
  refine(hC (q+1) ql f (by omega) (by omega)).holds.useT [] [] rfl (sk) (sk) fun e0 H0 hq=>?_
  rcases h2:conjR ws f (q+1) with p | ⟨⟨o',n',rl',vl',rf',st',ar'⟩,q2⟩
  ·rw [h2] at hq k3
   obtain⟨rfl,rfl⟩:=hq
   refine⟨rfl,_,_,rfl,rfl,?_⟩
   exact⟨[],[],[],failX ws p,⟨2,[]⟩,rfl,⟨_,rfl,_,_,rfl,rfl,rfl⟩,trivial,by rw [k3];exact⟨rfl,rfl⟩⟩
  rw [h2] at hq k3
  obtain⟨q2l,rfl,rfl⟩:=hq
  have hlt2:=conj_lt f h2
  refine⟨rfl,_,⟨4,(0,psO ws q2)::[(1,bxO),(3,cO ((Cd.mk o n rl vl rf st ar).cells.map .p)),(2,zc)]⟩,rfl,rfl,?_⟩
  refine⟨sk,?_⟩
  exact⟨(.mk 9 0 0 0 rf0 [] [.mk o n rl vl rf st ar, .mk o' n' rl' vl' rf' st' ar'],q2),⟨q2l,f,by omega,by simp only [];omega,k3⟩,ent_of [4] [] [] rfl ⟨⟨rfl,rfl⟩,rfl,rfl,⟨rfl,_,_,rfl,rfl,⟨_,_,rfl,⟨rfl,rfl⟩,rfl⟩⟩,⟨rfl,rfl⟩,⟨rfl,rfl⟩,trivial⟩
   ⟨⟨_,rfl,rfl,rfl,_,rfl,_,_,rfl,rfl,_,_,rfl,rfl,_,_,rfl,rfl,_,_,rfl,rfl,_,_,rfl,rfl,_,_,rfl,rfl,_,_,rfl,rfl,_,_,rfl,rfl,_,_,rfl, .inr (.inl rfl),_,_,rfl,⟨_,rfl,by show 0+2≤2;omega,rfl⟩,rfl⟩,sk⟩ rfl,by show ws.length - q2<ws.length - q;omega⟩
 ·rw [if_neg c1] at k3
  refine(skip_h ws q tOr hl k1).holds.useT [] [] rfl (sk) (sk) fun e0 H0 hq=>?_
  obtain⟨rfl,rfl⟩:=hq.2 c1
  refine⟨rfl,_,⟨4,(0,psO ws q)::[(3,cO ((Cd.mk o n rl vl rf st ar).cells.map .p)),(1,bxO),(2,zc)]⟩,rfl,rfl,?_⟩
  exact⟨[],[],[], .returned (.p (Cd.mk o n rl vl rf st ar).pv),pbH ws q,rfl,sk,sk,by rw [k3];exact⟨k1,rfl,rfl⟩⟩
structure CAll (ws:List Wd) (f:Nat):Prop where
 cond:∀ q,q≤ws.length→4 * (ws.length - q)+4≤f→CondOK ws f q
 conj:∀ q,q≤ws.length→4 * (ws.length - q)+3≤f→HoldsG cx 150 [.ptr 1 0 0] (pbH ws q) (rdQ2 ws (conjR ws f q) fun c=>.p c.pv)
 neg:∀ q,q≤ws.length→4 * (ws.length - q)+2≤f→HoldsG cx 151 [.ptr 0 0 0] (psH ws q) (cdQ ws (negR ws f q))
 test:∀ q,q≤ws.length→4 * (ws.length - q)+1≤f→HoldsG cx 155 [.ptr 0 0 0] (psH ws q) (cdQ ws (testR ws f q))
theorem neg_h (ws:List Wd) (F q0:Nat) (hg:GoodW ws) (hq0:q0≤ws.length) (hF:4 * (ws.length - q0)+2≤F+1) (ih:CAll ws F) :
  HoldsG cx 151 [.ptr 0 0 0] (psH ws q0) (cdQ ws (negR ws (F+1) q0)):=by
 generalize hR:negR ws (F+1) q0=R
 rw [negR] at hR
 refine holdsN_of_vc Tryz.func151 rfl rfl rfl ?_
 have hl:=hg.len
 by_cases c1:txt ws q0=tNot
 ·have q1l:q0+1≤ws.length:=txt_lt (by rw [c1];decide)
  rw [if_pos c1] at hR
  refine(skip_h ws q0 tNot hl hq0).holds.useT [] [] rfl (sk) (sk) fun e0 H0 hq=>?_
  obtain⟨rfl,rfl⟩:=hq.1 c1
  refine⟨rfl,_,⟨2,(0,psO ws (q0+1))::[(1,zc)]⟩,rfl,rfl,?_⟩
  refine(ih.neg (q0+1) q1l (by omega)).holds.useT [] [] rfl (sk) (sk) fun e0 H0 hq=>?_
  rcases h1:negR ws F (q0+1) with p | ⟨⟨o,n,rl,vl,rf,st,ar⟩,q2⟩
  ·rw [h1] at hq hR
   obtain⟨rfl,rfl⟩:=hq
   refine⟨rfl,_,_,rfl,rfl,?_⟩
   exact⟨[],[],[],failX ws p,⟨1,[]⟩,rfl,⟨_,rfl,_,_,rfl,rfl,rfl⟩,trivial,by rw [← hR];exact⟨rfl,rfl⟩⟩
  rw [h1] at hq hR
  obtain⟨q2l,rfl,rfl⟩:=hq
  refine⟨rfl,_,⟨2,(0,psO ws q2)::[(1,zc)]⟩,rfl,rfl,?_⟩
  simp only [then_inr] at hR
  exact⟨[2],[],[], .returned (.p (Cd.mk 7 0 0 0 rf0 [] [.mk o n rl vl rf st ar]).pv),psH ws q2,rfl,⟨_,rfl,⟨_,rfl,_,_,rfl,rfl,_,_,rfl,rfl,_,_,rfl,rfl,_,_,rfl,rfl,_,_,rfl,rfl,_,_,rfl,rfl,_,_,rfl,rfl,_,_,rfl,rfl,_,_,rfl, .inr (.inl rfl),_,_,rfl,⟨_,rfl,by show 0+1≤1;omega,rfl⟩,rfl⟩⟩,sk,by rw [← hR];exact⟨q2l,rfl,rfl⟩⟩
 rw [if_neg c1] at hR
 refine(skip_h ws q0 tNot hl hq0).holds.useT [] [] rfl (sk) (sk) fun e0 H0 hq=>?_
 obtain⟨rfl,rfl⟩:=hq.2 c1
 refine⟨rfl,_,⟨2,(0,psO ws q0)::[(1,zc)]⟩,rfl,rfl,?_⟩
 have hc:=ih.test q0 hq0 (by omega)
 rw [hR] at hc
 refine hc.holds.useT [] [] rfl (sk) (sk) fun e0 H0 hq=>?_
 rcases R with p | ⟨⟨o,n,rl,vl,rf,st,ar⟩,q2⟩
 ·obtain⟨rfl,rfl⟩:=hq
  refine⟨rfl,_,_,rfl,rfl,?_⟩
  exact⟨[],[],[],failX ws p,⟨1,[]⟩,rfl,⟨_,rfl,_,_,rfl,rfl,rfl⟩,trivial,rfl,rfl⟩
 obtain⟨q2l,rfl,rfl⟩:=hq
 refine⟨rfl,_,⟨2,(0,psO ws q2)::[(1,zc)]⟩,rfl,rfl,?_⟩
 exact⟨[],[],[], .returned (.p (Cd.mk o n rl vl rf st ar).pv),psH ws q2,rfl,sk,sk,q2l,rfl,rfl⟩
theorem conj_h (ws:List Wd) (F q0:Nat) (hg:GoodW ws) (hq0:q0≤ws.length) (hF:4 * (ws.length - q0)+3≤F+1) (ih:∀ f,f≤F→CAll ws f) :
  HoldsG cx 150 [.ptr 1 0 0] (pbH ws q0) (rdQ2 ws (conjR ws (F+1) q0) fun c=>.p c.pv):=by
 have hc:=and_h ws F q0 hg hq0 hF fun q hq f hf hb=>(ih f hf).neg q hq hb
 generalize conjR ws (F+1) q0=R at hc ⊢
 refine holdsN_of_vc Tryz.func150 rfl rfl rfl ?_
 refine hc.holds.useT [] [] rfl (sk) ⟨_,_,rfl,⟨rfl,rfl⟩,_,_,rfl,rfl,_,_,rfl,rfl,_,_,rfl,⟨rfl,_,_,rfl,⟨_,_,rfl,⟨rfl,rfl⟩,rfl⟩,rfl⟩,rfl⟩ fun e0 H0 hq=>?_
 rcases R with p | ⟨⟨o,n,rl,vl,rf,st,ar⟩,q2⟩
 ·obtain⟨rfl,rfl⟩:=hq
  refine⟨rfl,_,_,rfl,rfl,?_⟩
  exact⟨[],[],[],failX ws p,⟨2,[]⟩,rfl,⟨_,rfl,_,_,rfl,rfl,rfl⟩,trivial,rfl,rfl⟩
 obtain⟨q2l,rfl,rfl⟩:=hq
 refine⟨rfl,_,⟨3,(0,psO ws q2)::[(2,zc),(1,bxO)]⟩,rfl,rfl,?_⟩
 exact⟨[],[],[], .returned (.p (Cd.mk o n rl vl rf st ar).pv),pbH ws q2,rfl,sk,sk,q2l,rfl,rfl⟩
theorem cond_h (ws:List Wd) (F q0:Nat) (hg:GoodW ws) (hq0:q0≤ws.length) (hF:4 * (ws.length - q0)+4≤F+1) (ih:∀ f,f≤F→CAll ws f):CondOK ws (F+1) q0:=by
 have hc:=or_h ws F q0 hg hq0 hF fun q hq f hf hb=>(ih f hf).conj q hq hb
 show HoldsG cx _ _ _ (rdQ ws (condR ws (F+1) q0) fun c=>.p c.pv)
 generalize condR ws (F+1) q0=R at hc ⊢
 refine holdsN_of_vc Tryz.func137 rfl rfl rfl ?_
 refine hc.holds.useT [] [] rfl (sk) ⟨_,_,rfl,⟨rfl,rfl⟩,_,_,rfl,rfl,_,_,rfl,rfl,_,_,rfl,⟨rfl,_,_,rfl,rfl,⟨_,_,rfl,⟨rfl,rfl⟩,rfl⟩⟩,rfl⟩ fun e0 H0 hq=>?_
 rcases R with p | ⟨⟨o,n,rl,vl,rf,st,ar⟩,q2⟩
 ·obtain⟨rfl,rfl⟩:=hq
  refine⟨rfl,_,_,rfl,rfl,?_⟩
  exact⟨[],[],[],failX ws p,⟨1,[]⟩,rfl,⟨_,rfl,_,_,rfl,rfl,rfl⟩,trivial,rfl,rfl⟩
 obtain⟨q2l,rfl,rfl⟩:=hq
 refine⟨rfl,_,⟨3,(0,psO ws q2)::[(1,bxO),(2,zc)]⟩,rfl,rfl,?_⟩
 exact⟨[],[],[], .returned (.p (Cd.mk o n rl vl rf st ar).pv),psH ws q2,rfl,sk,sk,q2l,rfl,rfl⟩
theorem c_all (ws:List Wd) (hg:GoodW ws):∀ F f,f≤F→CAll ws f
 | 0,f,hf=>by
  have:f=0:=by omega
  subst this
  exact⟨fun q _ h=>absurd h (by omega),fun q _ h=>absurd h (by omega),fun q _ h=>absurd h (by omega),fun q _ h=>absurd h (by omega)⟩
 | F+1,f,hf=>by
  have ih:=c_all ws hg F
  by_cases h:f≤F
  ·exact ih f h
  have:f=F+1:=by omega
  subst this
  exact⟨fun q hq hb=>cond_h ws F q hg hq hb ih,fun q hq hb=>conj_h ws F q hg hq hb ih,fun q hq hb=>neg_h ws F q hg hq hb (ih F (Nat.le_refl _)),fun q hq hb=>test_h ws F q hg hq hb fun q hq hb=>(ih F (Nat.le_refl _)).cond q hq hb⟩
theorem condition_h (ws:List Wd) (F q:Nat) (hg:GoodW ws) (hq:q≤ws.length) (hF:4 * (ws.length - q)+4≤F):CondOK ws F q:=(c_all ws hg F F (Nat.le_refl _)).cond q hq hF
def rdQG {α:Type} (ws:List Wd) (r:Rd α) (val:α→PV) (e:AE) (H':Hp):Prop:=match r with
 | .inl p=>e=failX ws p∧H'=⟨1,[]⟩
 | .inr (a,q)=>q≤ws.length∧(∃ y,e=.returned (.p y)∧NilD y (val a))∧H'=psH ws q
theorem rdG_weak {α:Type} {ws:List Wd} {g:FuncId} {args:List AV} {H:Hp} {r:Rd α} {val:α→PV} (h:HoldsG cx g args H (rdQG ws r val)):HoldsG cx g args H (rdQ ws r fun a=>.p (val a)):=
 h.weak fun e H' hq=>by
  rcases r with p | ⟨c,q⟩
  ·obtain⟨rfl,rfl⟩:=hq
   exact⟨_,rfl,rfl,rfl⟩
  ·obtain⟨h1,⟨y,rfl,h2⟩,rfl⟩:=hq
   exact⟨.returned (.p (val c)),⟨_,rfl,by simp only [NilA];exact⟨_,rfl,h2⟩⟩,h1,rfl,rfl⟩
theorem ints_le {ws:List Wd}:∀ (f:Nat) {acc l:List Int} {q q':Nat},intsR ws f acc q=.inr (l,q')→q≤q'
 | 0,_,_,_,_,h=>by cases h
 | f+1,acc,l,q,q',h=>by
  rw [intsR] at h
  split at h
  ·obtain⟨a,q1,h1,h⟩:=then_ok h
   have:=int_lt h1
   have:=ints_le f h
   omega
  ·injection h with h;injection h with h1 h2;omega
theorem nums_lt {ws:List Wd} {F q q':Nat} {l:List Int} (h:numsR ws F q=.inr (l,q')):q<q':=by
 rw [numsR] at h
 obtain⟨a,q1,h1,h⟩:=then_ok h
 have:=int_lt h1
 have:=ints_le F h
 omega
theorem num_end {ws:List Wd} {q q':Nat} {n:Int} (h:numR ws q=.inr (n,q')):q'≤ws.length:=by
 rw [numR] at h
 split at h
 ·rename_i hk
  have:=knd_lt (ws:=ws) (q:=q) (by rw [hk];decide)
  injection h with h;injection h with h1 h2;omega
 ·cases h
theorem int_end {ws:List Wd} {q q':Nat} {n:Int} (h:intR ws q=.inr (n,q')):q'≤ws.length:=by
 rw [intR] at h
 split at h
 ·obtain⟨m,q2,h2,h⟩:=then_ok h
  have:=num_end h2
  injection h with h;injection h with h3 h4;omega
 ·exact num_end h
theorem ints_end {ws:List Wd}:∀ (f:Nat) {acc l:List Int} {q q':Nat},q≤ws.length→intsR ws f acc q=.inr (l,q')→q'≤ws.length
 | 0,_,_,_,_,_,h=>by cases h
 | f+1,acc,l,q,q',hq,h=>by
  rw [intsR] at h
  split at h
  ·obtain⟨a,q1,h1,h⟩:=then_ok h
   exact ints_end f (int_end h1) h
  ·injection h with h;injection h with h1 h2;omega
theorem nums_end {ws:List Wd} {F q q':Nat} {l:List Int} (h:numsR ws F q=.inr (l,q')):q'≤ws.length:=by
 rw [numsR] at h
 obtain⟨a,q1,h1,h⟩:=then_ok h
 exact ints_end F (int_end h1) h
theorem cond_lt {ws:List Wd} (F:Nat) {q q':Nat} {c:Cd} (h:condR ws F q=.inr (c,q')):q<q':=(c_lt ws F).cond h
def csO (l:List Cs):AObj:=⟨TCase,false, .pus (l.map Cs.cells)⟩
abbrev endC (l:List Int):List PV:=[i64 0,i64 0,i64 0,i64 0, .str [],i64 0, .str [],i64 0, .nils, .nils,ints l]
theorem nil_end (l:List Int):NilDL (endC l) (Cs.cells ⟨cd0,l⟩):=by
 show NilDL _ [i64 0,i64 0,i64 0,i64 0, .str [],i64 0, .str [],i64 0, .lst [], .lsts 10 [],ints l]
 simp only [NilDL,NilD]
 exact⟨_,_,rfl,rfl,_,_,rfl,rfl,_,_,rfl,rfl,_,_,rfl,rfl,_,_,rfl,rfl,_,_,rfl,rfl,_,_,rfl,rfl,_,_,rfl,rfl,_,_,rfl, .inr (.inl rfl),_,_,rfl, .inr (.inr ⟨10,rfl⟩),_,_,rfl,⟨_,rfl,NilDL.refl _⟩,rfl⟩
theorem nilLL_snoc {y z:List PV} (h:NilDL y z):∀ xs:List (List PV),NilDLL (xs++[y]) (xs++[z])
 | []=>by
  show NilDLL [y] [z]
  simp only [NilDLL]
  exact⟨_,_,rfl,h,rfl⟩
 | x::xs=>by
  show NilDLL (x::(xs++[y])) (x::(xs++[z]))
  simp only [NilDLL]
  exact⟨_,_,rfl,NilDL.refl x,nilLL_snoc h xs⟩
theorem nil_css (acc:List Cs) (l:List Int):NilD (.lsts 11 (acc.map Cs.cells++[endC l])) (css (acc++[⟨cd0,l⟩])):=by
 show NilD _ (.lsts 11 ((acc++[(⟨cd0,l⟩:Cs)]).map Cs.cells))
 rw [List.map_append]
 simp only [NilD]
 exact⟨_,rfl,nilLL_snoc (nil_end l) _⟩
theorem rule_h (ws:List Wd) (F q0:Nat) (hF:4 * ws.length+8≤F) (hg:GoodW ws) (hq0:q0≤ws.length):HoldsG cx 105 [.ptr 0 0 0] (psH ws q0) (rdQ ws (ruleR ws F q0) fun l=>.p (css l)):=by
 refine rdG_weak ?_
 generalize hR:ruleR ws F q0=R
 rw [ruleR] at hR
 refine holdsN_of_vc Tryz.func105 rfl rfl rfl ?_
 have hl:=hg.len
 rw [← musts1] at hR
 refine(expect_h ws q0 [tLC] hl hq0 (by simp) (by simp)).holds.useT [1] [] rfl (sk) ⟨_,_,rfl,⟨rfl,rfl⟩,_,_,rfl,⟨_,rfl,by decide,rfl⟩,rfl⟩ fun e0 H0 hq=>?_
 rcases h1:mustsR ws [tLC] q0 with p | ⟨u1,q1⟩
 ·rw [h1] at hq hR
  obtain⟨rfl,rfl⟩:=hq
  refine⟨rfl,_,_,rfl,rfl,?_⟩
  exact⟨[],[],[],failX ws p,⟨1,[]⟩,rfl,⟨_,rfl,_,_,rfl,rfl,rfl⟩,trivial,by rw [← hR];exact⟨rfl,rfl⟩⟩
 rw [h1] at hq hR
 obtain⟨q1l,rfl,rfl⟩:=hq
 refine⟨rfl,_,⟨2,(0,psO ws q1)::[(1,sO [tLC])]⟩,rfl,rfl,?_⟩
 simp only [then_inr] at hR
 refine⟨List Cs × Nat,fun x=>[(0, .ptr 0 0 0),(3, .sl 1 11 0 x.1.length)],fun x=>⟨2,[(1,csO x.1),(0,psO ws x.2)]⟩,fun x=>x.2≤ws.length∧x.1.length≤x.2∧LI R (fun f=>casesR ws F f x.1 x.2) (ws.length - x.2),fun x=>ws.length - x.2,?_,?_⟩
 ·exact⟨([],q1),⟨q1l,by simp,⟨F,by simp only [];omega,hR.symm⟩⟩,ent_of [] [] [(1,11)] rfl (sk) (sk) rfl⟩
 rintro⟨acc,q⟩ ⟨k1,k2,k3⟩
 simp only [] at k1 k2 k3
 by_cases c1:txt ws q=tElse
 ·have ql:q+1≤ws.length:=txt_lt (by rw [c1];decide)
  have hR:ruleEnd ws F acc (q+1)=R:=(k3.is fun f=>by rw [casesR,if_pos c1]).symm
  clear k3
  rw [ruleEnd] at hR
  refine(skip_h ws q tElse hl k1).holds.useT [] [] rfl (sk) (sk) fun e0 H0 hq=>?_
  obtain⟨rfl,rfl⟩:=hq.1 c1
  refine⟨rfl,_,⟨2,(0,psO ws (q+1))::[(1,csO acc)]⟩,rfl,rfl,?_⟩
  rw [← musts1] at hR
  refine(expect_h ws (q+1) [tCol] hl ql (by simp) (by simp)).holds.useT [2] [] rfl (sk) ⟨_,_,rfl,⟨rfl,rfl⟩,_,_,rfl,⟨_,rfl,by decide,rfl⟩,rfl⟩ fun e0 H0 hq=>?_
  rcases h2:mustsR ws [tCol] (q+1) with p | ⟨u2,q2⟩
  ·rw [h2] at hq hR
   obtain⟨rfl,rfl⟩:=hq
   refine⟨rfl,_,_,rfl,rfl,?_⟩
   exact⟨[],[],[],failX ws p,⟨1,[]⟩,rfl,⟨_,rfl,_,_,rfl,rfl,rfl⟩,trivial,by rw [← hR];exact⟨rfl,rfl⟩⟩
  rw [h2] at hq hR
  obtain⟨q2l,rfl,rfl⟩:=hq
  refine⟨rfl,_,⟨3,(0,psO ws q2)::[(2,sO [tCol]),(1,csO acc)]⟩,rfl,rfl,?_⟩
  simp only [then_inr] at hR
  refine(numbers_h ws F q2 (by omega) hg q2l).holds.useT [] [] rfl (sk) (sk) fun e0 H0 hq=>?_
  rcases h3:numsR ws F q2 with p | ⟨l,q3⟩
  ·rw [h3] at hq hR
   obtain⟨rfl,rfl⟩:=hq
   refine⟨rfl,_,_,rfl,rfl,?_⟩
   exact⟨[],[],[],failX ws p,⟨1,[]⟩,rfl,⟨_,rfl,_,_,rfl,rfl,rfl⟩,trivial,by rw [← hR];exact⟨rfl,rfl⟩⟩
  rw [h3] at hq hR
  obtain⟨q3l,rfl,rfl⟩:=hq
  refine⟨rfl,_,⟨3,(0,psO ws q3)::[(2,sO [tCol]),(1,csO acc)]⟩,rfl,rfl,?_⟩
  simp only [then_inr] at hR
  refine⟨by show 0+1≤1;omega,[endC l],rfl,?_⟩
  refine⟨by show 0+acc.length≤(acc.map Cs.cells).length;simp,acc.map Cs.cells,takeAll (by simp),by show(acc.length+1) * 152≤140737488355328;omega,acc.map Cs.cells++[endC l],rfl,?_⟩
  rw [← musts1] at hR
  refine(expect_h ws q3 [tRC] hl q3l (by simp) (by simp)).holds.useT [5] [] rfl (sk) ⟨_,_,rfl,⟨rfl,rfl⟩,_,_,rfl,⟨_,rfl,by decide,rfl⟩,rfl⟩ fun e0 H0 hq=>?_
  rcases h4:mustsR ws [tRC] q3 with p | ⟨u4,q4⟩
  ·rw [h4] at hq hR
   obtain⟨rfl,rfl⟩:=hq
   refine⟨rfl,_,_,rfl,rfl,?_⟩
   exact⟨[],[],[],failX ws p,⟨1,[]⟩,rfl,⟨_,rfl,_,_,rfl,rfl,rfl⟩,trivial,by rw [← hR];exact⟨rfl,rfl⟩⟩
  rw [h4] at hq hR
  obtain⟨q4l,rfl,rfl⟩:=hq
  refine⟨rfl,_,⟨6,(0,psO ws q4)::[(5,sO [tRC]),(4,⟨TCase,false, .pus (acc.map Cs.cells++[endC l])⟩),(3,⟨TCase,false, .pus [endC l]⟩),(2,sO [tCol])]⟩,rfl,rfl,?_⟩
  simp only [then_inr] at hR
  exact⟨[4],[],[], .returned (.p (.lsts 11 (acc.map Cs.cells++[endC l]))),psH ws q4,rfl,⟨_,rfl,⟨_,rfl,by show 0+(acc.length+1)≤(acc.map Cs.cells++[endC l]).length;simp,takeAll (by simp)⟩⟩,sk,by rw [← hR];exact⟨q4l,⟨_,rfl,nil_css acc l⟩,rfl⟩⟩
 ·obtain⟨f,hf,k3⟩:=k3
  obtain⟨f,rfl⟩:∃ g,f=g+1:=⟨f - 1,by omega⟩
  simp only [] at k3
  rw [casesR,if_neg c1] at k3
  have hR:=k3.symm
  clear k3
  refine(skip_h ws q tElse hl k1).holds.useT [] [] rfl (sk) (sk) fun e0 H0 hq=>?_
  obtain⟨rfl,rfl⟩:=hq.2 c1
  refine⟨rfl,_,⟨2,(0,psO ws q)::[(1,csO acc)]⟩,rfl,rfl,?_⟩
  refine(condition_h ws F q hg k1 (by omega)).holds.useT [] [] rfl (sk) (sk) fun e0 H0 hq=>?_
  rcases h1:condR ws F q with p | ⟨⟨o,n,rl,vl,rf,st,ar⟩,q1⟩
  ·rw [h1] at hq hR
   obtain⟨rfl,rfl⟩:=hq
   refine⟨rfl,_,_,rfl,rfl,?_⟩
   exact⟨[],[],[],failX ws p,⟨1,[]⟩,rfl,⟨_,rfl,_,_,rfl,rfl,rfl⟩,trivial,by rw [← hR];exact⟨rfl,rfl⟩⟩
  have hlt1:=cond_lt F h1
  rw [h1] at hq hR
  obtain⟨q1l,rfl,rfl⟩:=hq
  refine⟨rfl,_,⟨2,(0,psO ws q1)::[(1,csO acc)]⟩,rfl,rfl,?_⟩
  simp only [then_inr] at hR
  rw [← musts1] at hR
  refine(expect_h ws q1 [tCol] hl q1l (by simp) (by simp)).holds.useT [3] [] rfl (sk) ⟨_,_,rfl,⟨rfl,rfl⟩,_,_,rfl,⟨_,rfl,by decide,rfl⟩,rfl⟩ fun e0 H0 hq=>?_
  rcases h2:mustsR ws [tCol] q1 with p | ⟨u2,q2⟩
  ·rw [h2] at hq hR
   obtain⟨rfl,rfl⟩:=hq
   refine⟨rfl,_,_,rfl,rfl,?_⟩
   exact⟨[],[],[],failX ws p,⟨1,[]⟩,rfl,⟨_,rfl,_,_,rfl,rfl,rfl⟩,trivial,by rw [← hR];exact⟨rfl,rfl⟩⟩
  rw [h2] at hq hR
  obtain⟨q2l,rfl,rfl⟩:=hq
  refine⟨rfl,_,⟨4,(0,psO ws q2)::[(3,sO [tCol]),(2,cO ((Cd.mk o n rl vl rf st ar).cells.map .p)),(1,csO acc)]⟩,rfl,rfl,?_⟩
  simp only [then_inr] at hR
  have hlt2:=must_lt (ws:=ws) (s:=tCol) (q:=q1) (q':=q2) (u:=u2) (by rw [← musts1];exact h2)
  have hN:=numbers_h ws F q2 (by omega) hg q2l
  rcases h3:numsR ws F q2 with p | ⟨l,q3⟩
  ·rw [h3] at hN hR
   refine VDraw.seq rfl ?_
   refine hN.holds.useT [] [] rfl (sk) (sk) fun e0 H0 hq=>?_
   obtain⟨rfl,rfl⟩:=hq
   refine⟨rfl,_,_,rfl,rfl,?_⟩
   exact⟨[],[],[],failX ws p,⟨1,[]⟩,rfl,⟨_,rfl,_,_,rfl,rfl,rfl⟩,trivial,by rw [← hR];exact⟨rfl,rfl⟩⟩
  have hlt3:=nums_lt h3
  rw [h3] at hN hR
  simp only [then_inr] at hR
  obtain⟨x,hx⟩:∃ x:Cs,x=⟨.mk o n rl vl rf st ar,l⟩:=⟨_,rfl⟩
  have hq3l:=nums_end h3
  refine VDraw.seqTo [(0, .ptr 0 0 0),(3, .sl 1 11 0 (acc.length+1))] ⟨2,[(1,csO (acc++[x])),(0,psO ws q3)]⟩ rfl ?_ ?_
  ·refine hN.holds.useT [] [] rfl (sk) (sk) fun e0 H0 hq=>?_
   obtain⟨q3l,rfl,rfl⟩:=hq
   refine⟨rfl,_,⟨4,(0,psO ws q3)::[(3,sO [tCol]),(2,cO ((Cd.mk o n rl vl rf st ar).cells.map .p)),(1,csO acc)]⟩,rfl,rfl,?_⟩
   refine⟨sk,?_⟩
   refine⟨by show 0+1≤1;omega,[x.cells],by rw [hx];rfl,?_⟩
   refine⟨by show 0+acc.length≤(acc.map Cs.cells).length;simp,acc.map Cs.cells,takeAll (by simp),by show(acc.length+1) * 152≤140737488355328;omega,(acc++[x]).map Cs.cells,by simp,?_⟩
   exact ent_of [] [(1,5)] [] rfl (sk) (sk) rfl
  rw [← musts1] at hR
  refine(expect_h ws q3 [tSemi] hl hq3l (by simp) (by simp)).holds.useT [2] [] rfl (sk) ⟨_,_,rfl,⟨rfl,rfl⟩,_,_,rfl,⟨_,rfl,by decide,rfl⟩,rfl⟩ fun e0 H0 hq=>?_
  rcases h4:mustsR ws [tSemi] q3 with p | ⟨u4,q4⟩
  ·rw [h4] at hq hR
   obtain⟨rfl,rfl⟩:=hq
   refine⟨rfl,_,_,rfl,rfl,?_⟩
   exact⟨[],[],[],failX ws p,⟨1,[]⟩,rfl,⟨_,rfl,_,_,rfl,rfl,rfl⟩,trivial,by rw [← hR];exact⟨rfl,rfl⟩⟩
  rw [h4] at hq hR
  obtain⟨q4l,rfl,rfl⟩:=hq
  refine⟨rfl,_,⟨3,(0,psO ws q4)::[(2,sO [tSemi]),(1,csO (acc++[x]))]⟩,rfl,rfl,?_⟩
  simp only [then_inr] at hR
  have hlt4:=must_lt (ws:=ws) (s:=tSemi) (q:=q3) (q':=q4) (u:=u4) (by rw [← musts1];exact h4)
  exact⟨(acc++[x],q4),⟨q4l,by simp only [snoc_len];omega,⟨f,by simp only [];omega,by rw [← hR,hx]⟩⟩,ent_of [] [] [] rfl ⟨⟨rfl,rfl⟩,congrArg (fun k:Nat=>AV.sl 1 11 0 k) (snoc_len acc x).symm,trivial⟩ (sk) rfl,by show ws.length - q4<ws.length - q;omega⟩
def dO (k n:Int) (nm pl:List UInt8) (fr cs:PV):AObj:=⟨TDecl,false, .bx [.p (i64 k), .p (i64 n), .p (.str nm), .p (.str pl), .p fr, .p cs]⟩
abbrev zd:AObj:=dO 0 0 [] [] .nils .nils
theorem nil_de {k n:Int} {nm pl:List UInt8} {fr cs:PV} {l:List Rf} {c:List Cs} (hf:NilD fr (rfl_ l)) (hc:NilD cs (css c)):NilD (.agg [i64 k,i64 n, .str nm, .str pl,fr,cs]) (De.pv ⟨k,n,nm,pl,l,c⟩):=by
 show NilD _ (.agg [i64 k,i64 n, .str nm, .str pl,rfl_ l,css c])
 simp only [NilD,NilDL]
 exact⟨_,rfl,_,_,rfl,rfl,_,_,rfl,rfl,_,_,rfl,rfl,_,_,rfl,rfl,_,_,rfl,hf,_,_,rfl,hc,rfl⟩
theorem nil_4:NilD .nils (rfl_ []):=by simp only [NilD];exact .inr (.inr ⟨4,rfl⟩)
theorem nil_11:NilD .nils (css []):=by simp only [NilD];exact .inr (.inr ⟨11,rfl⟩)
def DeclH (ws:List Wd) (g:FuncId) (rd:Nat→Rd De):Prop:=∀ q,q≤ws.length→HoldsG cx g [.ptr 0 0 0] (psH ws q) (rdQ ws (rd q) fun d=>.p d.pv)
theorem grain_h (ws:List Wd) (F:Nat) (_hF:4 * ws.length+8≤F) (hg:GoodW ws):DeclH ws 69 (grainR ws):=by
 intro q0 q0l
 refine rdG_weak ?_
 generalize hR:grainR ws q0=R
 rw [grainR] at hR
 refine holdsN_of_vc Tryz.func69 rfl rfl rfl ?_
 have hl:=hg.len
 refine(number_h ws q0 hg q0l).holds.useT [] [] rfl (sk) (sk) fun e0 H0 hq=>?_
 rcases h1:numR ws q0 with p | ⟨n,q1⟩
 ·rw [h1] at hq hR
  obtain⟨rfl,rfl⟩:=hq
  refine⟨rfl,_,_,rfl,rfl,?_⟩
  exact⟨[],[],[],failX ws p,⟨1,[]⟩,rfl,⟨_,rfl,_,_,rfl,rfl,rfl⟩,trivial,by rw [← hR];exact⟨rfl,rfl⟩⟩
 rw [h1] at hq hR
 obtain⟨q1l,rfl,rfl⟩:=hq
 refine⟨rfl,_,⟨2,(0,psO ws q1)::[(1,zd)]⟩,rfl,rfl,?_⟩
 simp only [then_inr] at hR
 exact⟨[],[],[], .returned (.p (.agg [i64 1,i64 n, .str [], .str [], .nils, .nils])),psH ws q1,rfl,sk,sk,by rw [← hR];exact⟨q1l,⟨_,rfl,nil_de nil_4 nil_11⟩,rfl⟩⟩
theorem plate_h (ws:List Wd) (F:Nat) (_hF:4 * ws.length+8≤F) (hg:GoodW ws):DeclH ws 70 (plateR ws):=by
 intro q0 q0l
 refine rdG_weak ?_
 generalize hR:plateR ws q0=R
 rw [plateR] at hR
 refine holdsN_of_vc Tryz.func70 rfl rfl rfl ?_
 have hl:=hg.len
 refine(name_h ws q0 hl q0l).holds.useT [] [] rfl (sk) (sk) fun e0 H0 hq=>?_
 rcases h1:nameR ws q0 with p | ⟨nm,q1⟩
 ·rw [h1] at hq hR
  obtain⟨rfl,rfl⟩:=hq
  refine⟨rfl,_,_,rfl,rfl,?_⟩
  exact⟨[],[],[],failX ws p,⟨1,[]⟩,rfl,⟨_,rfl,_,_,rfl,rfl,rfl⟩,trivial,by rw [← hR];exact⟨rfl,rfl⟩⟩
 rw [h1] at hq hR
 obtain⟨q1l,rfl,rfl⟩:=hq
 refine⟨rfl,_,⟨2,(0,psO ws q1)::[(1,zd)]⟩,rfl,rfl,?_⟩
 simp only [then_inr] at hR
 rw [← musts1] at hR
 refine(expect_h ws q1 [tEq] hl q1l (by simp) (by simp)).holds.useT [3] [] rfl (sk) ⟨_,_,rfl,⟨rfl,rfl⟩,_,_,rfl,⟨_,rfl,by decide,rfl⟩,rfl⟩ fun e0 H0 hq=>?_
 rcases h2:mustsR ws [tEq] q1 with p | ⟨u2,q2⟩
 ·rw [h2] at hq hR
  obtain⟨rfl,rfl⟩:=hq
  refine⟨rfl,_,_,rfl,rfl,?_⟩
  exact⟨[],[],[],failX ws p,⟨1,[]⟩,rfl,⟨_,rfl,_,_,rfl,rfl,rfl⟩,trivial,by rw [← hR];exact⟨rfl,rfl⟩⟩
 rw [h2] at hq hR
 obtain⟨q2l,rfl,rfl⟩:=hq
 refine⟨rfl,_,⟨4,(0,psO ws q2)::[(3,sO [tEq]),(2,dO 2 0 nm [] .nils .nils),(1,zd)]⟩,rfl,rfl,?_⟩
 simp only [then_inr] at hR
 refine(number_h ws q2 hg q2l).holds.useT [] [] rfl (sk) (sk) fun e0 H0 hq=>?_
 rcases h3:numR ws q2 with p | ⟨n,q3⟩
 ·rw [h3] at hq hR
  obtain⟨rfl,rfl⟩:=hq
  refine⟨rfl,_,_,rfl,rfl,?_⟩
  exact⟨[],[],[],failX ws p,⟨1,[]⟩,rfl,⟨_,rfl,_,_,rfl,rfl,rfl⟩,trivial,by rw [← hR];exact⟨rfl,rfl⟩⟩
 rw [h3] at hq hR
 obtain⟨q3l,rfl,rfl⟩:=hq
 refine⟨rfl,_,⟨4,(0,psO ws q3)::[(3,sO [tEq]),(2,dO 2 0 nm [] .nils .nils),(1,zd)]⟩,rfl,rfl,?_⟩
 simp only [then_inr] at hR
 exact⟨[],[],[], .returned (.p (.agg [i64 2,i64 n, .str nm, .str [], .nils, .nils])),psH ws q3,rfl,sk,sk,by rw [← hR];exact⟨q3l,⟨_,rfl,nil_de nil_4 nil_11⟩,rfl⟩⟩
theorem choose_h (ws:List Wd) (F:Nat) (hF:4 * ws.length+8≤F) (hg:GoodW ws):DeclH ws 72 (chooseR ws F):=by
 intro q0 q0l
 refine rdG_weak ?_
 generalize hR:chooseR ws F q0=R
 rw [chooseR] at hR
 refine holdsN_of_vc Tryz.func72 rfl rfl rfl ?_
 have hl:=hg.len
 refine(name_h ws q0 hl q0l).holds.useT [] [] rfl (sk) (sk) fun e0 H0 hq=>?_
 rcases h1:nameR ws q0 with p | ⟨nm,q1⟩
 ·rw [h1] at hq hR
  obtain⟨rfl,rfl⟩:=hq
  refine⟨rfl,_,_,rfl,rfl,?_⟩
  exact⟨[],[],[],failX ws p,⟨1,[]⟩,rfl,⟨_,rfl,_,_,rfl,rfl,rfl⟩,trivial,by rw [← hR];exact⟨rfl,rfl⟩⟩
 rw [h1] at hq hR
 obtain⟨q1l,rfl,rfl⟩:=hq
 refine⟨rfl,_,⟨2,(0,psO ws q1)::[(1,zd)]⟩,rfl,rfl,?_⟩
 simp only [then_inr] at hR
 rw [← musts1] at hR
 refine(expect_h ws q1 [tCol] hl q1l (by simp) (by simp)).holds.useT [3] [] rfl (sk) ⟨_,_,rfl,⟨rfl,rfl⟩,_,_,rfl,⟨_,rfl,by decide,rfl⟩,rfl⟩ fun e0 H0 hq=>?_
 rcases h2:mustsR ws [tCol] q1 with p | ⟨u2,q2⟩
 ·rw [h2] at hq hR
  obtain⟨rfl,rfl⟩:=hq
  refine⟨rfl,_,_,rfl,rfl,?_⟩
  exact⟨[],[],[],failX ws p,⟨1,[]⟩,rfl,⟨_,rfl,_,_,rfl,rfl,rfl⟩,trivial,by rw [← hR];exact⟨rfl,rfl⟩⟩
 rw [h2] at hq hR
 obtain⟨q2l,rfl,rfl⟩:=hq
 refine⟨rfl,_,⟨4,(0,psO ws q2)::[(3,sO [tCol]),(2,dO 4 0 nm [] .nils .nils),(1,zd)]⟩,rfl,rfl,?_⟩
 simp only [then_inr] at hR
 refine(number_h ws q2 hg q2l).holds.useT [] [] rfl (sk) (sk) fun e0 H0 hq=>?_
 rcases h3:numR ws q2 with p | ⟨n,q3⟩
 ·rw [h3] at hq hR
  obtain⟨rfl,rfl⟩:=hq
  refine⟨rfl,_,_,rfl,rfl,?_⟩
  exact⟨[],[],[],failX ws p,⟨1,[]⟩,rfl,⟨_,rfl,_,_,rfl,rfl,rfl⟩,trivial,by rw [← hR];exact⟨rfl,rfl⟩⟩
 rw [h3] at hq hR
 obtain⟨q3l,rfl,rfl⟩:=hq
 refine⟨rfl,_,⟨4,(0,psO ws q3)::[(3,sO [tCol]),(2,dO 4 0 nm [] .nils .nils),(1,zd)]⟩,rfl,rfl,?_⟩
 simp only [then_inr] at hR
 refine(refs_h ws F q3 tSeeing (by decide) (by omega) hg q3l).holds.useT [] [] rfl (sk) (sk) fun e0 H0 hq=>?_
 rcases h4:refsR ws F tSeeing q3 with p | ⟨l,q4⟩
 ·rw [h4] at hq hR
  obtain⟨rfl,rfl⟩:=hq
  refine⟨rfl,_,_,rfl,rfl,?_⟩
  exact⟨[],[],[],failX ws p,⟨1,[]⟩,rfl,⟨_,rfl,_,_,rfl,rfl,rfl⟩,trivial,by rw [← hR];exact⟨rfl,rfl⟩⟩
 rw [h4] at hq hR
 obtain⟨q4l,rfl,rfl⟩:=hq
 refine⟨rfl,_,⟨4,(0,psO ws q4)::[(3,sO [tCol]),(2,dO 4 n nm [] .nils .nils),(1,zd)]⟩,rfl,rfl,?_⟩
 simp only [then_inr] at hR
 exact⟨[],[],[], .returned (.p (.agg [i64 4,i64 n, .str nm, .str [],rfl_ l, .nils])),psH ws q4,rfl,sk,sk,by rw [← hR];exact⟨q4l,⟨_,rfl,nil_de (NilD.refl _) nil_11⟩,rfl⟩⟩
theorem gain_h (ws:List Wd) (F:Nat) (hF:4 * ws.length+8≤F) (hg:GoodW ws):DeclH ws 73 (gainR ws F):=by
 intro q0 q0l
 refine rdG_weak ?_
 generalize hR:gainR ws F q0=R
 rw [gainR] at hR
 refine holdsN_of_vc Tryz.func73 rfl rfl rfl ?_
 have hl:=hg.len
 refine(refs_h ws F q0 tFrom (by decide) (by omega) hg q0l).holds.useT [] [] rfl (sk) (sk) fun e0 H0 hq=>?_
 rcases h1:refsR ws F tFrom q0 with p | ⟨l,q1⟩
 ·rw [h1] at hq hR
  obtain⟨rfl,rfl⟩:=hq
  refine⟨rfl,_,_,rfl,rfl,?_⟩
  exact⟨[],[],[],failX ws p,⟨1,[]⟩,rfl,⟨_,rfl,_,_,rfl,rfl,rfl⟩,trivial,by rw [← hR];exact⟨rfl,rfl⟩⟩
 rw [h1] at hq hR
 obtain⟨q1l,rfl,rfl⟩:=hq
 refine⟨rfl,_,⟨2,(0,psO ws q1)::[(1,zd)]⟩,rfl,rfl,?_⟩
 simp only [then_inr] at hR
 rw [← musts1] at hR
 refine(expect_h ws q1 [tEq] hl q1l (by simp) (by simp)).holds.useT [3] [] rfl (sk) ⟨_,_,rfl,⟨rfl,rfl⟩,_,_,rfl,⟨_,rfl,by decide,rfl⟩,rfl⟩ fun e0 H0 hq=>?_
 rcases h2:mustsR ws [tEq] q1 with p | ⟨u2,q2⟩
 ·rw [h2] at hq hR
  obtain⟨rfl,rfl⟩:=hq
  refine⟨rfl,_,_,rfl,rfl,?_⟩
  exact⟨[],[],[],failX ws p,⟨1,[]⟩,rfl,⟨_,rfl,_,_,rfl,rfl,rfl⟩,trivial,by rw [← hR];exact⟨rfl,rfl⟩⟩
 rw [h2] at hq hR
 obtain⟨q2l,rfl,rfl⟩:=hq
 refine⟨rfl,_,⟨4,(0,psO ws q2)::[(3,sO [tEq]),(2,dO 5 0 [] [] (rfl_ l) .nils),(1,zd)]⟩,rfl,rfl,?_⟩
 simp only [then_inr] at hR
 refine(rule_h ws F q2 hF hg q2l).holds.useT [] [] rfl (sk) (sk) fun e0 H0 hq=>?_
 rcases h3:ruleR ws F q2 with p | ⟨cs,q3⟩
 ·rw [h3] at hq hR
  obtain⟨rfl,rfl⟩:=hq
  refine⟨rfl,_,_,rfl,rfl,?_⟩
  exact⟨[],[],[],failX ws p,⟨1,[]⟩,rfl,⟨_,rfl,_,_,rfl,rfl,rfl⟩,trivial,by rw [← hR];exact⟨rfl,rfl⟩⟩
 rw [h3] at hq hR
 obtain⟨q3l,rfl,rfl⟩:=hq
 refine⟨rfl,_,⟨4,(0,psO ws q3)::[(3,sO [tEq]),(2,dO 5 0 [] [] (rfl_ l) .nils),(1,zd)]⟩,rfl,rfl,?_⟩
 simp only [then_inr] at hR
 exact⟨[],[],[], .returned (.p (.agg [i64 5,i64 0, .str [], .str [],rfl_ l,css cs])),psH ws q3,rfl,sk,sk,by rw [← hR];exact⟨q3l,⟨_,rfl,nil_de (NilD.refl _) (NilD.refl _)⟩,rfl⟩⟩
theorem node_h (ws:List Wd) (F:Nat) (hF:4 * ws.length+8≤F) (hg:GoodW ws):DeclH ws 71 (nodeR ws F):=by
 intro q0 q0l
 refine rdG_weak ?_
 generalize hR:nodeR ws F q0=R
 rw [nodeR] at hR
 refine holdsN_of_vc Tryz.func71 rfl rfl rfl ?_
 have hl:=hg.len
 refine(name_h ws q0 hl q0l).holds.useT [] [] rfl (sk) (sk) fun e0 H0 hq=>?_
 rcases h1:nameR ws q0 with p | ⟨nm,q1⟩
 ·rw [h1] at hq hR
  obtain⟨rfl,rfl⟩:=hq
  refine⟨rfl,_,_,rfl,rfl,?_⟩
  exact⟨[],[],[],failX ws p,⟨1,[]⟩,rfl,⟨_,rfl,_,_,rfl,rfl,rfl⟩,trivial,by rw [← hR];exact⟨rfl,rfl⟩⟩
 rw [h1] at hq hR
 obtain⟨q1l,rfl,rfl⟩:=hq
 refine⟨rfl,_,⟨2,(0,psO ws q1)::[(1,zd)]⟩,rfl,rfl,?_⟩
 simp only [then_inr] at hR
 by_cases c1:txt ws q1=tLB
 rotate_left
 ·rw [if_neg c1] at hR
  refine(skip_h ws q1 tLB hl q1l).holds.useT [] [] rfl (sk) (sk) fun e0 H0 hq=>?_
  obtain⟨rfl,rfl⟩:=hq.2 c1
  refine⟨rfl,_,⟨3,(0,psO ws q1)::[(2,dO 3 0 nm [] .nils .nils),(1,zd)]⟩,rfl,rfl,?_⟩
  rw [nodeTail] at hR
  rw [← musts1] at hR
  refine(expect_h ws q1 [tCol] hl q1l (by simp) (by simp)).holds.useT [3] [] rfl (sk) ⟨_,_,rfl,⟨rfl,rfl⟩,_,_,rfl,⟨_,rfl,by decide,rfl⟩,rfl⟩ fun e0 H0 hq=>?_
  rcases h5:mustsR ws [tCol] q1 with p | ⟨u5,q5⟩
  ·rw [h5] at hq hR
   obtain⟨rfl,rfl⟩:=hq
   refine⟨rfl,_,_,rfl,rfl,?_⟩
   exact⟨[],[],[],failX ws p,⟨1,[]⟩,rfl,⟨_,rfl,_,_,rfl,rfl,rfl⟩,trivial,by rw [← hR];exact⟨rfl,rfl⟩⟩
  rw [h5] at hq hR
  obtain⟨q5l,rfl,rfl⟩:=hq
  refine⟨rfl,_,⟨4,(0,psO ws q5)::[(3,sO [tCol]),(2,dO 3 0 nm [] .nils .nils),(1,zd)]⟩,rfl,rfl,?_⟩
  simp only [then_inr] at hR
  refine(number_h ws q5 hg q5l).holds.useT [] [] rfl (sk) (sk) fun e0 H0 hq=>?_
  rcases h6:numR ws q5 with p | ⟨n,q6⟩
  ·rw [h6] at hq hR
   obtain⟨rfl,rfl⟩:=hq
   refine⟨rfl,_,_,rfl,rfl,?_⟩
   exact⟨[],[],[],failX ws p,⟨1,[]⟩,rfl,⟨_,rfl,_,_,rfl,rfl,rfl⟩,trivial,by rw [← hR];exact⟨rfl,rfl⟩⟩
  rw [h6] at hq hR
  obtain⟨q6l,rfl,rfl⟩:=hq
  refine⟨rfl,_,⟨4,(0,psO ws q6)::[(3,sO [tCol]),(2,dO 3 0 nm [] .nils .nils),(1,zd)]⟩,rfl,rfl,?_⟩
  simp only [then_inr] at hR
  refine(refs_h ws F q6 tFrom (by decide) (by omega) hg q6l).holds.useT [] [] rfl (sk) (sk) fun e0 H0 hq=>?_
  rcases h7:refsR ws F tFrom q6 with p | ⟨l,q7⟩
  ·rw [h7] at hq hR
   obtain⟨rfl,rfl⟩:=hq
   refine⟨rfl,_,_,rfl,rfl,?_⟩
   exact⟨[],[],[],failX ws p,⟨1,[]⟩,rfl,⟨_,rfl,_,_,rfl,rfl,rfl⟩,trivial,by rw [← hR];exact⟨rfl,rfl⟩⟩
  rw [h7] at hq hR
  obtain⟨q7l,rfl,rfl⟩:=hq
  refine⟨rfl,_,⟨4,(0,psO ws q7)::[(3,sO [tCol]),(2,dO 3 n nm [] .nils .nils),(1,zd)]⟩,rfl,rfl,?_⟩
  simp only [then_inr] at hR
  rw [← musts1] at hR
  refine(expect_h ws q7 [tEq] hl q7l (by simp) (by simp)).holds.useT [4] [] rfl (sk) ⟨_,_,rfl,⟨rfl,rfl⟩,_,_,rfl,⟨_,rfl,by decide,rfl⟩,rfl⟩ fun e0 H0 hq=>?_
  rcases h8:mustsR ws [tEq] q7 with p | ⟨u8,q8⟩
  ·rw [h8] at hq hR
   obtain⟨rfl,rfl⟩:=hq
   refine⟨rfl,_,_,rfl,rfl,?_⟩
   exact⟨[],[],[],failX ws p,⟨1,[]⟩,rfl,⟨_,rfl,_,_,rfl,rfl,rfl⟩,trivial,by rw [← hR];exact⟨rfl,rfl⟩⟩
  rw [h8] at hq hR
  obtain⟨q8l,rfl,rfl⟩:=hq
  refine⟨rfl,_,⟨5,(0,psO ws q8)::[(4,sO [tEq]),(3,sO [tCol]),(2,dO 3 n nm [] (rfl_ l) .nils),(1,zd)]⟩,rfl,rfl,?_⟩
  simp only [then_inr] at hR
  refine(rule_h ws F q8 hF hg q8l).holds.useT [] [] rfl (sk) (sk) fun e0 H0 hq=>?_
  rcases h9:ruleR ws F q8 with p | ⟨cs,q9⟩
  ·rw [h9] at hq hR
   obtain⟨rfl,rfl⟩:=hq
   refine⟨rfl,_,_,rfl,rfl,?_⟩
   exact⟨[],[],[],failX ws p,⟨1,[]⟩,rfl,⟨_,rfl,_,_,rfl,rfl,rfl⟩,trivial,by rw [← hR];exact⟨rfl,rfl⟩⟩
  rw [h9] at hq hR
  obtain⟨q9l,rfl,rfl⟩:=hq
  refine⟨rfl,_,⟨5,(0,psO ws q9)::[(4,sO [tEq]),(3,sO [tCol]),(2,dO 3 n nm [] (rfl_ l) .nils),(1,zd)]⟩,rfl,rfl,?_⟩
  simp only [then_inr] at hR
  exact⟨[],[],[], .returned (.p (.agg [i64 3,i64 n, .str nm, .str [],rfl_ l,css cs])),psH ws q9,rfl,sk,sk,by rw [← hR];exact⟨q9l,⟨_,rfl,nil_de (NilD.refl _) (NilD.refl _)⟩,rfl⟩⟩
 rw [if_pos c1] at hR
 have q2l:q1+1≤ws.length:=txt_lt (by rw [c1];decide)
 refine(skip_h ws q1 tLB hl q1l).holds.useT [] [] rfl (sk) (sk) fun e0 H0 hq=>?_
 obtain⟨rfl,rfl⟩:=hq.1 c1
 refine⟨rfl,_,⟨3,(0,psO ws (q1+1))::[(2,dO 3 0 nm [] .nils .nils),(1,zd)]⟩,rfl,rfl,?_⟩
 refine(name_h ws (q1+1) hl q2l).holds.useT [] [] rfl (sk) (sk) fun e0 H0 hq=>?_
 rcases h3:nameR ws (q1+1) with p | ⟨pl,q3⟩
 ·rw [h3] at hq hR
  obtain⟨rfl,rfl⟩:=hq
  refine⟨rfl,_,_,rfl,rfl,?_⟩
  exact⟨[],[],[],failX ws p,⟨1,[]⟩,rfl,⟨_,rfl,_,_,rfl,rfl,rfl⟩,trivial,by rw [← hR];exact⟨rfl,rfl⟩⟩
 rw [h3] at hq hR
 obtain⟨q3l,rfl,rfl⟩:=hq
 refine⟨rfl,_,⟨3,(0,psO ws q3)::[(2,dO 3 0 nm [] .nils .nils),(1,zd)]⟩,rfl,rfl,?_⟩
 simp only [then_inr] at hR
 rw [← musts1] at hR
 refine(expect_h ws q3 [tRB] hl q3l (by simp) (by simp)).holds.useT [3] [] rfl (sk) ⟨_,_,rfl,⟨rfl,rfl⟩,_,_,rfl,⟨_,rfl,by decide,rfl⟩,rfl⟩ fun e0 H0 hq=>?_
 rcases h4:mustsR ws [tRB] q3 with p | ⟨u4,q4⟩
 ·rw [h4] at hq hR
  obtain⟨rfl,rfl⟩:=hq
  refine⟨rfl,_,_,rfl,rfl,?_⟩
  exact⟨[],[],[],failX ws p,⟨1,[]⟩,rfl,⟨_,rfl,_,_,rfl,rfl,rfl⟩,trivial,by rw [← hR];exact⟨rfl,rfl⟩⟩
 rw [h4] at hq hR
 obtain⟨q4l,rfl,rfl⟩:=hq
 refine⟨rfl,_,⟨4,(0,psO ws q4)::[(3,sO [tRB]),(2,dO 3 0 nm pl .nils .nils),(1,zd)]⟩,rfl,rfl,?_⟩
 simp only [then_inr] at hR
 rw [nodeTail] at hR
 rw [← musts1] at hR
 refine(expect_h ws q4 [tCol] hl q4l (by simp) (by simp)).holds.useT [4] [] rfl (sk) ⟨_,_,rfl,⟨rfl,rfl⟩,_,_,rfl,⟨_,rfl,by decide,rfl⟩,rfl⟩ fun e0 H0 hq=>?_
 rcases h5:mustsR ws [tCol] q4 with p | ⟨u5,q5⟩
 ·rw [h5] at hq hR
  obtain⟨rfl,rfl⟩:=hq
  refine⟨rfl,_,_,rfl,rfl,?_⟩
  exact⟨[],[],[],failX ws p,⟨1,[]⟩,rfl,⟨_,rfl,_,_,rfl,rfl,rfl⟩,trivial,by rw [← hR];exact⟨rfl,rfl⟩⟩
 rw [h5] at hq hR
 obtain⟨q5l,rfl,rfl⟩:=hq
 refine⟨rfl,_,⟨5,(0,psO ws q5)::[(4,sO [tCol]),(3,sO [tRB]),(2,dO 3 0 nm pl .nils .nils),(1,zd)]⟩,rfl,rfl,?_⟩
 simp only [then_inr] at hR
 refine(number_h ws q5 hg q5l).holds.useT [] [] rfl (sk) (sk) fun e0 H0 hq=>?_
 rcases h6:numR ws q5 with p | ⟨n,q6⟩
 ·rw [h6] at hq hR
  obtain⟨rfl,rfl⟩:=hq
  refine⟨rfl,_,_,rfl,rfl,?_⟩
  exact⟨[],[],[],failX ws p,⟨1,[]⟩,rfl,⟨_,rfl,_,_,rfl,rfl,rfl⟩,trivial,by rw [← hR];exact⟨rfl,rfl⟩⟩
 rw [h6] at hq hR
 obtain⟨q6l,rfl,rfl⟩:=hq
 refine⟨rfl,_,⟨5,(0,psO ws q6)::[(4,sO [tCol]),(3,sO [tRB]),(2,dO 3 0 nm pl .nils .nils),(1,zd)]⟩,rfl,rfl,?_⟩
 simp only [then_inr] at hR
 refine(refs_h ws F q6 tFrom (by decide) (by omega) hg q6l).holds.useT [] [] rfl (sk) (sk) fun e0 H0 hq=>?_
 rcases h7:refsR ws F tFrom q6 with p | ⟨l,q7⟩
 ·rw [h7] at hq hR
  obtain⟨rfl,rfl⟩:=hq
  refine⟨rfl,_,_,rfl,rfl,?_⟩
  exact⟨[],[],[],failX ws p,⟨1,[]⟩,rfl,⟨_,rfl,_,_,rfl,rfl,rfl⟩,trivial,by rw [← hR];exact⟨rfl,rfl⟩⟩
 rw [h7] at hq hR
 obtain⟨q7l,rfl,rfl⟩:=hq
 refine⟨rfl,_,⟨5,(0,psO ws q7)::[(4,sO [tCol]),(3,sO [tRB]),(2,dO 3 n nm pl .nils .nils),(1,zd)]⟩,rfl,rfl,?_⟩
 simp only [then_inr] at hR
 rw [← musts1] at hR
 refine(expect_h ws q7 [tEq] hl q7l (by simp) (by simp)).holds.useT [5] [] rfl (sk) ⟨_,_,rfl,⟨rfl,rfl⟩,_,_,rfl,⟨_,rfl,by decide,rfl⟩,rfl⟩ fun e0 H0 hq=>?_
 rcases h8:mustsR ws [tEq] q7 with p | ⟨u8,q8⟩
 ·rw [h8] at hq hR
  obtain⟨rfl,rfl⟩:=hq
  refine⟨rfl,_,_,rfl,rfl,?_⟩
  exact⟨[],[],[],failX ws p,⟨1,[]⟩,rfl,⟨_,rfl,_,_,rfl,rfl,rfl⟩,trivial,by rw [← hR];exact⟨rfl,rfl⟩⟩
 rw [h8] at hq hR
 obtain⟨q8l,rfl,rfl⟩:=hq
 refine⟨rfl,_,⟨6,(0,psO ws q8)::[(5,sO [tEq]),(4,sO [tCol]),(3,sO [tRB]),(2,dO 3 n nm pl (rfl_ l) .nils),(1,zd)]⟩,rfl,rfl,?_⟩
 simp only [then_inr] at hR
 refine(rule_h ws F q8 hF hg q8l).holds.useT [] [] rfl (sk) (sk) fun e0 H0 hq=>?_
 rcases h9:ruleR ws F q8 with p | ⟨cs,q9⟩
 ·rw [h9] at hq hR
  obtain⟨rfl,rfl⟩:=hq
  refine⟨rfl,_,_,rfl,rfl,?_⟩
  exact⟨[],[],[],failX ws p,⟨1,[]⟩,rfl,⟨_,rfl,_,_,rfl,rfl,rfl⟩,trivial,by rw [← hR];exact⟨rfl,rfl⟩⟩
 rw [h9] at hq hR
 obtain⟨q9l,rfl,rfl⟩:=hq
 refine⟨rfl,_,⟨6,(0,psO ws q9)::[(5,sO [tEq]),(4,sO [tCol]),(3,sO [tRB]),(2,dO 3 n nm pl (rfl_ l) .nils),(1,zd)]⟩,rfl,rfl,?_⟩
 simp only [then_inr] at hR
 exact⟨[],[],[], .returned (.p (.agg [i64 3,i64 n, .str nm, .str pl,rfl_ l,css cs])),psH ws q9,rfl,sk,sk,by rw [← hR];exact⟨q9l,⟨_,rfl,nil_de (NilD.refl _) (NilD.refl _)⟩,rfl⟩⟩
theorem refs_le {ws:List Wd} {F:Nat} {key:List UInt8} {q q':Nat} {l:List Rf} (h:refsR ws F key q=.inr (l,q')):q≤q':=by
 rw [refsR] at h
 split at h
 ·have:=list_lt (fun q a q' h=>ref_lt h) h;omega
 ·injection h with h;injection h with h1 h2;omega
theorem cases_lt {ws:List Wd} {F:Nat}:∀ (f:Nat) {acc l:List Cs} {q q':Nat},casesR ws F f acc q=.inr (l,q')→q<q'
 | 0,_,_,_,_,h=>by cases h
 | f+1,acc,l,q,q',h=>by
  rw [casesR] at h
  split at h
  ·rw [ruleEnd] at h
   obtain⟨u,q1,h1,h⟩:=then_ok h
   have:=must_lt h1
   obtain⟨l1,q2,h2,h⟩:=then_ok h
   have:=nums_lt h2
   obtain⟨u3,q3,h3,h⟩:=then_ok h
   have:=must_lt h3
   injection h with h;injection h with h1 h2;omega
  ·obtain⟨c,q1,h1,h⟩:=then_ok h
   have:=cond_lt F h1
   obtain⟨u2,q2,h2,h⟩:=then_ok h
   have:=must_lt h2
   obtain⟨l3,q3,h3,h⟩:=then_ok h
   have:=nums_lt h3
   obtain⟨u4,q4,h4,h⟩:=then_ok h
   have:=must_lt h4
   have:=cases_lt f h
   omega
theorem rule_lt {ws:List Wd} {F q q':Nat} {l:List Cs} (h:ruleR ws F q=.inr (l,q')):q<q':=by
 rw [ruleR] at h
 obtain⟨u,q1,h1,h⟩:=then_ok h
 have:=must_lt h1
 have:=cases_lt F h
 omega
theorem ntail_lt {ws:List Wd} {F q q':Nat} {nm pl:List UInt8} {d:De} (h:nodeTail ws F nm pl q=.inr (d,q')):q<q':=by
 rw [nodeTail] at h
 obtain⟨u1,q1,h1,h⟩:=then_ok h
 have:=must_lt h1
 obtain⟨n,q2,h2,h⟩:=then_ok h
 have:=num_lt h2
 obtain⟨l,q3,h3,h⟩:=then_ok h
 have:=refs_le h3
 obtain⟨u4,q4,h4,h⟩:=then_ok h
 have:=must_lt h4
 obtain⟨cs,q5,h5,h⟩:=then_ok h
 have:=rule_lt h5
 injection h with h;injection h with h1 h2;omega
theorem decl_lt {ws:List Wd} {F q q':Nat} {d:De} (h:declR ws F q=.inr (d,q')):q<q':=by
 rw [declR] at h
 split at h
 ·rw [grainR] at h
  obtain⟨n,q1,h1,h⟩:=then_ok h
  have:=num_lt h1
  injection h with h;injection h with h1 h2;omega
 split at h
 ·rw [plateR] at h
  obtain⟨nm,q1,h1,h⟩:=then_ok h
  have:=name_lt h1
  obtain⟨u,q2,h2,h⟩:=then_ok h
  have:=must_lt h2
  obtain⟨n,q3,h3,h⟩:=then_ok h
  have:=num_lt h3
  injection h with h;injection h with h1 h2;omega
 split at h
 ·rw [nodeR] at h
  obtain⟨nm,q1,h1,h⟩:=then_ok h
  have:=name_lt h1
  try simp only [] at h
  split at h
  ·obtain⟨pl,q2,h2,h⟩:=then_ok h
   have:=name_lt h2
   obtain⟨u,q3,h3,h⟩:=then_ok h
   have:=must_lt h3
   have:=ntail_lt h
   omega
  ·have:=ntail_lt h
   omega
 split at h
 ·rw [chooseR] at h
  obtain⟨nm,q1,h1,h⟩:=then_ok h
  have:=name_lt h1
  obtain⟨u,q2,h2,h⟩:=then_ok h
  have:=must_lt h2
  obtain⟨n,q3,h3,h⟩:=then_ok h
  have:=num_lt h3
  obtain⟨l,q4,h4,h⟩:=then_ok h
  have:=refs_le h4
  injection h with h;injection h with h1 h2;omega
 split at h
 ·rw [gainR] at h
  obtain⟨l,q1,h1,h⟩:=then_ok h
  have:=refs_le h1
  obtain⟨u,q2,h2,h⟩:=then_ok h
  have:=must_lt h2
  obtain⟨cs,q3,h3,h⟩:=then_ok h
  have:=rule_lt h3
  injection h with h;injection h with h1 h2;omega
 ·cases h
abbrev fnP (g:FuncId):PV:=.fn (.func g) [] []
def readM:List (List UInt8 × PV):=[(tGrain,fnP 69),(tPlate,fnP 70),(tNode,fnP 71),(tChoose,fnP 72),(tGain,fnP 73)]
def mpO:AObj:=⟨163,false, .ms readM⟩
def srO (v:AV):AObj:=⟨40,false, .bx [v]⟩
def desO (l:List De):AObj:=⟨TDecl,false, .pus (l.map De.cells)⟩
def deO (d:De):AObj:=⟨TDecl,false, .bx (d.cells.map .p)⟩
abbrev prH (ws:List Wd) (acc:List De) (q:Nat):Hp:=⟨5,[(4,desO acc),(3,srO (.sl 4 6 0 acc.length)),(2,mpO),(1,srO (.p .nils)),(0,psO ws q)]⟩
theorem look_no {a:List UInt8} (h1:¬ a=tGrain) (h2:¬ a=tPlate) (h3:¬ a=tNode) (h4:¬ a=tChoose) (h5:¬ a=tGain):findM readM a=none:=by
 simp only [readM,findM,decide_eq_false h1,decide_eq_false h2,decide_eq_false h3,decide_eq_false h4,decide_eq_false h5]
theorem program_h (ws:List Wd) (F q0:Nat) (hF:4 * ws.length+8≤F) (hg:GoodW ws) (hq0:q0≤ws.length):HoldsG cx 46 [.ptr 0 0 0] (psH ws q0) (rdQ ws (progR ws F F [] q0) fun l=>.p (srcV l)):=by
 generalize hR:progR ws F F [] q0=R
 refine holdsN_of_vc Tryz.func46 rfl rfl rfl ?_
 have hl:=hg.len
 have hl':(ws.map Wd.cells).length=ws.length:=List.length_map ..
 refine⟨_,rfl,_,rfl,_,rfl,_,rfl,_,rfl,?_⟩
 refine⟨List De × Nat,fun x=>[(0, .ptr 0 0 0),(2, .ptr 1 0 0),(3, .mp 2),(4, .ptr 3 0 0)],fun x=>prH ws x.1 x.2,fun x=>x.2≤ws.length∧x.1.length≤x.2∧LI R (fun f=>progR ws F f x.1 x.2) (ws.length - x.2),fun x=>ws.length - x.2,?_,?_⟩
 ·exact⟨([],q0),⟨hq0,by simp,⟨F,by simp only [];omega,hR.symm⟩⟩,ent_of [] [] [(4,6)] rfl (sk) (sk) rfl⟩
 rintro⟨acc,q⟩ ⟨k1,k2,k3⟩
 simp only [] at k1 k2 k3
 refine VDraw.seq rfl ?_
 obtain⟨f,hf,k3⟩:=k3
 obtain⟨f,rfl⟩:∃ g,f=g+1:=⟨f - 1,by omega⟩
 simp only [] at k3
 rw [progR] at k3
 (first | refine brLt (fun c0=>?_) (fun c0=>?_) | refine brLe (fun c0=>?_) (fun c0=>?_) | refine brEq (fun c0=>?_) (fun c0=>?_))
 rotate_left
 ·have c0:¬ (q:Int)<((ws.map Wd.cells).length:Nat):=c0
  rw [hl'] at c0
  rw [if_neg (by omega)] at k3
  exact⟨[4],[],[], .returned (.p (srcV acc)),psH ws q,rfl,⟨_,rfl,⟨_,rfl,_,_,rfl,⟨_,rfl,by show 0+acc.length≤(acc.map De.cells).length;simp,takeAll (by simp)⟩,rfl⟩⟩,sk,by rw [k3];exact⟨k1,rfl,rfl⟩⟩
 have c0:(q:Int)<((ws.map Wd.cells).length:Nat):=c0
 rw [hl'] at c0
 rw [if_pos (by omega)] at k3
 have hR:=k3.symm
 clear k3
 refine(text_h ws q hl k1).holds.useT [] [] rfl (sk) (sk) fun e0 H0 hq=>?_
 obtain⟨rfl,rfl⟩:=hq
 refine⟨rfl,_,⟨5,(0,psO ws q)::[(4,desO acc),(3,srO (.sl 4 6 0 acc.length)),(2,mpO),(1,srO (.p .nils))]⟩,rfl,rfl,?_⟩
 by_cases c:txt ws q=tGrain
 ·have hdl:declR ws F q=grainR ws (q+1):=by rw [declR,if_pos c]
  rw [hdl] at hR
  have ql:q+1≤ws.length:=txt_lt (by rw [c];decide)
  have hR:((grainR ws) (q+1)).then _=R:=hR
  refine⟨_, .inl ⟨_,by rw [c];rfl,rfl⟩,?_⟩
  refine⟨_,wrap_i64 (by omega) (by omega),?_⟩
  refine((grain_h ws F hF hg) (q+1) ql).holds.useT [] [] rfl (sk) (sk) fun e0 H0 hq=>?_
  rcases h1:(grainR ws) (q+1) with p | ⟨d,q2⟩
  ·rw [h1] at hq hR
   obtain⟨rfl,rfl⟩:=hq
   refine⟨rfl,_,_,rfl,rfl,?_⟩
   exact⟨[],[],[],failX ws p,⟨1,[]⟩,rfl,⟨_,rfl,_,_,rfl,rfl,rfl⟩,trivial,by rw [← hR];exact⟨rfl,rfl⟩⟩
  rw [h1] at hq hR hdl
  have hlt:=decl_lt hdl
  obtain⟨q2l,rfl,rfl⟩:=hq
  refine⟨rfl,_,⟨5,(0,psO ws q2)::[(4,desO acc),(3,srO (.sl 4 6 0 acc.length)),(2,mpO),(1,srO (.p .nils))]⟩,rfl,rfl,?_⟩
  simp only [then_inr] at hR
  rw [← musts1] at hR
  refine(expect_h ws q2 [tSemi] hl q2l (by simp) (by simp)).holds.useT [6] [] rfl (sk) ⟨_,_,rfl,⟨rfl,rfl⟩,_,_,rfl,⟨_,rfl,by decide,rfl⟩,rfl⟩ fun e0 H0 hq=>?_
  rcases h2:mustsR ws [tSemi] q2 with p | ⟨u2,q3⟩
  ·rw [h2] at hq hR
   obtain⟨rfl,rfl⟩:=hq
   refine⟨rfl,_,_,rfl,rfl,?_⟩
   exact⟨[],[],[],failX ws p,⟨1,[]⟩,rfl,⟨_,rfl,_,_,rfl,rfl,rfl⟩,trivial,by rw [← hR];exact⟨rfl,rfl⟩⟩
  rw [h2] at hq hR
  obtain⟨q3l,rfl,rfl⟩:=hq
  refine⟨rfl,_,⟨7,(0,psO ws q3)::[(6,sO [tSemi]),(5,deO d),(4,desO acc),(3,srO (.sl 4 6 0 acc.length)),(2,mpO),(1,srO (.p .nils))]⟩,rfl,rfl,?_⟩
  simp only [then_inr] at hR
  have hlt2:=must_lt (ws:=ws) (s:=tSemi) (q:=q2) (q':=q3) (u:=u2) (by rw [← musts1];exact h2)
  refine⟨by show 0+1≤1;omega,[d.cells],rfl,?_⟩
  refine⟨by show 0+acc.length≤(acc.map De.cells).length;simp,acc.map De.cells,takeAll (by simp),by show(acc.length+1) * 96≤140737488355328;omega,(acc++[d]).map De.cells,by simp,?_⟩
  exact⟨(acc++[d],q3),⟨q3l,by simp only [snoc_len];omega,⟨f,by simp only [];omega,hR.symm⟩⟩,ent_of [] [(4,8)] [] rfl (sk) ⟨⟨_,rfl,rfl,rfl,rfl⟩,⟨_,rfl,rfl,rfl,_,rfl,_,_,rfl,congrArg (fun k:Nat=>AV.sl 8 6 0 k) (snoc_len acc d).symm,rfl⟩,sk⟩ rfl,by show ws.length - q3<ws.length - q;omega⟩
 have d1:=c
 clear c
 by_cases c:txt ws q=tPlate
 ·have hdl:declR ws F q=plateR ws (q+1):=by rw [declR,if_neg d1,if_pos c]
  rw [hdl] at hR
  have ql:q+1≤ws.length:=txt_lt (by rw [c];decide)
  have hR:((plateR ws) (q+1)).then _=R:=hR
  refine⟨_, .inl ⟨_,by rw [c];rfl,rfl⟩,?_⟩
  refine⟨_,wrap_i64 (by omega) (by omega),?_⟩
  refine((plate_h ws F hF hg) (q+1) ql).holds.useT [] [] rfl (sk) (sk) fun e0 H0 hq=>?_
  rcases h1:(plateR ws) (q+1) with p | ⟨d,q2⟩
  ·rw [h1] at hq hR
   obtain⟨rfl,rfl⟩:=hq
   refine⟨rfl,_,_,rfl,rfl,?_⟩
   exact⟨[],[],[],failX ws p,⟨1,[]⟩,rfl,⟨_,rfl,_,_,rfl,rfl,rfl⟩,trivial,by rw [← hR];exact⟨rfl,rfl⟩⟩
  rw [h1] at hq hR hdl
  have hlt:=decl_lt hdl
  obtain⟨q2l,rfl,rfl⟩:=hq
  refine⟨rfl,_,⟨5,(0,psO ws q2)::[(4,desO acc),(3,srO (.sl 4 6 0 acc.length)),(2,mpO),(1,srO (.p .nils))]⟩,rfl,rfl,?_⟩
  simp only [then_inr] at hR
  rw [← musts1] at hR
  refine(expect_h ws q2 [tSemi] hl q2l (by simp) (by simp)).holds.useT [6] [] rfl (sk) ⟨_,_,rfl,⟨rfl,rfl⟩,_,_,rfl,⟨_,rfl,by decide,rfl⟩,rfl⟩ fun e0 H0 hq=>?_
  rcases h2:mustsR ws [tSemi] q2 with p | ⟨u2,q3⟩
  ·rw [h2] at hq hR
   obtain⟨rfl,rfl⟩:=hq
   refine⟨rfl,_,_,rfl,rfl,?_⟩
   exact⟨[],[],[],failX ws p,⟨1,[]⟩,rfl,⟨_,rfl,_,_,rfl,rfl,rfl⟩,trivial,by rw [← hR];exact⟨rfl,rfl⟩⟩
  rw [h2] at hq hR
  obtain⟨q3l,rfl,rfl⟩:=hq
  refine⟨rfl,_,⟨7,(0,psO ws q3)::[(6,sO [tSemi]),(5,deO d),(4,desO acc),(3,srO (.sl 4 6 0 acc.length)),(2,mpO),(1,srO (.p .nils))]⟩,rfl,rfl,?_⟩
  simp only [then_inr] at hR
  have hlt2:=must_lt (ws:=ws) (s:=tSemi) (q:=q2) (q':=q3) (u:=u2) (by rw [← musts1];exact h2)
  refine⟨by show 0+1≤1;omega,[d.cells],rfl,?_⟩
  refine⟨by show 0+acc.length≤(acc.map De.cells).length;simp,acc.map De.cells,takeAll (by simp),by show(acc.length+1) * 96≤140737488355328;omega,(acc++[d]).map De.cells,by simp,?_⟩
  exact⟨(acc++[d],q3),⟨q3l,by simp only [snoc_len];omega,⟨f,by simp only [];omega,hR.symm⟩⟩,ent_of [] [(4,8)] [] rfl (sk) ⟨⟨_,rfl,rfl,rfl,rfl⟩,⟨_,rfl,rfl,rfl,_,rfl,_,_,rfl,congrArg (fun k:Nat=>AV.sl 8 6 0 k) (snoc_len acc d).symm,rfl⟩,sk⟩ rfl,by show ws.length - q3<ws.length - q;omega⟩
 have d2:=c
 clear c
 by_cases c:txt ws q=tNode
 ·have hdl:declR ws F q=nodeR ws F (q+1):=by rw [declR,if_neg d1,if_neg d2,if_pos c]
  rw [hdl] at hR
  have ql:q+1≤ws.length:=txt_lt (by rw [c];decide)
  have hR:((nodeR ws F) (q+1)).then _=R:=hR
  refine⟨_, .inl ⟨_,by rw [c];rfl,rfl⟩,?_⟩
  refine⟨_,wrap_i64 (by omega) (by omega),?_⟩
  refine((node_h ws F hF hg) (q+1) ql).holds.useT [] [] rfl (sk) (sk) fun e0 H0 hq=>?_
  rcases h1:(nodeR ws F) (q+1) with p | ⟨d,q2⟩
  ·rw [h1] at hq hR
   obtain⟨rfl,rfl⟩:=hq
   refine⟨rfl,_,_,rfl,rfl,?_⟩
   exact⟨[],[],[],failX ws p,⟨1,[]⟩,rfl,⟨_,rfl,_,_,rfl,rfl,rfl⟩,trivial,by rw [← hR];exact⟨rfl,rfl⟩⟩
  rw [h1] at hq hR hdl
  have hlt:=decl_lt hdl
  obtain⟨q2l,rfl,rfl⟩:=hq
  refine⟨rfl,_,⟨5,(0,psO ws q2)::[(4,desO acc),(3,srO (.sl 4 6 0 acc.length)),(2,mpO),(1,srO (.p .nils))]⟩,rfl,rfl,?_⟩
  simp only [then_inr] at hR
  rw [← musts1] at hR
  refine(expect_h ws q2 [tSemi] hl q2l (by simp) (by simp)).holds.useT [6] [] rfl (sk) ⟨_,_,rfl,⟨rfl,rfl⟩,_,_,rfl,⟨_,rfl,by decide,rfl⟩,rfl⟩ fun e0 H0 hq=>?_
  rcases h2:mustsR ws [tSemi] q2 with p | ⟨u2,q3⟩
  ·rw [h2] at hq hR
   obtain⟨rfl,rfl⟩:=hq
   refine⟨rfl,_,_,rfl,rfl,?_⟩
   exact⟨[],[],[],failX ws p,⟨1,[]⟩,rfl,⟨_,rfl,_,_,rfl,rfl,rfl⟩,trivial,by rw [← hR];exact⟨rfl,rfl⟩⟩
  rw [h2] at hq hR
  obtain⟨q3l,rfl,rfl⟩:=hq
  refine⟨rfl,_,⟨7,(0,psO ws q3)::[(6,sO [tSemi]),(5,deO d),(4,desO acc),(3,srO (.sl 4 6 0 acc.length)),(2,mpO),(1,srO (.p .nils))]⟩,rfl,rfl,?_⟩
  simp only [then_inr] at hR
  have hlt2:=must_lt (ws:=ws) (s:=tSemi) (q:=q2) (q':=q3) (u:=u2) (by rw [← musts1];exact h2)
  refine⟨by show 0+1≤1;omega,[d.cells],rfl,?_⟩
  refine⟨by show 0+acc.length≤(acc.map De.cells).length;simp,acc.map De.cells,takeAll (by simp),by show(acc.length+1) * 96≤140737488355328;omega,(acc++[d]).map De.cells,by simp,?_⟩
  exact⟨(acc++[d],q3),⟨q3l,by simp only [snoc_len];omega,⟨f,by simp only [];omega,hR.symm⟩⟩,ent_of [] [(4,8)] [] rfl (sk) ⟨⟨_,rfl,rfl,rfl,rfl⟩,⟨_,rfl,rfl,rfl,_,rfl,_,_,rfl,congrArg (fun k:Nat=>AV.sl 8 6 0 k) (snoc_len acc d).symm,rfl⟩,sk⟩ rfl,by show ws.length - q3<ws.length - q;omega⟩
 have d3:=c
 clear c
 by_cases c:txt ws q=tChoose
 ·have hdl:declR ws F q=chooseR ws F (q+1):=by rw [declR,if_neg d1,if_neg d2,if_neg d3,if_pos c]
  rw [hdl] at hR
  have ql:q+1≤ws.length:=txt_lt (by rw [c];decide)
  have hR:((chooseR ws F) (q+1)).then _=R:=hR
  refine⟨_, .inl ⟨_,by rw [c];rfl,rfl⟩,?_⟩
  refine⟨_,wrap_i64 (by omega) (by omega),?_⟩
  refine((choose_h ws F hF hg) (q+1) ql).holds.useT [] [] rfl (sk) (sk) fun e0 H0 hq=>?_
  rcases h1:(chooseR ws F) (q+1) with p | ⟨d,q2⟩
  ·rw [h1] at hq hR
   obtain⟨rfl,rfl⟩:=hq
   refine⟨rfl,_,_,rfl,rfl,?_⟩
   exact⟨[],[],[],failX ws p,⟨1,[]⟩,rfl,⟨_,rfl,_,_,rfl,rfl,rfl⟩,trivial,by rw [← hR];exact⟨rfl,rfl⟩⟩
  rw [h1] at hq hR hdl
  have hlt:=decl_lt hdl
  obtain⟨q2l,rfl,rfl⟩:=hq
  refine⟨rfl,_,⟨5,(0,psO ws q2)::[(4,desO acc),(3,srO (.sl 4 6 0 acc.length)),(2,mpO),(1,srO (.p .nils))]⟩,rfl,rfl,?_⟩
  simp only [then_inr] at hR
  rw [← musts1] at hR
  refine(expect_h ws q2 [tSemi] hl q2l (by simp) (by simp)).holds.useT [6] [] rfl (sk) ⟨_,_,rfl,⟨rfl,rfl⟩,_,_,rfl,⟨_,rfl,by decide,rfl⟩,rfl⟩ fun e0 H0 hq=>?_
  rcases h2:mustsR ws [tSemi] q2 with p | ⟨u2,q3⟩
  ·rw [h2] at hq hR
   obtain⟨rfl,rfl⟩:=hq
   refine⟨rfl,_,_,rfl,rfl,?_⟩
   exact⟨[],[],[],failX ws p,⟨1,[]⟩,rfl,⟨_,rfl,_,_,rfl,rfl,rfl⟩,trivial,by rw [← hR];exact⟨rfl,rfl⟩⟩
  rw [h2] at hq hR
  obtain⟨q3l,rfl,rfl⟩:=hq
  refine⟨rfl,_,⟨7,(0,psO ws q3)::[(6,sO [tSemi]),(5,deO d),(4,desO acc),(3,srO (.sl 4 6 0 acc.length)),(2,mpO),(1,srO (.p .nils))]⟩,rfl,rfl,?_⟩
  simp only [then_inr] at hR
  have hlt2:=must_lt (ws:=ws) (s:=tSemi) (q:=q2) (q':=q3) (u:=u2) (by rw [← musts1];exact h2)
  refine⟨by show 0+1≤1;omega,[d.cells],rfl,?_⟩
  refine⟨by show 0+acc.length≤(acc.map De.cells).length;simp,acc.map De.cells,takeAll (by simp),by show(acc.length+1) * 96≤140737488355328;omega,(acc++[d]).map De.cells,by simp,?_⟩
  exact⟨(acc++[d],q3),⟨q3l,by simp only [snoc_len];omega,⟨f,by simp only [];omega,hR.symm⟩⟩,ent_of [] [(4,8)] [] rfl (sk) ⟨⟨_,rfl,rfl,rfl,rfl⟩,⟨_,rfl,rfl,rfl,_,rfl,_,_,rfl,congrArg (fun k:Nat=>AV.sl 8 6 0 k) (snoc_len acc d).symm,rfl⟩,sk⟩ rfl,by show ws.length - q3<ws.length - q;omega⟩
 have d4:=c
 clear c
 by_cases c:txt ws q=tGain
 ·have hdl:declR ws F q=gainR ws F (q+1):=by rw [declR,if_neg d1,if_neg d2,if_neg d3,if_neg d4,if_pos c]
  rw [hdl] at hR
  have ql:q+1≤ws.length:=txt_lt (by rw [c];decide)
  have hR:((gainR ws F) (q+1)).then _=R:=hR
  refine⟨_, .inl ⟨_,by rw [c];rfl,rfl⟩,?_⟩
  refine⟨_,wrap_i64 (by omega) (by omega),?_⟩
  refine((gain_h ws F hF hg) (q+1) ql).holds.useT [] [] rfl (sk) (sk) fun e0 H0 hq=>?_
  rcases h1:(gainR ws F) (q+1) with p | ⟨d,q2⟩
  ·rw [h1] at hq hR
   obtain⟨rfl,rfl⟩:=hq
   refine⟨rfl,_,_,rfl,rfl,?_⟩
   exact⟨[],[],[],failX ws p,⟨1,[]⟩,rfl,⟨_,rfl,_,_,rfl,rfl,rfl⟩,trivial,by rw [← hR];exact⟨rfl,rfl⟩⟩
  rw [h1] at hq hR hdl
  have hlt:=decl_lt hdl
  obtain⟨q2l,rfl,rfl⟩:=hq
  refine⟨rfl,_,⟨5,(0,psO ws q2)::[(4,desO acc),(3,srO (.sl 4 6 0 acc.length)),(2,mpO),(1,srO (.p .nils))]⟩,rfl,rfl,?_⟩
  simp only [then_inr] at hR
  rw [← musts1] at hR
  refine(expect_h ws q2 [tSemi] hl q2l (by simp) (by simp)).holds.useT [6] [] rfl (sk) ⟨_,_,rfl,⟨rfl,rfl⟩,_,_,rfl,⟨_,rfl,by decide,rfl⟩,rfl⟩ fun e0 H0 hq=>?_
  rcases h2:mustsR ws [tSemi] q2 with p | ⟨u2,q3⟩
  ·rw [h2] at hq hR
   obtain⟨rfl,rfl⟩:=hq
   refine⟨rfl,_,_,rfl,rfl,?_⟩
   exact⟨[],[],[],failX ws p,⟨1,[]⟩,rfl,⟨_,rfl,_,_,rfl,rfl,rfl⟩,trivial,by rw [← hR];exact⟨rfl,rfl⟩⟩
  rw [h2] at hq hR
  obtain⟨q3l,rfl,rfl⟩:=hq
  refine⟨rfl,_,⟨7,(0,psO ws q3)::[(6,sO [tSemi]),(5,deO d),(4,desO acc),(3,srO (.sl 4 6 0 acc.length)),(2,mpO),(1,srO (.p .nils))]⟩,rfl,rfl,?_⟩
  simp only [then_inr] at hR
  have hlt2:=must_lt (ws:=ws) (s:=tSemi) (q:=q2) (q':=q3) (u:=u2) (by rw [← musts1];exact h2)
  refine⟨by show 0+1≤1;omega,[d.cells],rfl,?_⟩
  refine⟨by show 0+acc.length≤(acc.map De.cells).length;simp,acc.map De.cells,takeAll (by simp),by show(acc.length+1) * 96≤140737488355328;omega,(acc++[d]).map De.cells,by simp,?_⟩
  exact⟨(acc++[d],q3),⟨q3l,by simp only [snoc_len];omega,⟨f,by simp only [];omega,hR.symm⟩⟩,ent_of [] [(4,8)] [] rfl (sk) ⟨⟨_,rfl,rfl,rfl,rfl⟩,⟨_,rfl,rfl,rfl,_,rfl,_,_,rfl,congrArg (fun k:Nat=>AV.sl 8 6 0 k) (snoc_len acc d).symm,rfl⟩,sk⟩ rfl,by show ws.length - q3<ws.length - q;omega⟩
 have hdl:declR ws F q=.inl q:=by rw [declR,if_neg d1,if_neg d2,if_neg d3,if_neg d4,if_neg c]
 rw [hdl] at hR
 refine⟨_, .inr ⟨look_no d1 d2 d3 d4 c,rfl⟩,?_⟩
 refine(fail_h ws q hl k1).holds.useT [] [] rfl (sk) (sk) fun e0 H0 hq=>?_
 obtain⟨rfl,rfl⟩:=hq
 refine⟨rfl,_,⟨5,(0,psO ws q)::[(4,desO acc),(3,srO (.sl 4 6 0 acc.length)),(2,mpO),(1,srO (.p .nils))]⟩,rfl,rfl,?_⟩
 exact⟨[],[],[],failX ws q,⟨1,[]⟩,rfl,⟨_,rfl,_,_,rfl,rfl,rfl⟩,trivial,by rw [← hR];exact⟨rfl,rfl⟩⟩
def checkN (w:Wd):Bool:=decide (1≤w.line) && (decide (w.line≤8000) && (decide (1≤w.col) && (decide (w.col≤8000) && rightN w.kind w.text)))
def checkV (w:Wd):Int:=if checkN w then 0 else 370
theorem check_c (w:Wd) (ht:w.text.length≤9223372036854775807):Pure cx 106 [.agg w.cells] (·=.ret [i64 (checkV w)]):=by
 refine pure_of_vc Tryz.func106 rfl rfl rfl ?_
 have bad:checkN w=false→PEnd.ret [i64 370]=.ret [i64 (checkV w)]:=fun h=>by rw [checkV,h];rfl
 refine And.intro (fun h1=>?_) (fun h1=>?_)
 ·have h1:w.line<1:=h1
  exact end1 _ rfl rfl (bad (by simp [checkN];omega))
 ·have h1:¬ w.line<1:=h1
  refine And.intro (fun h2=>?_) (fun h2=>?_)
  ·have h2:8000<w.line:=h2
   exact end1 _ rfl rfl (bad (by simp [checkN];omega))
  ·have h2:¬ 8000<w.line:=h2
   refine And.intro (fun h3=>?_) (fun h3=>?_)
   ·have h3:w.col<1:=h3
    exact end1 _ rfl rfl (bad (by simp [checkN];omega))
   ·have h3:¬ w.col<1:=h3
    refine And.intro (fun h4=>?_) (fun h4=>?_)
    ·have h4:8000<w.col:=h4
     exact end1 _ rfl rfl (bad (by simp [checkN];omega))
    ·have h4:¬ 8000<w.col:=h4
     have hP:=proper_c w.kind w.text ht
     by_cases hr:rightN w.kind w.text=true
     ·rw [hr] at hP
      refine hP.eq rfl ?_
      refine end1 _ rfl rfl ?_
      rw [checkV,if_pos (by simp [checkN,hr];omega)]
     ·rw [Bool.not_eq_true] at hr
      rw [hr] at hP
      refine hP.eq rfl ?_
      exact end1 _ rfl rfl (bad (by simp [checkN,hr]))
def natB (n:Int):Bool:=decide (0≤n) && decide (n≤9999)
def refB (r:Rf):Bool:=nameN r.name && (if r.mode=0∨r.mode=3 then decide (r.plate=[]) && decide (r.n=0) else if r.mode=1 then nameN r.plate && natB r.n else if r.mode=2 then decide (r.plate=[]) && natB r.n else false)
def incB (l:List Int):Nat→Nat→Bool
 | 0,_=>true
 | f+1,k=>natB (l.getD k 0) && (decide (k=0) || decide (l.getD (k - 1) 0<l.getD k 0)) && incB l f (k+1)
def setB (l:List Int):Bool:=decide (1≤l.length) && decide (l.length≤8) && incB l l.length 0
abbrev BigS (t:List UInt8):Prop:=t.length≤9223372036854775807
structure BigR (r:Rf):Prop where
 name:BigS r.name
 plate:BigS r.plate
theorem isName_c (t:List UInt8) (ht:BigS t):Pure cx 79 [.str t] (·=.ret [.bool (nameN t)]):=by
 have hc:=check_c ⟨1,t,1,1⟩ ht
 refine pure_of_vc Tryz.func79 rfl rfl rfl ?_
 refine hc.eq rfl ?_
 have e:checkV ⟨1,t,1,1⟩=if nameN t then 0 else 370:=by
  simp [checkV,checkN,rightN]
 (first | refine brLt (fun h1=>?_) (fun h1=>?_) | refine brLe (fun h1=>?_) (fun h1=>?_) | refine brEq (fun h1=>?_) (fun h1=>?_))
 ·have h1:checkV ⟨1,t,1,1⟩=0:=h1
  exact end1 _ rfl rfl (retB (by cases hn:nameN t <;> simp_all))
 ·have h1:¬ checkV ⟨1,t,1,1⟩=0:=h1
  exact end1 _ rfl rfl (retB (by cases hn:nameN t <;> simp_all))
theorem natural_c (n:Int):Pure cx 77 [i64 n] (·=.ret [.bool (natB n)]):=by
 refine pure_of_vc Tryz.func77 rfl rfl rfl ?_
 (first | refine brLt (fun h1=>?_) (fun h1=>?_) | refine brLe (fun h1=>?_) (fun h1=>?_) | refine brEq (fun h1=>?_) (fun h1=>?_))
 ·have h1:(0:Int)≤n:=h1
  (first | refine brLt (fun h2=>?_) (fun h2=>?_) | refine brLe (fun h2=>?_) (fun h2=>?_) | refine brEq (fun h2=>?_) (fun h2=>?_))
  ·have h2:n≤9999:=h2
   exact end1 _ rfl rfl (retB (by simp [natB,h1,h2]))
  ·have h2:¬ n≤9999:=h2
   exact end1 _ rfl rfl (retB (by simp [natB,h2]))
 ·have h1:¬ (0:Int)≤n:=h1
  exact end1 _ rfl rfl (retB (by simp [natB,h1]))
theorem reference_c (r:Rf) (hr:BigR r):Pure cx 78 [r.pv] (·=.ret [.bool (refB r)]):=by
 refine pure_of_vc Tryz.func78 rfl rfl rfl ?_
 have hN:=isName_c r.name hr.name
 by_cases n1:nameN r.name=true
 rotate_left
 ·rw [Bool.not_eq_true] at n1
  rw [n1] at hN
  refine hN.eq rfl ?_
  exact end1 _ rfl rfl (retB (by rw [refB,n1];rfl))
 rw [n1] at hN
 refine hN.eq rfl ?_
 have hP:=isName_c r.plate hr.plate
 have hA:=natural_c r.n
 (first | refine brLt (fun h1=>?_) (fun h1=>?_) | refine brLe (fun h1=>?_) (fun h1=>?_) | refine brEq (fun h1=>?_) (fun h1=>?_))
 ·have h1:r.mode=0:=h1
  (first | refine brLt (fun h2=>?_) (fun h2=>?_) | refine brLe (fun h2=>?_) (fun h2=>?_) | refine brEq (fun h2=>?_) (fun h2=>?_))
  ·have h2:r.plate=[]:=h2
   (first | refine brLt (fun h3=>?_) (fun h3=>?_) | refine brLe (fun h3=>?_) (fun h3=>?_) | refine brEq (fun h3=>?_) (fun h3=>?_))
   ·have h3:r.n=0:=h3
    exact end1 _ rfl rfl (retB (by simp [refB,n1,h1,h2,h3]))
   ·have h3:¬ r.n=0:=h3
    exact end1 _ rfl rfl (retB (by simp [refB,n1,h1,h2,h3]))
  ·have h2:¬ r.plate=[]:=h2
   exact end1 _ rfl rfl (retB (by simp [refB,n1,h1,h2]))
 have h1:¬ r.mode=0:=h1
 (first | refine brLt (fun h4=>?_) (fun h4=>?_) | refine brLe (fun h4=>?_) (fun h4=>?_) | refine brEq (fun h4=>?_) (fun h4=>?_))
 ·have h4:r.mode=3:=h4
  (first | refine brLt (fun h2=>?_) (fun h2=>?_) | refine brLe (fun h2=>?_) (fun h2=>?_) | refine brEq (fun h2=>?_) (fun h2=>?_))
  ·have h2:r.plate=[]:=h2
   (first | refine brLt (fun h3=>?_) (fun h3=>?_) | refine brLe (fun h3=>?_) (fun h3=>?_) | refine brEq (fun h3=>?_) (fun h3=>?_))
   ·have h3:r.n=0:=h3
    exact end1 _ rfl rfl (retB (by simp [refB,n1,h4,h2,h3]))
   ·have h3:¬ r.n=0:=h3
    exact end1 _ rfl rfl (retB (by simp [refB,n1,h4,h2,h3]))
  ·have h2:¬ r.plate=[]:=h2
   exact end1 _ rfl rfl (retB (by simp [refB,n1,h4,h2]))
 have h4:¬ r.mode=3:=h4
 (first | refine brLt (fun h5=>?_) (fun h5=>?_) | refine brLe (fun h5=>?_) (fun h5=>?_) | refine brEq (fun h5=>?_) (fun h5=>?_))
 ·have h5:r.mode=1:=h5
  by_cases n2:nameN r.plate=true
  ·rw [n2] at hP
   refine hP.eq rfl ?_
   refine hA.eq rfl ?_
   exact end1 _ rfl rfl (retB (by simp [refB,n1,n2,h5]))
  ·rw [Bool.not_eq_true] at n2
   rw [n2] at hP
   refine hP.eq rfl ?_
   exact end1 _ rfl rfl (retB (by simp [refB,n1,n2,h5]))
 have h5:¬ r.mode=1:=h5
 (first | refine brLt (fun h6=>?_) (fun h6=>?_) | refine brLe (fun h6=>?_) (fun h6=>?_) | refine brEq (fun h6=>?_) (fun h6=>?_))
 ·have h6:r.mode=2:=h6
  (first | refine brLt (fun h2=>?_) (fun h2=>?_) | refine brLe (fun h2=>?_) (fun h2=>?_) | refine brEq (fun h2=>?_) (fun h2=>?_))
  ·have h2:r.plate=[]:=h2
   refine hA.eq rfl ?_
   exact end1 _ rfl rfl (retB (by simp [refB,n1,h6,h2]))
  ·have h2:¬ r.plate=[]:=h2
   exact end1 _ rfl rfl (retB (by simp [refB,n1,h6,h2]))
 have h6:¬ r.mode=2:=h6
 exact end1 _ rfl rfl (retB (by simp [refB,h1,h4,h5,h6]))
theorem set_c (l:List Int) (hl:l.length≤9223372036854775807):Pure cx 139 [ints l] (·=.ret [.bool (setB l)]):=by
 refine pure_of_vc Tryz.func139 rfl rfl rfl ?_
 have hm:(l.map i64).length=l.length:=List.length_map ..
 (first | refine brLt (fun h1=>?_) (fun h1=>?_) | refine brLe (fun h1=>?_) (fun h1=>?_) | refine brEq (fun h1=>?_) (fun h1=>?_))
 ·have h1:((l.map i64).length:Int)<1:=h1
  rw [hm] at h1
  exact end1 _ rfl rfl (retB (by rw [setB,decide_eq_false (by omega)];rfl))
 have h1:¬ ((l.map i64).length:Int)<1:=h1
 rw [hm] at h1
 (first | refine brLt (fun h2=>?_) (fun h2=>?_) | refine brLe (fun h2=>?_) (fun h2=>?_) | refine brEq (fun h2=>?_) (fun h2=>?_))
 ·have h2:(8:Int)<((l.map i64).length:Nat):=h2
  rw [hm] at h2
  exact end1 _ rfl rfl (retB (by rw [setB,decide_eq_false (show ¬ l.length≤8 by omega),Bool.and_false];rfl))
 have h2:¬ (8:Int)<((l.map i64).length:Nat):=h2
 rw [hm] at h2
 have hB0:setB l=incB l (l.length - 0) 0:=by rw [setB,decide_eq_true (show 1≤l.length by omega),decide_eq_true (show l.length≤8 by omega)];rfl
 refine⟨Nat,fun k=>[(0, .p (ints l)),(13, .p (ints l)),(14, .p (i64 l.length)),(15, .p (i64 k))],fun _=>⟨0,[]⟩,fun k=>k≤l.length∧setB l=incB l (l.length - k) k,fun k=>l.length - k,?_,?_⟩
 ·exact⟨0,⟨Nat.zero_le _,hB0⟩,ent0 rfl ⟨rfl,rfl,congrArg (fun n:Nat=>i64 n) hm.symm,rfl,trivial⟩ trivial rfl⟩
 rintro k ⟨k1,k2⟩
 (first | refine brLt (fun h3=>?_) (fun h3=>?_) | refine brLe (fun h3=>?_) (fun h3=>?_) | refine brEq (fun h3=>?_) (fun h3=>?_))
 rotate_left
 ·have h3:¬ (k:Int)<(l.length:Nat):=h3
  rw [show l.length - k=0 by omega,incB] at k2
  exact end1 _ rfl rfl (retB k2.symm)
 have h3:(k:Int)<(l.length:Nat):=h3
 have hk:k<l.length:=by omega
 obtain⟨f,hf⟩:∃ f,l.length - k=f+1:=⟨l.length - k - 1,by omega⟩
 rw [hf,incB] at k2
 refine⟨_,⟨by omega,i64 (l.getD k 0),icell hk,rfl⟩,?_⟩
 have hN:=natural_c (l.getD k 0)
 by_cases n1:natB (l.getD k 0)=true
 rotate_left
 ·rw [Bool.not_eq_true] at n1
  rw [n1] at hN k2
  refine hN.eq rfl ?_
  exact end1 _ rfl rfl (retB (by rw [k2];simp))
 rw [n1] at hN k2
 refine hN.eq rfl ?_
 (first | refine brLt (fun h4=>?_) (fun h4=>?_) | refine brLe (fun h4=>?_) (fun h4=>?_) | refine brEq (fun h4=>?_) (fun h4=>?_))
 ·have h4:(0:Int)<(k:Nat):=h4
  obtain⟨j,rfl⟩:∃ j,k=j+1:=⟨k - 1,by omega⟩
  refine⟨(j:Int),by rw [show((j+1:Nat):Int) - 1=(j:Int) by omega];exact wrap_i64 (by omega) (by omega),?_⟩
  refine⟨_,⟨by omega,i64 (l.getD j 0),icell (by omega),rfl⟩,?_⟩
  (first | refine brLt (fun h5=>?_) (fun h5=>?_) | refine brLe (fun h5=>?_) (fun h5=>?_) | refine brEq (fun h5=>?_) (fun h5=>?_))
  ·have h5:l.getD (j+1) 0≤l.getD j 0:=h5
   exact end1 _ rfl rfl (retB (by rw [k2,Nat.add_sub_cancel,decide_eq_false (show ¬ l.getD j 0<l.getD (j+1) 0 by omega),decide_eq_false (by omega)];rfl))
  ·have h5:¬ l.getD (j+1) 0≤l.getD j 0:=h5
   refine⟨_,wrap_i64 (by omega) (by omega),?_⟩
   exact⟨j+1+1,⟨by omega,by rw [k2,Nat.add_sub_cancel,decide_eq_true (show l.getD j 0<l.getD (j+1) 0 by omega),Bool.or_true,show l.length - (j+1+1)=f by omega];rfl⟩,ent0 rfl ⟨rfl,rfl,rfl,rfl,trivial⟩ trivial rfl,by show l.length - (j+1+1)<l.length - (j+1);omega⟩
 ·have h4:¬ (0:Int)<(k:Nat):=h4
  have hk0:k=0:=by omega
  subst hk0
  refine⟨_,wrap_i64 (by omega) (by omega),?_⟩
  exact⟨0+1,⟨by omega,by rw [k2,show l.length - (0+1)=f by omega];rfl⟩,ent0 rfl ⟨rfl,rfl,rfl,rfl,trivial⟩ trivial rfl,by show l.length - (0+1)<l.length - 0;omega⟩
def plainB (n rel val:Int) (r:Rf) (st:List Int):Bool:=decide (n=0) && decide (rel=0) && decide (val=0) && decide (r=rf0) && decide (st=[])
def leafB (op n rel val:Int) (r:Rf) (st:List Int):Bool:=
 if op=1∨op=2∨op=3∨op=4 then refB r && natB n && decide (rel=0) && decide (val=0) && decide (st=[])
 else if op=5 then refB r && decide (n=0) && decide (rel=0) && decide (val=0) && setB st
 else if op=6 then refB r && decide (r.mode=3) && natB n && natB val && decide (1≤rel) && decide (rel≤4) && decide (st=[]) else false
def argsN (op:Int):Nat:=if op=7 then 1 else if op=8∨op=9 then 2 else 0
def headB (op n rel val:Int) (r:Rf) (st:List Int) (k:Nat):Bool:=if argsN op=0 then leafB op n rel val r st && decide (k=0) else decide (k=argsN op) && plainB n rel val r st
def condV:Nat→Cd→Nat→Option Nat
 | 0,_,_=>none
 | d+1, .mk op n rel val r st ar,left=>if left=0 then none else if headB op n rel val r st ar.length=true then ar.foldlM (fun l c=>condV d c l) (left - 1) else none
theorem fold_le {f:Nat→Cd→Option Nat} (hf:∀ l c k,f l c=some k→k≤l):∀ (ar:List Cd) (l k:Nat),ar.foldlM f l=some k→k≤l
 | [],l,k,h=>by
  rw [List.foldlM_nil] at h
  injection h with h;omega
 | c::ar,l,k,h=>by
  rw [List.foldlM_cons] at h
  cases hc:f l c with
  | none=>rw [hc] at h;cases h
  | some m=>
   rw [hc] at h
   have:=fold_le hf ar m k h
   have:=hf l c m hc
   omega
theorem condV_le:∀ (d:Nat) (c:Cd) (left k:Nat),condV d c left=some k→k≤left
 | 0,_,_,_,h=>by cases h
 | d+1, .mk op n rel val r st ar,left,k,h=>by
  rw [condV] at h
  split at h
  ·cases h
  ·split at h
   ·have:=fold_le (fun l c k h=>condV_le d c l k h) ar _ k h
    omega
   ·cases h
mutual
def BigC:Cd→Prop
 | .mk _ _ _ _ r st ar=>BigR r∧st.length≤9223372036854775807∧ar.length≤9223372036854775807∧BigCs ar
def BigCs:List Cd→Prop
 | []=>True
 | c::r=>BigC c∧BigCs r
end
theorem bigCs_mem:∀ {l:List Cd} {c:Cd},BigCs l→c∈l→BigC c
 | [],_,_,h=>by simp at h
 | x::l,c,h,hc=>by
  simp only [BigCs] at h
  rcases List.mem_cons.1 hc with rfl | hc
  ·exact h.1
  ·exact bigCs_mem h.2 hc
theorem plain_c (op n rel val:Int) (r:Rf) (st:List Int) (ar:List Cd) (_hs:st.length≤9223372036854775807):Pure cx 107 [(Cd.mk op n rel val r st ar).pv] (·=.ret [.bool (plainB n rel val r st)]):=by
 refine pure_of_vc Tryz.func107 rfl rfl rfl ?_
 (first | refine brLt (fun h1=>?_) (fun h1=>?_) | refine brLe (fun h1=>?_) (fun h1=>?_) | refine brEq (fun h1=>?_) (fun h1=>?_))
 rotate_left
 ·have h1:¬ n=0:=h1
  exact end1 _ rfl rfl (retB (by rw [plainB,decide_eq_false h1];rfl))
 have h1:n=0:=h1
 (first | refine brLt (fun h2=>?_) (fun h2=>?_) | refine brLe (fun h2=>?_) (fun h2=>?_) | refine brEq (fun h2=>?_) (fun h2=>?_))
 rotate_left
 ·have h2:¬ rel=0:=h2
  exact end1 _ rfl rfl (retB (by rw [plainB,decide_eq_false h2,Bool.and_false];rfl))
 have h2:rel=0:=h2
 (first | refine brLt (fun h3=>?_) (fun h3=>?_) | refine brLe (fun h3=>?_) (fun h3=>?_) | refine brEq (fun h3=>?_) (fun h3=>?_))
 rotate_left
 ·have h3:¬ val=0:=h3
  exact end1 _ rfl rfl (retB (by rw [plainB,decide_eq_false h3,Bool.and_false];rfl))
 have h3:val=0:=h3
 refine⟨⟨by kernel_rfl,by kernel_rfl⟩,fun h4=>?_,fun h4=>?_⟩
 rotate_left
 ·have h4:¬ r=rf0:=fun e=>h4 (by rw [e];rfl)
  exact end1 _ rfl rfl (retB (by rw [plainB,decide_eq_false h4,Bool.and_false];rfl))
 have h4:r=rf0:=by
  have h4:r.cells=rf0.cells:=by first | exact h4 | (injection h4)
  obtain⟨a,b,c,d⟩:=r
  simp only [Rf.cells,rf0,List.cons.injEq,PV.str.injEq,PV.int.injEq,true_and,and_true] at h4
  obtain⟨rfl,rfl,rfl,rfl⟩:=h4
  rfl
 (first | refine brLt (fun h5=>?_) (fun h5=>?_) | refine brLe (fun h5=>?_) (fun h5=>?_) | refine brEq (fun h5=>?_) (fun h5=>?_))
 ·have h5:((st.map i64).length:Int)=0:=h5
  rw [List.length_map] at h5
  have:st=[]:=List.length_eq_zero_iff.1 (by omega)
  exact end1 _ rfl rfl (retB (by rw [plainB,decide_eq_true h1,decide_eq_true h2,decide_eq_true h3,decide_eq_true h4,decide_eq_true this];rfl))
 ·have h5:¬ ((st.map i64).length:Int)=0:=h5
  rw [List.length_map] at h5
  exact end1 _ rfl rfl (retB (by rw [plainB,decide_eq_false (show ¬ st=[] from fun e=>h5 (by rw [e];rfl)),Bool.and_false]))
set_option maxHeartbeats 40000000
def lfO (l:Int):AObj:=⟨TInt,false, .bx [.p (i64 l)]⟩
abbrev lfH (l:Nat):Hp:=⟨1,[(0,lfO l)]⟩
def cvQ (r:Option Nat) (e:AE) (H':Hp):Prop:=match r with
 | some l=>e=.returned (vB true)∧H'=lfH l
 | none=>e=.returned (vB false)∧H'=⟨1,[]⟩
theorem ccell {l:List Cd} {k:Nat} (h:k<l.length):(l.map Cd.cells)[k]?=some (l.getD k cd0).cells:=map_at cd0 h
def CvOK (d:Nat):Prop:=∀ (c:Cd) (left p:Nat),BigC c→left≤1000→p+d=9→HoldsG cx 108 [.p c.pv, .p (i64 p), .ptr 0 0 0] (lfH left) (cvQ (condV d c left))
theorem condv_h (d:Nat) (ih:CvOK d):CvOK (d+1):=by
 rintro⟨op,n,rel,val,r,st,ar⟩ left p hb hl hp9
 simp only [BigC] at hb
 obtain⟨hb1,hb2,hb3,hb4⟩:=hb
 have hP:=plain_c op n rel val r st ar hb2
 have epv:(Cd.mk op n rel val r st ar).pv=.agg [i64 op,i64 n,i64 rel,i64 val, .str r.name,i64 r.mode, .str r.plate,i64 r.n,ints st,cds ar]:=by
  show PV.agg [i64 op,i64 n,i64 rel,i64 val, .str r.name,i64 r.mode, .str r.plate,i64 r.n,ints st, .lsts 10 (cellsL ar)]=_
  rw [cellsL_map]
 rw [epv] at hP ⊢
 generalize hR:condV (d+1) (.mk op n rel val r st ar) left=R
 rw [condV] at hR
 have hRf:=reference_c r hb1
 have hNn:=natural_c n
 have hNv:=natural_c val
 have hS:=set_c st hb2
 refine holdsN_of_vc Tryz.func108 rfl rfl rfl ?_
 rcases Nat.eq_zero_or_pos left with h0 | h0
 ·subst h0
  rw [if_pos rfl] at hR
  refine⟨-1,by decide,?_⟩
  refine And.intro (fun _=>?_) (fun h=>absurd (show(-1:Int)<0 by decide) h)
  exact⟨[],[],[], .returned (vB false),⟨1,[]⟩,rfl,sk,trivial,by rw [← hR];exact⟨rfl,rfl⟩⟩
 obtain⟨m,rfl⟩:∃ m,left=m+1:=⟨left - 1,by omega⟩
 rw [if_neg (by omega),Nat.add_sub_cancel] at hR
 have hno:headB op n rel val r st ar.length=false→R=none:=fun h=>by rw [← hR,if_neg (by rw [h];decide)]
 have hyes:headB op n rel val r st ar.length=true→ar.foldlM (fun l c=>condV d c l) m=R:=fun h=>by rw [← hR,if_pos h]
 clear hR
 refine⟨(m:Int),by rw [show((m+1:Nat):Int) - 1=(m:Int) by omega];exact wrap_i64 (by omega) (by omega),?_⟩
 refine And.intro (fun h=>absurd (show(m:Int)<0 from h) (by omega)) (fun _=>?_)
 refine And.intro (fun h=>absurd (show(8:Int)<(p:Nat) from h) (by omega)) (fun _=>?_)
 (first | refine brLt (fun o1=>?_) (fun o1=>?_) | refine brLe (fun o1=>?_) (fun o1=>?_) | refine brEq (fun o1=>?_) (fun o1=>?_))
 ·have o1:op=1:=o1
  by_cases r1:refB r=true
  rotate_left
  ·rw [Bool.not_eq_true] at r1
   rw [r1] at hRf
   refine hRf.eq rfl ?_
   exact⟨[],[],[], .returned (vB false),⟨1,[]⟩,rfl,sk,trivial,by rw [hno (by simp [headB,argsN,leafB, *])];exact⟨rfl,rfl⟩⟩
  rw [r1] at hRf
  refine hRf.eq rfl ?_
  by_cases r2:natB n=true
  rotate_left
  ·rw [Bool.not_eq_true] at r2
   rw [r2] at hNn
   refine hNn.eq rfl ?_
   exact⟨[],[],[], .returned (vB false),⟨1,[]⟩,rfl,sk,trivial,by rw [hno (by simp [headB,argsN,leafB, *])];exact⟨rfl,rfl⟩⟩
  rw [r2] at hNn
  refine hNn.eq rfl ?_
  refine And.intro (fun r3=>?_) (fun r3=>?_)
  rotate_left
  ·have r3:¬ rel=0:=r3
   exact⟨[],[],[], .returned (vB false),⟨1,[]⟩,rfl,sk,trivial,by rw [hno (by simp [headB,argsN,leafB, *])];exact⟨rfl,rfl⟩⟩
  have r3:rel=0:=r3
  refine And.intro (fun r4=>?_) (fun r4=>?_)
  rotate_left
  ·have r4:¬ val=0:=r4
   exact⟨[],[],[], .returned (vB false),⟨1,[]⟩,rfl,sk,trivial,by rw [hno (by simp [headB,argsN,leafB, *])];exact⟨rfl,rfl⟩⟩
  have r4:val=0:=r4
  refine And.intro (fun r5=>?_) (fun r5=>?_)
  rotate_left
  ·have r5:¬ ((st.map i64).length:Int)=0:=r5
   have r5:¬ st=[]:=fun e=>r5 (by rw [e];rfl)
   exact⟨[],[],[], .returned (vB false),⟨1,[]⟩,rfl,sk,trivial,by rw [hno (by simp [headB,argsN,leafB, *])];exact⟨rfl,rfl⟩⟩
  have r5:((st.map i64).length:Int)=0:=r5
  have r5:st=[]:=by rw [List.length_map] at r5;exact List.length_eq_zero_iff.1 (by omega)
  by_cases hk:ar.length=0
  rotate_left
  ·refine And.intro (fun h=>absurd (show((ar.map Cd.cells).length:Int)=0 from h) (by rw [List.length_map];omega)) (fun _=>?_)
   exact⟨[],[],[], .returned (vB false),⟨1,[]⟩,rfl,sk,trivial,by rw [hno (by simp [headB,argsN, *])];exact⟨rfl,rfl⟩⟩
  refine And.intro (fun _=>?_) (fun h=>absurd (show((ar.map Cd.cells).length:Int)=0 by rw [List.length_map];omega) h)
  refine And.intro (fun h=>absurd (show(0:Int)<0 from h) (by decide)) (fun _=>?_)
  refine⟨Nat × Nat,fun x=>[(1, .p (i64 p)),(2, .ptr 0 0 0),(143, .p (cds ar)),(144, .p (i64 ar.length)),(145, .p (i64 x.1))],fun x=>lfH x.2,fun x=>x.1≤ar.length∧x.2≤1000∧(ar.drop x.1).foldlM (fun l c=>condV d c l) x.2=R,fun x=>ar.length - x.1,?_,?_⟩
  ·exact⟨(0,m),⟨Nat.zero_le _,by simp only [];omega,hyes (by first | (simp [headB,argsN, *];done) | simp [headB,argsN,leafB, *])⟩,ent_of [] [] [] rfl ⟨rfl,⟨rfl,rfl⟩,rfl,congrArg (fun n:Nat=>i64 n) (List.length_map ..).symm,rfl,trivial⟩ ⟨⟨_,rfl,rfl,rfl,_,rfl,_,_,rfl,congrArg i64 (by omega),rfl⟩,trivial⟩ rfl⟩
  rintro⟨i,l⟩ ⟨i1,i2,i3⟩
  simp only [] at i1 i2 i3
  (first | refine brLt (fun j1=>?_) (fun j1=>?_) | refine brLe (fun j1=>?_) (fun j1=>?_) | refine brEq (fun j1=>?_) (fun j1=>?_))
  rotate_left
  ·have j1:¬ (i:Int)<(ar.length:Nat):=j1
   rw [List.drop_eq_nil_of_le (by omega),List.foldlM_nil] at i3
   exact⟨[],[],[], .returned (vB true),lfH l,rfl,sk,sk,by rw [← i3];exact⟨rfl,rfl⟩⟩
  have j1:(i:Int)<(ar.length:Nat):=j1
  have hi:i<ar.length:=by omega
  rw [dropD cd0 hi,List.foldlM_cons] at i3
  have hbx:=bigCs_mem hb4 (getD_memL cd0 hi)
  have hcell:=ccell hi
  rcases hx:ar.getD i cd0 with ⟨o',n',rl',vl',rf',st',ar'⟩
  rw [hx] at i3 hbx hcell
  refine⟨_,⟨by omega,(Cd.mk o' n' rl' vl' rf' st' ar').cells,hcell,rfl⟩,?_⟩
  refine⟨((p+1:Nat):Int),wrap_i64 (by omega) (by omega),?_⟩
  have hrec:=ih (.mk o' n' rl' vl' rf' st' ar') l (p+1) hbx (by omega) (by omega)
  rcases hv:condV d (.mk o' n' rl' vl' rf' st' ar') l with _ | l2
  ·rw [hv] at hrec i3
   refine hrec.holds.useT [] [] rfl (sk) (sk) fun e0 H0 hq=>?_
   obtain⟨rfl,rfl⟩:=hq
   refine⟨rfl,_,_,rfl,rfl,?_⟩
   exact⟨[],[],[], .returned (vB false),⟨1,[]⟩,rfl,sk,trivial,by rw [← i3];exact⟨rfl,rfl⟩⟩
  ·have hle:=condV_le _ _ _ _ hv
   rw [hv] at hrec i3
   refine hrec.holds.useT [] [] rfl (sk) (sk) fun e0 H0 hq=>?_
   obtain⟨rfl,rfl⟩:=hq
   refine⟨rfl,_,⟨2,[(0,lfO l2),(1,cO ((Cd.mk o' n' rl' vl' rf' st' ar').cells.map .p))]⟩,rfl,rfl,?_⟩
   refine⟨_,wrap_i64 (by omega) (by omega),?_⟩
   exact⟨(i+1,l2),⟨by simp only [];omega,by simp only [];omega,i3⟩,ent_of [] [] [] rfl (sk) (sk) rfl,by show ar.length - (i+1)<ar.length - i;omega⟩
 have o1:¬ op=1:=o1
 (first | refine brLt (fun o2=>?_) (fun o2=>?_) | refine brLe (fun o2=>?_) (fun o2=>?_) | refine brEq (fun o2=>?_) (fun o2=>?_))
 ·have o2:op=2:=o2
  by_cases r1:refB r=true
  rotate_left
  ·rw [Bool.not_eq_true] at r1
   rw [r1] at hRf
   refine hRf.eq rfl ?_
   exact⟨[],[],[], .returned (vB false),⟨1,[]⟩,rfl,sk,trivial,by rw [hno (by simp [headB,argsN,leafB, *])];exact⟨rfl,rfl⟩⟩
  rw [r1] at hRf
  refine hRf.eq rfl ?_
  by_cases r2:natB n=true
  rotate_left
  ·rw [Bool.not_eq_true] at r2
   rw [r2] at hNn
   refine hNn.eq rfl ?_
   exact⟨[],[],[], .returned (vB false),⟨1,[]⟩,rfl,sk,trivial,by rw [hno (by simp [headB,argsN,leafB, *])];exact⟨rfl,rfl⟩⟩
  rw [r2] at hNn
  refine hNn.eq rfl ?_
  refine And.intro (fun r3=>?_) (fun r3=>?_)
  rotate_left
  ·have r3:¬ rel=0:=r3
   exact⟨[],[],[], .returned (vB false),⟨1,[]⟩,rfl,sk,trivial,by rw [hno (by simp [headB,argsN,leafB, *])];exact⟨rfl,rfl⟩⟩
  have r3:rel=0:=r3
  refine And.intro (fun r4=>?_) (fun r4=>?_)
  rotate_left
  ·have r4:¬ val=0:=r4
   exact⟨[],[],[], .returned (vB false),⟨1,[]⟩,rfl,sk,trivial,by rw [hno (by simp [headB,argsN,leafB, *])];exact⟨rfl,rfl⟩⟩
  have r4:val=0:=r4
  refine And.intro (fun r5=>?_) (fun r5=>?_)
  rotate_left
  ·have r5:¬ ((st.map i64).length:Int)=0:=r5
   have r5:¬ st=[]:=fun e=>r5 (by rw [e];rfl)
   exact⟨[],[],[], .returned (vB false),⟨1,[]⟩,rfl,sk,trivial,by rw [hno (by simp [headB,argsN,leafB, *])];exact⟨rfl,rfl⟩⟩
  have r5:((st.map i64).length:Int)=0:=r5
  have r5:st=[]:=by rw [List.length_map] at r5;exact List.length_eq_zero_iff.1 (by omega)
  by_cases hk:ar.length=0
  rotate_left
  ·refine And.intro (fun h=>absurd (show((ar.map Cd.cells).length:Int)=0 from h) (by rw [List.length_map];omega)) (fun _=>?_)
   exact⟨[],[],[], .returned (vB false),⟨1,[]⟩,rfl,sk,trivial,by rw [hno (by simp [headB,argsN, *])];exact⟨rfl,rfl⟩⟩
  refine And.intro (fun _=>?_) (fun h=>absurd (show((ar.map Cd.cells).length:Int)=0 by rw [List.length_map];omega) h)
  refine And.intro (fun h=>absurd (show(0:Int)<0 from h) (by decide)) (fun _=>?_)
  refine⟨Nat × Nat,fun x=>[(1, .p (i64 p)),(2, .ptr 0 0 0),(143, .p (cds ar)),(144, .p (i64 ar.length)),(145, .p (i64 x.1))],fun x=>lfH x.2,fun x=>x.1≤ar.length∧x.2≤1000∧(ar.drop x.1).foldlM (fun l c=>condV d c l) x.2=R,fun x=>ar.length - x.1,?_,?_⟩
  ·exact⟨(0,m),⟨Nat.zero_le _,by simp only [];omega,hyes (by first | (simp [headB,argsN, *];done) | simp [headB,argsN,leafB, *])⟩,ent_of [] [] [] rfl ⟨rfl,⟨rfl,rfl⟩,rfl,congrArg (fun n:Nat=>i64 n) (List.length_map ..).symm,rfl,trivial⟩ ⟨⟨_,rfl,rfl,rfl,_,rfl,_,_,rfl,congrArg i64 (by omega),rfl⟩,trivial⟩ rfl⟩
  rintro⟨i,l⟩ ⟨i1,i2,i3⟩
  simp only [] at i1 i2 i3
  (first | refine brLt (fun j1=>?_) (fun j1=>?_) | refine brLe (fun j1=>?_) (fun j1=>?_) | refine brEq (fun j1=>?_) (fun j1=>?_))
  rotate_left
  ·have j1:¬ (i:Int)<(ar.length:Nat):=j1
   rw [List.drop_eq_nil_of_le (by omega),List.foldlM_nil] at i3
   exact⟨[],[],[], .returned (vB true),lfH l,rfl,sk,sk,by rw [← i3];exact⟨rfl,rfl⟩⟩
  have j1:(i:Int)<(ar.length:Nat):=j1
  have hi:i<ar.length:=by omega
  rw [dropD cd0 hi,List.foldlM_cons] at i3
  have hbx:=bigCs_mem hb4 (getD_memL cd0 hi)
  have hcell:=ccell hi
  rcases hx:ar.getD i cd0 with ⟨o',n',rl',vl',rf',st',ar'⟩
  rw [hx] at i3 hbx hcell
  refine⟨_,⟨by omega,(Cd.mk o' n' rl' vl' rf' st' ar').cells,hcell,rfl⟩,?_⟩
  refine⟨((p+1:Nat):Int),wrap_i64 (by omega) (by omega),?_⟩
  have hrec:=ih (.mk o' n' rl' vl' rf' st' ar') l (p+1) hbx (by omega) (by omega)
  rcases hv:condV d (.mk o' n' rl' vl' rf' st' ar') l with _ | l2
  ·rw [hv] at hrec i3
   refine hrec.holds.useT [] [] rfl (sk) (sk) fun e0 H0 hq=>?_
   obtain⟨rfl,rfl⟩:=hq
   refine⟨rfl,_,_,rfl,rfl,?_⟩
   exact⟨[],[],[], .returned (vB false),⟨1,[]⟩,rfl,sk,trivial,by rw [← i3];exact⟨rfl,rfl⟩⟩
  ·have hle:=condV_le _ _ _ _ hv
   rw [hv] at hrec i3
   refine hrec.holds.useT [] [] rfl (sk) (sk) fun e0 H0 hq=>?_
   obtain⟨rfl,rfl⟩:=hq
   refine⟨rfl,_,⟨2,[(0,lfO l2),(1,cO ((Cd.mk o' n' rl' vl' rf' st' ar').cells.map .p))]⟩,rfl,rfl,?_⟩
   refine⟨_,wrap_i64 (by omega) (by omega),?_⟩
   exact⟨(i+1,l2),⟨by simp only [];omega,by simp only [];omega,i3⟩,ent_of [] [] [] rfl (sk) (sk) rfl,by show ar.length - (i+1)<ar.length - i;omega⟩
 have o2:¬ op=2:=o2
 (first | refine brLt (fun o3=>?_) (fun o3=>?_) | refine brLe (fun o3=>?_) (fun o3=>?_) | refine brEq (fun o3=>?_) (fun o3=>?_))
 ·have o3:op=3:=o3
  by_cases r1:refB r=true
  rotate_left
  ·rw [Bool.not_eq_true] at r1
   rw [r1] at hRf
   refine hRf.eq rfl ?_
   exact⟨[],[],[], .returned (vB false),⟨1,[]⟩,rfl,sk,trivial,by rw [hno (by simp [headB,argsN,leafB, *])];exact⟨rfl,rfl⟩⟩
  rw [r1] at hRf
  refine hRf.eq rfl ?_
  by_cases r2:natB n=true
  rotate_left
  ·rw [Bool.not_eq_true] at r2
   rw [r2] at hNn
   refine hNn.eq rfl ?_
   exact⟨[],[],[], .returned (vB false),⟨1,[]⟩,rfl,sk,trivial,by rw [hno (by simp [headB,argsN,leafB, *])];exact⟨rfl,rfl⟩⟩
  rw [r2] at hNn
  refine hNn.eq rfl ?_
  refine And.intro (fun r3=>?_) (fun r3=>?_)
  rotate_left
  ·have r3:¬ rel=0:=r3
   exact⟨[],[],[], .returned (vB false),⟨1,[]⟩,rfl,sk,trivial,by rw [hno (by simp [headB,argsN,leafB, *])];exact⟨rfl,rfl⟩⟩
  have r3:rel=0:=r3
  refine And.intro (fun r4=>?_) (fun r4=>?_)
  rotate_left
  ·have r4:¬ val=0:=r4
   exact⟨[],[],[], .returned (vB false),⟨1,[]⟩,rfl,sk,trivial,by rw [hno (by simp [headB,argsN,leafB, *])];exact⟨rfl,rfl⟩⟩
  have r4:val=0:=r4
  refine And.intro (fun r5=>?_) (fun r5=>?_)
  rotate_left
  ·have r5:¬ ((st.map i64).length:Int)=0:=r5
   have r5:¬ st=[]:=fun e=>r5 (by rw [e];rfl)
   exact⟨[],[],[], .returned (vB false),⟨1,[]⟩,rfl,sk,trivial,by rw [hno (by simp [headB,argsN,leafB, *])];exact⟨rfl,rfl⟩⟩
  have r5:((st.map i64).length:Int)=0:=r5
  have r5:st=[]:=by rw [List.length_map] at r5;exact List.length_eq_zero_iff.1 (by omega)
  by_cases hk:ar.length=0
  rotate_left
  ·refine And.intro (fun h=>absurd (show((ar.map Cd.cells).length:Int)=0 from h) (by rw [List.length_map];omega)) (fun _=>?_)
   exact⟨[],[],[], .returned (vB false),⟨1,[]⟩,rfl,sk,trivial,by rw [hno (by simp [headB,argsN, *])];exact⟨rfl,rfl⟩⟩
  refine And.intro (fun _=>?_) (fun h=>absurd (show((ar.map Cd.cells).length:Int)=0 by rw [List.length_map];omega) h)
  refine And.intro (fun h=>absurd (show(0:Int)<0 from h) (by decide)) (fun _=>?_)
  refine⟨Nat × Nat,fun x=>[(1, .p (i64 p)),(2, .ptr 0 0 0),(143, .p (cds ar)),(144, .p (i64 ar.length)),(145, .p (i64 x.1))],fun x=>lfH x.2,fun x=>x.1≤ar.length∧x.2≤1000∧(ar.drop x.1).foldlM (fun l c=>condV d c l) x.2=R,fun x=>ar.length - x.1,?_,?_⟩
  ·exact⟨(0,m),⟨Nat.zero_le _,by simp only [];omega,hyes (by first | (simp [headB,argsN, *];done) | simp [headB,argsN,leafB, *])⟩,ent_of [] [] [] rfl ⟨rfl,⟨rfl,rfl⟩,rfl,congrArg (fun n:Nat=>i64 n) (List.length_map ..).symm,rfl,trivial⟩ ⟨⟨_,rfl,rfl,rfl,_,rfl,_,_,rfl,congrArg i64 (by omega),rfl⟩,trivial⟩ rfl⟩
  rintro⟨i,l⟩ ⟨i1,i2,i3⟩
  simp only [] at i1 i2 i3
  (first | refine brLt (fun j1=>?_) (fun j1=>?_) | refine brLe (fun j1=>?_) (fun j1=>?_) | refine brEq (fun j1=>?_) (fun j1=>?_))
  rotate_left
  ·have j1:¬ (i:Int)<(ar.length:Nat):=j1
   rw [List.drop_eq_nil_of_le (by omega),List.foldlM_nil] at i3
   exact⟨[],[],[], .returned (vB true),lfH l,rfl,sk,sk,by rw [← i3];exact⟨rfl,rfl⟩⟩
  have j1:(i:Int)<(ar.length:Nat):=j1
  have hi:i<ar.length:=by omega
  rw [dropD cd0 hi,List.foldlM_cons] at i3
  have hbx:=bigCs_mem hb4 (getD_memL cd0 hi)
  have hcell:=ccell hi
  rcases hx:ar.getD i cd0 with ⟨o',n',rl',vl',rf',st',ar'⟩
  rw [hx] at i3 hbx hcell
  refine⟨_,⟨by omega,(Cd.mk o' n' rl' vl' rf' st' ar').cells,hcell,rfl⟩,?_⟩
  refine⟨((p+1:Nat):Int),wrap_i64 (by omega) (by omega),?_⟩
  have hrec:=ih (.mk o' n' rl' vl' rf' st' ar') l (p+1) hbx (by omega) (by omega)
  rcases hv:condV d (.mk o' n' rl' vl' rf' st' ar') l with _ | l2
  ·rw [hv] at hrec i3
   refine hrec.holds.useT [] [] rfl (sk) (sk) fun e0 H0 hq=>?_
   obtain⟨rfl,rfl⟩:=hq
   refine⟨rfl,_,_,rfl,rfl,?_⟩
   exact⟨[],[],[], .returned (vB false),⟨1,[]⟩,rfl,sk,trivial,by rw [← i3];exact⟨rfl,rfl⟩⟩
  ·have hle:=condV_le _ _ _ _ hv
   rw [hv] at hrec i3
   refine hrec.holds.useT [] [] rfl (sk) (sk) fun e0 H0 hq=>?_
   obtain⟨rfl,rfl⟩:=hq
   refine⟨rfl,_,⟨2,[(0,lfO l2),(1,cO ((Cd.mk o' n' rl' vl' rf' st' ar').cells.map .p))]⟩,rfl,rfl,?_⟩
   refine⟨_,wrap_i64 (by omega) (by omega),?_⟩
   exact⟨(i+1,l2),⟨by simp only [];omega,by simp only [];omega,i3⟩,ent_of [] [] [] rfl (sk) (sk) rfl,by show ar.length - (i+1)<ar.length - i;omega⟩
 have o3:¬ op=3:=o3
 (first | refine brLt (fun o4=>?_) (fun o4=>?_) | refine brLe (fun o4=>?_) (fun o4=>?_) | refine brEq (fun o4=>?_) (fun o4=>?_))
 ·have o4:op=4:=o4
  by_cases r1:refB r=true
  rotate_left
  ·rw [Bool.not_eq_true] at r1
   rw [r1] at hRf
   refine hRf.eq rfl ?_
   exact⟨[],[],[], .returned (vB false),⟨1,[]⟩,rfl,sk,trivial,by rw [hno (by simp [headB,argsN,leafB, *])];exact⟨rfl,rfl⟩⟩
  rw [r1] at hRf
  refine hRf.eq rfl ?_
  by_cases r2:natB n=true
  rotate_left
  ·rw [Bool.not_eq_true] at r2
   rw [r2] at hNn
   refine hNn.eq rfl ?_
   exact⟨[],[],[], .returned (vB false),⟨1,[]⟩,rfl,sk,trivial,by rw [hno (by simp [headB,argsN,leafB, *])];exact⟨rfl,rfl⟩⟩
  rw [r2] at hNn
  refine hNn.eq rfl ?_
  refine And.intro (fun r3=>?_) (fun r3=>?_)
  rotate_left
  ·have r3:¬ rel=0:=r3
   exact⟨[],[],[], .returned (vB false),⟨1,[]⟩,rfl,sk,trivial,by rw [hno (by simp [headB,argsN,leafB, *])];exact⟨rfl,rfl⟩⟩
  have r3:rel=0:=r3
  refine And.intro (fun r4=>?_) (fun r4=>?_)
  rotate_left
  ·have r4:¬ val=0:=r4
   exact⟨[],[],[], .returned (vB false),⟨1,[]⟩,rfl,sk,trivial,by rw [hno (by simp [headB,argsN,leafB, *])];exact⟨rfl,rfl⟩⟩
  have r4:val=0:=r4
  refine And.intro (fun r5=>?_) (fun r5=>?_)
  rotate_left
  ·have r5:¬ ((st.map i64).length:Int)=0:=r5
   have r5:¬ st=[]:=fun e=>r5 (by rw [e];rfl)
   exact⟨[],[],[], .returned (vB false),⟨1,[]⟩,rfl,sk,trivial,by rw [hno (by simp [headB,argsN,leafB, *])];exact⟨rfl,rfl⟩⟩
  have r5:((st.map i64).length:Int)=0:=r5
  have r5:st=[]:=by rw [List.length_map] at r5;exact List.length_eq_zero_iff.1 (by omega)
  by_cases hk:ar.length=0
  rotate_left
  ·refine And.intro (fun h=>absurd (show((ar.map Cd.cells).length:Int)=0 from h) (by rw [List.length_map];omega)) (fun _=>?_)
   exact⟨[],[],[], .returned (vB false),⟨1,[]⟩,rfl,sk,trivial,by rw [hno (by simp [headB,argsN, *])];exact⟨rfl,rfl⟩⟩
  refine And.intro (fun _=>?_) (fun h=>absurd (show((ar.map Cd.cells).length:Int)=0 by rw [List.length_map];omega) h)
  refine And.intro (fun h=>absurd (show(0:Int)<0 from h) (by decide)) (fun _=>?_)
  refine⟨Nat × Nat,fun x=>[(1, .p (i64 p)),(2, .ptr 0 0 0),(143, .p (cds ar)),(144, .p (i64 ar.length)),(145, .p (i64 x.1))],fun x=>lfH x.2,fun x=>x.1≤ar.length∧x.2≤1000∧(ar.drop x.1).foldlM (fun l c=>condV d c l) x.2=R,fun x=>ar.length - x.1,?_,?_⟩
  ·exact⟨(0,m),⟨Nat.zero_le _,by simp only [];omega,hyes (by first | (simp [headB,argsN, *];done) | simp [headB,argsN,leafB, *])⟩,ent_of [] [] [] rfl ⟨rfl,⟨rfl,rfl⟩,rfl,congrArg (fun n:Nat=>i64 n) (List.length_map ..).symm,rfl,trivial⟩ ⟨⟨_,rfl,rfl,rfl,_,rfl,_,_,rfl,congrArg i64 (by omega),rfl⟩,trivial⟩ rfl⟩
  rintro⟨i,l⟩ ⟨i1,i2,i3⟩
  simp only [] at i1 i2 i3
  (first | refine brLt (fun j1=>?_) (fun j1=>?_) | refine brLe (fun j1=>?_) (fun j1=>?_) | refine brEq (fun j1=>?_) (fun j1=>?_))
  rotate_left
  ·have j1:¬ (i:Int)<(ar.length:Nat):=j1
   rw [List.drop_eq_nil_of_le (by omega),List.foldlM_nil] at i3
   exact⟨[],[],[], .returned (vB true),lfH l,rfl,sk,sk,by rw [← i3];exact⟨rfl,rfl⟩⟩
  have j1:(i:Int)<(ar.length:Nat):=j1
  have hi:i<ar.length:=by omega
  rw [dropD cd0 hi,List.foldlM_cons] at i3
  have hbx:=bigCs_mem hb4 (getD_memL cd0 hi)
  have hcell:=ccell hi
  rcases hx:ar.getD i cd0 with ⟨o',n',rl',vl',rf',st',ar'⟩
  rw [hx] at i3 hbx hcell
  refine⟨_,⟨by omega,(Cd.mk o' n' rl' vl' rf' st' ar').cells,hcell,rfl⟩,?_⟩
  refine⟨((p+1:Nat):Int),wrap_i64 (by omega) (by omega),?_⟩
  have hrec:=ih (.mk o' n' rl' vl' rf' st' ar') l (p+1) hbx (by omega) (by omega)
  rcases hv:condV d (.mk o' n' rl' vl' rf' st' ar') l with _ | l2
  ·rw [hv] at hrec i3
   refine hrec.holds.useT [] [] rfl (sk) (sk) fun e0 H0 hq=>?_
   obtain⟨rfl,rfl⟩:=hq
   refine⟨rfl,_,_,rfl,rfl,?_⟩
   exact⟨[],[],[], .returned (vB false),⟨1,[]⟩,rfl,sk,trivial,by rw [← i3];exact⟨rfl,rfl⟩⟩
  ·have hle:=condV_le _ _ _ _ hv
   rw [hv] at hrec i3
   refine hrec.holds.useT [] [] rfl (sk) (sk) fun e0 H0 hq=>?_
   obtain⟨rfl,rfl⟩:=hq
   refine⟨rfl,_,⟨2,[(0,lfO l2),(1,cO ((Cd.mk o' n' rl' vl' rf' st' ar').cells.map .p))]⟩,rfl,rfl,?_⟩
   refine⟨_,wrap_i64 (by omega) (by omega),?_⟩
   exact⟨(i+1,l2),⟨by simp only [];omega,by simp only [];omega,i3⟩,ent_of [] [] [] rfl (sk) (sk) rfl,by show ar.length - (i+1)<ar.length - i;omega⟩
 have o4:¬ op=4:=o4
 (first | refine brLt (fun o5=>?_) (fun o5=>?_) | refine brLe (fun o5=>?_) (fun o5=>?_) | refine brEq (fun o5=>?_) (fun o5=>?_))
 ·have o5:op=5:=o5
  by_cases r1:refB r=true
  rotate_left
  ·rw [Bool.not_eq_true] at r1
   rw [r1] at hRf
   refine hRf.eq rfl ?_
   exact⟨[],[],[], .returned (vB false),⟨1,[]⟩,rfl,sk,trivial,by rw [hno (by simp [headB,argsN,leafB, *])];exact⟨rfl,rfl⟩⟩
  rw [r1] at hRf
  refine hRf.eq rfl ?_
  refine And.intro (fun r2=>?_) (fun r2=>?_)
  rotate_left
  ·have r2:¬ n=0:=r2
   exact⟨[],[],[], .returned (vB false),⟨1,[]⟩,rfl,sk,trivial,by rw [hno (by simp [headB,argsN,leafB, *])];exact⟨rfl,rfl⟩⟩
  have r2:n=0:=r2
  refine And.intro (fun r3=>?_) (fun r3=>?_)
  rotate_left
  ·have r3:¬ rel=0:=r3
   exact⟨[],[],[], .returned (vB false),⟨1,[]⟩,rfl,sk,trivial,by rw [hno (by simp [headB,argsN,leafB, *])];exact⟨rfl,rfl⟩⟩
  have r3:rel=0:=r3
  refine And.intro (fun r4=>?_) (fun r4=>?_)
  rotate_left
  ·have r4:¬ val=0:=r4
   exact⟨[],[],[], .returned (vB false),⟨1,[]⟩,rfl,sk,trivial,by rw [hno (by simp [headB,argsN,leafB, *])];exact⟨rfl,rfl⟩⟩
  have r4:val=0:=r4
  by_cases r5:setB st=true
  rotate_left
  ·rw [Bool.not_eq_true] at r5
   rw [r5] at hS
   refine hS.eq rfl ?_
   exact⟨[],[],[], .returned (vB false),⟨1,[]⟩,rfl,sk,trivial,by rw [hno (by simp [headB,argsN,leafB, *])];exact⟨rfl,rfl⟩⟩
  rw [r5] at hS
  refine hS.eq rfl ?_
  by_cases hk:ar.length=0
  rotate_left
  ·refine And.intro (fun h=>absurd (show((ar.map Cd.cells).length:Int)=0 from h) (by rw [List.length_map];omega)) (fun _=>?_)
   exact⟨[],[],[], .returned (vB false),⟨1,[]⟩,rfl,sk,trivial,by rw [hno (by simp [headB,argsN, *])];exact⟨rfl,rfl⟩⟩
  refine And.intro (fun _=>?_) (fun h=>absurd (show((ar.map Cd.cells).length:Int)=0 by rw [List.length_map];omega) h)
  refine And.intro (fun h=>absurd (show(0:Int)<0 from h) (by decide)) (fun _=>?_)
  refine⟨Nat × Nat,fun x=>[(1, .p (i64 p)),(2, .ptr 0 0 0),(143, .p (cds ar)),(144, .p (i64 ar.length)),(145, .p (i64 x.1))],fun x=>lfH x.2,fun x=>x.1≤ar.length∧x.2≤1000∧(ar.drop x.1).foldlM (fun l c=>condV d c l) x.2=R,fun x=>ar.length - x.1,?_,?_⟩
  ·exact⟨(0,m),⟨Nat.zero_le _,by simp only [];omega,hyes (by first | (simp [headB,argsN, *];done) | simp [headB,argsN,leafB, *])⟩,ent_of [] [] [] rfl ⟨rfl,⟨rfl,rfl⟩,rfl,congrArg (fun n:Nat=>i64 n) (List.length_map ..).symm,rfl,trivial⟩ ⟨⟨_,rfl,rfl,rfl,_,rfl,_,_,rfl,congrArg i64 (by omega),rfl⟩,trivial⟩ rfl⟩
  rintro⟨i,l⟩ ⟨i1,i2,i3⟩
  simp only [] at i1 i2 i3
  (first | refine brLt (fun j1=>?_) (fun j1=>?_) | refine brLe (fun j1=>?_) (fun j1=>?_) | refine brEq (fun j1=>?_) (fun j1=>?_))
  rotate_left
  ·have j1:¬ (i:Int)<(ar.length:Nat):=j1
   rw [List.drop_eq_nil_of_le (by omega),List.foldlM_nil] at i3
   exact⟨[],[],[], .returned (vB true),lfH l,rfl,sk,sk,by rw [← i3];exact⟨rfl,rfl⟩⟩
  have j1:(i:Int)<(ar.length:Nat):=j1
  have hi:i<ar.length:=by omega
  rw [dropD cd0 hi,List.foldlM_cons] at i3
  have hbx:=bigCs_mem hb4 (getD_memL cd0 hi)
  have hcell:=ccell hi
  rcases hx:ar.getD i cd0 with ⟨o',n',rl',vl',rf',st',ar'⟩
  rw [hx] at i3 hbx hcell
  refine⟨_,⟨by omega,(Cd.mk o' n' rl' vl' rf' st' ar').cells,hcell,rfl⟩,?_⟩
  refine⟨((p+1:Nat):Int),wrap_i64 (by omega) (by omega),?_⟩
  have hrec:=ih (.mk o' n' rl' vl' rf' st' ar') l (p+1) hbx (by omega) (by omega)
  rcases hv:condV d (.mk o' n' rl' vl' rf' st' ar') l with _ | l2
  ·rw [hv] at hrec i3
   refine hrec.holds.useT [] [] rfl (sk) (sk) fun e0 H0 hq=>?_
   obtain⟨rfl,rfl⟩:=hq
   refine⟨rfl,_,_,rfl,rfl,?_⟩
   exact⟨[],[],[], .returned (vB false),⟨1,[]⟩,rfl,sk,trivial,by rw [← i3];exact⟨rfl,rfl⟩⟩
  ·have hle:=condV_le _ _ _ _ hv
   rw [hv] at hrec i3
   refine hrec.holds.useT [] [] rfl (sk) (sk) fun e0 H0 hq=>?_
   obtain⟨rfl,rfl⟩:=hq
   refine⟨rfl,_,⟨2,[(0,lfO l2),(1,cO ((Cd.mk o' n' rl' vl' rf' st' ar').cells.map .p))]⟩,rfl,rfl,?_⟩
   refine⟨_,wrap_i64 (by omega) (by omega),?_⟩
   exact⟨(i+1,l2),⟨by simp only [];omega,by simp only [];omega,i3⟩,ent_of [] [] [] rfl (sk) (sk) rfl,by show ar.length - (i+1)<ar.length - i;omega⟩
 have o5:¬ op=5:=o5
 (first | refine brLt (fun o6=>?_) (fun o6=>?_) | refine brLe (fun o6=>?_) (fun o6=>?_) | refine brEq (fun o6=>?_) (fun o6=>?_))
 ·have o6:op=6:=o6
  by_cases r1:refB r=true
  rotate_left
  ·rw [Bool.not_eq_true] at r1
   rw [r1] at hRf
   refine hRf.eq rfl ?_
   exact⟨[],[],[], .returned (vB false),⟨1,[]⟩,rfl,sk,trivial,by rw [hno (by simp [headB,argsN,leafB, *])];exact⟨rfl,rfl⟩⟩
  rw [r1] at hRf
  refine hRf.eq rfl ?_
  refine And.intro (fun r2=>?_) (fun r2=>?_)
  rotate_left
  ·have r2:¬ r.mode=3:=r2
   exact⟨[],[],[], .returned (vB false),⟨1,[]⟩,rfl,sk,trivial,by rw [hno (by simp [headB,argsN,leafB, *])];exact⟨rfl,rfl⟩⟩
  have r2:r.mode=3:=r2
  by_cases r3:natB n=true
  rotate_left
  ·rw [Bool.not_eq_true] at r3
   rw [r3] at hNn
   refine hNn.eq rfl ?_
   exact⟨[],[],[], .returned (vB false),⟨1,[]⟩,rfl,sk,trivial,by rw [hno (by simp [headB,argsN,leafB, *])];exact⟨rfl,rfl⟩⟩
  rw [r3] at hNn
  refine hNn.eq rfl ?_
  by_cases r4:natB val=true
  rotate_left
  ·rw [Bool.not_eq_true] at r4
   rw [r4] at hNv
   refine hNv.eq rfl ?_
   exact⟨[],[],[], .returned (vB false),⟨1,[]⟩,rfl,sk,trivial,by rw [hno (by simp [headB,argsN,leafB, *])];exact⟨rfl,rfl⟩⟩
  rw [r4] at hNv
  refine hNv.eq rfl ?_
  refine And.intro (fun r5=>?_) (fun r5=>?_)
  ·have r5:rel<1:=r5
   have r5:¬ 1≤rel:=by omega
   exact⟨[],[],[], .returned (vB false),⟨1,[]⟩,rfl,sk,trivial,by rw [hno (by simp [headB,argsN,leafB, *])];exact⟨rfl,rfl⟩⟩
  have r5:¬ rel<1:=r5
  have r5:1≤rel:=by omega
  refine And.intro (fun r6=>?_) (fun r6=>?_)
  ·have r6:(4:Int)<rel:=r6
   have r6:¬ rel≤4:=by omega
   exact⟨[],[],[], .returned (vB false),⟨1,[]⟩,rfl,sk,trivial,by rw [hno (by simp [headB,argsN,leafB, *])];exact⟨rfl,rfl⟩⟩
  have r6:¬ (4:Int)<rel:=r6
  have r6:rel≤4:=by omega
  refine And.intro (fun r9=>?_) (fun r9=>?_)
  rotate_left
  ·have r9:¬ ((st.map i64).length:Int)=0:=r9
   have r9:¬ st=[]:=fun e=>r9 (by rw [e];rfl)
   exact⟨[],[],[], .returned (vB false),⟨1,[]⟩,rfl,sk,trivial,by rw [hno (by simp [headB,argsN,leafB, *])];exact⟨rfl,rfl⟩⟩
  have r9:((st.map i64).length:Int)=0:=r9
  have r9:st=[]:=by rw [List.length_map] at r9;exact List.length_eq_zero_iff.1 (by omega)
  by_cases hk:ar.length=0
  rotate_left
  ·refine And.intro (fun h=>absurd (show((ar.map Cd.cells).length:Int)=0 from h) (by rw [List.length_map];omega)) (fun _=>?_)
   exact⟨[],[],[], .returned (vB false),⟨1,[]⟩,rfl,sk,trivial,by rw [hno (by simp [headB,argsN, *])];exact⟨rfl,rfl⟩⟩
  refine And.intro (fun _=>?_) (fun h=>absurd (show((ar.map Cd.cells).length:Int)=0 by rw [List.length_map];omega) h)
  refine And.intro (fun h=>absurd (show(0:Int)<0 from h) (by decide)) (fun _=>?_)
  refine⟨Nat × Nat,fun x=>[(1, .p (i64 p)),(2, .ptr 0 0 0),(143, .p (cds ar)),(144, .p (i64 ar.length)),(145, .p (i64 x.1))],fun x=>lfH x.2,fun x=>x.1≤ar.length∧x.2≤1000∧(ar.drop x.1).foldlM (fun l c=>condV d c l) x.2=R,fun x=>ar.length - x.1,?_,?_⟩
  ·exact⟨(0,m),⟨Nat.zero_le _,by simp only [];omega,hyes (by first | (simp [headB,argsN, *];done) | simp [headB,argsN,leafB, *])⟩,ent_of [] [] [] rfl ⟨rfl,⟨rfl,rfl⟩,rfl,congrArg (fun n:Nat=>i64 n) (List.length_map ..).symm,rfl,trivial⟩ ⟨⟨_,rfl,rfl,rfl,_,rfl,_,_,rfl,congrArg i64 (by omega),rfl⟩,trivial⟩ rfl⟩
  rintro⟨i,l⟩ ⟨i1,i2,i3⟩
  simp only [] at i1 i2 i3
  (first | refine brLt (fun j1=>?_) (fun j1=>?_) | refine brLe (fun j1=>?_) (fun j1=>?_) | refine brEq (fun j1=>?_) (fun j1=>?_))
  rotate_left
  ·have j1:¬ (i:Int)<(ar.length:Nat):=j1
   rw [List.drop_eq_nil_of_le (by omega),List.foldlM_nil] at i3
   exact⟨[],[],[], .returned (vB true),lfH l,rfl,sk,sk,by rw [← i3];exact⟨rfl,rfl⟩⟩
  have j1:(i:Int)<(ar.length:Nat):=j1
  have hi:i<ar.length:=by omega
  rw [dropD cd0 hi,List.foldlM_cons] at i3
  have hbx:=bigCs_mem hb4 (getD_memL cd0 hi)
  have hcell:=ccell hi
  rcases hx:ar.getD i cd0 with ⟨o',n',rl',vl',rf',st',ar'⟩
  rw [hx] at i3 hbx hcell
  refine⟨_,⟨by omega,(Cd.mk o' n' rl' vl' rf' st' ar').cells,hcell,rfl⟩,?_⟩
  refine⟨((p+1:Nat):Int),wrap_i64 (by omega) (by omega),?_⟩
  have hrec:=ih (.mk o' n' rl' vl' rf' st' ar') l (p+1) hbx (by omega) (by omega)
  rcases hv:condV d (.mk o' n' rl' vl' rf' st' ar') l with _ | l2
  ·rw [hv] at hrec i3
   refine hrec.holds.useT [] [] rfl (sk) (sk) fun e0 H0 hq=>?_
   obtain⟨rfl,rfl⟩:=hq
   refine⟨rfl,_,_,rfl,rfl,?_⟩
   exact⟨[],[],[], .returned (vB false),⟨1,[]⟩,rfl,sk,trivial,by rw [← i3];exact⟨rfl,rfl⟩⟩
  ·have hle:=condV_le _ _ _ _ hv
   rw [hv] at hrec i3
   refine hrec.holds.useT [] [] rfl (sk) (sk) fun e0 H0 hq=>?_
   obtain⟨rfl,rfl⟩:=hq
   refine⟨rfl,_,⟨2,[(0,lfO l2),(1,cO ((Cd.mk o' n' rl' vl' rf' st' ar').cells.map .p))]⟩,rfl,rfl,?_⟩
   refine⟨_,wrap_i64 (by omega) (by omega),?_⟩
   exact⟨(i+1,l2),⟨by simp only [];omega,by simp only [];omega,i3⟩,ent_of [] [] [] rfl (sk) (sk) rfl,by show ar.length - (i+1)<ar.length - i;omega⟩
 have o6:¬ op=6:=o6
 (first | refine brLt (fun o7=>?_) (fun o7=>?_) | refine brLe (fun o7=>?_) (fun o7=>?_) | refine brEq (fun o7=>?_) (fun o7=>?_))
 ·have o7:op=7:=o7
  by_cases hk:ar.length=1
  rotate_left
  ·refine And.intro (fun h=>absurd (show((ar.map Cd.cells).length:Int)=1 from h) (by rw [List.length_map];omega)) (fun _=>?_)
   exact⟨[],[],[], .returned (vB false),⟨1,[]⟩,rfl,sk,trivial,by rw [hno (by simp [headB,argsN, *])];exact⟨rfl,rfl⟩⟩
  refine And.intro (fun _=>?_) (fun h=>absurd (show((ar.map Cd.cells).length:Int)=1 by rw [List.length_map];omega) h)
  refine And.intro (fun _=>?_) (fun h=>absurd (show(0:Int)<1 by decide) h)
  by_cases hp:plainB n rel val r st=true
  rotate_left
  ·rw [Bool.not_eq_true] at hp
   rw [hp] at hP
   refine hP.eq rfl ?_
   exact⟨[],[],[], .returned (vB false),⟨1,[]⟩,rfl,sk,trivial,by rw [hno (by simp [headB,argsN, *])];exact⟨rfl,rfl⟩⟩
  rw [hp] at hP
  refine hP.eq rfl ?_
  refine⟨Nat × Nat,fun x=>[(1, .p (i64 p)),(2, .ptr 0 0 0),(143, .p (cds ar)),(144, .p (i64 ar.length)),(145, .p (i64 x.1))],fun x=>lfH x.2,fun x=>x.1≤ar.length∧x.2≤1000∧(ar.drop x.1).foldlM (fun l c=>condV d c l) x.2=R,fun x=>ar.length - x.1,?_,?_⟩
  ·exact⟨(0,m),⟨Nat.zero_le _,by simp only [];omega,hyes (by first | (simp [headB,argsN, *];done) | simp [headB,argsN,leafB, *])⟩,ent_of [] [] [] rfl ⟨rfl,⟨rfl,rfl⟩,rfl,congrArg (fun n:Nat=>i64 n) (List.length_map ..).symm,rfl,trivial⟩ ⟨⟨_,rfl,rfl,rfl,_,rfl,_,_,rfl,congrArg i64 (by omega),rfl⟩,trivial⟩ rfl⟩
  rintro⟨i,l⟩ ⟨i1,i2,i3⟩
  simp only [] at i1 i2 i3
  (first | refine brLt (fun j1=>?_) (fun j1=>?_) | refine brLe (fun j1=>?_) (fun j1=>?_) | refine brEq (fun j1=>?_) (fun j1=>?_))
  rotate_left
  ·have j1:¬ (i:Int)<(ar.length:Nat):=j1
   rw [List.drop_eq_nil_of_le (by omega),List.foldlM_nil] at i3
   exact⟨[],[],[], .returned (vB true),lfH l,rfl,sk,sk,by rw [← i3];exact⟨rfl,rfl⟩⟩
  have j1:(i:Int)<(ar.length:Nat):=j1
  have hi:i<ar.length:=by omega
  rw [dropD cd0 hi,List.foldlM_cons] at i3
  have hbx:=bigCs_mem hb4 (getD_memL cd0 hi)
  have hcell:=ccell hi
  rcases hx:ar.getD i cd0 with ⟨o',n',rl',vl',rf',st',ar'⟩
  rw [hx] at i3 hbx hcell
  refine⟨_,⟨by omega,(Cd.mk o' n' rl' vl' rf' st' ar').cells,hcell,rfl⟩,?_⟩
  refine⟨((p+1:Nat):Int),wrap_i64 (by omega) (by omega),?_⟩
  have hrec:=ih (.mk o' n' rl' vl' rf' st' ar') l (p+1) hbx (by omega) (by omega)
  rcases hv:condV d (.mk o' n' rl' vl' rf' st' ar') l with _ | l2
  ·rw [hv] at hrec i3
   refine hrec.holds.useT [] [] rfl (sk) (sk) fun e0 H0 hq=>?_
   obtain⟨rfl,rfl⟩:=hq
   refine⟨rfl,_,_,rfl,rfl,?_⟩
   exact⟨[],[],[], .returned (vB false),⟨1,[]⟩,rfl,sk,trivial,by rw [← i3];exact⟨rfl,rfl⟩⟩
  ·have hle:=condV_le _ _ _ _ hv
   rw [hv] at hrec i3
   refine hrec.holds.useT [] [] rfl (sk) (sk) fun e0 H0 hq=>?_
   obtain⟨rfl,rfl⟩:=hq
   refine⟨rfl,_,⟨2,[(0,lfO l2),(1,cO ((Cd.mk o' n' rl' vl' rf' st' ar').cells.map .p))]⟩,rfl,rfl,?_⟩
   refine⟨_,wrap_i64 (by omega) (by omega),?_⟩
   exact⟨(i+1,l2),⟨by simp only [];omega,by simp only [];omega,i3⟩,ent_of [] [] [] rfl (sk) (sk) rfl,by show ar.length - (i+1)<ar.length - i;omega⟩
 have o7:¬ op=7:=o7
 (first | refine brLt (fun o8=>?_) (fun o8=>?_) | refine brLe (fun o8=>?_) (fun o8=>?_) | refine brEq (fun o8=>?_) (fun o8=>?_))
 ·have o8:op=8:=o8
  by_cases hk:ar.length=2
  rotate_left
  ·refine And.intro (fun h=>absurd (show((ar.map Cd.cells).length:Int)=2 from h) (by rw [List.length_map];omega)) (fun _=>?_)
   exact⟨[],[],[], .returned (vB false),⟨1,[]⟩,rfl,sk,trivial,by rw [hno (by simp [headB,argsN, *])];exact⟨rfl,rfl⟩⟩
  refine And.intro (fun _=>?_) (fun h=>absurd (show((ar.map Cd.cells).length:Int)=2 by rw [List.length_map];omega) h)
  refine And.intro (fun _=>?_) (fun h=>absurd (show(0:Int)<2 by decide) h)
  by_cases hp:plainB n rel val r st=true
  rotate_left
  ·rw [Bool.not_eq_true] at hp
   rw [hp] at hP
   refine hP.eq rfl ?_
   exact⟨[],[],[], .returned (vB false),⟨1,[]⟩,rfl,sk,trivial,by rw [hno (by simp [headB,argsN, *])];exact⟨rfl,rfl⟩⟩
  rw [hp] at hP
  refine hP.eq rfl ?_
  refine⟨Nat × Nat,fun x=>[(1, .p (i64 p)),(2, .ptr 0 0 0),(143, .p (cds ar)),(144, .p (i64 ar.length)),(145, .p (i64 x.1))],fun x=>lfH x.2,fun x=>x.1≤ar.length∧x.2≤1000∧(ar.drop x.1).foldlM (fun l c=>condV d c l) x.2=R,fun x=>ar.length - x.1,?_,?_⟩
  ·exact⟨(0,m),⟨Nat.zero_le _,by simp only [];omega,hyes (by first | (simp [headB,argsN, *];done) | simp [headB,argsN,leafB, *])⟩,ent_of [] [] [] rfl ⟨rfl,⟨rfl,rfl⟩,rfl,congrArg (fun n:Nat=>i64 n) (List.length_map ..).symm,rfl,trivial⟩ ⟨⟨_,rfl,rfl,rfl,_,rfl,_,_,rfl,congrArg i64 (by omega),rfl⟩,trivial⟩ rfl⟩
  rintro⟨i,l⟩ ⟨i1,i2,i3⟩
  simp only [] at i1 i2 i3
  (first | refine brLt (fun j1=>?_) (fun j1=>?_) | refine brLe (fun j1=>?_) (fun j1=>?_) | refine brEq (fun j1=>?_) (fun j1=>?_))
  rotate_left
  ·have j1:¬ (i:Int)<(ar.length:Nat):=j1
   rw [List.drop_eq_nil_of_le (by omega),List.foldlM_nil] at i3
   exact⟨[],[],[], .returned (vB true),lfH l,rfl,sk,sk,by rw [← i3];exact⟨rfl,rfl⟩⟩
  have j1:(i:Int)<(ar.length:Nat):=j1
  have hi:i<ar.length:=by omega
  rw [dropD cd0 hi,List.foldlM_cons] at i3
  have hbx:=bigCs_mem hb4 (getD_memL cd0 hi)
  have hcell:=ccell hi
  rcases hx:ar.getD i cd0 with ⟨o',n',rl',vl',rf',st',ar'⟩
  rw [hx] at i3 hbx hcell
  refine⟨_,⟨by omega,(Cd.mk o' n' rl' vl' rf' st' ar').cells,hcell,rfl⟩,?_⟩
  refine⟨((p+1:Nat):Int),wrap_i64 (by omega) (by omega),?_⟩
  have hrec:=ih (.mk o' n' rl' vl' rf' st' ar') l (p+1) hbx (by omega) (by omega)
  rcases hv:condV d (.mk o' n' rl' vl' rf' st' ar') l with _ | l2
  ·rw [hv] at hrec i3
   refine hrec.holds.useT [] [] rfl (sk) (sk) fun e0 H0 hq=>?_
   obtain⟨rfl,rfl⟩:=hq
   refine⟨rfl,_,_,rfl,rfl,?_⟩
   exact⟨[],[],[], .returned (vB false),⟨1,[]⟩,rfl,sk,trivial,by rw [← i3];exact⟨rfl,rfl⟩⟩
  ·have hle:=condV_le _ _ _ _ hv
   rw [hv] at hrec i3
   refine hrec.holds.useT [] [] rfl (sk) (sk) fun e0 H0 hq=>?_
   obtain⟨rfl,rfl⟩:=hq
   refine⟨rfl,_,⟨2,[(0,lfO l2),(1,cO ((Cd.mk o' n' rl' vl' rf' st' ar').cells.map .p))]⟩,rfl,rfl,?_⟩
   refine⟨_,wrap_i64 (by omega) (by omega),?_⟩
   exact⟨(i+1,l2),⟨by simp only [];omega,by simp only [];omega,i3⟩,ent_of [] [] [] rfl (sk) (sk) rfl,by show ar.length - (i+1)<ar.length - i;omega⟩
 have o8:¬ op=8:=o8
 (first | refine brLt (fun o9=>?_) (fun o9=>?_) | refine brLe (fun o9=>?_) (fun o9=>?_) | refine brEq (fun o9=>?_) (fun o9=>?_))
 ·have o9:op=9:=o9
  by_cases hk:ar.length=2
  rotate_left
  ·refine And.intro (fun h=>absurd (show((ar.map Cd.cells).length:Int)=2 from h) (by rw [List.length_map];omega)) (fun _=>?_)
   exact⟨[],[],[], .returned (vB false),⟨1,[]⟩,rfl,sk,trivial,by rw [hno (by simp [headB,argsN, *])];exact⟨rfl,rfl⟩⟩
  refine And.intro (fun _=>?_) (fun h=>absurd (show((ar.map Cd.cells).length:Int)=2 by rw [List.length_map];omega) h)
  refine And.intro (fun _=>?_) (fun h=>absurd (show(0:Int)<2 by decide) h)
  by_cases hp:plainB n rel val r st=true
  rotate_left
  ·rw [Bool.not_eq_true] at hp
   rw [hp] at hP
   refine hP.eq rfl ?_
   exact⟨[],[],[], .returned (vB false),⟨1,[]⟩,rfl,sk,trivial,by rw [hno (by simp [headB,argsN, *])];exact⟨rfl,rfl⟩⟩
  rw [hp] at hP
  refine hP.eq rfl ?_
  refine⟨Nat × Nat,fun x=>[(1, .p (i64 p)),(2, .ptr 0 0 0),(143, .p (cds ar)),(144, .p (i64 ar.length)),(145, .p (i64 x.1))],fun x=>lfH x.2,fun x=>x.1≤ar.length∧x.2≤1000∧(ar.drop x.1).foldlM (fun l c=>condV d c l) x.2=R,fun x=>ar.length - x.1,?_,?_⟩
  ·exact⟨(0,m),⟨Nat.zero_le _,by simp only [];omega,hyes (by first | (simp [headB,argsN, *];done) | simp [headB,argsN,leafB, *])⟩,ent_of [] [] [] rfl ⟨rfl,⟨rfl,rfl⟩,rfl,congrArg (fun n:Nat=>i64 n) (List.length_map ..).symm,rfl,trivial⟩ ⟨⟨_,rfl,rfl,rfl,_,rfl,_,_,rfl,congrArg i64 (by omega),rfl⟩,trivial⟩ rfl⟩
  rintro⟨i,l⟩ ⟨i1,i2,i3⟩
  simp only [] at i1 i2 i3
  (first | refine brLt (fun j1=>?_) (fun j1=>?_) | refine brLe (fun j1=>?_) (fun j1=>?_) | refine brEq (fun j1=>?_) (fun j1=>?_))
  rotate_left
  ·have j1:¬ (i:Int)<(ar.length:Nat):=j1
   rw [List.drop_eq_nil_of_le (by omega),List.foldlM_nil] at i3
   exact⟨[],[],[], .returned (vB true),lfH l,rfl,sk,sk,by rw [← i3];exact⟨rfl,rfl⟩⟩
  have j1:(i:Int)<(ar.length:Nat):=j1
  have hi:i<ar.length:=by omega
  rw [dropD cd0 hi,List.foldlM_cons] at i3
  have hbx:=bigCs_mem hb4 (getD_memL cd0 hi)
  have hcell:=ccell hi
  rcases hx:ar.getD i cd0 with ⟨o',n',rl',vl',rf',st',ar'⟩
  rw [hx] at i3 hbx hcell
  refine⟨_,⟨by omega,(Cd.mk o' n' rl' vl' rf' st' ar').cells,hcell,rfl⟩,?_⟩
  refine⟨((p+1:Nat):Int),wrap_i64 (by omega) (by omega),?_⟩
  have hrec:=ih (.mk o' n' rl' vl' rf' st' ar') l (p+1) hbx (by omega) (by omega)
  rcases hv:condV d (.mk o' n' rl' vl' rf' st' ar') l with _ | l2
  ·rw [hv] at hrec i3
   refine hrec.holds.useT [] [] rfl (sk) (sk) fun e0 H0 hq=>?_
   obtain⟨rfl,rfl⟩:=hq
   refine⟨rfl,_,_,rfl,rfl,?_⟩
   exact⟨[],[],[], .returned (vB false),⟨1,[]⟩,rfl,sk,trivial,by rw [← i3];exact⟨rfl,rfl⟩⟩
  ·have hle:=condV_le _ _ _ _ hv
   rw [hv] at hrec i3
   refine hrec.holds.useT [] [] rfl (sk) (sk) fun e0 H0 hq=>?_
   obtain⟨rfl,rfl⟩:=hq
   refine⟨rfl,_,⟨2,[(0,lfO l2),(1,cO ((Cd.mk o' n' rl' vl' rf' st' ar').cells.map .p))]⟩,rfl,rfl,?_⟩
   refine⟨_,wrap_i64 (by omega) (by omega),?_⟩
   exact⟨(i+1,l2),⟨by simp only [];omega,by simp only [];omega,i3⟩,ent_of [] [] [] rfl (sk) (sk) rfl,by show ar.length - (i+1)<ar.length - i;omega⟩
 have o9:¬ op=9:=o9
 exact⟨[],[],[], .returned (vB false),⟨1,[]⟩,rfl,sk,trivial,by rw [hno (by simp [headB,argsN,leafB, *])];exact⟨rfl,rfl⟩⟩
theorem condv_all:∀ d,d≤8→CvOK d
 | 0,_=>by
  rintro⟨op,n,rel,val,r,st,ar⟩ left p hb hl hp9
  generalize hR:condV 0 (.mk op n rel val r st ar) left=R
  rw [condV] at hR
  refine holdsN_of_vc Tryz.func108 rfl rfl rfl ?_
  refine⟨(left:Int) - 1,wrap_i64 (by omega) (by omega),?_⟩
  (first | refine brLt (fun h1=>?_) (fun h1=>?_) | refine brLe (fun h1=>?_) (fun h1=>?_) | refine brEq (fun h1=>?_) (fun h1=>?_))
  ·exact⟨[],[],[], .returned (vB false),⟨1,[]⟩,rfl,sk,trivial,by rw [← hR];exact⟨rfl,rfl⟩⟩
  ·refine And.intro (fun _=>?_) (fun h=>absurd (show(8:Int)<(p:Nat) by omega) h)
   exact⟨[],[],[], .returned (vB false),⟨1,[]⟩,rfl,sk,trivial,by rw [← hR];exact⟨rfl,rfl⟩⟩
 | d+1,h=>condv_h d (condv_all d (by omega))
set_option maxHeartbeats 4000000
def wgtB (n:Int):Bool:=decide (-9999≤n) && decide (n≤9999)
def numsB (l:List Int):Bool:=decide (1≤l.length) && decide (l.length≤8) && l.all wgtB
def noneB:Cd→Bool
 | .mk op n rel val r st ar=>decide (op=0) && plainB n rel val r st && decide (ar.length=0)
def casesT:List Cs→Bool
 | []=>true
 | [c]=>numsB c.nums && noneB c.cond
 | c::d::r=>numsB c.nums && (condV 8 c.cond 30).isSome && casesT (d::r)
def casesB (l:List Cs):Bool:=decide (1≤l.length) && decide (l.length≤12) && casesT l
structure BigL (l:List Cs):Prop where
 len:l.length≤9223372036854775807
 cond:∀ c∈l,BigC c.cond
 nums:∀ c∈l,c.nums.length≤9223372036854775807
def cs0:Cs:=⟨cd0,[]⟩
theorem scell {l:List Cs} {k:Nat} (h:k<l.length):(l.map Cs.cells)[k]?=some (l.getD k cs0).cells:=map_at cs0 h
theorem casesT_step {l:List Cs} {i:Nat} (h:i+1<l.length):casesT (l.drop i)=(numsB (l.getD i cs0).nums && (condV 8 (l.getD i cs0).cond 30).isSome && casesT (l.drop (i+1))):=by
 rw [dropD cs0 (by omega:i<l.length),dropD cs0 h,casesT]
theorem casesT_last {l:List Cs} {i:Nat} (h:i+1=l.length):casesT (l.drop i)=(numsB (l.getD i cs0).nums && noneB (l.getD i cs0).cond):=by
 rw [dropD cs0 (by omega:i<l.length),List.drop_eq_nil_of_le (by omega),casesT]
def kO (c:Cs):AObj:=⟨TCase,false, .bx (c.cells.map .p)⟩
theorem cases_c (l:List Cs) (hb:BigL l):Pure cx 80 [css l] (·=.ret [.bool (casesB l)]):=by
 refine pure_of_vc Tryz.func80 rfl rfl rfl ?_
 have hll:=hb.len
 have hm:(l.map Cs.cells).length=l.length:=List.length_map ..
 (first | refine brLt (fun h1=>?_) (fun h1=>?_) | refine brLe (fun h1=>?_) (fun h1=>?_) | refine brEq (fun h1=>?_) (fun h1=>?_))
 ·have h1:((l.map Cs.cells).length:Int)<1:=h1
  rw [hm] at h1
  exact end1 _ rfl rfl (retB (by rw [casesB,decide_eq_false (by omega)];rfl))
 have h1:¬ ((l.map Cs.cells).length:Int)<1:=h1
 rw [hm] at h1
 (first | refine brLt (fun h2=>?_) (fun h2=>?_) | refine brLe (fun h2=>?_) (fun h2=>?_) | refine brEq (fun h2=>?_) (fun h2=>?_))
 ·have h2:(12:Int)<((l.map Cs.cells).length:Nat):=h2
  rw [hm] at h2
  exact end1 _ rfl rfl (retB (by rw [casesB,decide_eq_false (show ¬ l.length≤12 by omega),Bool.and_false];rfl))
 have h2:¬ (12:Int)<((l.map Cs.cells).length:Nat):=h2
 rw [hm] at h2
 have hB0:casesB l=casesT (l.drop 0):=by rw [casesB,decide_eq_true (show 1≤l.length by omega),decide_eq_true (show l.length≤12 by omega)];rfl
 refine⟨Nat,fun i=>[(0, .p (css l)),(16, .p (css l)),(17, .p (i64 l.length)),(18, .p (i64 i))],fun _=>⟨0,[]⟩,fun i=>i<l.length∧casesB l=casesT (l.drop i),fun i=>l.length - i,?_,?_⟩
 ·exact⟨0,⟨by omega,hB0⟩,ent0 rfl ⟨rfl,rfl,congrArg (fun n:Nat=>i64 n) hm.symm,rfl,trivial⟩ trivial rfl⟩
 rintro i ⟨i1,i2⟩
 (first | refine brLt (fun j1=>?_) (fun j1=>?_) | refine brLe (fun j1=>?_) (fun j1=>?_) | refine brEq (fun j1=>?_) (fun j1=>?_))
 rotate_left
 ·exact absurd (show(i:Int)<(l.length:Nat) by omega) j1
 have hmem:=getD_memL cs0 i1
 have hbc:=hb.cond _ hmem
 have hbn:=hb.nums _ hmem
 have hcell:=scell i1
 have hstep:=fun h=>casesT_step (l:=l) (i:=i) h
 have hlast:=fun h=>casesT_last (l:=l) (i:=i) h
 rcases hx:l.getD i cs0 with ⟨⟨op,n,rel,val,r,st,ar⟩,nums⟩
 rw [hx] at hbc hbn hcell hstep hlast
 simp only [] at hbc hbn hstep hlast
 have hno:numsB nums=false→casesB l=false:=fun h=>by
  rw [i2]
  rcases Nat.lt_or_ge (i+1) l.length with h3 | h3
  ·rw [hstep h3,h];rfl
  ·rw [hlast (by omega),h];rfl
 have hnm:(nums.map i64).length=nums.length:=List.length_map ..
 refine⟨_,⟨by omega,(⟨.mk op n rel val r st ar,nums⟩:Cs).cells,hcell,rfl⟩,?_⟩
 (first | refine brLt (fun j2=>?_) (fun j2=>?_) | refine brLe (fun j2=>?_) (fun j2=>?_) | refine brEq (fun j2=>?_) (fun j2=>?_))
 ·have j2:((nums.map i64).length:Int)<1:=j2
  rw [hnm] at j2
  exact end1 _ rfl rfl (retB (hno (by rw [numsB,decide_eq_false (by omega)];rfl)).symm)
 have j2:¬ ((nums.map i64).length:Int)<1:=j2
 rw [hnm] at j2
 (first | refine brLt (fun j3=>?_) (fun j3=>?_) | refine brLe (fun j3=>?_) (fun j3=>?_) | refine brEq (fun j3=>?_) (fun j3=>?_))
 ·have j3:(8:Int)<((nums.map i64).length:Nat):=j3
  rw [hnm] at j3
  exact end1 _ rfl rfl (retB (hno (by rw [numsB,decide_eq_false (show ¬ nums.length≤8 by omega),Bool.and_false];rfl)).symm)
 have j3:¬ (8:Int)<((nums.map i64).length:Nat):=j3
 rw [hnm] at j3
 refine⟨Nat,fun k=>[(0, .p (css l)),(16, .p (css l)),(17, .p (i64 l.length)),(18, .p (i64 i)),(3, .p (i64 i)),(4, .ptr 0 0 0),(34, .p (ints nums)),(35, .p (i64 nums.length)),(36, .p (i64 k))],fun _=>⟨1,[(0,kO ⟨.mk op n rel val r st ar,nums⟩)]⟩,fun k=>k≤nums.length∧∀ x∈nums.take k,wgtB x=true,fun k=>nums.length - k,?_,?_⟩
 ·exact⟨0,⟨Nat.zero_le _,by simp⟩,ent_of [] [] [] rfl ⟨rfl,rfl,rfl,rfl,rfl,⟨rfl,rfl⟩,rfl,congrArg (fun n:Nat=>i64 n) hnm.symm,rfl,trivial⟩ (sk) rfl⟩
 rintro k ⟨k1,k2⟩
 (first | refine brLt (fun m1=>?_) (fun m1=>?_) | refine brLe (fun m1=>?_) (fun m1=>?_) | refine brEq (fun m1=>?_) (fun m1=>?_))
 ·have m1:(k:Int)<(nums.length:Nat):=m1
  have hk:k<nums.length:=by omega
  refine⟨_,⟨by omega,i64 (nums.getD k 0),icell hk,rfl⟩,?_⟩
  have bad:wgtB (nums.getD k 0)=false→casesB l=false:=fun h=>hno (by
   have:nums.all wgtB=false:=by
    rw [Bool.eq_false_iff]
    intro ha
    have:=List.all_eq_true.1 ha _ (getD_memL 0 hk)
    rw [h] at this;cases this
   rw [numsB,this,Bool.and_false])
  (first | refine brLt (fun m2=>?_) (fun m2=>?_) | refine brLe (fun m2=>?_) (fun m2=>?_) | refine brEq (fun m2=>?_) (fun m2=>?_))
  ·have m2:nums.getD k 0 < -9999:=m2
   exact end1 _ rfl rfl (retB (bad (by rw [wgtB,decide_eq_false (by omega)];rfl)).symm)
  have m2:¬ nums.getD k 0 < -9999:=m2
  (first | refine brLt (fun m3=>?_) (fun m3=>?_) | refine brLe (fun m3=>?_) (fun m3=>?_) | refine brEq (fun m3=>?_) (fun m3=>?_))
  ·have m3:(9999:Int)<nums.getD k 0:=m3
   exact end1 _ rfl rfl (retB (bad (by rw [wgtB,decide_eq_false (show ¬ nums.getD k 0≤9999 by omega),Bool.and_false])).symm)
  have m3:¬ (9999:Int)<nums.getD k 0:=m3
  refine⟨_,wrap_i64 (by omega) (by omega),?_⟩
  refine⟨k+1,⟨by omega,fun x hx=>?_⟩,ent_of [] [] [] rfl (sk) (sk) rfl,by show nums.length - (k+1)<nums.length - k;omega⟩
  rw [take_succ_getD 0 hk] at hx
  rcases List.mem_append.1 hx with hx | hx
  ·exact k2 x hx
  ·rw [List.mem_singleton.1 hx,wgtB,decide_eq_true (by omega),decide_eq_true (by omega)];rfl
 have m1:¬ (k:Int)<(nums.length:Nat):=m1
 have hnums:numsB nums=true:=by
  have:nums.all wgtB=true:=by
   rw [List.all_eq_true]
   rw [take_all (by omega)] at k2
   exact k2
  rw [numsB,this,decide_eq_true (by omega),decide_eq_true (by omega)];rfl
 refine⟨((l.length - 1:Nat):Int),by show _=IntKind.i64.wrap (((l.map Cs.cells).length:Int) - 1);rw [hm,show(l.length:Int) - 1=((l.length - 1:Nat):Int) by omega];exact wrap_i64 (by omega) (by omega),?_⟩
 (first | refine brLt (fun m4=>?_) (fun m4=>?_) | refine brLe (fun m4=>?_) (fun m4=>?_) | refine brEq (fun m4=>?_) (fun m4=>?_))
 ·have m4:(i:Int)=((l.length - 1:Nat):Int):=m4
  have hT:=hlast (by omega)
  rw [← i2,hnums,Bool.true_and] at hT
  have hP:=plain_c op n rel val r st ar (by simp only [BigC] at hbc;exact hbc.2.1)
  (first | refine brLt (fun p1=>?_) (fun p1=>?_) | refine brLe (fun p1=>?_) (fun p1=>?_) | refine brEq (fun p1=>?_) (fun p1=>?_))
  rotate_left
  ·have p1:¬ op=0:=p1
   exact end1 _ rfl rfl (retB (by rw [hT,noneB,decide_eq_false p1];rfl))
  have p1:op=0:=p1
  by_cases p2:plainB n rel val r st=true
  rotate_left
  ·rw [Bool.not_eq_true] at p2
   rw [p2] at hP
   refine hP.eq rfl ?_
   exact end1 _ rfl rfl (retB (by rw [hT,noneB,p2,Bool.and_false];rfl))
  rw [p2] at hP
  refine hP.eq rfl ?_
  (first | refine brLt (fun p3=>?_) (fun p3=>?_) | refine brLe (fun p3=>?_) (fun p3=>?_) | refine brEq (fun p3=>?_) (fun p3=>?_))
  ·have p3:((cellsL ar).length:Int)=0:=p3
   rw [cellsL_map,List.length_map] at p3
   exact end1 _ rfl rfl (retB (by rw [hT,noneB,p2,decide_eq_true p1,decide_eq_true (show ar.length=0 by omega)];rfl))
  ·have p3:¬ ((cellsL ar).length:Int)=0:=p3
   rw [cellsL_map,List.length_map] at p3
   exact end1 _ rfl rfl (retB (by rw [hT,noneB,decide_eq_false (show ¬ ar.length=0 by omega),Bool.and_false]))
 have m4:¬ (i:Int)=((l.length - 1:Nat):Int):=m4
 have hT:=hstep (by omega)
 rw [← i2,hnums,Bool.true_and] at hT
 have hC:=condv_all 8 (Nat.le_refl _) (.mk op n rel val r st ar) 30 1 hbc (by omega) (by omega)
 rcases hv:condV 8 (.mk op n rel val r st ar) 30 with _ | k2
 ·rw [hv] at hC hT
  refine hC.holds.useT [] [(0,1)] rfl (sk) (sk) fun e0 H0 hq=>?_
  obtain⟨rfl,rfl⟩:=hq
  refine⟨rfl,_,⟨2,[(0,kO ⟨.mk op n rel val r st ar,nums⟩)]⟩,rfl,rfl,?_⟩
  exact end1 _ rfl rfl (retB (by rw [hT];rfl))
 ·rw [hv] at hC hT
  refine hC.holds.useT [] [(0,1)] rfl (sk) (sk) fun e0 H0 hq=>?_
  obtain⟨rfl,rfl⟩:=hq
  refine⟨rfl,_,⟨2,[(1,lfO k2),(0,kO ⟨.mk op n rel val r st ar,nums⟩)]⟩,rfl,rfl,?_⟩
  refine⟨_,wrap_i64 (by omega) (by omega),?_⟩
  exact⟨i+1,⟨by omega,by rw [hT];rfl⟩,ent_of [] [] [] rfl (sk) (sk) rfl,by show l.length - (i+1)<l.length - i;omega⟩
def kindB (d:De):Bool:=
 if d.kind=1 then decide (d.name=[]) && decide (d.plate=[]) && decide (d.refs.length=0) && decide (d.cases.length=0)
 else if d.kind=2 then nameN d.name && decide (d.plate=[]) && decide (d.refs.length=0) && decide (d.cases.length=0)
 else if d.kind=3 then nameN d.name && (decide (d.plate=[]) || nameN d.plate) && casesB d.cases
 else if d.kind=4 then nameN d.name && decide (d.plate=[]) && decide (d.cases.length=0)
 else if d.kind=5 then decide (d.n=0) && decide (d.name=[]) && decide (d.plate=[]) && casesB d.cases else false
def declB (d:De):Bool:=natB d.n && decide (d.refs.length≤8) && d.refs.all refB && kindB d
def validB (ds:List De):Bool:=decide (ds.length≤30) && ds.all declB
def chkV (ds:List De):Int:=if validB ds then 0 else 380
structure BigD (d:De):Prop where
 name:BigS d.name
 plate:BigS d.plate
 len:d.refs.length≤9223372036854775807
 refs:∀ r∈d.refs,BigR r
 cases:BigL d.cases
structure BigP (ds:List De):Prop where
 len:ds.length≤9223372036854775807
 decl:∀ d∈ds,BigD d
def de0:De:=⟨0,0,[],[],[],[]⟩
theorem rcell {l:List Rf} {k:Nat} (h:k<l.length):(l.map Rf.cells)[k]?=some (l.getD k rf0).cells:=map_at rf0 h
theorem decell {l:List De} {k:Nat} (h:k<l.length):(l.map De.cells)[k]?=some (l.getD k de0).cells:=map_at de0 h
theorem all_no {α:Type} {l:List α} {f:α→Bool} {k:Nat} (d:α) (h:k<l.length) (hf:f (l.getD k d)=false):l.all f=false:=by
 rw [Bool.eq_false_iff]
 intro ha
 have:=List.all_eq_true.1 ha _ (getD_memL d h)
 rw [hf] at this;cases this
theorem declaration_c (d:De) (hb:BigD d):Pure cx 47 [d.pv] (·=.ret [.bool (declB d)]):=by
 refine pure_of_vc Tryz.func47 rfl rfl rfl ?_
 have hN:=natural_c d.n
 have hI:=isName_c d.name hb.name
 have hJ:=isName_c d.plate hb.plate
 have hC:=cases_c d.cases hb.cases
 have hrl:=hb.len
 have hcl:=hb.cases.len
 have hm:(d.refs.map Rf.cells).length=d.refs.length:=List.length_map ..
 by_cases n1:natB d.n=true
 rotate_left
 ·rw [Bool.not_eq_true] at n1
  rw [n1] at hN
  refine hN.eq rfl ?_
  exact end1 _ rfl rfl (retB (by rw [declB,n1];rfl))
 rw [n1] at hN
 refine hN.eq rfl ?_
 (first | refine brLt (fun h2=>?_) (fun h2=>?_) | refine brLe (fun h2=>?_) (fun h2=>?_) | refine brEq (fun h2=>?_) (fun h2=>?_))
 ·have h2:(8:Int)<((d.refs.map Rf.cells).length:Nat):=h2
  rw [hm] at h2
  exact end1 _ rfl rfl (retB (by rw [declB,decide_eq_false (show ¬ d.refs.length≤8 by omega),Bool.and_false];rfl))
 have h2:¬ (8:Int)<((d.refs.map Rf.cells).length:Nat):=h2
 rw [hm] at h2
 refine⟨Nat,fun k=>[(1, .ptr 0 0 0),(16, .p (rfl_ d.refs)),(17, .p (i64 d.refs.length)),(18, .p (i64 k))],fun _=>⟨1,[(0,deO d)]⟩,fun k=>k≤d.refs.length∧∀ x∈d.refs.take k,refB x=true,fun k=>d.refs.length - k,?_,?_⟩
 ·exact⟨0,⟨Nat.zero_le _,by simp⟩,ent_of [] [] [] rfl ⟨⟨rfl,rfl⟩,rfl,congrArg (fun n:Nat=>i64 n) hm.symm,rfl,trivial⟩ (sk) rfl⟩
 rintro k ⟨k1,k2⟩
 (first | refine brLt (fun m1=>?_) (fun m1=>?_) | refine brLe (fun m1=>?_) (fun m1=>?_) | refine brEq (fun m1=>?_) (fun m1=>?_))
 ·have m1:(k:Int)<(d.refs.length:Nat):=m1
  have hk:k<d.refs.length:=by omega
  refine⟨_,⟨by omega,(d.refs.getD k rf0).cells,rcell hk,rfl⟩,?_⟩
  have hR:=reference_c (d.refs.getD k rf0) (hb.refs _ (getD_memL rf0 hk))
  by_cases r1:refB (d.refs.getD k rf0)=true
  rotate_left
  ·rw [Bool.not_eq_true] at r1
   rw [r1] at hR
   refine hR.eq rfl ?_
   exact end1 _ rfl rfl (retB (by rw [declB,all_no rf0 hk r1,Bool.and_false];rfl))
  rw [r1] at hR
  refine hR.eq rfl ?_
  refine⟨_,wrap_i64 (by omega) (by omega),?_⟩
  refine⟨k+1,⟨by omega,fun x hx=>?_⟩,ent_of [] [] [] rfl (sk) (sk) rfl,by show d.refs.length - (k+1)<d.refs.length - k;omega⟩
  rw [take_succ_getD rf0 hk] at hx
  rcases List.mem_append.1 hx with hx | hx
  ·exact k2 x hx
  ·rw [List.mem_singleton.1 hx];exact r1
 have m1:¬ (k:Int)<(d.refs.length:Nat):=m1
 rw [take_all (by omega)] at k2
 have hfin:declB d=kindB d:=by rw [declB,n1,decide_eq_true (show d.refs.length≤8 by omega),List.all_eq_true.2 k2];rfl
 clear k1 k2 m1
 (first | refine brLt (fun o1=>?_) (fun o1=>?_) | refine brLe (fun o1=>?_) (fun o1=>?_) | refine brEq (fun o1=>?_) (fun o1=>?_))
 ·have o1:d.kind=1:=o1
  (first | refine brLt (fun p1=>?_) (fun p1=>?_) | refine brLe (fun p1=>?_) (fun p1=>?_) | refine brEq (fun p1=>?_) (fun p1=>?_))
  rotate_left
  ·have p1:¬ d.name=[]:=p1
   exact end1 _ rfl rfl (retB (by rw [hfin];simp [kindB, *]))
  have p1:d.name=[]:=p1
  (first | refine brLt (fun p2=>?_) (fun p2=>?_) | refine brLe (fun p2=>?_) (fun p2=>?_) | refine brEq (fun p2=>?_) (fun p2=>?_))
  rotate_left
  ·have p2:¬ d.plate=[]:=p2
   exact end1 _ rfl rfl (retB (by rw [hfin];simp [kindB, *]))
  have p2:d.plate=[]:=p2
  (first | refine brLt (fun p3=>?_) (fun p3=>?_) | refine brLe (fun p3=>?_) (fun p3=>?_) | refine brEq (fun p3=>?_) (fun p3=>?_))
  rotate_left
  ·have p3:¬ ((d.refs.map Rf.cells).length:Int)=0:=p3
   rw [List.length_map] at p3
   have p3:¬ d.refs=[]:=fun e=>p3 (by rw [e];rfl)
   exact end1 _ rfl rfl (retB (by rw [hfin];simp [kindB, *]))
  have p3:((d.refs.map Rf.cells).length:Int)=0:=p3
  rw [List.length_map] at p3
  have p3:d.refs=[]:=List.length_eq_zero_iff.1 (by omega)
  (first | refine brLt (fun p4=>?_) (fun p4=>?_) | refine brLe (fun p4=>?_) (fun p4=>?_) | refine brEq (fun p4=>?_) (fun p4=>?_))
  rotate_left
  ·have p4:¬ ((d.cases.map Cs.cells).length:Int)=0:=p4
   rw [List.length_map] at p4
   have p4:¬ d.cases=[]:=fun e=>p4 (by rw [e];rfl)
   exact end1 _ rfl rfl (retB (by rw [hfin];simp [kindB, *]))
  have p4:((d.cases.map Cs.cells).length:Int)=0:=p4
  rw [List.length_map] at p4
  have p4:d.cases=[]:=List.length_eq_zero_iff.1 (by omega)
  exact end1 _ rfl rfl (retB (by rw [hfin];simp [kindB, *]))
 have o1:¬ d.kind=1:=o1
 (first | refine brLt (fun o2=>?_) (fun o2=>?_) | refine brLe (fun o2=>?_) (fun o2=>?_) | refine brEq (fun o2=>?_) (fun o2=>?_))
 ·have o2:d.kind=2:=o2
  by_cases p1:nameN d.name=true
  rotate_left
  ·rw [Bool.not_eq_true] at p1
   rw [p1] at hI
   refine hI.eq rfl ?_
   exact end1 _ rfl rfl (retB (by rw [hfin];simp [kindB, *]))
  rw [p1] at hI
  refine hI.eq rfl ?_
  (first | refine brLt (fun p2=>?_) (fun p2=>?_) | refine brLe (fun p2=>?_) (fun p2=>?_) | refine brEq (fun p2=>?_) (fun p2=>?_))
  rotate_left
  ·have p2:¬ d.plate=[]:=p2
   exact end1 _ rfl rfl (retB (by rw [hfin];simp [kindB, *]))
  have p2:d.plate=[]:=p2
  (first | refine brLt (fun p3=>?_) (fun p3=>?_) | refine brLe (fun p3=>?_) (fun p3=>?_) | refine brEq (fun p3=>?_) (fun p3=>?_))
  rotate_left
  ·have p3:¬ ((d.refs.map Rf.cells).length:Int)=0:=p3
   rw [List.length_map] at p3
   have p3:¬ d.refs=[]:=fun e=>p3 (by rw [e];rfl)
   exact end1 _ rfl rfl (retB (by rw [hfin];simp [kindB, *]))
  have p3:((d.refs.map Rf.cells).length:Int)=0:=p3
  rw [List.length_map] at p3
  have p3:d.refs=[]:=List.length_eq_zero_iff.1 (by omega)
  (first | refine brLt (fun p4=>?_) (fun p4=>?_) | refine brLe (fun p4=>?_) (fun p4=>?_) | refine brEq (fun p4=>?_) (fun p4=>?_))
  rotate_left
  ·have p4:¬ ((d.cases.map Cs.cells).length:Int)=0:=p4
   rw [List.length_map] at p4
   have p4:¬ d.cases=[]:=fun e=>p4 (by rw [e];rfl)
   exact end1 _ rfl rfl (retB (by rw [hfin];simp [kindB, *]))
  have p4:((d.cases.map Cs.cells).length:Int)=0:=p4
  rw [List.length_map] at p4
  have p4:d.cases=[]:=List.length_eq_zero_iff.1 (by omega)
  exact end1 _ rfl rfl (retB (by rw [hfin];simp [kindB, *]))
 have o2:¬ d.kind=2:=o2
 (first | refine brLt (fun o3=>?_) (fun o3=>?_) | refine brLe (fun o3=>?_) (fun o3=>?_) | refine brEq (fun o3=>?_) (fun o3=>?_))
 ·have o3:d.kind=3:=o3
  by_cases p1:nameN d.name=true
  rotate_left
  ·rw [Bool.not_eq_true] at p1
   rw [p1] at hI
   refine hI.eq rfl ?_
   exact end1 _ rfl rfl (retB (by rw [hfin];simp [kindB, *]))
  rw [p1] at hI
  refine hI.eq rfl ?_
  (first | refine brLt (fun p2=>?_) (fun p2=>?_) | refine brLe (fun p2=>?_) (fun p2=>?_) | refine brEq (fun p2=>?_) (fun p2=>?_))
  ·have p2:d.plate=[]:=p2
   refine hC.eq rfl ?_
   exact end1 _ rfl rfl (retB (by rw [hfin];simp [kindB, *]))
  have p2:¬ d.plate=[]:=p2
  by_cases p3:nameN d.plate=true
  rotate_left
  ·rw [Bool.not_eq_true] at p3
   rw [p3] at hJ
   refine hJ.eq rfl ?_
   exact end1 _ rfl rfl (retB (by rw [hfin];simp [kindB, *]))
  rw [p3] at hJ
  refine hJ.eq rfl ?_
  refine hC.eq rfl ?_
  exact end1 _ rfl rfl (retB (by rw [hfin];simp [kindB, *]))
 have o3:¬ d.kind=3:=o3
 (first | refine brLt (fun o4=>?_) (fun o4=>?_) | refine brLe (fun o4=>?_) (fun o4=>?_) | refine brEq (fun o4=>?_) (fun o4=>?_))
 ·have o4:d.kind=4:=o4
  by_cases p1:nameN d.name=true
  rotate_left
  ·rw [Bool.not_eq_true] at p1
   rw [p1] at hI
   refine hI.eq rfl ?_
   exact end1 _ rfl rfl (retB (by rw [hfin];simp [kindB, *]))
  rw [p1] at hI
  refine hI.eq rfl ?_
  (first | refine brLt (fun p2=>?_) (fun p2=>?_) | refine brLe (fun p2=>?_) (fun p2=>?_) | refine brEq (fun p2=>?_) (fun p2=>?_))
  rotate_left
  ·have p2:¬ d.plate=[]:=p2
   exact end1 _ rfl rfl (retB (by rw [hfin];simp [kindB, *]))
  have p2:d.plate=[]:=p2
  (first | refine brLt (fun p4=>?_) (fun p4=>?_) | refine brLe (fun p4=>?_) (fun p4=>?_) | refine brEq (fun p4=>?_) (fun p4=>?_))
  rotate_left
  ·have p4:¬ ((d.cases.map Cs.cells).length:Int)=0:=p4
   rw [List.length_map] at p4
   have p4:¬ d.cases=[]:=fun e=>p4 (by rw [e];rfl)
   exact end1 _ rfl rfl (retB (by rw [hfin];simp [kindB, *]))
  have p4:((d.cases.map Cs.cells).length:Int)=0:=p4
  rw [List.length_map] at p4
  have p4:d.cases=[]:=List.length_eq_zero_iff.1 (by omega)
  exact end1 _ rfl rfl (retB (by rw [hfin];simp [kindB, *]))
 have o4:¬ d.kind=4:=o4
 (first | refine brLt (fun o5=>?_) (fun o5=>?_) | refine brLe (fun o5=>?_) (fun o5=>?_) | refine brEq (fun o5=>?_) (fun o5=>?_))
 ·have o5:d.kind=5:=o5
  (first | refine brLt (fun p1=>?_) (fun p1=>?_) | refine brLe (fun p1=>?_) (fun p1=>?_) | refine brEq (fun p1=>?_) (fun p1=>?_))
  rotate_left
  ·have p1:¬ d.n=0:=p1
   exact end1 _ rfl rfl (retB (by rw [hfin];simp [kindB, *]))
  have p1:d.n=0:=p1
  (first | refine brLt (fun p2=>?_) (fun p2=>?_) | refine brLe (fun p2=>?_) (fun p2=>?_) | refine brEq (fun p2=>?_) (fun p2=>?_))
  rotate_left
  ·have p2:¬ d.name=[]:=p2
   exact end1 _ rfl rfl (retB (by rw [hfin];simp [kindB, *]))
  have p2:d.name=[]:=p2
  (first | refine brLt (fun p3=>?_) (fun p3=>?_) | refine brLe (fun p3=>?_) (fun p3=>?_) | refine brEq (fun p3=>?_) (fun p3=>?_))
  rotate_left
  ·have p3:¬ d.plate=[]:=p3
   exact end1 _ rfl rfl (retB (by rw [hfin];simp [kindB, *]))
  have p3:d.plate=[]:=p3
  refine hC.eq rfl ?_
  exact end1 _ rfl rfl (retB (by rw [hfin];simp [kindB, *]))
 have o5:¬ d.kind=5:=o5
 exact end1 _ rfl rfl (retB (by rw [hfin];simp [kindB, *]))
theorem pcheck_c (ds:List De) (hb:BigP ds):Pure cx 27 [srcV ds] (·=.ret [i64 (chkV ds)]):=by
 refine pure_of_vc Tryz.func27 rfl rfl rfl ?_
 have hl:=hb.len
 have hm:(ds.map De.cells).length=ds.length:=List.length_map ..
 have bad:validB ds=false→chkV ds=380:=fun h=>by rw [chkV,h];rfl
 (first | refine brLt (fun h2=>?_) (fun h2=>?_) | refine brLe (fun h2=>?_) (fun h2=>?_) | refine brEq (fun h2=>?_) (fun h2=>?_))
 ·have h2:(30:Int)<((ds.map De.cells).length:Nat):=h2
  rw [hm] at h2
  exact end1 _ rfl rfl (retI (bad (by rw [validB,decide_eq_false (show ¬ ds.length≤30 by omega)];rfl)).symm)
 have h2:¬ (30:Int)<((ds.map De.cells).length:Nat):=h2
 rw [hm] at h2
 refine⟨Nat,fun k=>[(10, .p (des ds)),(11, .p (i64 ds.length)),(12, .p (i64 k))],fun _=>⟨0,[]⟩,fun k=>k≤ds.length∧∀ x∈ds.take k,declB x=true,fun k=>ds.length - k,?_,?_⟩
 ·exact⟨0,⟨Nat.zero_le _,by simp⟩,ent_of [] [] [] rfl ⟨rfl,congrArg (fun n:Nat=>i64 n) hm.symm,rfl,trivial⟩ trivial rfl⟩
 rintro k ⟨k1,k2⟩
 (first | refine brLt (fun m1=>?_) (fun m1=>?_) | refine brLe (fun m1=>?_) (fun m1=>?_) | refine brEq (fun m1=>?_) (fun m1=>?_))
 ·have m1:(k:Int)<(ds.length:Nat):=m1
  have hk:k<ds.length:=by omega
  refine⟨_,⟨by omega,(ds.getD k de0).cells,decell hk,rfl⟩,?_⟩
  have hR:=declaration_c (ds.getD k de0) (hb.decl _ (getD_memL de0 hk))
  by_cases r1:declB (ds.getD k de0)=true
  rotate_left
  ·rw [Bool.not_eq_true] at r1
   rw [r1] at hR
   refine hR.eq rfl ?_
   exact end1 _ rfl rfl (retI (bad (by rw [validB,all_no de0 hk r1,Bool.and_false])).symm)
  rw [r1] at hR
  refine hR.eq rfl ?_
  refine⟨_,wrap_i64 (by omega) (by omega),?_⟩
  refine⟨k+1,⟨by omega,fun x hx=>?_⟩,ent_of [] [] [] rfl (sk) trivial rfl,by show ds.length - (k+1)<ds.length - k;omega⟩
  rw [take_succ_getD de0 hk] at hx
  rcases List.mem_append.1 hx with hx | hx
  ·exact k2 x hx
  ·rw [List.mem_singleton.1 hx];exact r1
 have m1:¬ (k:Int)<(ds.length:Nat):=m1
 rw [take_all (by omega)] at k2
 exact end1 _ rfl rfl (retI (by rw [chkV,validB,decide_eq_true (show ds.length≤30 by omega),List.all_eq_true.2 k2];rfl))
structure Iss where
 kind:Int
 decl:Int
 name:List UInt8
deriving DecidableEq
abbrev Iss.cells (i:Iss):List PV:=[i64 i.kind,i64 i.decl, .str i.name]
abbrev isl (l:List Iss):PV:=.lsts 3 (l.map Iss.cells)
def fstI:List De→List UInt8→Option Nat
 | [],_=>none
 | d::r,nm=>if d.name=nm then some 0 else(fstI r nm).map (·+1)
def fstV (l:List De) (nm:List UInt8):Option De:=(fstI l nm).map fun i=>l.getD i de0
def sizeV (l:List De) (nm:List UInt8):Int:=match fstV l nm with
 | some d=>if d.kind=2 then d.n else 0
 | none=>0
def ownB (d:De) (r:Rf):Bool:=decide (d.kind=3) && (decide (¬ d.plate=[]) && (decide (r.name=d.name) && (decide (r.mode=1) && (decide (r.plate=d.plate) && decide (1≤r.n)))))
def placeI (l:List De) (d t:De) (r:Rf):Bool:=
 if t.kind=2 then true
 else if t.plate=[] then decide (¬ r.mode=0)
 else if r.mode=0 then true
 else if r.mode=2 then decide (sizeV l t.plate≤r.n)
 else if r.mode=1 then decide (¬ (d.kind=3∧d.plate=t.plate∧r.plate=t.plate))
 else false
def refI (l:List De) (d:De) (r:Rf):Int:=match fstV l r.name with
 | none=>if ownB d r then 0 else 3
 | some t=>if placeI l d t r then 4 else 0
def valI (l:List De) (d:De) (r:Rf):Option Int:=match fstV l r.name with
 | some t=>if t.kind=2 then none else some t.n
 | none=>if ownB d r then some d.n else none
def gstI (op n val:Int) (st:List Int):Int:=if op=5 then st.getD (st.length - 1) 0 else if op=6 then val else n
def testI (l:List De) (d:De) (op n val:Int) (r:Rf) (st:List Int):Int:=
 if r ∉ d.refs then 7
 else if r.mode=3∧¬ op=6 then 4
 else match valI l d r with
  | some k=>if k≤gstI op n val st then 8 else 0
  | none=>0
def noteI (k a:Int) (nm:List UInt8):List Iss:=if k=0 then [] else [⟨k,a,nm⟩]
mutual
def condI (l:List De) (d:De):Cd→List Iss
 | .mk op n _ val r st ar=>match ar with
  | []=>if op=0 then [] else noteI (testI l d op n val r st) l.length r.name
  | a::az=>condI l d a++condIs l d az
def condIs (l:List De) (d:De):List Cd→List Iss
 | []=>[]
 | a::az=>condI l d a++condIs l d az
end
def rowI (d:De) (nums:List Int) (grain:Int):Bool:=
 if d.kind=5 then decide (nums.length=1) && (decide (-100≤nums.getD 0 0) && decide (nums.getD 0 0≤100))
 else nums.all (fun w=>decide (0≤w)) && (decide ((nums.length:Int)=d.n) && decide (nums.sum=grain))
def casesI (l:List De) (d:De) (grain:Int) (cs:List Cs):List Iss:=cs.flatMap fun c=>condI l d c.cond++(if rowI d c.nums grain then [] else [⟨9,l.length,[]⟩])
def refsI (l:List De) (d:De):List Rf→List Rf→List Iss
 | _,[]=>[]
 | done,r::rs=>(if r∈done then [⟨2,l.length,r.name⟩] else [])++(noteI (refI l d r) l.length r.name++refsI l d (done++[r]) rs)
def twiceI (l:List De) (d:De):List Iss:=if (fstI l d.name).isSome then [⟨2,l.length,d.name⟩] else []
def cardI (l:List De) (d:De):List Iss:=if d.n<2∨4<d.n then [⟨6,l.length,d.name⟩] else []
def plateI (l:List De) (d:De):List Iss:=if d.plate=[] then [] else match fstV l d.plate with
 | none=>[⟨3,l.length,d.plate⟩]
 | some t=>if t.kind=2 then [] else [⟨4,l.length,d.plate⟩]
def oneI (l:List De) (d:De) (grain:Int):List Iss:=
 if d.kind=1 then(if l.length > 0∨d.n<1∨60<d.n then [⟨1,l.length,[]⟩] else [])
 else if d.kind=2 then twiceI l d++(if d.n<1∨6<d.n then [⟨5,l.length,d.name⟩] else [])
 else if d.kind=3 then twiceI l d++(plateI l d++(cardI l d++(refsI l d [] d.refs++casesI l d grain d.cases)))
 else if d.kind=4 then twiceI l d++(cardI l d++refsI l d [] d.refs)
 else refsI l d [] d.refs++casesI l d grain d.cases
def grainI (ds:List De):Int:=match ds with
 | []=>0
 | d::_=>if d.kind=1 then d.n else 0
def headI (ds:List De):List Iss:=match ds with
 | []=>[⟨1,0,[]⟩]
 | d::_=>if d.kind=1 then [] else [⟨1,0,[]⟩]
def eachI (grain:Int):List De→List De→List Iss
 | _,[]=>[]
 | l,d::r=>oneI l d grain++eachI grain (l++[d]) r
def memI (l:List De) (d:De):Nat:=if d.kind=3 then(if d.plate=[] then 1 else(sizeV l d.plate).toNat) else if d.kind=4 then 1 else 0
def nodesI:List De→List De→Nat
 | _,[]=>0
 | l,d::r=>memI l d+nodesI (l++[d]) r
def gainsI (ds:List De):Nat:=(ds.filter fun d=>decide (d.kind=5)).length
def worldsI:List De→List De→Nat
 | _,[]=>1
 | l,d::r=>d.n.toNat ^ memI l d * worldsI (l++[d]) r
def bigI (ds:List De):Bool:=decide (nodesI [] ds<1) || (decide (8<nodesI [] ds) || (decide (4<gainsI ds) || decide (1024<worldsI [] ds)))
def baseI (ds:List De):List Iss:=headI ds++eachI (grainI ds) [] ds
def allI (ds:List De):List Iss:=if baseI ds=[] then(if bigI ds then [⟨10,ds.length,[]⟩] else []) else baseI ds
def issV (ds:List De):List PV:=if validB ds=true then [isl (allI ds),i64 0] else [isl [],i64 380]
def scopeE (ds:List De):Int:=if validB ds=true then(if allI ds=[] then 0 else 390) else 380
structure Sy where
 name:List UInt8
 kind:Int
 plate:List UInt8
 card:Int
 size:Int
abbrev Sy.cells (s:Sy):List PV:=[.str s.name,i64 s.kind, .str s.plate,i64 s.card,i64 s.size]
theorem fstI_lt:∀ {l:List De} {nm:List UInt8} {i:Nat},fstI l nm=some i→i<l.length∧(l.getD i de0).name=nm
 | [],_,_,h=>by cases h
 | d::r,nm,i,h=>by
  rw [fstI] at h
  split at h
  ·rename_i hd
   injection h with h;subst h
   exact⟨by simp,hd⟩
  ·cases hr:fstI r nm with
   | none=>rw [hr] at h;cases h
   | some j=>
    rw [hr] at h
    injection h with h
    have h:j+1=i:=h
    subst h
    have h2:=fstI_lt hr
    exact⟨by rw [List.length_cons];omega,h2.2⟩
theorem fstI_app (m:List De) (nm:List UInt8):∀ l:List De,fstI (l++m) nm=match fstI l nm with
  | some i=>some i
  | none=>(fstI m nm).map (·+l.length)
 | []=>by
  show fstI m nm=(fstI m nm).map (·+0)
  cases fstI m nm <;> rfl
 | d::r=>by
  rw [List.cons_append,fstI,fstI,fstI_app m nm r]
  split
  ·rfl
  ·cases fstI r nm with
   | some i=>rfl
   | none=>cases fstI m nm with
    | none=>rfl
    | some j=>show some (j+r.length+1)=some (j+(r.length+1));rw [Nat.add_assoc]
theorem fstI_snoc (l:List De) (d:De) (nm:List UInt8):fstI (l++[d]) nm=match fstI l nm with
  | some i=>some i
  | none=>if d.name=nm then some l.length else none:=by
 rw [fstI_app]
 cases fstI l nm with
 | some i=>rfl
 | none=>
  show(fstI [d] nm).map (·+l.length)=_
  rw [fstI]
  split
  ·show some (0+l.length)=some l.length;rw [Nat.zero_add]
  ·rfl
theorem fstV_some {l:List De} {nm:List UInt8} {i:Nat} (h:fstI l nm=some i):fstV l nm=some (l.getD i de0):=by rw [fstV,h];rfl
theorem fstV_mem {l:List De} {nm:List UInt8} {d:De} (h:fstV l nm=some d):d∈l∧d.name=nm:=by
 rw [fstV] at h
 cases hi:fstI l nm with
 | none=>rw [hi] at h;cases h
 | some i=>
  rw [hi] at h
  injection h with h;subst h
  have:=fstI_lt hi
  exact⟨getD_memL de0 this.1,this.2⟩
theorem fstV_app {l m:List De} {nm:List UInt8} {d:De} (h:fstV l nm=some d):fstV (l++m) nm=some d:=by
 rw [fstV] at h ⊢
 cases hi:fstI l nm with
 | none=>rw [hi] at h;cases h
 | some i=>
  rw [hi] at h
  injection h with h
  have h:l.getD i de0=d:=h
  have hl:=(fstI_lt hi).1
  rw [fstI_app,hi]
  show some ((l++m).getD i de0)=some d
  rw [← h,List.getD_eq_getElem?_getD,List.getD_eq_getElem?_getD,List.getElem?_append_left hl]
theorem take_getD {α:Type} {l:List α} {k i:Nat} (d:α) (h:i<k):(l.take k).getD i d=l.getD i d:=by
 rw [List.getD_eq_getElem?_getD,List.getD_eq_getElem?_getD,List.getElem?_take,if_pos h]
theorem fst_at {ds:List De} {a i:Nat} {nm:List UInt8} (h:fstI (ds.take a) nm=some i):i<ds.length∧fstV (ds.take a) nm=some (ds.getD i de0):=by
 have h1:=(fstI_lt h).1
 rw [List.length_take] at h1
 exact⟨by omega,by rw [fstV_some h,take_getD de0 (by omega)]⟩
def mapG (l:List De):List De→List (List UInt8 × PV)
 | []=>[]
 | d::r=>(if d.name=[]∨(fstI l d.name).isSome then [] else [(d.name,i64 l.length)])++mapG (l++[d]) r
def mapI (ds:List De):List (List UInt8 × PV):=mapG [] ds
theorem mapG_snoc (d:De):∀ (r l:List De),mapG l (r++[d])=mapG l r++(if d.name=[]∨(fstI (l++r) d.name).isSome then [] else [(d.name,i64 (l++r).length)])
 | [],l=>by rw [List.append_nil];show _++[]=[]++_;rw [List.append_nil,List.nil_append]
 | x::r,l=>by
  have e:l++[x]++r=l++x::r:=by rw [List.append_assoc];rfl
  rw [List.cons_append,mapG,mapG,mapG_snoc d r (l++[x]),e,List.append_assoc]
theorem mapI_snoc (ds:List De) (d:De):mapI (ds++[d])=mapI ds++(if d.name=[]∨(fstI ds d.name).isSome then [] else [(d.name,i64 ds.length)]):=by
 rw [mapI,mapG_snoc];rfl
theorem findM_app (a:List UInt8):∀ l m:List (List UInt8 × PV),findM (l++m) a=match findM l a with
  | some x=>some x
  | none=>findM m a
 | [],m=>rfl
 | (k,y)::r,m=>by
  rw [List.cons_append,findM,findM]
  by_cases h:a=k
  ·rw [decide_eq_true h]
  ·rw [decide_eq_false h];exact findM_app a r m
theorem putM_new {a:List UInt8} {x:PV}:∀ {l:List (List UInt8 × PV)},findM l a=none→putM l a x=l++[(a,x)]
 | [],_=>rfl
 | (k,y)::r,h=>by
  rw [findM] at h
  rw [putM]
  by_cases hk:a=k
  ·rw [decide_eq_true hk] at h;cases h
  ·rw [decide_eq_false hk] at h ⊢
   show(k,y)::putM r a x=(k,y)::(r++[(a,x)])
   rw [putM_new h]
theorem find_map (nm:List UInt8):∀ n (ds:List De),ds.length=n→findM (mapI ds) nm=if nm=[] then none else(fstI ds nm).map fun i=>i64 (i:Nat)
 | 0,ds,h=>by
  rw [List.eq_nil_of_length_eq_zero h]
  split <;> rfl
 | n+1,ds,h=>by
  have hne:ds ≠ []:=fun e=>by rw [e] at h;cases h
  obtain⟨l,d,rfl⟩:∃ l d,ds=l++[d]:=⟨ds.dropLast,ds.getLast hne,(List.dropLast_concat_getLast hne).symm⟩
  have ih:=find_map nm n l (by rw [List.length_append] at h;simpa using h)
  rw [mapI_snoc,findM_app,ih,fstI_snoc]
  by_cases h0:nm=[]
  ·subst h0
   rw [if_pos rfl,if_pos rfl]
   show findM (if d.name=[]∨(fstI l d.name).isSome then [] else [(d.name,i64 l.length)]) []=none
   split
   ·rfl
   ·rename_i hn
    show(match decide ([]=d.name) with | true=>some (i64 (l.length:Nat)) | false=>none)=none
    rw [decide_eq_false fun e=>hn (.inl e.symm)]
  ·rw [if_neg h0,if_neg h0]
   cases hf:fstI l nm with
   | some i=>rfl
   | none=>
    show findM (if d.name=[]∨(fstI l d.name).isSome then [] else [(d.name,i64 l.length)]) nm=_
    by_cases hd:d.name=nm
    ·rw [hd,hf,if_neg (by intro h;rcases h with h | h;exact h0 h;cases h)]
     show _=(if nm=nm then some l.length else none).map _
     rw [if_pos rfl]
     show(match decide (nm=nm) with | true=>some (i64 (l.length:Nat)) | false=>none)=_
     rw [decide_eq_true rfl];rfl
    ·show findM _ nm=(if d.name=nm then some l.length else none).map _
     rw [if_neg hd]
     split
     ·rfl
     ·show(match decide (nm=d.name) with | true=>some (i64 (l.length:Nat)) | false=>none)=none
      rw [decide_eq_false fun e=>hd e.symm]
theorem find_at (ds:List De) {nm:List UInt8} (h:nm ≠ []):findM (mapI ds) nm=(fstI ds nm).map fun i=>i64 (i:Nat):=by
 rw [find_map nm _ ds rfl,if_neg h]
theorem find_nil (ds:List De):findM (mapI ds) []=none:=by rw [find_map [] _ ds rfl,if_pos rfl]
theorem eachI_app (g:Int) (b:List De):∀ (a l:List De),eachI g l (a++b)=eachI g l a++eachI g (l++a) b
 | [],l=>by rw [List.append_nil];rfl
 | d::a,l=>by
  have e:l++[d]++a=l++d::a:=by rw [List.append_assoc];rfl
  rw [List.cons_append,eachI,eachI,eachI_app g b a (l++[d]),e,List.append_assoc]
def DK (a:Nat) (X:List Iss):Prop:=∀ i∈X,i.decl=(a:Nat)∧i.kind ≠ 10
theorem DK.nil {a:Nat}:DK a []:=fun i h=>by cases h
theorem DK.app {a:Nat} {X Z:List Iss} (h:DK a X) (k:DK a Z):DK a (X++Z):=fun i hi=>by
 rcases List.mem_append.1 hi with hi | hi
 ·exact h i hi
 ·exact k i hi
theorem DK.one {a:Nat} {k:Int} {nm:List UInt8} (h:k ≠ 10):DK a [⟨k,(a:Nat),nm⟩]:=fun i hi=>by
 rw [List.mem_singleton.1 hi];exact⟨rfl,h⟩
theorem DK.note {a:Nat} {k:Int} {nm:List UInt8} (h:k ≠ 10):DK a (noteI k (a:Nat) nm):=by
 unfold noteI
 split
 ·exact DK.nil
 ·exact DK.one h
theorem testI_ne (l:List De) (d:De) (op n val:Int) (r:Rf) (st:List Int):testI l d op n val r st ≠ 10:=by
 unfold testI
 split
 ·decide
 ·split
  ·decide
  ·split
   ·split <;> decide
   ·decide
mutual
theorem condI_dk (l:List De) (d:De):∀ c:Cd,DK l.length (condI l d c)
 | .mk op n _ val r st []=>by
  rw [condI]
  split
  ·exact DK.nil
  ·exact DK.note (testI_ne l d op n val r st)
 | .mk op n _ val r st (a::az)=>by
  rw [condI]
  exact(condI_dk l d a).app (condIs_dk l d az)
theorem condIs_dk (l:List De) (d:De):∀ c:List Cd,DK l.length (condIs l d c)
 | []=>by rw [condIs];exact DK.nil
 | a::az=>by
  rw [condIs]
  exact(condI_dk l d a).app (condIs_dk l d az)
end
end Go.Proofs.YtmepdfingcmkmaaGreatDoor
