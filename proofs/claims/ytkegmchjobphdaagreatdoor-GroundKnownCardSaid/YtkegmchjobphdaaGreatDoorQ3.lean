/- Part 3 of the proof: Lf Lg Lh Li Lj Lk Ll Lm Ka Kb Kc Kd Ke Kf Kg Kh Sq Ki Kj Kk Kl Km Kn Ba Ln Ko Kp Kq Kr Ks Ta Da Tb Tc Td -/
import Derived.Shelf.Small.Bits
import Derived.Shelf.Small.Wraps
import Derived.Shelf.Strconv.Itoa0
import Derived.Shelf.Strconv.Itoa1
import Derived.Shelf.LaysM
import Derived.Shelf.Strconv.Itoa2
import Derived.Shelf.Strconv.Itoa3
import Derived.Shelf.Sort.Plain
import Derived.Shelf.Strings.Prefix
import Derived.Shelf.Slices.Turned
import Derived.Ground.Names2Prog
import Derived.Shelf.Slices.Clone
import Derived.Shelf.Slices.CompactI
import Derived.Shelf.Slices.SearchI
import Derived.Shelf.Slices.Cells
import Derived.Shelf.Slices.In.SortNone
import Derived.Ground.SlgnProg
import Derived.Shelf.SlicesE.Clone
import Derived.Test.YtkegmchjobphdaaGreatDoorProg
import Derived.Lib.MakeNoZero
import Derived.Laws.Externs
import Derived.Test.YtkegmchjobphdaaGreatDoorQ2
namespace Go.Proofs.YtkegmchjobphdaaGreatDoor
open Go Y
set_option maxRecDepth 100000
set_option maxHeartbeats 4000000
structure Wd where
 kind:Int
 text:List UInt8
 line:Int
 col:Int
deriving DecidableEq
abbrev Wd.cells (w:Wd):List PV:=[i64 w.kind, .str w.text,i64 w.line,i64 w.col]
def qCl (r : List UInt8) : Int × List UInt8 :=
  if 0 < qAa qAm r then
    (if inL keysL (r.take (qAa qAm r)) then (2, r.take (qAa qAm r))
     else if qD2 ((r.take (qAa qAm r)).headD 0) then (3, r.take (qAa qAm r)) else (1, r.take (qAa qAm r)))
  else if 1 < r.length && inL marksL (r.take 2) then (4, r.take 2) else (4, r.take 1)
theorem qYs (s:List UInt8) (hs:s.length≤8000) (k:Nat) (hk:k<s.length) :
  HoldsG cx 111 [.ptr 0 0 0] (rs s k) fun e H'=>match qAr (qCl (s.drop k)).1 (qCl (s.drop k)).2 with
   | true=>k+(qCl (s.drop k)).2.length≤s.length∧e=.returned (.p (.agg (Wd.cells ⟨(qCl (s.drop k)).1,(qCl (s.drop k)).2,(at_ s k).1,(at_ s k).2⟩)))∧H'=rs s (k+(qCl (s.drop k)).2.length)
   | false=>e=.panicked [⟨.p (err (at_ s k) 370),false⟩]∧H'=rs s k:=by
 refine qAA Tryz.func111 rfl rfl rfl ?_
 have hr:s.drop k=s[k]::s.drop (k+1):=List.drop_eq_getElem_cons hk
 have hlen:(s.drop k).length=s.length - k:=List.length_drop
 have hsp:=qGv qAm (s.drop k)
 refine VDraw.seqTo [(0, .ptr 0 0 0),(2, .ptr 1 0 0),(3, .ptr 2 0 0)] ⟨3,[(0,⟨186,false, .bx (rdr (at_ s k) s k)⟩),(1,⟨126,false, .bx [.p (i64 0),vS [], .p (i64 0), .p (i64 0)]⟩),(2,⟨126,false, .bx [.p (i64 4),vS [], .p (i64 (at_ s k).1), .p (i64 (at_ s k).2)]⟩)]⟩ rfl ?_ ?_
 ·refine⟨sk,?_⟩
  exact qG7 rfl ⟨⟨rfl,rfl⟩,⟨rfl,rfl⟩,⟨rfl,rfl⟩,trivial⟩ ⟨⟨_,rfl,rfl,rfl,_,rfl,_,_,rfl,rfl,_,_,rfl,rfl,_,_,rfl,rfl,_,_,rfl,rfl,rfl⟩,⟨_,rfl,rfl,rfl,_,rfl,_,_,rfl,rfl,_,_,rfl,rfl,_,_,rfl,rfl,_,_,rfl,rfl,rfl⟩,⟨_,rfl,rfl,rfl,_,rfl,_,_,rfl,rfl,_,_,rfl,rfl,_,_,rfl,rfl,_,_,rfl,rfl,rfl⟩,trivial⟩ rfl
 refine VDraw.seqTo [(0, .ptr 0 0 0),(2, .ptr 1 0 0),(3, .ptr 2 0 0),(4,vS (s.drop k))] ⟨3,[(0,⟨186,false, .bx (rdr (at_ s k) s k)⟩),(1,⟨126,false, .bx [.p (i64 0),vS [], .p (i64 0), .p (i64 0)]⟩),(2,⟨126,false, .bx [.p (i64 4),vS [], .p (i64 (at_ s k).1), .p (i64 (at_ s k).2)]⟩)]⟩ rfl ?_ ?_
 ·refine⟨⟨by omega,by omega⟩,?_⟩
  exact qG7 rfl ⟨⟨rfl,rfl⟩,⟨rfl,rfl⟩,⟨rfl,rfl⟩,rfl,trivial⟩ ⟨⟨_,rfl,rfl,rfl,_,rfl,_,_,rfl,rfl,_,_,rfl,rfl,_,_,rfl,rfl,_,_,rfl,rfl,rfl⟩,⟨_,rfl,rfl,rfl,_,rfl,_,_,rfl,rfl,_,_,rfl,rfl,_,_,rfl,rfl,_,_,rfl,rfl,rfl⟩,⟨_,rfl,rfl,rfl,_,rfl,_,_,rfl,rfl,_,_,rfl,rfl,_,_,rfl,rfl,_,_,rfl,rfl,rfl⟩,trivial⟩ rfl
 refine(qUk (s.drop k)).eq rfl ?_
 refine(qOI _ qAm qTd (s.drop k) (by omega)).eq rfl ?_
 refine And.intro (fun h1=>?_) (fun h1=>?_)
 ·have h1:(0:Int)<(qAa qAm (s.drop k):Nat):=h1
  refine⟨⟨by omega,by show((qAa qAm (s.drop k):Nat):Int)≤((s.drop k).length:Nat);omega⟩,?_⟩
  have hpos:0<qAa qAm (s.drop k):=by omega
  have htl:((s.drop k).take (qAa qAm (s.drop k))).length=qAa qAm (s.drop k):=by rw [List.length_take];omega
  have hK:=qM6 ((s.drop k).take (qAa qAm (s.drop k)))
  by_cases hkey:inL keysL ((s.drop k).take (qAa qAm (s.drop k)))=true
  rotate_left
  ·rw [Bool.not_eq_true] at hkey
   rw [hkey] at hK
   refine hK.eq rfl ?_
   obtain⟨c,r,hcr⟩:∃ c r,(s.drop k).take (qAa qAm (s.drop k))=c::r:=by
    cases ht:(s.drop k).take (qAa qAm (s.drop k)) with
    | nil=>rw [ht] at htl;simp at htl;omega
    | cons c r=>exact⟨c,r,rfl⟩
   refine⟨_,⟨by omega,c,by show((s.drop k).take (qAa qAm (s.drop k)))[0]?=_;rw [hcr];rfl,rfl⟩,?_⟩
   have hD:=qNM c
   by_cases hd:qD2 c=true
   rotate_left
   ·rw [Bool.not_eq_true] at hd
    rw [hd] at hD
    refine hD.eq rfl ?_
    have e1:=(show qCl (s.drop k)=(1,(s.drop k).take (qAa qAm (s.drop k))) by rw [qCl,if_pos hpos,if_neg (by rw [hkey];simp),if_neg (by rw [hcr];simp [hd])])
    have hl:=(show k+((s.drop k).take (qAa qAm (s.drop k))).length≤s.length by omega)
    have hP:=qDO 1 ((s.drop k).take (qAa qAm (s.drop k))) (by omega)
    by_cases hp:qAr 1 ((s.drop k).take (qAa qAm (s.drop k)))=true
    rotate_left
    ·rw [Bool.not_eq_true] at hp
     rw [hp] at hP
     refine hP.eq rfl ?_
     refine⟨[],[],[], .panicked [⟨.p (err (at_ s k) 370),false⟩],rs s k,rfl,⟨_,rfl,_,_,rfl,rfl,rfl⟩,⟨⟨_,rfl,rfl,rfl,_,rfl,_,_,rfl,rfl,_,_,rfl,rfl,_,_,rfl,rfl,_,_,rfl,rfl,rfl⟩,trivial⟩,?_⟩
     rw [e1]
     show(match qAr 1 ((s.drop k).take (qAa qAm (s.drop k))) with | true=>_ | false=>_)
     rw [hp]
     exact⟨rfl,rfl⟩
    ·rw [hp] at hP
     refine hP.eq rfl ?_
     refine(qDi s hs k (List.length ((s.drop k).take (qAa qAm (s.drop k)))) (by omega)).useE [] [] rfl ⟨⟨_,rfl,rfl,rfl,_,rfl,_,_,rfl,rfl,_,_,rfl,rfl,_,_,rfl,rfl,_,_,rfl,rfl,rfl⟩,trivial⟩ ⟨_,_,rfl,⟨rfl,rfl⟩,_,_,rfl,rfl,rfl⟩ ?_
     refine⟨[],[],[], .returned (.p (.agg (Wd.cells ⟨1,((s.drop k).take (qAa qAm (s.drop k))),(at_ s k).1,(at_ s k).2⟩))),rs s (k+(List.length ((s.drop k).take (qAa qAm (s.drop k))))),rfl,⟨_,rfl,rfl⟩,⟨⟨_,rfl,rfl,rfl,_,rfl,_,_,rfl,rfl,_,_,rfl,rfl,_,_,rfl,rfl,_,_,rfl,rfl,rfl⟩,trivial⟩,?_⟩
     rw [e1]
     show(match qAr 1 ((s.drop k).take (qAa qAm (s.drop k))) with | true=>_ | false=>_)
     rw [hp]
     exact⟨by omega,rfl,rfl⟩
   ·rw [hd] at hD
    refine hD.eq rfl ?_
    have e1:=(show qCl (s.drop k)=(3,(s.drop k).take (qAa qAm (s.drop k))) by rw [qCl,if_pos hpos,if_neg (by rw [hkey];simp),if_pos (by rw [hcr];simp [hd])])
    have hl:=(show k+((s.drop k).take (qAa qAm (s.drop k))).length≤s.length by omega)
    have hP:=qDO 3 ((s.drop k).take (qAa qAm (s.drop k))) (by omega)
    by_cases hp:qAr 3 ((s.drop k).take (qAa qAm (s.drop k)))=true
    rotate_left
    ·rw [Bool.not_eq_true] at hp
     rw [hp] at hP
     refine hP.eq rfl ?_
     refine⟨[],[],[], .panicked [⟨.p (err (at_ s k) 370),false⟩],rs s k,rfl,⟨_,rfl,_,_,rfl,rfl,rfl⟩,⟨⟨_,rfl,rfl,rfl,_,rfl,_,_,rfl,rfl,_,_,rfl,rfl,_,_,rfl,rfl,_,_,rfl,rfl,rfl⟩,trivial⟩,?_⟩
     rw [e1]
     show(match qAr 3 ((s.drop k).take (qAa qAm (s.drop k))) with | true=>_ | false=>_)
     rw [hp]
     exact⟨rfl,rfl⟩
    ·rw [hp] at hP
     refine hP.eq rfl ?_
     refine(qDi s hs k (List.length ((s.drop k).take (qAa qAm (s.drop k)))) (by omega)).useE [] [] rfl ⟨⟨_,rfl,rfl,rfl,_,rfl,_,_,rfl,rfl,_,_,rfl,rfl,_,_,rfl,rfl,_,_,rfl,rfl,rfl⟩,trivial⟩ ⟨_,_,rfl,⟨rfl,rfl⟩,_,_,rfl,rfl,rfl⟩ ?_
     refine⟨[],[],[], .returned (.p (.agg (Wd.cells ⟨3,((s.drop k).take (qAa qAm (s.drop k))),(at_ s k).1,(at_ s k).2⟩))),rs s (k+(List.length ((s.drop k).take (qAa qAm (s.drop k))))),rfl,⟨_,rfl,rfl⟩,⟨⟨_,rfl,rfl,rfl,_,rfl,_,_,rfl,rfl,_,_,rfl,rfl,_,_,rfl,rfl,_,_,rfl,rfl,rfl⟩,trivial⟩,?_⟩
     rw [e1]
     show(match qAr 3 ((s.drop k).take (qAa qAm (s.drop k))) with | true=>_ | false=>_)
     rw [hp]
     exact⟨by omega,rfl,rfl⟩
  ·rw [hkey] at hK
   refine hK.eq rfl ?_
   have e1:=(show qCl (s.drop k)=(2,(s.drop k).take (qAa qAm (s.drop k))) by rw [qCl,if_pos hpos,if_pos hkey])
   have hl:=(show k+((s.drop k).take (qAa qAm (s.drop k))).length≤s.length by omega)
   have hP:=qDO 2 ((s.drop k).take (qAa qAm (s.drop k))) (by omega)
   by_cases hp:qAr 2 ((s.drop k).take (qAa qAm (s.drop k)))=true
   rotate_left
   ·rw [Bool.not_eq_true] at hp
    rw [hp] at hP
    refine hP.eq rfl ?_
    refine⟨[],[],[], .panicked [⟨.p (err (at_ s k) 370),false⟩],rs s k,rfl,⟨_,rfl,_,_,rfl,rfl,rfl⟩,⟨⟨_,rfl,rfl,rfl,_,rfl,_,_,rfl,rfl,_,_,rfl,rfl,_,_,rfl,rfl,_,_,rfl,rfl,rfl⟩,trivial⟩,?_⟩
    rw [e1]
    show(match qAr 2 ((s.drop k).take (qAa qAm (s.drop k))) with | true=>_ | false=>_)
    rw [hp]
    exact⟨rfl,rfl⟩
   ·rw [hp] at hP
    refine hP.eq rfl ?_
    refine(qDi s hs k (List.length ((s.drop k).take (qAa qAm (s.drop k)))) (by omega)).useE [] [] rfl ⟨⟨_,rfl,rfl,rfl,_,rfl,_,_,rfl,rfl,_,_,rfl,rfl,_,_,rfl,rfl,_,_,rfl,rfl,rfl⟩,trivial⟩ ⟨_,_,rfl,⟨rfl,rfl⟩,_,_,rfl,rfl,rfl⟩ ?_
    refine⟨[],[],[], .returned (.p (.agg (Wd.cells ⟨2,((s.drop k).take (qAa qAm (s.drop k))),(at_ s k).1,(at_ s k).2⟩))),rs s (k+(List.length ((s.drop k).take (qAa qAm (s.drop k))))),rfl,⟨_,rfl,rfl⟩,⟨⟨_,rfl,rfl,rfl,_,rfl,_,_,rfl,rfl,_,_,rfl,rfl,_,_,rfl,rfl,_,_,rfl,rfl,rfl⟩,trivial⟩,?_⟩
    rw [e1]
    show(match qAr 2 ((s.drop k).take (qAa qAm (s.drop k))) with | true=>_ | false=>_)
    rw [hp]
    exact⟨by omega,rfl,rfl⟩
 ·have h1:¬ (0:Int)<(qAa qAm (s.drop k):Nat):=h1
  have hpos:¬ 0<qAa qAm (s.drop k):=by omega
  have ht1:((s.drop k).take 1).length=1:=by rw [List.length_take];omega
  refine And.intro (fun h2=>?_) (fun h2=>?_)
  ·have h2:(1:Int)<((s.drop k).length:Nat):=h2
   have ht2:((s.drop k).take 2).length=2:=by rw [List.length_take];omega
   refine⟨⟨by omega,by show(2:Int)≤((s.drop k).length:Nat);omega⟩,?_⟩
   have hM:=qOr ((s.drop k).take 2)
   by_cases hm:inL marksL ((s.drop k).take 2)=true
   rotate_left
   ·rw [Bool.not_eq_true] at hm
    rw [hm] at hM
    refine hM.eq rfl ?_
    refine⟨⟨by omega,by show(1:Int)≤((s.drop k).length:Nat);omega⟩,?_⟩
    have e1:=(show qCl (s.drop k)=(4,(s.drop k).take 1) by rw [qCl,if_neg hpos,if_neg (by rw [hm];simp)])
    have hl:=(show k+((s.drop k).take 1).length≤s.length by omega)
    have hP:=qDO 4 ((s.drop k).take 1) (by omega)
    by_cases hp:qAr 4 ((s.drop k).take 1)=true
    rotate_left
    ·rw [Bool.not_eq_true] at hp
     rw [hp] at hP
     refine hP.eq rfl ?_
     refine⟨[],[],[], .panicked [⟨.p (err (at_ s k) 370),false⟩],rs s k,rfl,⟨_,rfl,_,_,rfl,rfl,rfl⟩,⟨⟨_,rfl,rfl,rfl,_,rfl,_,_,rfl,rfl,_,_,rfl,rfl,_,_,rfl,rfl,_,_,rfl,rfl,rfl⟩,trivial⟩,?_⟩
     rw [e1]
     show(match qAr 4 ((s.drop k).take 1) with | true=>_ | false=>_)
     rw [hp]
     exact⟨rfl,rfl⟩
    ·rw [hp] at hP
     refine hP.eq rfl ?_
     refine(qDi s hs k (List.length ((s.drop k).take 1)) (by omega)).useE [] [] rfl ⟨⟨_,rfl,rfl,rfl,_,rfl,_,_,rfl,rfl,_,_,rfl,rfl,_,_,rfl,rfl,_,_,rfl,rfl,rfl⟩,trivial⟩ ⟨_,_,rfl,⟨rfl,rfl⟩,_,_,rfl,rfl,rfl⟩ ?_
     refine⟨[],[],[], .returned (.p (.agg (Wd.cells ⟨4,((s.drop k).take 1),(at_ s k).1,(at_ s k).2⟩))),rs s (k+(List.length ((s.drop k).take 1))),rfl,⟨_,rfl,rfl⟩,⟨⟨_,rfl,rfl,rfl,_,rfl,_,_,rfl,rfl,_,_,rfl,rfl,_,_,rfl,rfl,_,_,rfl,rfl,rfl⟩,trivial⟩,?_⟩
     rw [e1]
     show(match qAr 4 ((s.drop k).take 1) with | true=>_ | false=>_)
     rw [hp]
     exact⟨by omega,rfl,rfl⟩
   ·rw [hm] at hM
    refine hM.eq rfl ?_
    refine⟨⟨by omega,by show(2:Int)≤((s.drop k).length:Nat);omega⟩,?_⟩
    have e1:=(show qCl (s.drop k)=(4,(s.drop k).take 2) by rw [qCl,if_neg hpos,if_pos (by rw [hm,decide_eq_true (by omega)];rfl)])
    have hl:=(show k+((s.drop k).take 2).length≤s.length by omega)
    have hP:=qDO 4 ((s.drop k).take 2) (by omega)
    by_cases hp:qAr 4 ((s.drop k).take 2)=true
    rotate_left
    ·rw [Bool.not_eq_true] at hp
     rw [hp] at hP
     refine hP.eq rfl ?_
     refine⟨[],[],[], .panicked [⟨.p (err (at_ s k) 370),false⟩],rs s k,rfl,⟨_,rfl,_,_,rfl,rfl,rfl⟩,⟨⟨_,rfl,rfl,rfl,_,rfl,_,_,rfl,rfl,_,_,rfl,rfl,_,_,rfl,rfl,_,_,rfl,rfl,rfl⟩,trivial⟩,?_⟩
     rw [e1]
     show(match qAr 4 ((s.drop k).take 2) with | true=>_ | false=>_)
     rw [hp]
     exact⟨rfl,rfl⟩
    ·rw [hp] at hP
     refine hP.eq rfl ?_
     refine(qDi s hs k (List.length ((s.drop k).take 2)) (by omega)).useE [] [] rfl ⟨⟨_,rfl,rfl,rfl,_,rfl,_,_,rfl,rfl,_,_,rfl,rfl,_,_,rfl,rfl,_,_,rfl,rfl,rfl⟩,trivial⟩ ⟨_,_,rfl,⟨rfl,rfl⟩,_,_,rfl,rfl,rfl⟩ ?_
     refine⟨[],[],[], .returned (.p (.agg (Wd.cells ⟨4,((s.drop k).take 2),(at_ s k).1,(at_ s k).2⟩))),rs s (k+(List.length ((s.drop k).take 2))),rfl,⟨_,rfl,rfl⟩,⟨⟨_,rfl,rfl,rfl,_,rfl,_,_,rfl,rfl,_,_,rfl,rfl,_,_,rfl,rfl,_,_,rfl,rfl,rfl⟩,trivial⟩,?_⟩
     rw [e1]
     show(match qAr 4 ((s.drop k).take 2) with | true=>_ | false=>_)
     rw [hp]
     exact⟨by omega,rfl,rfl⟩
  ·have h2:¬ (1:Int)<((s.drop k).length:Nat):=h2
   refine⟨⟨by omega,by show(1:Int)≤((s.drop k).length:Nat);omega⟩,?_⟩
   have e1:=(show qCl (s.drop k)=(4,(s.drop k).take 1) by rw [qCl,if_neg hpos,if_neg (by rw [decide_eq_false (by omega)];simp)])
   have hl:=(show k+((s.drop k).take 1).length≤s.length by omega)
   have hP:=qDO 4 ((s.drop k).take 1) (by omega)
   by_cases hp:qAr 4 ((s.drop k).take 1)=true
   rotate_left
   ·rw [Bool.not_eq_true] at hp
    rw [hp] at hP
    refine hP.eq rfl ?_
    refine⟨[],[],[], .panicked [⟨.p (err (at_ s k) 370),false⟩],rs s k,rfl,⟨_,rfl,_,_,rfl,rfl,rfl⟩,⟨⟨_,rfl,rfl,rfl,_,rfl,_,_,rfl,rfl,_,_,rfl,rfl,_,_,rfl,rfl,_,_,rfl,rfl,rfl⟩,trivial⟩,?_⟩
    rw [e1]
    show(match qAr 4 ((s.drop k).take 1) with | true=>_ | false=>_)
    rw [hp]
    exact⟨rfl,rfl⟩
   ·rw [hp] at hP
    refine hP.eq rfl ?_
    refine(qDi s hs k (List.length ((s.drop k).take 1)) (by omega)).useE [] [] rfl ⟨⟨_,rfl,rfl,rfl,_,rfl,_,_,rfl,rfl,_,_,rfl,rfl,_,_,rfl,rfl,_,_,rfl,rfl,rfl⟩,trivial⟩ ⟨_,_,rfl,⟨rfl,rfl⟩,_,_,rfl,rfl,rfl⟩ ?_
    refine⟨[],[],[], .returned (.p (.agg (Wd.cells ⟨4,((s.drop k).take 1),(at_ s k).1,(at_ s k).2⟩))),rs s (k+(List.length ((s.drop k).take 1))),rfl,⟨_,rfl,rfl⟩,⟨⟨_,rfl,rfl,rfl,_,rfl,_,_,rfl,rfl,_,_,rfl,rfl,_,_,rfl,rfl,_,_,rfl,rfl,rfl⟩,trivial⟩,?_⟩
    rw [e1]
    show(match qAr 4 ((s.drop k).take 1) with | true=>_ | false=>_)
    rw [hp]
    exact⟨by omega,rfl,rfl⟩
inductive RdR where
 | ok (ws:List Wd)
 | err (p:Nat × Nat) (c:Int)
def qK2 (rec:Nat→List Wd→RdR) (s:List UInt8) (k:Nat) (acc:List Wd):RdR:=
 if s.length≤k then .ok acc
 else match qAr (qCl (s.drop k)).1 (qCl (s.drop k)).2 with
  | false=>.err (at_ s k) 370
  | true=>if acc.length=1500 then .err (at_ s k) 3
   else rec (k+(qCl (s.drop k)).2.length) (acc++[⟨(qCl (s.drop k)).1,(qCl (s.drop k)).2,(at_ s k).1,(at_ s k).2⟩])
def qF6:Nat→List UInt8→Nat→List Wd→RdR
 | 0,_,_,acc=>.ok acc
 | f+1,s,k,acc=>match qCI s.length (s.drop k) with
  | .inr n=>.err (at_ s (k+n)) 370
  | .inl n=>qK2 (qF6 f s) s (k+n) acc
def qIQ (s:List UInt8):RdR:=qF6 (s.length+1) s 0 []
theorem one_pos {r:List UInt8} (h:r ≠ []):1≤(qCl r).2.length:=by
 have h1:1≤r.length:=by cases r <;> simp at h ⊢
 have h2:=qGv qAm r
 unfold qCl
 split
 ·split
  ·simp;omega
  ·split <;> simp <;> omega
 ·split <;> simp <;> omega
theorem qWw (o:AObj) (_ho:isCells o.c=true) :
  HoldsG cx 71 [.ptr 0 0 0] ⟨1,[(0,o)]⟩ fun e H'=>e=.returned (.fn (.func 109) [] [.ptr 1 0 0])∧H'=⟨2,[(1,⟨184,false, .bx [.ptr 0 0 0]⟩),(0,o)]⟩:=by
 refine qAp Tryz.func71 rfl rfl rfl ?_
 exact⟨rfl,rfl⟩
def qIP (s:List UInt8):List PV:=
 if 8000<s.length then [.lsts 4 [],i64 0,i64 0,i64 3]
 else match qIQ s with
  | .ok ws=>[.lsts 4 (ws.map Wd.cells),i64 0,i64 0,i64 0]
  | .err p c=>[.lsts 4 [],i64 p.1,i64 p.2,i64 c]
def rdL (s:List UInt8) (st:LoopState) (N:Nat) (σ:Sg) (ps:List Tmp) (ac bd:Code) (k:Nat) (out:AV):List (Nat × AObj):=
 [(7,⟨0,false, .lp st none 6 N σ ps ac bd 6⟩),(6,⟨0,false, .df⟩),(5,⟨184,false, .bx [.ptr 4 0 0]⟩),(4,⟨186,false, .bx (rdr (at_ s k) s k)⟩),(3,⟨52,false, .bx [.p (i64 0)]⟩),(2,⟨3,false, .bx [.p (i64 0)]⟩),(1,⟨3,false, .bx [.p (i64 0)]⟩),(0,⟨122,false, .bx [out]⟩)]
def rdA (acc:List Wd):AObj:=⟨126,false, .pus (acc.map Wd.cells)⟩
def rdM (s:List UInt8) (st:LoopState) (N:Nat) (σ:Sg) (ps:List Tmp) (ac bd:Code) (k:Nat) (acc:List Wd) (out:AV):List (Nat × AObj):=
 [(4,⟨186,false, .bx (rdr (at_ s k) s k)⟩),(8,rdA acc),(7,⟨0,false, .lp st none 6 N σ ps ac bd 6⟩),(6,⟨0,false, .df⟩),(5,⟨184,false, .bx [.ptr 4 0 0]⟩),(3,⟨52,false, .bx [.p (i64 0)]⟩),(2,⟨3,false, .bx [.p (i64 0)]⟩),(1,⟨3,false, .bx [.p (i64 0)]⟩),(0,⟨122,false, .bx [out]⟩)]
def rdN (s:List UInt8) (N:Nat) (σ:Sg) (ps:List Tmp) (ac bd:Code) (k:Nat) (acc:List Wd) (w:Wd):List (Nat × AObj):=
 [(11,rdA (acc++[w])),(10,rdA [w]),(9,⟨126,false, .bx (w.cells.map .p)⟩),(4,⟨186,false, .bx (rdr (at_ s k) s k)⟩),(7,⟨0,false, .lp .ready none 6 N σ ps ac bd 6⟩),(6,⟨0,false, .df⟩),(5,⟨184,false, .bx [.ptr 4 0 0]⟩),(3,⟨52,false, .bx [.p (i64 0)]⟩),(2,⟨3,false, .bx [.p (i64 0)]⟩),(1,⟨3,false, .bx [.p (i64 0)]⟩),(0,⟨122,false, .bx [.sl 11 4 0 (acc.length+1)]⟩)]
theorem qbi (x:Nat ⊕ Nat):(∃ n,x=.inl n)∨∃ n,x=.inr n:=by
 cases x with
 | inl n=>exact .inl ⟨n,rfl⟩
 | inr n=>exact .inr ⟨n,rfl⟩
theorem qZZ (s:List UInt8) (hs:s.length≤8000) (N:Nat) (σ σ1:Sg) (ds:List AD) (ps:List Tmp) (ac bd:Code) (Q:KQ)
  (hok:∀ k acc,qIQ s=.ok acc→Q .normal σ1 ds ⟨9,(8,rdA acc)::rdL s .exhausted N σ ps ac bd k (.sl 8 4 0 acc.length)⟩)
  (hp1:∀ p c k acc st,qIQ s=.err p c→Q (.panic [⟨.p (err p c),false⟩]) σ1 ds ⟨9,(8,rdA acc)::rdL s st N σ ps ac bd k (.sl 8 4 0 acc.length)⟩)
  (hrd:∀ k acc (w:Wd) (K:AE→Hp→Prop),acc.length≤1500 →
    (acc.length=1500→K (.panicked [⟨.p (.iface 182 (.agg [i64 w.line,i64 w.col,i64 3])),false⟩]) ⟨10,(9,⟨126,false, .bx (w.cells.map .p)⟩)::rdM s .busy N σ ps ac bd k acc (.sl 8 4 0 acc.length)⟩) →
    (acc.length<1500→K (.returned (vB true)) ⟨12,rdN s N σ ps ac bd k acc w⟩) →
    qFy cx 7 [.p (.agg w.cells)] ⟨9,rdM s .ready N σ ps ac bd k acc (.sl 8 4 0 acc.length)⟩ K) :
  HoldsG cx 109 [.fn (.yield 7) [] [], .ptr 5 0 0] ⟨8,rdL s .ready N σ ps ac bd 0 (.p .nils)⟩ (qL4 7 σ1 ds Q):=by
 refine qAA Tryz.func109 rfl rfl rfl ?_
 have hB:=qTV s hs 0 s.length (by omega) (by omega)
 have hR:qIQ s=match qCI s.length (s.drop 0) with
  | .inr n=>.err (at_ s (0+n)) 370
  | .inl n=>qK2 (qF6 s.length s) s (0+n) []:=rfl
 refine Or.elim (qbi (qCI s.length (s.drop 0))) (fun hn=>Exists.elim hn fun n hsk=>?_) (fun hn=>Exists.elim hn fun n hsk=>?_)
 ·simp only [hsk] at hB hR
  refine hB.holds.useN [] [(0,4)] rfl ⟨⟨_,rfl,rfl,rfl,_,rfl,_,_,rfl,rfl,_,_,rfl,rfl,_,_,rfl,rfl,_,_,rfl,rfl,rfl⟩,trivial⟩ ⟨_,_,rfl,⟨rfl,rfl⟩,rfl⟩ fun e0 H0' hq=>?_
  obtain⟨k1,rfl,rfl⟩:=hq
  refine⟨rfl,?_⟩
  refine⟨Nat × Nat × List Wd,fun x=>[(0, .fn (.yield 7) [] []),(1, .ptr 5 0 0)],fun x=>⟨9,(8,rdA x.2.2)::rdL s .ready N σ ps ac bd x.1 (.sl 8 4 0 x.2.2.length)⟩,
   fun x=>x.1≤s.length∧s.length - x.1≤x.2.1∧x.2.2.length≤1500∧qIQ s=qK2 (qF6 x.2.1 s) s x.1 x.2.2,fun x=>s.length - x.1,?_,?_⟩
  ·refine⟨(0+n,s.length,[]),⟨k1,by simp,by simp,hR⟩,?_⟩
   exact qAB [] [] [(8,4)] rfl (sk) (sk) rfl
  ·rintro⟨k,f,acc⟩ ⟨g1,g2,g3,g4⟩
   simp only [] at g1 g2 g3 g4
   refine VDraw.seq rfl ?_
   refine And.intro (fun h1=>?_) (fun h1=>?_)
   ·have h1:(k:Int)<(s.length:Int):=h1
    have hlt:k<s.length:=by omega
    have hW:=qYs s hs k hlt
    have hne:s.drop k ≠ []:=by intro e;have:=congrArg List.length e;rw [List.length_drop] at this;simp only [List.length_nil] at this;omega
    have hpos:=one_pos hne
    have hb:qK2 (qF6 f s) s k acc=match qAr (qCl (s.drop k)).1 (qCl (s.drop k)).2 with
      | false=>.err (at_ s k) 370
      | true=>if acc.length=1500 then .err (at_ s k) 3
       else qF6 f s (k+(qCl (s.drop k)).2.length) (acc++[⟨(qCl (s.drop k)).1,(qCl (s.drop k)).2,(at_ s k).1,(at_ s k).2⟩]):=by
     rw [qK2,if_neg (by omega)]
    by_cases hr:qAr (qCl (s.drop k)).1 (qCl (s.drop k)).2=true
    rotate_left
    ·rw [Bool.not_eq_true] at hr
     simp only [hr] at hW hb
     refine hW.holds.useN [] [(0,4)] rfl ⟨⟨_,rfl,rfl,rfl,_,rfl,_,_,rfl,rfl,_,_,rfl,rfl,_,_,rfl,rfl,_,_,rfl,rfl,rfl⟩,trivial⟩ ⟨_,_,rfl,⟨rfl,rfl⟩,rfl⟩ fun e0 H0' hq=>?_
     obtain⟨rfl,rfl⟩:=hq
     refine⟨rfl,?_⟩
     exact⟨[],[(8,8)],[], .panicked [⟨.p (err (at_ s k) 370),false⟩],⟨9,(8,rdA acc)::rdL s .ready N σ ps ac bd k (.sl 8 4 0 acc.length)⟩,rfl,sk,sk,hp1 _ _ k acc .ready (g4.trans hb)⟩
    ·simp only [hr] at hW hb
     refine hW.holds.useN [] [(0,4)] rfl ⟨⟨_,rfl,rfl,rfl,_,rfl,_,_,rfl,rfl,_,_,rfl,rfl,_,_,rfl,rfl,_,_,rfl,rfl,rfl⟩,trivial⟩ ⟨_,_,rfl,⟨rfl,rfl⟩,rfl⟩ fun e0 H0' hq=>?_
     obtain⟨k1,rfl,rfl⟩:=hq
     refine⟨rfl,?_⟩
     refine hrd _ acc ⟨(qCl (s.drop k)).1,(qCl (s.drop k)).2,(at_ s k).1,(at_ s k).2⟩ _ g3 (fun h2=>?_) (fun h2=>?_)
     ·rw [if_pos h2] at hb
      exact⟨[],[(8,8)],[], .panicked [⟨.p (err (at_ s k) 3),false⟩],⟨9,(8,rdA acc)::rdL s .busy N σ ps ac bd (k+(qCl (s.drop k)).2.length) (.sl 8 4 0 acc.length)⟩,rfl,sk,sk,hp1 _ _ _ acc .busy (g4.trans hb)⟩
     ·rw [if_neg (by omega)] at hb
      have hw0:∀ w:Wd,AV.sl 11 4 0 (acc.length+1)=AV.sl 11 4 0 (acc++[w]).length:=fun w=>by rw [List.length_append];rfl
      obtain⟨f',rfl⟩:∃ n,f=n+1:=⟨f - 1,by omega⟩
      have hB:=qTV s hs (k+(qCl (s.drop k)).2.length) s.length k1 (by omega)
      rw [qF6] at hb
      refine Or.elim (qbi (qCI s.length (s.drop (k+(qCl (s.drop k)).2.length)))) (fun hn=>Exists.elim hn fun n hsk=>?_) (fun hn=>Exists.elim hn fun n hsk=>?_)
      ·simp only [hsk] at hB hb
       refine hB.holds.useN [] [(0,4)] rfl ⟨⟨_,rfl,rfl,rfl,_,rfl,_,_,rfl,rfl,_,_,rfl,rfl,_,_,rfl,rfl,_,_,rfl,rfl,rfl⟩,trivial⟩ ⟨_,_,rfl,⟨rfl,rfl⟩,rfl⟩ fun e0 H0' hq=>?_
       obtain⟨k2,rfl,rfl⟩:=hq
       refine⟨rfl,?_⟩
       refine⟨(k+(qCl (s.drop k)).2.length+n,f',acc++[⟨(qCl (s.drop k)).1,(qCl (s.drop k)).2,(at_ s k).1,(at_ s k).2⟩]),⟨k2,by simp only [];omega,by simp;omega,g4.trans hb⟩,?_,by simp only [];omega⟩
       exact qAB [] [(8,11)] [] rfl ⟨⟨rfl,_,_,rfl,rfl,rfl⟩,⟨rfl,rfl⟩,trivial⟩ ⟨⟨_,rfl,rfl,rfl,rfl⟩,⟨_,rfl,rfl,rfl,rfl,rfl,rfl⟩,⟨_,rfl,rfl,rfl,rfl⟩,⟨_,rfl,rfl,rfl,_,rfl,_,_,rfl,⟨rfl,rfl⟩,rfl⟩,⟨_,rfl,rfl,rfl,_,rfl,_,_,rfl,rfl,_,_,rfl,rfl,_,_,rfl,rfl,_,_,rfl,rfl,rfl⟩,⟨_,rfl,rfl,rfl,_,rfl,_,_,rfl,rfl,rfl⟩,⟨_,rfl,rfl,rfl,_,rfl,_,_,rfl,rfl,rfl⟩,⟨_,rfl,rfl,rfl,_,rfl,_,_,rfl,rfl,rfl⟩,⟨_,rfl,rfl,rfl,_,rfl,_,_,rfl,hw0 _,rfl⟩,trivial⟩ rfl
      ·simp only [hsk] at hB hb
       refine hB.holds.useN [] [(0,4)] rfl ⟨⟨_,rfl,rfl,rfl,_,rfl,_,_,rfl,rfl,_,_,rfl,rfl,_,_,rfl,rfl,_,_,rfl,rfl,rfl⟩,trivial⟩ ⟨_,_,rfl,⟨rfl,rfl⟩,rfl⟩ fun e0 H0' hq=>?_
       obtain⟨k2,rfl,k',k3,rfl⟩:=hq
       refine⟨rfl,?_⟩
       exact⟨[],[(8,11)],[], .panicked [⟨.p (err (at_ s (k+(qCl (s.drop k)).2.length+n)) 370),false⟩],⟨9,(8,rdA (acc++[(⟨(qCl (s.drop k)).1,(qCl (s.drop k)).2,(at_ s k).1,(at_ s k).2⟩:Wd)]))::rdL s .ready N σ ps ac bd k' (.sl 8 4 0 (acc++[(⟨(qCl (s.drop k)).1,(qCl (s.drop k)).2,(at_ s k).1,(at_ s k).2⟩:Wd)]).length)⟩,rfl,⟨_,rfl,_,_,rfl,rfl,rfl⟩,⟨⟨_,rfl,rfl,rfl,rfl⟩,⟨_,rfl,rfl,rfl,rfl,rfl,rfl⟩,⟨_,rfl,rfl,rfl,rfl⟩,⟨_,rfl,rfl,rfl,_,rfl,_,_,rfl,⟨rfl,rfl⟩,rfl⟩,⟨_,rfl,rfl,rfl,_,rfl,_,_,rfl,rfl,_,_,rfl,rfl,_,_,rfl,rfl,_,_,rfl,rfl,rfl⟩,⟨_,rfl,rfl,rfl,_,rfl,_,_,rfl,rfl,rfl⟩,⟨_,rfl,rfl,rfl,_,rfl,_,_,rfl,rfl,rfl⟩,⟨_,rfl,rfl,rfl,_,rfl,_,_,rfl,rfl,rfl⟩,⟨_,rfl,rfl,rfl,_,rfl,_,_,rfl,hw0 _,rfl⟩,trivial⟩,hp1 _ _ k' _ .ready (g4.trans hb)⟩
   ·have h1:¬ (k:Int)<(s.length:Int):=h1
    have e:qIQ s=.ok acc:=by rw [g4,qK2,if_pos (by omega)]
    exact⟨[],[(8,8)],[], .returned und,⟨9,(8,rdA acc)::rdL s .ready N σ ps ac bd k (.sl 8 4 0 acc.length)⟩,rfl,sk,sk,hok k acc e⟩
 ·simp only [hsk] at hB hR
  refine hB.holds.useN [] [(0,4)] rfl ⟨⟨_,rfl,rfl,rfl,_,rfl,_,_,rfl,rfl,_,_,rfl,rfl,_,_,rfl,rfl,_,_,rfl,rfl,rfl⟩,trivial⟩ ⟨_,_,rfl,⟨rfl,rfl⟩,rfl⟩ fun e0 H0' hq=>?_
  obtain⟨k1,rfl,k',k2,rfl⟩:=hq
  refine⟨rfl,?_⟩
  exact⟨[],[],[(8,4)], .panicked [⟨.p (err (at_ s (0+n)) 370),false⟩],⟨9,(8,rdA [])::rdL s .ready N σ ps ac bd k' (.sl 8 4 0 0)⟩,rfl,sk,sk,hp1 _ _ k' [] .ready hR⟩
theorem qZB (s:List UInt8):Pure cx 42 [.str s] (·=.ret (qIP s)):=by
 refine qAF Tryz.func42 rfl rfl rfl ?_
 refine And.intro (fun h1=>?_) (fun h1=>?_)
 ·have h1:(8000:Int)<s.length:=h1
  have e:qIP s=[.lsts 4 [],i64 0,i64 0,i64 3]:=by rw [qIP,if_pos (by omega)]
  rw [e]
  exact qWQ (.lsts 4 []) (i64 0) (i64 0) (i64 3) rfl (.inr (.inr ⟨4,rfl⟩)) rfl rfl rfl rfl
 ·have hs:s.length≤8000:=by have h1:¬ (8000:Int)<s.length:=h1;omega
  have hw:=qWw ⟨186,false, .bx (rdr (at_ s 0) s 0)⟩ rfl
  refine hw.useE [] [(0,4)] rfl ⟨⟨_,rfl,rfl,rfl,_,rfl,_,_,rfl,rfl,_,_,rfl,rfl,_,_,rfl,rfl,_,_,rfl,rfl,rfl⟩,trivial⟩ ⟨_,_,rfl,⟨rfl,rfl⟩,rfl⟩ ?_
  refine qGz ?_
  intro σ' ps ac bd e1 e2 e3 e4
  have hrd:∀ k acc (w:Wd) (K:AE→Hp→Prop),acc.length≤1500 →
    (acc.length=1500→K (.panicked [⟨.p (.iface 182 (.agg [i64 w.line,i64 w.col,i64 3])),false⟩]) ⟨10,(9,⟨126,false, .bx (w.cells.map .p)⟩)::rdM s .busy Tryz.f42.ntmps σ' ps ac bd k acc (.sl 8 4 0 acc.length)⟩) →
    (acc.length<1500→K (.returned (vB true)) ⟨12,rdN s Tryz.f42.ntmps σ' ps ac bd k acc w⟩) →
    qFy cx 7 [.p (.agg w.cells)] ⟨9,rdM s .ready Tryz.f42.ntmps σ' ps ac bd k acc (.sl 8 4 0 acc.length)⟩ K:=by
   intro k acc w K hacc hK1 hK2
   subst e1 e2 e3 e4
   refine qCc rfl rfl rfl ?_
   refine And.intro (fun h2=>?_) (fun h2=>?_)
   ·have h2:(acc.length:Int)=1500:=h2
    exact hK1 (by omega)
   ·have h2:¬ (acc.length:Int)=1500:=h2
    refine⟨by show 0+1≤1;omega,[w.cells],rfl,?_⟩
    refine⟨by show 0+acc.length≤(acc.map Wd.cells).length;simp,acc.map Wd.cells,?_,?_⟩
    ·show acc.map Wd.cells=((acc.map Wd.cells).drop 0).take acc.length
     rw [List.drop_zero,List.take_of_length_le (by simp)]
    refine⟨by show(acc.length+1) * 40≤140737488355328;omega,(acc++[w]).map Wd.cells,by simp,?_⟩
    exact hK2 (by omega)
  refine qZZ s hs _ σ' _ _ ps ac bd _ ?_ ?_ hrd
  ·intro k acc hr
   have e:qIP s=[.lsts 4 (acc.map Wd.cells),i64 0,i64 0,i64 0]:=by rw [qIP,if_neg (by omega),hr]
   rw [e]
   refine qCX Tryz.func70 rfl rfl rfl ?_
   refine⟨[],[(0,0),(1,1),(2,2),(3,3),(8,8)],[], .returned und,⟨9,[(8,rdA acc),(3,⟨52,false, .bx [.p (i64 0)]⟩),(2,⟨3,false, .bx [.p (i64 0)]⟩),(1,⟨3,false, .bx [.p (i64 0)]⟩),(0,⟨122,false, .bx [.sl 8 4 0 acc.length]⟩)]⟩,rfl,sk,sk,?_⟩
   refine qWQ (.lsts 4 (acc.map Wd.cells)) (i64 0) (i64 0) (i64 0) rfl ?_ rfl rfl rfl rfl
   exact⟨_,rfl,by simp,by rw [List.drop_zero,List.take_of_length_le (by simp)]⟩
  ·intro p c k acc st hr
   have e:qIP s=[.lsts 4 [],i64 p.1,i64 p.2,i64 c]:=by rw [qIP,if_neg (by omega),hr]
   rw [e]
   refine qCX Tryz.func70 rfl rfl rfl ?_
   refine VDraw.seq rfl ?_
   refine⟨sk,?_⟩
   refine⟨sk,?_⟩
   refine⟨sk,?_⟩
   refine⟨[],[(0,0),(1,1),(2,2),(3,3)],[], .returned und,⟨9,[(3,⟨52,false, .bx [.p (i64 c)]⟩),(2,⟨3,false, .bx [.p (i64 p.2)]⟩),(1,⟨3,false, .bx [.p (i64 p.1)]⟩),(0,⟨122,false, .bx [.p .nils]⟩)]⟩,rfl,sk,sk,?_⟩
   exact qWQ (.lsts 4 []) (i64 p.1) (i64 p.2) (i64 c) rfl (.inr (.inr ⟨4,rfl⟩)) rfl rfl rfl rfl
end Go.Proofs.YtkegmchjobphdaaGreatDoor
namespace Go.Proofs.YtkegmchjobphdaaGreatDoor
open Go Y
set_option maxRecDepth 100000
set_option maxHeartbeats 4000000
abbrev qN7:List UInt8:=[103,114,97,105,110]
abbrev qN6:List UInt8:=[112,108,97,116,101]
abbrev qUZ:List UInt8:=[110,111,100,101]
abbrev qJc:List UInt8:=[99,104,111,111,115,101]
abbrev qUa:List UInt8:=[103,97,105,110]
abbrev qKl:List UInt8:=[102,114,111,109]
abbrev qMS:List UInt8:=[115,101,101,105,110,103]
abbrev qUb:List UInt8:=[101,108,115,101]
abbrev qV1:List UInt8:=[97,110,100]
abbrev tOr:List UInt8:=[111,114]
abbrev qYT:List UInt8:=[110,111,116]
abbrev tIn:List UInt8:=[105,110]
abbrev qPn:List UInt8:=[97,108,108]
abbrev qIZ:List UInt8:=[99,111,117,110,116]
abbrev qER:List UInt8:=[58]
abbrev qB8:List UInt8:=[59]
abbrev qHT:List UInt8:=[44]
abbrev tLP:List UInt8:=[40]
abbrev tRP:List UInt8:=[41]
abbrev tLB:List UInt8:=[91]
abbrev tRB:List UInt8:=[93]
abbrev tLC:List UInt8:=[123]
abbrev tRC:List UInt8:=[125]
abbrev tEq:List UInt8:=[61]
abbrev tLt:List UInt8:=[60]
abbrev qRK:List UInt8:=[43]
abbrev qEW:List UInt8:=[45]
abbrev tNe:List UInt8:=[47,61]
abbrev tLe:List UInt8:=[60,61]
abbrev qbZ:TypeId:=126
abbrev qZ7:TypeId:=34
abbrev qTn:TypeId:=83
abbrev qVq:TypeId:=76
abbrev qbb:TypeId:=30
abbrev qWc:TypeId:=3
abbrev qba:TypeId:=9
structure Rf where
 name:List UInt8
 mode:Int
 plate:List UInt8
 n:Int
deriving DecidableEq
inductive Cd where
 | mk (op n rel val:Int) (ref:Rf) (set:List Int) (args:List Cd)
structure Cs where
 cond:Cd
 nums:List Int
structure De where
 kind:Int
 n:Int
 name:List UInt8
 plate:List UInt8
 refs:List Rf
 cases:List Cs
abbrev ints (l:List Int):PV:=.lst (l.map i64)
abbrev strs (l:List (List UInt8)):PV:=.lst (l.map .str)
abbrev Rf.cells (r:Rf):List PV:=[.str r.name,i64 r.mode, .str r.plate,i64 r.n]
abbrev Rf.pv (r:Rf):PV:=.agg r.cells
abbrev qE7 (l:List Rf):PV:=.lsts 4 (l.map Rf.cells)
mutual
def Cd.cells:Cd→List PV
 | .mk op n rel val r set args=>[i64 op,i64 n,i64 rel,i64 val, .str r.name,i64 r.mode, .str r.plate,i64 r.n,ints set, .lsts 10 (qCk args)]
def qCk:List Cd→List (List PV)
 | []=>[]
 | c::r=>c.cells::qCk r
end
theorem qBl:∀ l:List Cd,qCk l=l.map Cd.cells
 | []=>rfl
 | c::r=>by rw [qCk,qBl r];rfl
abbrev Cd.pv (c:Cd):PV:=.agg c.cells
abbrev cds (l:List Cd):PV:=.lsts 10 (l.map Cd.cells)
def Cs.cells (c:Cs):List PV:=c.cond.cells++[ints c.nums]
abbrev Cs.pv (c:Cs):PV:=.agg c.cells
abbrev css (l:List Cs):PV:=.lsts 11 (l.map Cs.cells)
def De.cells (d:De):List PV:=[i64 d.kind,i64 d.n, .str d.name, .str d.plate,qE7 d.refs,css d.cases]
abbrev De.pv (d:De):PV:=.agg d.cells
abbrev des (l:List De):PV:=.lsts 6 (l.map De.cells)
abbrev qIM (l:List De):PV:=.agg [des l]
def rf0:Rf:=⟨[],0,[],0⟩
def cd0:Cd:=.mk 0 0 0 0 rf0 [] []
def wd0:Wd:=⟨0,[],0,0⟩
def wat (ws:List Wd) (q:Nat):Wd:=ws.getD q wd0
abbrev txt (ws:List Wd) (q:Nat):List UInt8:=(wat ws q).text
abbrev knd (ws:List Wd) (q:Nat):Int:=(wat ws q).kind
theorem qHK {ws:List Wd} {q:Nat} (h:ws.length≤q):wat ws q=wd0:=by
 rw [wat,List.getD_eq_getElem?_getD,List.getElem?_eq_none h];rfl
structure GoodW (ws:List Wd):Prop where
 right:∀ w∈ws,qAr w.kind w.text=true
 len:ws.length≤1500
theorem GoodW.at {ws:List Wd} (h:GoodW ws) {q:Nat} (hq:q<ws.length):qAr (knd ws q) (txt ws q)=true:=
 h.right _ (by rw [wat,List.getD_eq_getElem?_getD,List.getElem?_eq_getElem hq];exact List.getElem_mem hq)
theorem qBF {ws:List Wd} {q:Nat} (h:txt ws q ≠ []):q<ws.length:=by
 rcases Nat.lt_or_ge q ws.length with h1 | h1
 ·exact h1
 ·exact absurd (by rw [txt,qHK h1];rfl) h
theorem qLM {ws:List Wd} {q:Nat} (h:knd ws q ≠ 0):q<ws.length:=by
 rcases Nat.lt_or_ge q ws.length with h1 | h1
 ·exact h1
 ·exact absurd (by rw [knd,qHK h1];rfl) h
def qQd (t:List UInt8):Int:=t.foldl (fun n b=>10 * n+((b.toNat:Int) - 48)) 0
abbrev Rd (α:Type):=Sum Nat (α × Nat)
def Rd.then {α β:Type} (r:Rd α) (k:α→Nat→Rd β):Rd β:=match r with
 | .inl e=>.inl e
 | .inr (a,p)=>k a p
section
variable (ws:List Wd)
def qCO (s:List UInt8) (q:Nat):Rd Unit:=if txt ws q=s then .inr ((),q+1) else .inl q
def qAg:List (List UInt8)→Nat→Rd Unit
 | [],q=>.inr ((),q)
 | s::r,q=>(qCO ws s q).then fun _ q=>qAg r q
def qCm (q:Nat):Rd (List UInt8):=if knd ws q=1 then .inr (txt ws q,q+1) else .inl q
def qDR (q:Nat):Rd Int:=if knd ws q=3 then .inr (qQd (txt ws q),q+1) else .inl q
def qC3 (nm:List UInt8) (mode:Int) (pl:List UInt8) (n:Int) (q:Nat):Rd Rf:=(qCO ws tRB q).then fun _ q=>.inr (⟨nm,mode,pl,n⟩,q)
def qKz (q : Nat) : Rd Rf := (qCm ws q).then fun nm q =>
  if txt ws q = tLB then
    (if txt ws (q + 1) = qPn then qC3 ws nm 3 [] 0 (q + 2)
     else if knd ws (q + 1) = 3 then (qDR ws (q + 1)).then fun n q => qC3 ws nm 2 [] n q
     else (qCm ws (q + 1)).then fun pl q => if txt ws q = qRK then (qDR ws (q + 1)).then fun n q => qC3 ws nm 1 pl n q else qC3 ws nm 1 pl 0 q)
  else .inr (⟨nm, 0, [], 0⟩, q)
def qFb {α:Type} (rd:Nat→Rd α):Nat→List α→Nat→Rd (List α)
 | 0,_,q=>.inl q
 | f+1,acc,q=>if txt ws q=qHT then(rd (q+1)).then fun a q=>qFb rd f (acc++[a]) q else .inr (acc,q)
def qGC {α:Type} (rd:Nat→Rd α) (F:Nat) (q:Nat):Rd (List α):=(rd q).then fun a q=>qFb ws rd F [a] q
def qFP (F:Nat) (key:List UInt8) (q:Nat):Rd (List Rf):=if txt ws q=key then qGC ws (qKz ws) F (q+1) else .inr ([],q)
def qUr (q:Nat):Rd Int:=
 if txt ws q=tEq then .inr (1,q+1) else if txt ws q=tNe then .inr (2,q+1) else if txt ws q=tLt then .inr (3,q+1) else if txt ws q=tLe then .inr (4,q+1) else .inl q
def qM7:List Int→Int→List Int
 | [],n=>[n]
 | x::l,n=>if n<x then n::x::l else if x=n then x::l else x::qM7 l n
def qaL (l:List Int):List Int:=l.foldl qM7 []
def qSg (q:Nat):Rd Int:=if txt ws q=qEW then(qDR ws (q+1)).then fun n q=>.inr (-n,q) else qDR ws q
def qGo:Nat→List Int→Nat→Rd (List Int)
 | 0,_,q=>.inl q
 | f+1,acc,q=>if txt ws q=qEW∨knd ws q=3 then(qSg ws q).then fun n q=>qGo f (acc++[n]) q else .inr (acc,q)
def qEn (F:Nat) (q:Nat):Rd (List Int):=(qSg ws q).then fun n q=>qGo ws F [n] q
mutual
def qDm:Nat→Nat→Rd Cd
 | 0,q=>.inl q
 | F+1,q=>(qDb F q).then fun c q=>orR F c q
def orR:Nat→Cd→Nat→Rd Cd
 | 0,_,q=>.inl q
 | F+1,c,q=>if txt ws q=tOr then(qDb F (q+1)).then fun d q=>orR F (.mk 9 0 0 0 rf0 [] [c,d]) q else .inr (c,q)
def qDb:Nat→Nat→Rd Cd
 | 0,q=>.inl q
 | F+1,q=>(qJw F q).then fun c q=>qTc F c q
def qTc:Nat→Cd→Nat→Rd Cd
 | 0,_,q=>.inl q
 | F+1,c,q=>if txt ws q=qV1 then(qJw F (q+1)).then fun d q=>qTc F (.mk 8 0 0 0 rf0 [] [c,d]) q else .inr (c,q)
def qJw:Nat→Nat→Rd Cd
 | 0,q=>.inl q
 | F+1,q=>if txt ws q=qYT then(qJw F (q+1)).then fun c q=>.inr (.mk 7 0 0 0 rf0 [] [c],q) else qHS F q
def qHS:Nat→Nat→Rd Cd
 | 0,q=>.inl q
 | F+1,q=>
  if txt ws q=tLP then(qDm F (q+1)).then fun c q=>(qCO ws tRP q).then fun _ q=>.inr (c,q)
  else if txt ws q=qIZ then(qCO ws tLP (q+1)).then fun _ q=>(qCm ws q).then fun nm q=>(qAg ws [tLB,qPn,tRB,tEq] q).then fun _ q=>(qDR ws q).then fun v q=>
   (qCO ws tRP q).then fun _ q=>(qUr ws q).then fun r q=>(qDR ws q).then fun n q=>.inr (.mk 6 n r v ⟨nm,3,[],0⟩ [] [],q)
  else(qKz ws q).then fun r q=>if txt ws q=tIn then(qCO ws tLC (q+1)).then fun _ q=>(qGC ws (qDR ws) F q).then fun l q=>(qCO ws tRC q).then fun _ q=>.inr (.mk 5 0 0 0 r (qaL l) [],q)
   else(qUr ws q).then fun o q=>(qDR ws q).then fun n q=>.inr (.mk o n 0 0 r [] [],q)
end
def qHg (F:Nat) (acc:List Cs) (q:Nat):Rd (List Cs):=(qCO ws qER q).then fun _ q=>(qEn ws F q).then fun l q=>(qCO ws tRC q).then fun _ q=>.inr (acc++[⟨cd0,l⟩],q)
def qFr (F:Nat):Nat→List Cs→Nat→Rd (List Cs)
 | 0,_,q=>.inl q
 | f+1,acc,q=>if txt ws q=qUb then qHg ws F acc (q+1)
  else(qDm ws F q).then fun c q=>(qCO ws qER q).then fun _ q=>(qEn ws F q).then fun l q=>(qCO ws qB8 q).then fun _ q=>qFr F f (acc++[⟨c,l⟩]) q
def qGl (F:Nat) (q:Nat):Rd (List Cs):=(qCO ws tLC q).then fun _ q=>qFr ws F F [] q
def qFj (q:Nat):Rd De:=(qDR ws q).then fun n q=>.inr (⟨1,n,[],[],[],[]⟩,q)
def qFV (q:Nat):Rd De:=(qCm ws q).then fun nm q=>(qCO ws tEq q).then fun _ q=>(qDR ws q).then fun n q=>.inr (⟨2,n,nm,[],[],[]⟩,q)
def qCq (F:Nat) (nm pl:List UInt8) (q:Nat):Rd De:=(qCO ws qER q).then fun _ q=>(qDR ws q).then fun n q=>(qFP ws F qKl q).then fun l q=>(qCO ws tEq q).then fun _ q=>(qGl ws F q).then fun cs q=>.inr (⟨3,n,nm,pl,l,cs⟩,q)
def qJv (F:Nat) (q:Nat):Rd De:=(qCm ws q).then fun nm q=>
 if txt ws q=tLB then(qCm ws (q+1)).then fun pl q=>(qCO ws tRB q).then fun _ q=>qCq ws F nm pl q else qCq ws F nm [] q
def qDc (F:Nat) (q:Nat):Rd De:=(qCm ws q).then fun nm q=>(qCO ws qER q).then fun _ q=>(qDR ws q).then fun n q=>(qFP ws F qMS q).then fun l q=>.inr (⟨4,n,nm,[],l,[]⟩,q)
def qKB (F:Nat) (q:Nat):Rd De:=(qFP ws F qKl q).then fun l q=>(qCO ws tEq q).then fun _ q=>(qGl ws F q).then fun cs q=>.inr (⟨5,0,[],[],l,cs⟩,q)
def qD5 (F:Nat) (q:Nat):Rd De:=
 if txt ws q=qN7 then qFj ws (q+1) else if txt ws q=qN6 then qFV ws (q+1) else if txt ws q=qUZ then qJv ws F (q+1)
 else if txt ws q=qJc then qDc ws F (q+1) else if txt ws q=qUa then qKB ws F (q+1) else .inl q
def qGm (F:Nat):Nat→List De→Nat→Rd (List De)
 | 0,_,q=>.inl q
 | f+1,acc,q=>if q<ws.length then(qD5 ws F q).then fun d q=>(qCO ws qB8 q).then fun _ q=>qGm F f (acc++[d]) q else .inr (acc,q)
end
end Go.Proofs.YtkegmchjobphdaaGreatDoor
namespace Go.Proofs.YtkegmchjobphdaaGreatDoor
open Go Y
set_option maxRecDepth 100000
set_option maxHeartbeats 4000000
theorem qDj {α β:Type} {f:α→β} {l:List α} {k:Nat} (d:α) (h:k<l.length):(l.map f)[k]?=some (f (l.getD k d)):=by
 rw [List.getElem?_map,List.getD_eq_getElem?_getD,List.getElem?_eq_getElem h];rfl
theorem qJ6 {l:List Int} {k:Nat} (h:k<l.length):(l.map i64)[k]?=some (i64 (l.getD k 0)):=qDj 0 h
theorem qaj {l:List (List UInt8)} {k:Nat} (h:k<l.length):(l.map PV.str)[k]?=some (.str (l.getD k [])):=qDj [] h
theorem qNx {ws:List Wd} {k:Nat} (h:k<ws.length):(ws.map Wd.cells)[k]?=some (wat ws k).cells:=qDj wd0 h
theorem qAD {α:Type} {l:List α} {k:Nat} (d:α) (h:k<l.length):l.take (k+1)=l.take k++[l.getD k d]:=by
 rw [List.take_add_one,List.getD_eq_getElem?_getD,List.getElem?_eq_getElem h];rfl
theorem qAG {α:Type} {l:List α} {k:Nat} (d:α) (h:k<l.length):l.getD k d∈l:=by
 rw [List.getD_eq_getElem?_getD,List.getElem?_eq_getElem h];exact List.getElem_mem h
theorem qAh {α:Type} {l:List α} {k:Nat} (h:l.length≤k):l.take k=l:=List.take_of_length_le h
theorem qAI {α:Type} (l:List α) (x:α):(l++[x]).length=l.length+1:=by simp
theorem qDJ {α:Type} {l:List α} {k:Nat} (d:α) (h:k<l.length):l.drop k=l.getD k d::l.drop (k+1):=by
 rw [List.drop_eq_getElem_cons h,List.getD_eq_getElem?_getD,List.getElem?_eq_getElem h];rfl
def psO (ws:List Wd) (q:Nat):AObj:=⟨133,false, .bx [.p (.lsts 4 (ws.map Wd.cells)), .p (i64 q)]⟩
abbrev psH (ws:List Wd) (q:Nat):Hp:=⟨1,[(0,psO ws q)]⟩
def qZj (ws:List Wd) (q:Nat):AV:=.p (.iface qbZ (.agg (wat ws q).cells))
abbrev qAN (ws:List Wd) (q:Nat):AE:=.panicked [⟨qZj ws q,false⟩]
theorem qN5 (ws:List Wd) (q:Nat) (hl:ws.length≤1500) (hq:q≤ws.length):HoldsG cx 77 [.ptr 0 0 0] (psH ws q) fun e H'=>e=.returned (.p (.str (txt ws q)))∧H'=psH ws q:=by
 refine qAp Tryz.func77 rfl rfl rfl ?_
 have hl':(ws.map Wd.cells).length=ws.length:=List.length_map ..
 refine VDraw.seq rfl ?_
 (first | refine qAO (fun h1=>?_) (fun h1=>?_) | refine qAP (fun h1=>?_) (fun h1=>?_) | refine qAQ (fun h1=>?_) (fun h1=>?_))
 ·have h1:(q:Int)<((ws.map Wd.cells).length:Nat):=h1
  rw [hl'] at h1
  refine VDraw.seq rfl ?_
  refine⟨_,⟨by omega,(wat ws q).cells,qNx (by omega),rfl⟩,?_⟩
  exact⟨rfl,rfl⟩
 ·have h1:¬ (q:Int)<((ws.map Wd.cells).length:Nat):=h1
  rw [hl'] at h1
  exact⟨by rw [txt,qHK (by omega)];rfl,rfl⟩
theorem qOo (ws:List Wd) (q:Nat) (hl:ws.length≤1500) (hq:q≤ws.length):HoldsG cx 163 [.ptr 0 0 0] (psH ws q) fun e H'=>e=.returned (.p (i64 (knd ws q)))∧H'=psH ws q:=by
 refine qAp Tryz.func163 rfl rfl rfl ?_
 have hl':(ws.map Wd.cells).length=ws.length:=List.length_map ..
 refine VDraw.seq rfl ?_
 (first | refine qAO (fun h1=>?_) (fun h1=>?_) | refine qAP (fun h1=>?_) (fun h1=>?_) | refine qAQ (fun h1=>?_) (fun h1=>?_))
 ·have h1:(q:Int)<((ws.map Wd.cells).length:Nat):=h1
  rw [hl'] at h1
  refine VDraw.seq rfl ?_
  refine⟨_,⟨by omega,(wat ws q).cells,qNx (by omega),rfl⟩,?_⟩
  exact⟨rfl,rfl⟩
 ·have h1:¬ (q:Int)<((ws.map Wd.cells).length:Nat):=h1
  rw [hl'] at h1
  exact⟨by rw [knd,qHK (by omega)];rfl,rfl⟩
theorem qLa (ws:List Wd) (q:Nat) (hl:ws.length≤1500) (hq:q≤ws.length):HoldsG cx 78 [.ptr 0 0 0] (psH ws q) fun e H'=>e=qAN ws q∧H'=psH ws q:=by
 refine qAp Tryz.func78 rfl rfl rfl ?_
 have hl':(ws.map Wd.cells).length=ws.length:=List.length_map ..
 refine VDraw.seq rfl ?_
 (first | refine qAO (fun h1=>?_) (fun h1=>?_) | refine qAP (fun h1=>?_) (fun h1=>?_) | refine qAQ (fun h1=>?_) (fun h1=>?_))
 ·have h1:(q:Int)<((ws.map Wd.cells).length:Nat):=h1
  rw [hl'] at h1
  refine VDraw.seq rfl ?_
  refine⟨_,⟨by omega,(wat ws q).cells,qNx (by omega),rfl⟩,?_⟩
  exact⟨rfl,rfl⟩
 ·have h1:¬ (q:Int)<((ws.map Wd.cells).length:Nat):=h1
  rw [hl'] at h1
  exact⟨by rw [qAN,qZj,qHK (by omega)];rfl,rfl⟩
def skQ (ws:List Wd) (q:Nat) (s:List UInt8) (e:AE) (H':Hp):Prop:=(txt ws q=s→e=.returned (vB true)∧H'=psH ws (q+1))∧(¬ txt ws q=s→e=.returned (vB false)∧H'=psH ws q)
theorem qAn (ws:List Wd) (q:Nat) (s:List UInt8) (hl:ws.length≤1500) (hq:q≤ws.length):HoldsG cx 114 [.ptr 0 0 0, .p (.str s)] (psH ws q) (skQ ws q s):=by
 refine qAp Tryz.func114 rfl rfl rfl ?_
 refine(qN5 ws q hl hq).holds.mono fun e H' h=>?_
 obtain⟨rfl,rfl⟩:=h
 (first | refine qAO (fun h1=>?_) (fun h1=>?_) | refine qAP (fun h1=>?_) (fun h1=>?_) | refine qAQ (fun h1=>?_) (fun h1=>?_))
 ·have h1:txt ws q=s:=h1
  refine⟨_,w6z,?_⟩
  exact⟨fun _=>⟨rfl,rfl⟩,fun h=>absurd h1 h⟩
 ·have h1:¬ txt ws q=s:=h1
  exact⟨fun h=>absurd h h1,fun _=>⟨rfl,rfl⟩⟩
theorem qKQ (ws:List Wd) (q:Nat) (hl:ws.length≤1500) (hq:q≤ws.length):HoldsG cx 165 [.ptr 0 0 0] (psH ws q) (skQ ws q qHT):=by
 refine qAp Tryz.func165 rfl rfl rfl ?_
 refine(qAn ws q qHT hl hq).holds.mono fun e H' h=>?_
 by_cases h1:txt ws q=qHT
 ·obtain⟨rfl,rfl⟩:=h.1 h1
  exact⟨fun _=>⟨rfl,rfl⟩,fun h=>absurd h1 h⟩
 ·obtain⟨rfl,rfl⟩:=h.2 h1
  exact⟨fun h=>absurd h h1,fun _=>⟨rfl,rfl⟩⟩
def rdQ {α:Type} (ws:List Wd) (r:Rd α) (val:α→AV) (e:AE) (H':Hp):Prop:=match r with
 | .inl p=>e=qAN ws p∧H'=⟨1,[]⟩
 | .inr (a,q)=>q≤ws.length∧e=.returned (val a)∧H'=psH ws q
theorem qHu (ws:List Wd) (q:Nat) (hl:ws.length≤1500) (hq:q≤ws.length):HoldsG cx 113 [.ptr 0 0 0] (psH ws q) (rdQ ws (qCm ws q) fun t=>.p (.str t)):=by
 refine qAA Tryz.func113 rfl rfl rfl ?_
 have hl':(ws.map Wd.cells).length=ws.length:=List.length_map ..
 refine(qOo ws q hl hq).holds.mono fun e H' h=>?_
 obtain⟨rfl,rfl⟩:=h
 (first | refine qAO (fun h1=>?_) (fun h1=>?_) | refine qAP (fun h1=>?_) (fun h1=>?_) | refine qAQ (fun h1=>?_) (fun h1=>?_))
 ·have h1:knd ws q=1:=h1
  have hlt:q<ws.length:=qLM (by rw [h1];decide)
  refine⟨_,w6z,?_⟩
  refine VDraw.seq rfl ?_
  refine⟨(q:Int),by rw [show(q:Int)+1 - 1=(q:Int) by omega];exact w6z,?_⟩
  refine⟨_,⟨by omega,(wat ws q).cells,qNx hlt,rfl⟩,?_⟩
  exact⟨[],[],[], .returned (.p (.str (txt ws q))),psH ws (q+1),rfl,sk,sk,by rw [qCm,if_pos h1];exact⟨hlt,rfl,rfl⟩⟩
 ·have h1:¬ knd ws q=1:=h1
  refine(qLa ws q hl hq).holds.mono fun e H' h=>?_
  obtain⟨rfl,rfl⟩:=h
  exact⟨[],[],[],qAN ws q,⟨1,[]⟩,rfl,⟨_,rfl,_,_,rfl,rfl,rfl⟩,trivial,by rw [(show qCm ws q=.inl q by rw [qCm,if_neg h1])];exact⟨rfl,rfl⟩⟩
theorem decode_at {s:List UInt8} {i:Nat} (h:i<s.length) (hb:(s.getD i 0).toNat<128):Utf8.decode ⟨⟨s⟩⟩ i=((s.getD i 0).toNat,1):=by
 have e:(ByteArray.get! ⟨⟨s⟩⟩ (i+0))=s.getD i 0:=by
  rw [Nat.add_zero,List.getD_eq_getElem?_getD]
  show(⟨s⟩:Array UInt8)[i]! = _
  rw [getElem!_def,List.getElem?_toArray,List.getElem?_eq_getElem h];rfl
 unfold Utf8.decode
 simp only [e]
 rw [if_pos hb]
theorem qKh (t:List UInt8) (b:UInt8):qQd (t++[b])=10 * qQd t+((b.toNat:Int) - 48):=by rw [qQd,qQd,List.foldl_append];rfl
theorem qHO {t:List UInt8} (h:∀ b∈t,48≤b.toNat∧b.toNat≤57):∀ k,k≤t.length→0≤qQd (t.take k)∧qQd (t.take k)<10 ^ k
 | 0,_=>by rw [List.take_zero];exact⟨Int.le_refl 0,by decide⟩
 | k+1,hk=>by
  have ih:=qHO h k (by omega)
  have hb:=h _ (qAG 0 (show k<t.length by omega))
  rw [qAD 0 (by omega),qKh,Int.pow_succ]
  omega
theorem qMo {t:List UInt8} (h:qQi t=true):t.length≤4∧∀ b∈t,48≤b.toNat∧b.toNat≤57:=by
 unfold qQi at h
 simp only [Bool.and_eq_true,decide_eq_true_eq] at h
 obtain⟨⟨⟨h1,h2⟩,h3⟩,h4⟩:=h
 refine⟨h2,?_⟩
 have key:∀ l:List UInt8,qAa qD2 l=l.length→∀ b∈l,48≤b.toNat∧b.toNat≤57:=by
  intro l
  induction l with
  | nil=>intro _ b hb;simp at hb
  | cons c r ih=>
   intro he b hb
   simp only [qAa] at he
   split at he
   ·rename_i hc
    simp only [qD2,Bool.and_eq_true,decide_eq_true_eq] at hc
    rcases List.mem_cons.1 hb with rfl | hb
    ·exact hc
    ·exact ih (by simpa using he) b hb
   ·simp at he
 exact key t h3
theorem qWE {ws:List Wd} (hg:GoodW ws) {q:Nat} (h:knd ws q=3):qQi (txt ws q)=true:=by
 have:=hg.at (qLM (by rw [h];decide))
 rw [h] at this
 exact this
theorem wrap_i32 {n:Int} (h0:-2147483648≤n) (h1:n≤2147483647):n=IntKind.i32.wrap n:=by
 simp [IntKind.wrap,IntKind.bits,IntKind.signed]
 omega
theorem qBK (ws:List Wd) (q:Nat) (hg:GoodW ws) (hq:q≤ws.length):HoldsG cx 112 [.ptr 0 0 0] (psH ws q) (rdQ ws (qDR ws q) fun n=>.p (i64 n)):=by
 refine qAA Tryz.func112 rfl rfl rfl ?_
 have hl:=hg.len
 refine(qOo ws q hl hq).holds.mono fun e H' h=>?_
 obtain⟨rfl,rfl⟩:=h
 (first | refine qAO (fun h1=>?_) (fun h1=>?_) | refine qAP (fun h1=>?_) (fun h1=>?_) | refine qAQ (fun h1=>?_) (fun h1=>?_))
 rotate_left
 ·have h1:¬ knd ws q=3:=h1
  refine(qLa ws q hl hq).holds.mono fun e H' h=>?_
  obtain⟨rfl,rfl⟩:=h
  exact⟨[],[],[],qAN ws q,⟨1,[]⟩,rfl,⟨_,rfl,_,_,rfl,rfl,rfl⟩,trivial,by rw [(show qDR ws q=.inl q by rw [qDR,if_neg h1])];exact⟨rfl,rfl⟩⟩
 have h1:knd ws q=3:=h1
 have hlt:q<ws.length:=qLM (by rw [h1];decide)
 obtain⟨ht4,hdg⟩:=qMo (qWE hg h1)
 obtain⟨t,ht⟩:∃ t,t=txt ws q:=⟨_,rfl⟩
 rw [← ht] at ht4 hdg
 refine(qN5 ws q hl hq).holds.mono fun e H' h=>?_
 obtain⟨rfl,rfl⟩:=h
 refine⟨Nat,fun k=>[(0, .ptr 0 0 0),(3, .p (i64 (qQd (t.take k)))),(19, .ptr 1 0 0)],fun k=>⟨2,[(1,⟨qba,false, .it t k⟩),(0,psO ws q)]⟩,fun k=>k≤t.length,fun k=>t.length - k,?_,?_⟩
 ·exact⟨0,Nat.zero_le _,qAB [] [] [] rfl ⟨⟨rfl,rfl⟩,rfl,⟨rfl,rfl⟩,trivial⟩ ⟨⟨_,rfl,rfl,rfl,congrArg (fun t=>Cn.it t 0) ht.symm⟩,⟨_,rfl,rfl,rfl,_,rfl,_,_,rfl,rfl,_,_,rfl,rfl,rfl⟩,trivial⟩ rfl⟩
 intro k hk
 refine And.intro (fun h2=>?_) (fun h2=>?_)
 ·have hke:k=t.length:=by omega
  subst hke
  refine⟨_,w6z,?_⟩
  exact⟨[],[],[], .returned (.p (i64 (qQd t))),psH ws (q+1),rfl,⟨_,rfl,by rw [qAh (Nat.le_refl _)];rfl⟩,sk,by rw [qDR,if_pos h1,← ht];exact⟨hlt,rfl,rfl⟩⟩
 ·obtain⟨b,hb⟩:∃ b,b=t.getD k 0:=⟨_,rfl⟩
  have hbd:=hdg b (by rw [hb];exact qAG 0 h2)
  have hv:=qHO hdg k hk
  have hp:(10:Int) ^ k≤10 ^ 4:=by
   rcases (show k=0∨k=1∨k=2∨k=3∨k=4 by omega) with rfl | rfl | rfl | rfl | rfl <;> decide
  have hp4:(10:Int) ^ 4=10000:=by decide
  refine⟨b.toNat,1,by rw [decode_at h2 (by rw [← hb];omega),← hb],?_⟩
  refine⟨10 * qQd (t.take k),w6z,?_⟩
  refine⟨(b.toNat:Int) - 48,wrap_i32 (by omega) (by omega),?_⟩
  refine⟨(b.toNat:Int) - 48,w6z,?_⟩
  refine⟨qQd (t.take (k+1)),by rw [qAD 0 h2,← hb,qKh];exact w6z,?_⟩
  exact⟨k+1,h2,qAB [] [] [] rfl ⟨⟨rfl,rfl⟩,rfl,⟨rfl,rfl⟩,trivial⟩ ⟨⟨_,rfl,rfl,rfl,rfl⟩,⟨_,rfl,rfl,rfl,_,rfl,_,_,rfl,rfl,_,_,rfl,rfl,rfl⟩,trivial⟩ rfl,by show t.length - (k+1)<t.length - k;omega⟩
theorem qAb (ws:List Wd) (q0:Nat) (l:List (List UInt8)) (hl:ws.length≤1500) (hq:q0≤ws.length) (hn:∀ s∈l,s ≠ []) (hw:l.length≤1000) :
  HoldsG cx 79 [.ptr 0 0 0, .p (strs l)] (psH ws q0) (rdQ ws (qAg ws l q0) fun _=>und):=by
 refine qAA Tryz.func79 rfl rfl rfl ?_
 refine⟨Nat × Nat,fun x=>[(0, .ptr 0 0 0),(6, .p (strs l)),(7, .p (i64 l.length)),(8, .p (i64 x.1))],fun x=>psH ws x.2,fun x=>x.1≤l.length∧x.2≤ws.length∧qAg ws (l.drop x.1) x.2=qAg ws l q0,fun x=>l.length - x.1,?_,?_⟩
 ·exact⟨(0,q0),⟨by simp,hq,rfl⟩,qAB [] [] [] rfl ⟨⟨rfl,rfl⟩,rfl,congrArg (fun n:Nat=>i64 n) (List.length_map ..).symm,rfl,trivial⟩ (sk) rfl⟩
 rintro⟨k,q⟩ ⟨k1,k2,k3⟩
 simp only [] at k1 k2 k3
 (first | refine qAO (fun h1=>?_) (fun h1=>?_) | refine qAP (fun h1=>?_) (fun h1=>?_) | refine qAQ (fun h1=>?_) (fun h1=>?_))
 ·have h1:(k:Int)<(l.length:Nat):=h1
  have hk:k<l.length:=by omega
  obtain⟨s,hs⟩:∃ s,s=l.getD k []:=⟨_,rfl⟩
  rw [qDJ [] hk,← hs,qAg,qCO] at k3
  refine⟨_,⟨by omega, .str s,by rw [hs];exact qaj hk,rfl⟩,?_⟩
  by_cases h2:txt ws q=s
  ·rw [if_pos h2] at k3
   have hlt:q<ws.length:=qBF (by rw [h2,hs];exact hn _ (qAG [] hk))
   refine(qAn ws q s hl k2).holds.mono fun e H' hq=>?_
   obtain⟨rfl,rfl⟩:=hq.1 h2
   refine⟨_,w6z,?_⟩
   exact⟨(k+1,q+1),⟨by simp only [];omega,hlt,k3⟩,qAB [] [] [] rfl (sk) (sk) rfl,by show l.length - (k+1)<l.length - k;omega⟩
  ·rw [if_neg h2] at k3
   refine(qAn ws q s hl k2).holds.mono fun e H' hq=>?_
   obtain⟨rfl,rfl⟩:=hq.2 h2
   refine(qLa ws q hl k2).holds.mono fun e H' hq=>?_
   obtain⟨rfl,rfl⟩:=hq
   exact⟨[],[],[],qAN ws q,⟨1,[]⟩,rfl,⟨_,rfl,_,_,rfl,rfl,rfl⟩,trivial,by rw [k3.symm];exact⟨rfl,rfl⟩⟩
 ·have h1:¬ (k:Int)<(l.length:Nat):=h1
  rw [show l.drop k=[] from List.drop_eq_nil_of_le (by omega),qAg] at k3
  exact⟨[],[],[], .returned und,psH ws q,rfl,sk,sk,by rw [← k3];exact⟨k2,rfl,rfl⟩⟩
theorem qAE {α β:Type} (a:α) (q:Nat) (k:α→Nat→Rd β):Rd.then (.inr (a,q)) k=k a q:=rfl
theorem qAs (ws:List Wd) (s:List UInt8) (q:Nat):qAg ws [s] q=qCO ws s q:=by
 rw [qAg]
 cases h:qCO ws s q with
 | inl e=>rfl
 | inr x=>rfl
def rO (r:Rf):AObj:=⟨qbb,false, .bx (r.cells.map .p)⟩
def sO (l:List (List UInt8)):AObj:=⟨qba,true, .pu (l.map .str)⟩
theorem qZA (ws:List Wd) (q0:Nat) (hg:GoodW ws) (hq0:q0≤ws.length):HoldsG cx 167 [.ptr 0 0 0] (psH ws q0) (rdQ ws (qKz ws q0) fun r=>.p r.pv):=by
 generalize hR:qKz ws q0=R
 rw [qKz] at hR
 refine qAA Tryz.func167 rfl rfl rfl ?_
 have hl:=hg.len
 refine(qHu ws q0 hl hq0).holds.useT [] [] rfl (sk) (sk) fun e0 H0 hq=>?_
 rcases h1:qCm ws q0 with p | ⟨nm,q1⟩
 ·rw [h1] at hq hR
  obtain⟨rfl,rfl⟩:=hq
  refine⟨rfl,_,_,rfl,rfl,?_⟩
  exact⟨[],[],[],qAN ws p,⟨1,[]⟩,rfl,⟨_,rfl,_,_,rfl,rfl,rfl⟩,trivial,by rw [← hR];exact⟨rfl,rfl⟩⟩
 rw [h1] at hq hR
 obtain⟨q1l,rfl,rfl⟩:=hq
 refine⟨rfl,_,⟨2,(0,psO ws q1)::[(1,rO rf0)]⟩,rfl,rfl,?_⟩
 simp only [qAE] at hR
 by_cases c1:txt ws q1=tLB
 rotate_left
 ·refine(qAn ws q1 tLB hl q1l).holds.useT [] [] rfl (sk) (sk) fun e0 H0 hq=>?_
  obtain⟨rfl,rfl⟩:=hq.2 c1
  refine⟨rfl,_,⟨3,(0,psO ws q1)::[(2,rO ⟨nm,0,[],0⟩),(1,rO rf0)]⟩,rfl,rfl,?_⟩
  rw [if_neg c1] at hR
  exact⟨[],[],[], .returned (.p (⟨nm,0,[],0⟩:Rf).pv),psH ws q1,rfl,sk,sk,by rw [← hR];exact⟨q1l,rfl,rfl⟩⟩
 have q2l:q1+1≤ws.length:=qBF (by rw [c1];decide)
 refine(qAn ws q1 tLB hl q1l).holds.useT [] [] rfl (sk) (sk) fun e0 H0 hq=>?_
 obtain⟨rfl,rfl⟩:=hq.1 c1
 refine⟨rfl,_,⟨3,(0,psO ws (q1+1))::[(2,rO ⟨nm,0,[],0⟩),(1,rO rf0)]⟩,rfl,rfl,?_⟩
 rw [if_pos c1] at hR
 by_cases c2:txt ws (q1+1)=qPn
 ·rw [if_pos c2] at hR
  have q2l':q1+2≤ws.length:=qBF (by rw [c2];decide)
  refine(qAn ws (q1+1) qPn hl q2l).holds.useT [] [] rfl (sk) (sk) fun e0 H0 hq=>?_
  obtain⟨rfl,rfl⟩:=hq.1 c2
  refine⟨rfl,_,⟨3,(0,psO ws (q1+2))::[(2,rO ⟨nm,0,[],0⟩),(1,rO rf0)]⟩,rfl,rfl,?_⟩
  rw [qC3,← qAs] at hR
  refine(qAb ws (q1+2) [tRB] hl q2l' (by simp) (by simp)).holds.useT [3] [] rfl (sk) ⟨_,_,rfl,⟨rfl,rfl⟩,_,_,rfl,⟨_,rfl,by decide,rfl⟩,rfl⟩ fun e0 H0 hq=>?_
  rcases hm:qAg ws [tRB] (q1+2) with p | ⟨u,q9⟩
  ·rw [hm] at hq hR
   obtain⟨rfl,rfl⟩:=hq
   refine⟨rfl,_,_,rfl,rfl,?_⟩
   exact⟨[],[],[],qAN ws p,⟨1,[]⟩,rfl,⟨_,rfl,_,_,rfl,rfl,rfl⟩,trivial,by rw [← hR];exact⟨rfl,rfl⟩⟩
  rw [hm] at hq hR
  obtain⟨q9l,rfl,rfl⟩:=hq
  refine⟨rfl,_,⟨4,(0,psO ws q9)::[(3,sO [tRB]),(2,rO ⟨nm,3,[],0⟩),(1,rO rf0)]⟩,rfl,rfl,?_⟩
  simp only [qAE] at hR
  exact⟨[],[],[], .returned (.p (⟨nm,3,[],0⟩:Rf).pv),psH ws q9,rfl,sk,sk,by rw [← hR];exact⟨q9l,rfl,rfl⟩⟩
 rw [if_neg c2] at hR
 refine(qAn ws (q1+1) qPn hl q2l).holds.useT [] [] rfl (sk) (sk) fun e0 H0 hq=>?_
 obtain⟨rfl,rfl⟩:=hq.2 c2
 refine⟨rfl,_,⟨3,(0,psO ws (q1+1))::[(2,rO ⟨nm,0,[],0⟩),(1,rO rf0)]⟩,rfl,rfl,?_⟩
 refine(qOo ws (q1+1) hl q2l).holds.useT [] [] rfl (sk) (sk) fun e0 H0 hq=>?_
 obtain⟨rfl,rfl⟩:=hq
 refine⟨rfl,_,⟨3,(0,psO ws (q1+1))::[(2,rO ⟨nm,0,[],0⟩),(1,rO rf0)]⟩,rfl,rfl,?_⟩
 (first | refine qAO (fun c3=>?_) (fun c3=>?_) | refine qAP (fun c3=>?_) (fun c3=>?_) | refine qAQ (fun c3=>?_) (fun c3=>?_))
 ·have c3:knd ws (q1+1)=3:=c3
  rw [if_pos c3] at hR
  refine(qBK ws (q1+1) hg q2l).holds.useT [] [] rfl (sk) (sk) fun e0 H0 hq=>?_
  rcases h4:qDR ws (q1+1) with p | ⟨n,q4⟩
  ·rw [h4] at hq hR
   obtain⟨rfl,rfl⟩:=hq
   refine⟨rfl,_,_,rfl,rfl,?_⟩
   exact⟨[],[],[],qAN ws p,⟨1,[]⟩,rfl,⟨_,rfl,_,_,rfl,rfl,rfl⟩,trivial,by rw [← hR];exact⟨rfl,rfl⟩⟩
  rw [h4] at hq hR
  obtain⟨q4l,rfl,rfl⟩:=hq
  refine⟨rfl,_,⟨3,(0,psO ws q4)::[(2,rO ⟨nm,2,[],0⟩),(1,rO rf0)]⟩,rfl,rfl,?_⟩
  simp only [qAE] at hR
  rw [qC3,← qAs] at hR
  refine(qAb ws q4 [tRB] hl q4l (by simp) (by simp)).holds.useT [3] [] rfl (sk) ⟨_,_,rfl,⟨rfl,rfl⟩,_,_,rfl,⟨_,rfl,by decide,rfl⟩,rfl⟩ fun e0 H0 hq=>?_
  rcases hm:qAg ws [tRB] q4 with p | ⟨u,q9⟩
  ·rw [hm] at hq hR
   obtain⟨rfl,rfl⟩:=hq
   refine⟨rfl,_,_,rfl,rfl,?_⟩
   exact⟨[],[],[],qAN ws p,⟨1,[]⟩,rfl,⟨_,rfl,_,_,rfl,rfl,rfl⟩,trivial,by rw [← hR];exact⟨rfl,rfl⟩⟩
  rw [hm] at hq hR
  obtain⟨q9l,rfl,rfl⟩:=hq
  refine⟨rfl,_,⟨4,(0,psO ws q9)::[(3,sO [tRB]),(2,rO ⟨nm,2,[],n⟩),(1,rO rf0)]⟩,rfl,rfl,?_⟩
  simp only [qAE] at hR
  exact⟨[],[],[], .returned (.p (⟨nm,2,[],n⟩:Rf).pv),psH ws q9,rfl,sk,sk,by rw [← hR];exact⟨q9l,rfl,rfl⟩⟩
 have c3:¬ knd ws (q1+1)=3:=c3
 rw [if_neg c3] at hR
 refine(qHu ws (q1+1) hl q2l).holds.useT [] [] rfl (sk) (sk) fun e0 H0 hq=>?_
 rcases h5:qCm ws (q1+1) with p | ⟨pl,q5⟩
 ·rw [h5] at hq hR
  obtain⟨rfl,rfl⟩:=hq
  refine⟨rfl,_,_,rfl,rfl,?_⟩
  exact⟨[],[],[],qAN ws p,⟨1,[]⟩,rfl,⟨_,rfl,_,_,rfl,rfl,rfl⟩,trivial,by rw [← hR];exact⟨rfl,rfl⟩⟩
 rw [h5] at hq hR
 obtain⟨q5l,rfl,rfl⟩:=hq
 refine⟨rfl,_,⟨3,(0,psO ws q5)::[(2,rO ⟨nm,1,[],0⟩),(1,rO rf0)]⟩,rfl,rfl,?_⟩
 simp only [qAE] at hR
 by_cases c6:txt ws q5=qRK
 ·rw [if_pos c6] at hR
  have q6l:q5+1≤ws.length:=qBF (by rw [c6];decide)
  refine(qAn ws q5 qRK hl q5l).holds.useT [] [] rfl (sk) (sk) fun e0 H0 hq=>?_
  obtain⟨rfl,rfl⟩:=hq.1 c6
  refine⟨rfl,_,⟨3,(0,psO ws (q5+1))::[(2,rO ⟨nm,1,pl,0⟩),(1,rO rf0)]⟩,rfl,rfl,?_⟩
  refine(qBK ws (q5+1) hg q6l).holds.useT [] [] rfl (sk) (sk) fun e0 H0 hq=>?_
  rcases h7:qDR ws (q5+1) with p | ⟨n,q7⟩
  ·rw [h7] at hq hR
   obtain⟨rfl,rfl⟩:=hq
   refine⟨rfl,_,_,rfl,rfl,?_⟩
   exact⟨[],[],[],qAN ws p,⟨1,[]⟩,rfl,⟨_,rfl,_,_,rfl,rfl,rfl⟩,trivial,by rw [← hR];exact⟨rfl,rfl⟩⟩
  rw [h7] at hq hR
  obtain⟨q7l,rfl,rfl⟩:=hq
  refine⟨rfl,_,⟨3,(0,psO ws q7)::[(2,rO ⟨nm,1,pl,0⟩),(1,rO rf0)]⟩,rfl,rfl,?_⟩
  simp only [qAE] at hR
  rw [qC3,← qAs] at hR
  refine(qAb ws q7 [tRB] hl q7l (by simp) (by simp)).holds.useT [3] [] rfl (sk) ⟨_,_,rfl,⟨rfl,rfl⟩,_,_,rfl,⟨_,rfl,by decide,rfl⟩,rfl⟩ fun e0 H0 hq=>?_
  rcases hm:qAg ws [tRB] q7 with p | ⟨u,q9⟩
  ·rw [hm] at hq hR
   obtain⟨rfl,rfl⟩:=hq
   refine⟨rfl,_,_,rfl,rfl,?_⟩
   exact⟨[],[],[],qAN ws p,⟨1,[]⟩,rfl,⟨_,rfl,_,_,rfl,rfl,rfl⟩,trivial,by rw [← hR];exact⟨rfl,rfl⟩⟩
  rw [hm] at hq hR
  obtain⟨q9l,rfl,rfl⟩:=hq
  refine⟨rfl,_,⟨4,(0,psO ws q9)::[(3,sO [tRB]),(2,rO ⟨nm,1,pl,n⟩),(1,rO rf0)]⟩,rfl,rfl,?_⟩
  simp only [qAE] at hR
  exact⟨[],[],[], .returned (.p (⟨nm,1,pl,n⟩:Rf).pv),psH ws q9,rfl,sk,sk,by rw [← hR];exact⟨q9l,rfl,rfl⟩⟩
 ·rw [if_neg c6] at hR
  refine(qAn ws q5 qRK hl q5l).holds.useT [] [] rfl (sk) (sk) fun e0 H0 hq=>?_
  obtain⟨rfl,rfl⟩:=hq.2 c6
  refine⟨rfl,_,⟨3,(0,psO ws q5)::[(2,rO ⟨nm,1,pl,0⟩),(1,rO rf0)]⟩,rfl,rfl,?_⟩
  rw [qC3,← qAs] at hR
  refine(qAb ws q5 [tRB] hl q5l (by simp) (by simp)).holds.useT [3] [] rfl (sk) ⟨_,_,rfl,⟨rfl,rfl⟩,_,_,rfl,⟨_,rfl,by decide,rfl⟩,rfl⟩ fun e0 H0 hq=>?_
  rcases hm:qAg ws [tRB] q5 with p | ⟨u,q9⟩
  ·rw [hm] at hq hR
   obtain⟨rfl,rfl⟩:=hq
   refine⟨rfl,_,_,rfl,rfl,?_⟩
   exact⟨[],[],[],qAN ws p,⟨1,[]⟩,rfl,⟨_,rfl,_,_,rfl,rfl,rfl⟩,trivial,by rw [← hR];exact⟨rfl,rfl⟩⟩
  rw [hm] at hq hR
  obtain⟨q9l,rfl,rfl⟩:=hq
  refine⟨rfl,_,⟨4,(0,psO ws q9)::[(3,sO [tRB]),(2,rO ⟨nm,1,pl,0⟩),(1,rO rf0)]⟩,rfl,rfl,?_⟩
  simp only [qAE] at hR
  exact⟨[],[],[], .returned (.p (⟨nm,1,pl,0⟩:Rf).pv),psH ws q9,rfl,sk,sk,by rw [← hR];exact⟨q9l,rfl,rfl⟩⟩
def LI {α:Type} (R:Rd α) (go:Nat→Rd α) (m:Nat):Prop:=∃ f,m<f∧R=go f
theorem LI.is {α:Type} {R x:Rd α} {go:Nat→Rd α} {m:Nat} (h:LI R go m) (hgo:∀ f,go (f+1)=x):R=x:=by
 obtain⟨f,hf,rfl⟩:=h
 obtain⟨f,rfl⟩:∃ g,f=g+1:=⟨f - 1,by omega⟩
 exact hgo f
theorem LI.nxt {α:Type} {R:Rd α} {go go':Nat→Rd α} {m m':Nat} (h:LI R go m) (hgo:∀ f,go (f+1)=go' f) (hm:m'<m):LI R go' m':=by
 obtain⟨f,hf,rfl⟩:=h
 obtain⟨f,rfl⟩:∃ g,f=g+1:=⟨f - 1,by omega⟩
 exact⟨f,by omega,hgo f⟩
theorem qEr {ws:List Wd} {q q':Nat} {t:List UInt8} (h:qCm ws q=.inr (t,q')):q<q':=by
 rw [qCm] at h
 split at h
 ·injection h with h;injection h with h1 h2;omega
 ·cases h
theorem qCe {ws:List Wd} {q q':Nat} {n:Int} (h:qDR ws q=.inr (n,q')):q<q':=by
 rw [qDR] at h
 split at h
 ·injection h with h;injection h with h1 h2;omega
 ·cases h
theorem qAj {ws:List Wd} {s:List UInt8} {q q':Nat} {u:Unit} (h:qCO ws s q=.inr (u,q')):q<q':=by
 rw [qCO] at h
 split at h
 ·injection h with h;injection h with h1 h2;omega
 ·cases h
theorem then_ok {α β:Type} {r:Rd α} {k:α→Nat→Rd β} {b:β} {q:Nat} (h:r.then k=.inr (b,q)):∃ a p,r=.inr (a,p)∧k a p=.inr (b,q):=by
 cases r with
 | inl e=>cases h
 | inr x=>exact⟨x.1,x.2,rfl,h⟩
theorem qJb {ws:List Wd} {nm pl:List UInt8} {m n:Int} {q q':Nat} {r:Rf} (h:qC3 ws nm m pl n q=.inr (r,q')):q<q':=by
 obtain⟨u,p,h1,h2⟩:=then_ok h
 have:=qAj h1
 injection h2 with h2;injection h2 with h3 h4;omega
theorem qKy {ws:List Wd} {q q':Nat} {r:Rf} (h:qKz ws q=.inr (r,q')):q<q':=by
 rw [qKz] at h
 obtain⟨nm,q1,h1,h⟩:=then_ok h
 have:=qEr h1
 try simp only [] at h
 split at h
 ·split at h
  ·have:=qJb h;omega
  ·split at h
   ·obtain⟨n,q2,h2,h⟩:=then_ok h
    have:=qCe h2
    have:=qJb h;omega
   ·obtain⟨pl,q2,h2,h⟩:=then_ok h
    have:=qEr h2
    try simp only [] at h
    split at h
    ·obtain⟨n,q3,h3,h⟩:=then_ok h
     have:=qCe h3
     have:=qJb h;omega
    ·have:=qJb h;omega
 ·injection h with h;injection h with h3 h4;omega
def bxO:AObj:=⟨129,false, .bx [.ptr 0 0 0]⟩
abbrev pbH (ws:List Wd) (q:Nat):Hp:=⟨2,[(0,psO ws q),(1,bxO)]⟩
def qV8 {α:Type} (ws:List Wd) (r:Rd α) (val:α→AV) (e:AE) (H':Hp):Prop:=match r with
 | .inl p=>e=qAN ws p∧H'=⟨2,[]⟩
 | .inr (a,q)=>q≤ws.length∧e=.returned (val a)∧H'=pbH ws q
theorem qRi (ws:List Wd) (q0:Nat) (hg:GoodW ws) (hq0:q0≤ws.length):HoldsG cx 166 [.ptr 1 0 0] (pbH ws q0) (qV8 ws (qKz ws q0) fun r=>.p r.pv):=by
 generalize hR:qKz ws q0=R
 refine qAA Tryz.func166 rfl rfl rfl ?_
 have hl:=hg.len
 have hc:=qZA ws q0 hg hq0
 rw [hR] at hc
 refine hc.holds.useT [] [] rfl (sk) (sk) fun e0 H0 hq=>?_
 rcases R with p | ⟨r,q1⟩
 ·obtain⟨rfl,rfl⟩:=hq
  refine⟨rfl,_,_,rfl,rfl,?_⟩
  exact⟨[],[],[],qAN ws p,⟨2,[]⟩,rfl,⟨_,rfl,_,_,rfl,rfl,rfl⟩,trivial,rfl,rfl⟩
 obtain⟨q1l,rfl,rfl⟩:=hq
 refine⟨rfl,_,⟨3,(0,psO ws q1)::[(2,rO rf0),(1,bxO)]⟩,rfl,rfl,?_⟩
 exact⟨[],[],[], .returned (.p r.pv),pbH ws q1,rfl,sk,sk,q1l,rfl,rfl⟩
def qUs (l:List Rf):AObj:=⟨qbb,false, .pus (l.map Rf.cells)⟩
def cmF:AV:=.fn (.func 165) [.ptr 0 0 0] []
def rfF:AV:=.fn (.func 166) [] [.ptr 1 0 0]
theorem qSQ (ws:List Wd) (F q0:Nat) (hF:ws.length<F) (hg:GoodW ws) (hq0:q0≤ws.length):HoldsG cx 164 [cmF,rfF] (pbH ws q0) (qV8 ws (qGC ws (qKz ws) F q0) fun l=>.p (qE7 l)):=by
 generalize hR:qGC ws (qKz ws) F q0=R
 rw [qGC] at hR
 refine qAA Tryz.func164 rfl rfl rfl ?_
 have hl:=hg.len
 refine(qRi ws q0 hg hq0).holds.useT [] [] rfl (sk) (sk) fun e0 H0 hq=>?_
 rcases h1:qKz ws q0 with p | ⟨r0,q1⟩
 ·rw [h1] at hq hR
  obtain⟨rfl,rfl⟩:=hq
  refine⟨rfl,_,_,rfl,rfl,?_⟩
  exact⟨[],[],[],qAN ws p,⟨2,[]⟩,rfl,⟨_,rfl,_,_,rfl,rfl,rfl⟩,trivial,by rw [← hR];exact⟨rfl,rfl⟩⟩
 rw [h1] at hq hR
 obtain⟨q1l,rfl,rfl⟩:=hq
 refine⟨rfl,_,pbH ws q1,rfl,rfl,?_⟩
 simp only [qAE] at hR
 refine⟨List Rf × Nat,fun x=>[(0,cmF),(1,rfF),(5, .sl 2 4 0 x.1.length)],fun x=>⟨3,[(2,qUs x.1),(0,psO ws x.2),(1,bxO)]⟩,fun x=>x.2≤ws.length∧x.1.length≤x.2∧LI R (fun f=>qFb ws (qKz ws) f x.1 x.2) (ws.length - x.2),fun x=>ws.length - x.2,?_,?_⟩
 ·exact⟨([r0],q1),⟨q1l,by simp only [List.length_singleton];have:=qKy h1;omega,⟨F,by omega,hR.symm⟩⟩,qAB [] [] [] rfl ⟨⟨rfl,_,_,rfl,⟨_,_,rfl,⟨rfl,rfl⟩,rfl⟩,rfl⟩,⟨rfl,_,_,rfl,rfl,⟨_,_,rfl,⟨rfl,rfl⟩,rfl⟩⟩,rfl,trivial⟩ (sk) rfl⟩
 rintro⟨acc,q⟩ ⟨k1,k2,k3⟩
 simp only [] at k1 k2 k3
 by_cases c1:txt ws q=qHT
 ·have ql:q+1≤ws.length:=qBF (by rw [c1];decide)
  refine(qKQ ws q hl k1).holds.useT [] [] rfl (sk) (sk) fun e0 H0 hq=>?_
  obtain⟨rfl,rfl⟩:=hq.1 c1
  refine⟨rfl,_,⟨3,(0,psO ws (q+1))::[(2,qUs acc),(1,bxO)]⟩,rfl,rfl,?_⟩
  refine(qRi ws (q+1) hg ql).holds.useT [] [] rfl (sk) (sk) fun e0 H0 hq=>?_
  rcases h2:qKz ws (q+1) with p | ⟨r,q2⟩
  ·rw [h2] at hq
   obtain⟨rfl,rfl⟩:=hq
   refine⟨rfl,_,_,rfl,rfl,?_⟩
   have hR:=k3.is (x:=.inl p) fun f=>by rw [qFb,if_pos c1,h2];rfl
   exact⟨[],[],[],qAN ws p,⟨2,[]⟩,rfl,⟨_,rfl,_,_,rfl,rfl,rfl⟩,trivial,by rw [hR];exact⟨rfl,rfl⟩⟩
  rw [h2] at hq
  obtain⟨q2l,rfl,rfl⟩:=hq
  have hlt:=qKy h2
  refine⟨rfl,_,⟨3,(0,psO ws q2)::(1,bxO)::[(2,qUs acc)]⟩,rfl,rfl,?_⟩
  refine⟨by show 0+1≤1;omega,[r.cells],rfl,?_⟩
  refine⟨by show 0+acc.length≤(acc.map Rf.cells).length;simp,acc.map Rf.cells,qAR (by simp),by show(acc.length+1) * 48≤140737488355328;omega,(acc++[r]).map Rf.cells,by simp,?_⟩
  exact⟨(acc++[r],q2),⟨q2l,by simp only [qAI];omega,k3.nxt (fun f=>by rw [qFb,if_pos c1,h2];rfl) (by omega)⟩,qAB [] [(2,4)] [] rfl ⟨⟨rfl,_,_,rfl,⟨_,_,rfl,⟨rfl,rfl⟩,rfl⟩,rfl⟩,⟨rfl,_,_,rfl,rfl,⟨_,_,rfl,⟨rfl,rfl⟩,rfl⟩⟩,congrArg (fun k:Nat=>AV.sl 4 4 0 k) (qAI acc r).symm,trivial⟩ (sk) rfl,by show ws.length - q2<ws.length - q;omega⟩
 ·refine(qKQ ws q hl k1).holds.useT [] [] rfl (sk) (sk) fun e0 H0 hq=>?_
  obtain⟨rfl,rfl⟩:=hq.2 c1
  refine⟨rfl,_,⟨3,(0,psO ws q)::[(2,qUs acc),(1,bxO)]⟩,rfl,rfl,?_⟩
  have hR:=k3.is (x:=.inr (acc,q)) fun f=>by rw [qFb,if_neg c1]
  exact⟨[2],[],[], .returned (.p (qE7 acc)),pbH ws q,rfl,⟨_,rfl,⟨_,rfl,by show 0+acc.length≤(acc.map Rf.cells).length;simp,qAR (by simp)⟩⟩,sk,by rw [hR];exact⟨k1,rfl,rfl⟩⟩
theorem qZN {ws:List Wd} (hg:GoodW ws) {q q':Nat} {n:Int} (h:qDR ws q=.inr (n,q')):0≤n∧n≤9999:=by
 rw [qDR] at h
 split at h
 ·rename_i hk
  injection h with h;injection h with h1 h2
  obtain⟨h4,hd⟩:=qMo (qWE hg hk)
  have hv:=qHO hd _ (Nat.le_refl _)
  rw [qAh (Nat.le_refl _),h1] at hv
  have hp:(10:Int) ^ (txt ws q).length≤10 ^ 4:=by
   rcases (show(txt ws q).length=0∨(txt ws q).length=1∨(txt ws q).length=2∨(txt ws q).length=3∨(txt ws q).length=4 by omega) with e | e | e | e | e <;> rw [e] <;> decide
  have hp4:(10:Int) ^ 4=10000:=by decide
  omega
 ·cases h
theorem qOO (ws:List Wd) (F q0:Nat) (key:List UInt8) (hk:key ≠ []) (hF:ws.length<F) (hg:GoodW ws) (hq0:q0≤ws.length):HoldsG cx 115 [.ptr 0 0 0, .p (.str key)] (psH ws q0) (rdQ ws (qFP ws F key q0) fun l=>.p (qE7 l)):=by
 generalize hR:qFP ws F key q0=R
 rw [qFP] at hR
 refine qAA Tryz.func115 rfl rfl rfl ?_
 have hl:=hg.len
 by_cases c1:txt ws q0=key
 rotate_left
 ·rw [if_neg c1] at hR
  refine(qAn ws q0 key hl hq0).holds.useT [] [] rfl (sk) (sk) fun e0 H0 hq=>?_
  obtain⟨rfl,rfl⟩:=hq.2 c1
  refine⟨rfl,_,⟨2,(0,psO ws q0)::[(1,bxO)]⟩,rfl,rfl,?_⟩
  exact⟨[],[],[], .returned (.p (qE7 [])),psH ws q0,rfl,⟨_,rfl, .inr (.inr ⟨4,rfl⟩)⟩,sk,by rw [← hR];exact⟨hq0,rfl,rfl⟩⟩
 rw [if_pos c1] at hR
 have q1l:q0+1≤ws.length:=qBF (by rw [c1];exact hk)
 refine(qAn ws q0 key hl hq0).holds.useT [] [] rfl (sk) (sk) fun e0 H0 hq=>?_
 obtain⟨rfl,rfl⟩:=hq.1 c1
 refine⟨rfl,_,⟨2,(0,psO ws (q0+1))::[(1,bxO)]⟩,rfl,rfl,?_⟩
 have hc:=qSQ ws F (q0+1) hF hg q1l
 rw [hR] at hc
 refine hc.holds.useT [] [] rfl (sk) ⟨_,_,rfl,⟨rfl,_,_,rfl,⟨_,_,rfl,⟨rfl,rfl⟩,rfl⟩,rfl⟩,_,_,rfl,⟨rfl,_,_,rfl,rfl,⟨_,_,rfl,⟨rfl,rfl⟩,rfl⟩⟩,rfl⟩ fun e0 H0 hq=>?_
 rcases R with p | ⟨l,q2⟩
 ·obtain⟨rfl,rfl⟩:=hq
  refine⟨rfl,_,_,rfl,rfl,?_⟩
  exact⟨[],[],[],qAN ws p,⟨1,[]⟩,rfl,⟨_,rfl,_,_,rfl,rfl,rfl⟩,trivial,rfl,rfl⟩
 obtain⟨q2l,rfl,rfl⟩:=hq
 refine⟨rfl,_,⟨2,[(0,psO ws q2),(1,bxO)]⟩,rfl,rfl,?_⟩
 exact⟨[],[],[], .returned (.p (qE7 l)),psH ws q2,rfl,sk,sk,q2l,rfl,rfl⟩
theorem qIi (ws:List Wd) (q0:Nat) (hl:ws.length≤1500) (hq0:q0≤ws.length):HoldsG cx 233 [.ptr 0 0 0] (psH ws q0) (rdQ ws (qUr ws q0) fun n=>.p (i64 n)):=by
 generalize hR:qUr ws q0=R
 rw [qUr] at hR
 refine qAA Tryz.func233 rfl rfl rfl ?_
 by_cases c1:txt ws q0=tEq
 ·have q1l:q0<ws.length:=qBF (by rw [c1];decide)
  rw [if_pos c1] at hR
  refine(qAn ws q0 tEq hl hq0).holds.useT [] [] rfl (sk) (sk) fun e0 H0 hq=>?_
  obtain⟨rfl,rfl⟩:=hq.1 c1
  refine⟨rfl,_,⟨1,(0,psO ws (q0+1))::[]⟩,rfl,rfl,?_⟩
  exact⟨[],[],[], .returned (.p (i64 1)),psH ws (q0+1),rfl,sk,sk,by rw [← hR];exact⟨by omega,rfl,rfl⟩⟩
 rw [if_neg c1] at hR
 refine(qAn ws q0 tEq hl hq0).holds.useT [] [] rfl (sk) (sk) fun e0 H0 hq=>?_
 obtain⟨rfl,rfl⟩:=hq.2 c1
 refine⟨rfl,_,⟨1,(0,psO ws q0)::[]⟩,rfl,rfl,?_⟩
 by_cases c2:txt ws q0=tNe
 ·have q1l:q0<ws.length:=qBF (by rw [c2];decide)
  rw [if_pos c2] at hR
  refine(qAn ws q0 tNe hl hq0).holds.useT [] [] rfl (sk) (sk) fun e0 H0 hq=>?_
  obtain⟨rfl,rfl⟩:=hq.1 c2
  refine⟨rfl,_,⟨1,(0,psO ws (q0+1))::[]⟩,rfl,rfl,?_⟩
  exact⟨[],[],[], .returned (.p (i64 2)),psH ws (q0+1),rfl,sk,sk,by rw [← hR];exact⟨by omega,rfl,rfl⟩⟩
 rw [if_neg c2] at hR
 refine(qAn ws q0 tNe hl hq0).holds.useT [] [] rfl (sk) (sk) fun e0 H0 hq=>?_
 obtain⟨rfl,rfl⟩:=hq.2 c2
 refine⟨rfl,_,⟨1,(0,psO ws q0)::[]⟩,rfl,rfl,?_⟩
 by_cases c3:txt ws q0=tLt
 ·have q1l:q0<ws.length:=qBF (by rw [c3];decide)
  rw [if_pos c3] at hR
  refine(qAn ws q0 tLt hl hq0).holds.useT [] [] rfl (sk) (sk) fun e0 H0 hq=>?_
  obtain⟨rfl,rfl⟩:=hq.1 c3
  refine⟨rfl,_,⟨1,(0,psO ws (q0+1))::[]⟩,rfl,rfl,?_⟩
  exact⟨[],[],[], .returned (.p (i64 3)),psH ws (q0+1),rfl,sk,sk,by rw [← hR];exact⟨by omega,rfl,rfl⟩⟩
 rw [if_neg c3] at hR
 refine(qAn ws q0 tLt hl hq0).holds.useT [] [] rfl (sk) (sk) fun e0 H0 hq=>?_
 obtain⟨rfl,rfl⟩:=hq.2 c3
 refine⟨rfl,_,⟨1,(0,psO ws q0)::[]⟩,rfl,rfl,?_⟩
 by_cases c4:txt ws q0=tLe
 ·have q1l:q0<ws.length:=qBF (by rw [c4];decide)
  rw [if_pos c4] at hR
  refine(qAn ws q0 tLe hl hq0).holds.useT [] [] rfl (sk) (sk) fun e0 H0 hq=>?_
  obtain⟨rfl,rfl⟩:=hq.1 c4
  refine⟨rfl,_,⟨1,(0,psO ws (q0+1))::[]⟩,rfl,rfl,?_⟩
  exact⟨[],[],[], .returned (.p (i64 4)),psH ws (q0+1),rfl,sk,sk,by rw [← hR];exact⟨by omega,rfl,rfl⟩⟩
 rw [if_neg c4] at hR
 refine(qAn ws q0 tLe hl hq0).holds.useT [] [] rfl (sk) (sk) fun e0 H0 hq=>?_
 obtain⟨rfl,rfl⟩:=hq.2 c4
 refine⟨rfl,_,⟨1,(0,psO ws q0)::[]⟩,rfl,rfl,?_⟩
 refine(qLa ws q0 hl hq0).holds.useT [] [] rfl (sk) (sk) fun e0 H0 hq=>?_
 obtain⟨rfl,rfl⟩:=hq
 refine⟨rfl,_,⟨1,(0,psO ws q0)::[]⟩,rfl,rfl,?_⟩
 exact⟨[],[],[],qAN ws q0,⟨1,[]⟩,rfl,⟨_,rfl,_,_,rfl,rfl,rfl⟩,trivial,by rw [← hR];exact⟨rfl,rfl⟩⟩
def moQ (ws:List Wd) (q:Nat) (e:AE) (H':Hp):Prop:=((txt ws q=qEW∨knd ws q=3)→e=.returned (vB true)∧H'=pbH ws q)∧(¬ (txt ws q=qEW∨knd ws q=3)→e=.returned (vB false)∧H'=pbH ws q)
theorem qIw (ws:List Wd) (q0:Nat) (hl:ws.length≤1500) (hq0:q0≤ws.length):HoldsG cx 210 [.ptr 1 0 0] (pbH ws q0) (moQ ws q0):=by
 refine qAA Tryz.func210 rfl rfl rfl ?_
 refine(qN5 ws q0 hl hq0).holds.useT [] [] rfl (sk) (sk) fun e0 H0 hq=>?_
 obtain⟨rfl,rfl⟩:=hq
 refine⟨rfl,_,⟨2,(0,psO ws q0)::[(1,bxO)]⟩,rfl,rfl,?_⟩
 (first | refine qAO (fun c1=>?_) (fun c1=>?_) | refine qAP (fun c1=>?_) (fun c1=>?_) | refine qAQ (fun c1=>?_) (fun c1=>?_))
 ·have c1:txt ws q0=qEW:=c1
  exact⟨[],[],[], .returned (vB true),pbH ws q0,rfl,sk,sk,fun _=>⟨rfl,rfl⟩,fun h=>absurd (.inl c1) h⟩
 have c1:¬ txt ws q0=qEW:=c1
 refine(qOo ws q0 hl hq0).holds.useT [] [] rfl (sk) (sk) fun e0 H0 hq=>?_
 obtain⟨rfl,rfl⟩:=hq
 refine⟨rfl,_,⟨2,(0,psO ws q0)::[(1,bxO)]⟩,rfl,rfl,?_⟩
 (first | refine qAO (fun c2=>?_) (fun c2=>?_) | refine qAP (fun c2=>?_) (fun c2=>?_) | refine qAQ (fun c2=>?_) (fun c2=>?_))
 ·have c2:knd ws q0=3:=c2
  exact⟨[],[],[], .returned (vB true),pbH ws q0,rfl,sk,sk,fun _=>⟨rfl,rfl⟩,fun h=>absurd (.inr c2) h⟩
 have c2:¬ knd ws q0=3:=c2
 exact⟨[],[],[], .returned (vB false),pbH ws q0,rfl,sk,sk,fun h=>absurd h (not_or.2 ⟨c1,c2⟩),fun _=>⟨rfl,rfl⟩⟩
theorem qIv (ws:List Wd) (q0:Nat) (hg:GoodW ws) (hq0:q0≤ws.length):HoldsG cx 212 [.ptr 1 0 0] (pbH ws q0) (qV8 ws (qSg ws q0) fun n=>.p (i64 n)):=by
 generalize hR:qSg ws q0=R
 rw [qSg] at hR
 have hl:=hg.len
 refine qAA Tryz.func212 rfl rfl rfl ?_
 by_cases c1:txt ws q0=qEW
 ·have q1l:q0+1≤ws.length:=qBF (by rw [c1];decide)
  rw [if_pos c1] at hR
  refine(qAn ws q0 qEW hl hq0).holds.useT [] [] rfl (sk) (sk) fun e0 H0 hq=>?_
  obtain⟨rfl,rfl⟩:=hq.1 c1
  refine⟨rfl,_,⟨2,(0,psO ws (q0+1))::[(1,bxO)]⟩,rfl,rfl,?_⟩
  refine(qBK ws (q0+1) hg q1l).holds.useT [] [] rfl (sk) (sk) fun e0 H0 hq=>?_
  rcases h1:qDR ws (q0+1) with p | ⟨n,q2⟩
  ·rw [h1] at hq hR
   obtain⟨rfl,rfl⟩:=hq
   refine⟨rfl,_,_,rfl,rfl,?_⟩
   exact⟨[],[],[],qAN ws p,⟨2,[]⟩,rfl,⟨_,rfl,_,_,rfl,rfl,rfl⟩,trivial,by rw [← hR];exact⟨rfl,rfl⟩⟩
  have hb:=qZN hg h1
  rw [h1] at hq hR
  obtain⟨q2l,rfl,rfl⟩:=hq
  refine⟨rfl,_,⟨2,(0,psO ws q2)::[(1,bxO)]⟩,rfl,rfl,?_⟩
  refine⟨-n,by show _=IntKind.i64.wrap (0 - n);rw [Int.zero_sub];exact w6z,?_⟩
  exact⟨[],[],[], .returned (.p (i64 (-n))),pbH ws q2,rfl,sk,sk,by rw [← hR];exact⟨q2l,rfl,rfl⟩⟩
 rw [if_neg c1] at hR
 refine(qAn ws q0 qEW hl hq0).holds.useT [] [] rfl (sk) (sk) fun e0 H0 hq=>?_
 obtain⟨rfl,rfl⟩:=hq.2 c1
 refine⟨rfl,_,⟨2,(0,psO ws q0)::[(1,bxO)]⟩,rfl,rfl,?_⟩
 refine(qBK ws q0 hg hq0).holds.useT [] [] rfl (sk) (sk) fun e0 H0 hq=>?_
 rw [hR] at hq
 rcases R with p | ⟨n,q2⟩
 ·obtain⟨rfl,rfl⟩:=hq
  refine⟨rfl,_,_,rfl,rfl,?_⟩
  exact⟨[],[],[],qAN ws p,⟨2,[]⟩,rfl,⟨_,rfl,_,_,rfl,rfl,rfl⟩,trivial,rfl,rfl⟩
 obtain⟨q2l,rfl,rfl⟩:=hq
 refine⟨rfl,_,⟨2,(0,psO ws q2)::[(1,bxO)]⟩,rfl,rfl,?_⟩
 exact⟨[],[],[], .returned (.p (i64 n)),pbH ws q2,rfl,sk,sk,q2l,rfl,rfl⟩
theorem int_lt {ws:List Wd} {q q':Nat} {n:Int} (h:qSg ws q=.inr (n,q')):q<q':=by
 rw [qSg] at h
 split at h
 ·obtain⟨m,q2,h2,h⟩:=then_ok h
  have:=qCe h2
  injection h with h;injection h with h3 h4;omega
 ·exact qCe h
def iO (l:List Int):AObj:=⟨qWc,false, .pu (l.map i64)⟩
def nmF:AV:=.fn (.func 210) [] [.ptr 1 0 0]
def nrF:AV:=.fn (.func 212) [] [.ptr 1 0 0]
def nbF:AV:=.fn (.func 112) [.ptr 0 0 0] []
theorem qQB (ws:List Wd) (F q0:Nat) (hF:ws.length<F) (hg:GoodW ws) (hq0:q0≤ws.length):HoldsG cx 211 [nmF,nrF] (pbH ws q0) (qV8 ws (qEn ws F q0) fun l=>.p (ints l)):=by
 generalize hR:qEn ws F q0=R
 rw [qEn] at hR
 refine qAA Tryz.func211 rfl rfl rfl ?_
 have hl:=hg.len
 refine(qIv ws q0 hg hq0).holds.useT [] [] rfl (sk) (sk) fun e0 H0 hq=>?_
 rcases h1:qSg ws q0 with p | ⟨n0,q1⟩
 ·rw [h1] at hq hR
  obtain⟨rfl,rfl⟩:=hq
  refine⟨rfl,_,_,rfl,rfl,?_⟩
  exact⟨[],[],[],qAN ws p,⟨2,[]⟩,rfl,⟨_,rfl,_,_,rfl,rfl,rfl⟩,trivial,by rw [← hR];exact⟨rfl,rfl⟩⟩
 rw [h1] at hq hR
 obtain⟨q1l,rfl,rfl⟩:=hq
 refine⟨rfl,_,pbH ws q1,rfl,rfl,?_⟩
 simp only [qAE] at hR
 refine⟨List Int × Nat,fun x=>[(0,nmF),(1,nrF),(5, .sl 2 1 0 x.1.length)],fun x=>⟨3,[(2,iO x.1),(0,psO ws x.2),(1,bxO)]⟩,fun x=>x.2≤ws.length∧x.1.length≤x.2∧LI R (fun f=>qGo ws f x.1 x.2) (ws.length - x.2),fun x=>ws.length - x.2,?_,?_⟩
 ·exact⟨([n0],q1),⟨q1l,by simp only [List.length_singleton];have:=int_lt h1;omega,⟨F,by omega,hR.symm⟩⟩,qAB [] [] [] rfl ⟨⟨rfl,_,_,rfl,rfl,⟨_,_,rfl,⟨rfl,rfl⟩,rfl⟩⟩,⟨rfl,_,_,rfl,rfl,⟨_,_,rfl,⟨rfl,rfl⟩,rfl⟩⟩,rfl,trivial⟩ (sk) rfl⟩
 rintro⟨acc,q⟩ ⟨k1,k2,k3⟩
 simp only [] at k1 k2 k3
 by_cases c1:txt ws q=qEW∨knd ws q=3
 ·have ql:q≤ws.length:=k1
  refine(qIw ws q hl k1).holds.useT [] [] rfl (sk) (sk) fun e0 H0 hq=>?_
  obtain⟨rfl,rfl⟩:=hq.1 c1
  refine⟨rfl,_,⟨3,[(0,psO ws q),(1,bxO),(2,iO acc)]⟩,rfl,rfl,?_⟩
  refine(qIv ws q hg ql).holds.useT [] [] rfl (sk) (sk) fun e0 H0 hq=>?_
  rcases h2:qSg ws q with p | ⟨n,q2⟩
  ·rw [h2] at hq
   obtain⟨rfl,rfl⟩:=hq
   refine⟨rfl,_,_,rfl,rfl,?_⟩
   have hR:=k3.is (x:=.inl p) fun f=>by rw [qGo,if_pos c1,h2];rfl
   exact⟨[],[],[],qAN ws p,⟨2,[]⟩,rfl,⟨_,rfl,_,_,rfl,rfl,rfl⟩,trivial,by rw [hR];exact⟨rfl,rfl⟩⟩
  rw [h2] at hq
  obtain⟨q2l,rfl,rfl⟩:=hq
  have hlt:=int_lt h2
  refine⟨rfl,_,⟨3,(0,psO ws q2)::(1,bxO)::[(2,iO acc)]⟩,rfl,rfl,?_⟩
  refine⟨by show 0+1≤1;omega,[i64 n],rfl,?_⟩
  refine⟨by show 0+acc.length≤(acc.map i64).length;simp,acc.map i64,qAR (by simp),by show(acc.length+1) * 8≤140737488355328;omega,(acc++[n]).map i64,by simp,?_⟩
  exact⟨(acc++[n],q2),⟨q2l,by simp only [qAI];omega,k3.nxt (fun f=>by rw [qGo,if_pos c1,h2];rfl) (by omega)⟩,qAB [] [(2,4)] [] rfl ⟨⟨rfl,_,_,rfl,rfl,⟨_,_,rfl,⟨rfl,rfl⟩,rfl⟩⟩,⟨rfl,_,_,rfl,rfl,⟨_,_,rfl,⟨rfl,rfl⟩,rfl⟩⟩,congrArg (fun k:Nat=>AV.sl 4 1 0 k) (qAI acc n).symm,trivial⟩ (sk) rfl,by show ws.length - q2<ws.length - q;omega⟩
 ·refine(qIw ws q hl k1).holds.useT [] [] rfl (sk) (sk) fun e0 H0 hq=>?_
  obtain⟨rfl,rfl⟩:=hq.2 c1
  refine⟨rfl,_,⟨3,[(0,psO ws q),(1,bxO),(2,iO acc)]⟩,rfl,rfl,?_⟩
  have hR:=k3.is (x:=.inr (acc,q)) fun f=>by rw [qGo,if_neg c1]
  exact⟨[2],[],[], .returned (.p (ints acc)),pbH ws q,rfl,⟨_,rfl,⟨_,rfl,by show 0+acc.length≤(acc.map i64).length;simp,qAR (by simp)⟩⟩,sk,by rw [hR];exact⟨k1,rfl,rfl⟩⟩
def qb7 (ws:List Wd) (r:Rd (List Int)) (e:AE) (H':Hp):Prop:=match r with
 | .inl p=>e=qAN ws p∧H'=⟨1,[]⟩
 | .inr (l,q)=>(q≤ws.length∧l.length≤q)∧e=.returned (.sl 1 1 0 l.length)∧H'=⟨2,[(1,iO l),(0,psO ws q)]⟩
theorem qMx (ws:List Wd) (F q0:Nat) (hF:ws.length - q0<F) (hg:GoodW ws) (hq0:q0≤ws.length):HoldsG cx 211 [cmF,nbF] (psH ws q0) (qb7 ws (qGC ws (qDR ws) F q0)):=by
 generalize hR:qGC ws (qDR ws) F q0=R
 rw [qGC] at hR
 refine qAA Tryz.func211 rfl rfl rfl ?_
 have hl:=hg.len
 refine(qBK ws q0 hg hq0).holds.useT [] [] rfl (sk) (sk) fun e0 H0 hq=>?_
 rcases h1:qDR ws q0 with p | ⟨n0,q1⟩
 ·rw [h1] at hq hR
  obtain⟨rfl,rfl⟩:=hq
  refine⟨rfl,_,_,rfl,rfl,?_⟩
  exact⟨[],[],[],qAN ws p,⟨1,[]⟩,rfl,⟨_,rfl,_,_,rfl,rfl,rfl⟩,trivial,by rw [← hR];exact⟨rfl,rfl⟩⟩
 rw [h1] at hq hR
 obtain⟨q1l,rfl,rfl⟩:=hq
 refine⟨rfl,_,psH ws q1,rfl,rfl,?_⟩
 simp only [qAE] at hR
 refine⟨List Int × Nat,fun x=>[(0,cmF),(1,nbF),(5, .sl 1 1 0 x.1.length)],fun x=>⟨2,[(1,iO x.1),(0,psO ws x.2)]⟩,fun x=>x.2≤ws.length∧x.1.length≤x.2∧LI R (fun f=>qFb ws (qDR ws) f x.1 x.2) (ws.length - x.2),fun x=>ws.length - x.2,?_,?_⟩
 ·exact⟨([n0],q1),⟨q1l,by simp only [List.length_singleton];have:=qCe h1;omega,⟨F,by show ws.length - q1<F;have:=qCe h1;omega,hR.symm⟩⟩,qAB [] [] [] rfl ⟨⟨rfl,_,_,rfl,⟨_,_,rfl,⟨rfl,rfl⟩,rfl⟩,rfl⟩,⟨rfl,_,_,rfl,⟨_,_,rfl,⟨rfl,rfl⟩,rfl⟩,rfl⟩,rfl,trivial⟩ (sk) rfl⟩
 rintro⟨acc,q⟩ ⟨k1,k2,k3⟩
 simp only [] at k1 k2 k3
 by_cases c1:txt ws q=qHT
 ·have ql:q+1≤ws.length:=qBF (by rw [c1];decide)
  refine(qKQ ws q hl k1).holds.useT [] [] rfl (sk) (sk) fun e0 H0 hq=>?_
  obtain⟨rfl,rfl⟩:=hq.1 c1
  refine⟨rfl,_,⟨2,(0,psO ws (q+1))::[(1,iO acc)]⟩,rfl,rfl,?_⟩
  refine(qBK ws (q+1) hg ql).holds.useT [] [] rfl (sk) (sk) fun e0 H0 hq=>?_
  rcases h2:qDR ws (q+1) with p | ⟨n,q2⟩
  ·rw [h2] at hq
   obtain⟨rfl,rfl⟩:=hq
   refine⟨rfl,_,_,rfl,rfl,?_⟩
   have hR:=k3.is (x:=.inl p) fun f=>by rw [qFb,if_pos c1,h2];rfl
   exact⟨[],[],[],qAN ws p,⟨1,[]⟩,rfl,⟨_,rfl,_,_,rfl,rfl,rfl⟩,trivial,by rw [hR];exact⟨rfl,rfl⟩⟩
  rw [h2] at hq
  obtain⟨q2l,rfl,rfl⟩:=hq
  have hlt:=qCe h2
  refine⟨rfl,_,⟨2,(0,psO ws q2)::[(1,iO acc)]⟩,rfl,rfl,?_⟩
  refine⟨by show 0+1≤1;omega,[i64 n],rfl,?_⟩
  refine⟨by show 0+acc.length≤(acc.map i64).length;simp,acc.map i64,qAR (by simp),by show(acc.length+1) * 8≤140737488355328;omega,(acc++[n]).map i64,by simp,?_⟩
  exact⟨(acc++[n],q2),⟨q2l,by simp only [qAI];omega,k3.nxt (fun f=>by rw [qFb,if_pos c1,h2];rfl) (by omega)⟩,qAB [] [(1,3)] [] rfl ⟨⟨rfl,_,_,rfl,⟨_,_,rfl,⟨rfl,rfl⟩,rfl⟩,rfl⟩,⟨rfl,_,_,rfl,⟨_,_,rfl,⟨rfl,rfl⟩,rfl⟩,rfl⟩,congrArg (fun k:Nat=>AV.sl 3 1 0 k) (qAI acc n).symm,trivial⟩ (sk) rfl,by show ws.length - q2<ws.length - q;omega⟩
 ·refine(qKQ ws q hl k1).holds.useT [] [] rfl (sk) (sk) fun e0 H0 hq=>?_
  obtain⟨rfl,rfl⟩:=hq.2 c1
  refine⟨rfl,_,⟨2,(0,psO ws q)::[(1,iO acc)]⟩,rfl,rfl,?_⟩
  have hR:=k3.is (x:=.inr (acc,q)) fun f=>by rw [qFb,if_neg c1]
  exact⟨[],[],[], .returned (.sl 1 1 0 acc.length),⟨2,[(1,iO acc),(0,psO ws q)]⟩,rfl,⟨_,rfl,rfl⟩,sk,by rw [hR];exact⟨⟨k1,k2⟩,rfl,rfl⟩⟩
theorem qLC (ws:List Wd) (F q0:Nat) (hF:ws.length<F) (hg:GoodW ws) (hq0:q0≤ws.length):HoldsG cx 169 [.ptr 0 0 0] (psH ws q0) (rdQ ws (qEn ws F q0) fun l=>.p (ints l)):=by
 have hc:=qQB ws F q0 hF hg hq0
 generalize qEn ws F q0=R at hc ⊢
 refine qAA Tryz.func169 rfl rfl rfl ?_
 refine hc.holds.useT [] [] rfl (sk) ⟨_,_,rfl,⟨rfl,_,_,rfl,rfl,⟨_,_,rfl,⟨rfl,rfl⟩,rfl⟩⟩,_,_,rfl,⟨rfl,_,_,rfl,rfl,⟨_,_,rfl,⟨rfl,rfl⟩,rfl⟩⟩,rfl⟩ fun e0 H0 hq=>?_
 rcases R with p | ⟨l,q2⟩
 ·obtain⟨rfl,rfl⟩:=hq
  refine⟨rfl,_,_,rfl,rfl,?_⟩
  exact⟨[],[],[],qAN ws p,⟨1,[]⟩,rfl,⟨_,rfl,_,_,rfl,rfl,rfl⟩,trivial,rfl,rfl⟩
 obtain⟨q2l,rfl,rfl⟩:=hq
 refine⟨rfl,_,⟨2,[(0,psO ws q2),(1,bxO)]⟩,rfl,rfl,?_⟩
 exact⟨[],[],[], .returned (.p (ints l)),psH ws q2,rfl,sk,sk,q2l,rfl,rfl⟩
theorem qFK {α:Type} {P:List α→Prop} (h0:P []) (h1:∀ l x,P l→P (l++[x])) (l:List α):P l:=by
 rw [← List.reverse_reverse l]
 induction l.reverse with
 | nil=>exact h0
 | cons x r ih=>rw [List.reverse_cons];exact h1 _ x ih
def qIL (acc:List Int) (x:Int):List Int:=if acc.getLast?=some x then acc else acc++[x]
def qCj (l:List Int):List Int:=l.foldl qIL []
theorem qFq (l:List Int) (x:Int):qCj (l++[x])=qIL (qCj l) x:=by rw [qCj,qCj,List.foldl_append];rfl
theorem qRN (acc:List Int) (x:Int):(qIL acc x).getLast?=some x:=by
 unfold qIL
 split
 ·assumption
 ·rw [List.getLast?_append];rfl
theorem qUd (acc:List Int) (x y:Int):y∈qIL acc x ↔ y∈acc∨y=x:=by
 unfold qIL
 split
 ·rename_i h
  constructor
  ·exact .inl
  ·rintro (h1 | rfl)
   ·exact h1
   ·exact List.mem_of_getLast? h
 ·rw [List.mem_append,List.mem_singleton]
theorem qPI:∀ l:List Int,l ≠ []→(qCj l).getLast?=l.getLast?:=by
 refine qFK (fun h=>absurd rfl h) fun l x _ _=>?_
 rw [qFq,qRN,List.getLast?_append];rfl
theorem qKS (l:List Int) (y:Int):y∈qCj l ↔ y∈l:=by
 refine qFK (P:=fun l=>y∈qCj l ↔ y∈l) Iff.rfl (fun l x ih=>?_) l
 rw [qFq,qUd,ih,List.mem_append,List.mem_singleton]
def Inc (l:List Int):Prop:=l.Pairwise (· < ·)
theorem qVM {l:List Int} {x:Int} (h:Inc l) (hx:∀ y∈l,y<x):Inc (l++[x]):=by
 rw [Inc,List.pairwise_append]
 exact⟨h,List.pairwise_singleton _ _,fun a ha b hb=>by rw [List.mem_singleton.1 hb];exact hx a ha⟩
theorem qVN:∀ {l:List Int},Inc l→∀ {z:Int},l.getLast?=some z→∀ y∈l,y≤z:=by
 intro l
 refine qFK (P:=fun l=>Inc l→∀ {z:Int},l.getLast?=some z→∀ y∈l,y≤z) (fun _ z _ y hy=>by simp at hy) (fun l x _ h z hz y hy=>?_) l
 rw [List.getLast?_append] at hz
 have hz:x=z:=by simpa using hz
 subst hz
 rw [Inc,List.pairwise_append] at h
 rcases List.mem_append.1 hy with hy | hy
 ·have:=h.2.2 y hy x (List.mem_singleton.2 rfl)
  exact Int.le_of_lt this
 ·rw [List.mem_singleton.1 hy];exact Int.le_refl _
theorem qTM (l:List Int):l.Pairwise (·≤·)→Inc (qCj l):=by
 refine qFK (P:=fun l=>l.Pairwise (·≤·)→Inc (qCj l)) (fun _=>List.Pairwise.nil) (fun l x ih h=>?_) l
 rw [List.pairwise_append] at h
 have ih:=ih h.1
 rw [qFq]
 unfold qIL
 split
 ·exact ih
 ·rename_i hne
  refine qVM ih fun y hy=>?_
  have hyl:=(qKS l y).1 hy
  have hyx:=h.2.2 y hyl x (List.mem_singleton.2 rfl)
  rcases Int.lt_or_eq_of_le hyx with h1 | h1
  ·exact h1
  ·exfalso
   have hl:l ≠ []:=fun e=>by rw [e] at hyl;simp at hyl
   obtain⟨z,hz⟩:∃ z,(qCj l).getLast?=some z:=by
    rw [qPI l hl]
    exact⟨_,List.getLast?_eq_some_getLast hl⟩
   have h2:=qVN ih hz y hy
   have hzl:z∈l:=(qKS l z).1 (List.mem_of_getLast? hz)
   have h3:=h.2.2 z hzl x (List.mem_singleton.2 rfl)
   exact hne (by rw [hz];congr 1;omega)
theorem qSh (l:List Int) (n y:Int):y∈qM7 l n ↔ y=n∨y∈l:=by
 induction l with
 | nil=>simp [qM7]
 | cons x l ih=>
  rw [qM7]
  split
  ·simp
  ·split
   ·rename_i h;subst h;simp
   ·rw [List.mem_cons,ih,List.mem_cons]
    constructor
    ·rintro (h | h | h) <;> simp [h]
    ·rintro (h | h | h) <;> simp [h]
theorem qXl (l:List Int) (n:Int) (h:Inc l):Inc (qM7 l n):=by
 induction l with
 | nil=>exact List.pairwise_singleton _ _
 | cons x l ih=>
  rw [Inc,List.pairwise_cons] at h
  rw [qM7]
  split
  ·rename_i hn
   rw [Inc,List.pairwise_cons]
   refine⟨fun y hy=>?_,List.pairwise_cons.2 h⟩
   rcases List.mem_cons.1 hy with rfl | hy
   ·exact hn
   ·have:=h.1 y hy;omega
  ·split
   ·exact List.pairwise_cons.2 h
   ·rw [Inc,List.pairwise_cons]
    refine⟨fun y hy=>?_,ih h.2⟩
    rcases (qSh l n y).1 hy with rfl | hy
    ·omega
    ·exact h.1 y hy
theorem qOC:∀ (l acc:List Int),Inc acc→Inc (l.foldl qM7 acc)∧∀ y,y∈l.foldl qM7 acc ↔ y∈acc∨y∈l
 | [],acc,h=>⟨h,fun y=>by simp⟩
 | x::l,acc,h=>by
  obtain⟨h1,h2⟩:=qOC l (qM7 acc x) (qXl acc x h)
  refine⟨h1,fun y=>?_⟩
  rw [List.foldl_cons,h2,qSh,List.mem_cons]
  constructor
  ·rintro ((h | h) | h) <;> simp [h]
  ·rintro (h | h | h) <;> simp [h]
theorem qM9:∀ {a b:List Int},Inc a→Inc b→(∀ y,y∈a ↔ y∈b)→a=b
 | [],[],_,_,_=>rfl
 | [],y::b,_,_,h=>by have:=(h y).2 (by simp);simp at this
 | x::a,[],_,_,h=>by have:=(h x).1 (by simp);simp at this
 | x::a,y::b,ha,hb,h=>by
  rw [Inc,List.pairwise_cons] at ha hb
  have hxy:x=y:=by
   have h1:=(h x).1 (by simp)
   have h2:=(h y).2 (by simp)
   rcases List.mem_cons.1 h1 with h1 | h1
   ·exact h1
   ·rcases List.mem_cons.1 h2 with h2 | h2
    ·exact h2.symm
    ·have:=hb.1 x h1
     have:=ha.1 y h2
     omega
  subst hxy
  have:a=b:=qM9 ha.2 hb.2 fun z=>by
   constructor
   ·intro hz
    have h1:=(h z).1 (by simp [hz])
    rcases List.mem_cons.1 h1 with rfl | h1
    ·exact absurd (ha.1 z hz) (Int.lt_irrefl z)
    ·exact h1
   ·intro hz
    have h1:=(h z).2 (by simp [hz])
    rcases List.mem_cons.1 h1 with rfl | h1
    ·exact absurd (hb.1 z hz) (Int.lt_irrefl z)
    ·exact h1
  rw [this]
theorem qPr {l s:List Int} (hp:s.Perm l) (hs:s.Pairwise (·≤·)):qCj s=qaL l:=by
 have h1:=qOC l [] List.Pairwise.nil
 refine qM9 (qTM s hs) h1.1 fun y=>?_
 rw [qKS,qaL,h1.2,hp.mem_iff]
 simp
theorem qUe (acc:List Int) (x:Int):(qIL acc x).length≤acc.length+1:=by
 unfold qIL
 split <;> simp
theorem qNP (l:List Int):(qCj l).length≤l.length:=by
 refine qFK (P:=fun l=>(qCj l).length≤l.length) (Nat.le_refl _) (fun l x ih=>?_) l
 rw [qFq]
 have:=qUe (qCj l) x
 simp only [List.length_append,List.length_singleton];omega
end Go.Proofs.YtkegmchjobphdaaGreatDoor
namespace Go.Proofs
open Go.Shelf
def Tryz.lays189_ren:Go.Shelf.Ren:=⟨fun | 189=>59 | 125=>94 | 257=>93 | 128=>149 | 129=>150 | 294=>140 | 295=>141 | 296=>142 | 297=>143 | 298=>144 | 299=>145 | 216=>146 | 300=>147 | 301=>148 | 328=>195 | 329=>196 | 330=>197 | 331=>198 | 332=>199 | 215=>200 | 343=>225 | n=>n,fun | 28=>31 | 3=>3 | 46=>46 | 0=>0 | 51=>259 | 53=>261 | 4=>4 | 183=>253 | 182=>252 | 131=>176 | 5=>5 | 9=>9 | 218=>289 | 222=>275 | 228=>310 | 229=>311 | n=>n,fun | n=>n⟩
theorem Tryz.lays189:Go.Proofs.Lays.n189 Tryz.prog Tryz.lays189_ren:={
 mixed:=by kernel_rfl
 f125:=Tryz.func94.trans (congrArg some (by kernel_rfl))
 f128:=Tryz.func149.trans (congrArg some (by kernel_rfl))
 f129:=Tryz.func150.trans (congrArg some (by kernel_rfl))
 f189:=Tryz.func59.trans (congrArg some (by kernel_rfl))
 f215:=Tryz.func200.trans (congrArg some (by kernel_rfl))
 f216:=Tryz.func146.trans (congrArg some (by kernel_rfl))
 f257:=Tryz.func93.trans (congrArg some (by kernel_rfl))
 f294:=Tryz.func140.trans (congrArg some (by kernel_rfl))
 f295:=Tryz.func141.trans (congrArg some (by kernel_rfl))
 f296:=Tryz.func142.trans (congrArg some (by kernel_rfl))
 f297:=Tryz.func143.trans (congrArg some (by kernel_rfl))
 f298:=Tryz.func144.trans (congrArg some (by kernel_rfl))
 f299:=Tryz.func145.trans (congrArg some (by kernel_rfl))
 f300:=Tryz.func147.trans (congrArg some (by kernel_rfl))
 f301:=Tryz.func148.trans (congrArg some (by kernel_rfl))
 f328:=Tryz.func195.trans (congrArg some (by kernel_rfl))
 f329:=Tryz.func196.trans (congrArg some (by kernel_rfl))
 f330:=Tryz.func197.trans (congrArg some (by kernel_rfl))
 f331:=Tryz.func198.trans (congrArg some (by kernel_rfl))
 f332:=Tryz.func199.trans (congrArg some (by kernel_rfl))
 f343:=Tryz.func225.trans (congrArg some (by kernel_rfl))
 t0:=Tryz.underlying0
 a0:=Tryz.isAgg0
 z0:=Tryz.sizeOf0
 v0:=Tryz.zeroValue0
 t3:=Tryz.underlying3
 a3:=Tryz.isAgg3
 z3:=Tryz.sizeOf3
 v3:=Tryz.zeroValue3
 t4:=Tryz.underlying4
 a4:=Tryz.isAgg4
 z4:=Tryz.sizeOf4
 v4:=Tryz.zeroValue4
 t5:=Tryz.underlying5
 a5:=Tryz.isAgg5
 z5:=Tryz.sizeOf5
 v5:=Tryz.zeroValue5
 t9:=Tryz.underlying9
 a9:=Tryz.isAgg9
 z9:=Tryz.sizeOf9
 v9:=Tryz.zeroValue9
 t28:=Tryz.underlying31
 a28:=Tryz.isAgg31
 z28:=Tryz.sizeOf31
 v28:=Tryz.zeroValue31
 t46:=Tryz.underlying46
 a46:=Tryz.isAgg46
 z46:=Tryz.sizeOf46
 v46:=Tryz.zeroValue46
 t51:=Tryz.underlying259
 a51:=Tryz.isAgg259
 z51:=Tryz.sizeOf259
 v51:=Tryz.zeroValue259
 t53:=Tryz.underlying261
 a53:=Tryz.isAgg261
 z53:=Tryz.sizeOf261
 v53:=Tryz.zeroValue261
 t131:=Tryz.underlying176
 a131:=Tryz.isAgg176
 z131:=Tryz.sizeOf176
 v131:=Tryz.zeroValue176
 t182:=Tryz.underlying252
 a182:=Tryz.isAgg252
 z182:=Tryz.sizeOf252
 v182:=Tryz.zeroValue252
 t183:=Tryz.underlying253
 a183:=Tryz.isAgg253
 z183:=Tryz.sizeOf253
 v183:=Tryz.zeroValue253
 t218:=Tryz.underlying289
 a218:=Tryz.isAgg289
 z218:=Tryz.sizeOf289
 v218:=Tryz.zeroValue289
 t222:=Tryz.underlying275
 a222:=Tryz.isAgg275
 z222:=Tryz.sizeOf275
 v222:=Tryz.zeroValue275
 t228:=Tryz.underlying310
 a228:=Tryz.isAgg310
 z228:=Tryz.sizeOf310
 v228:=Tryz.zeroValue310
 t229:=Tryz.underlying311
 a229:=Tryz.isAgg311
 z229:=Tryz.sizeOf311
 v229:=Tryz.zeroValue311 }
open Go.Sort Go.RowKit in
theorem Tryz.slices_Sort_int (blk off cap:Nat) (zs:List Int) (w:World) (hH:Holds (Value.int .i64) w blk off zs.toArray) (hblk:blk<w.heap.size) (hsz:zs.length<4611686018427387904) :
  Calls Tryz.prog 59 #[.slice (some ⟨blk,off,none⟩) zs.length cap] w fun e w'=>
   e=.returned (.tuple #[])∧∃ n os,w'=grow (putRow (Value.int .i64) (Sort.ahead w n) blk off (zs.mergeSort fun x y=>decide (x≤y)).toArray) os:=Any.slices_Sort_int Tryz.lays189 blk off cap zs w hH hblk hsz
def Tryz.laysNm220_ren:Go.Shelf.Ren:=⟨fun | 20=>60 | n=>n,fun | 22=>31 | 3=>3 | 4=>4 | 0=>0 | n=>n,fun | n=>n⟩
theorem Tryz.laysNm220:Go.Proofs.Lays2.n20 Tryz.prog Tryz.laysNm220_ren:={
 mixed:=by kernel_rfl
 f20:=Tryz.func60.trans (congrArg some (by kernel_rfl))
 t0:=Tryz.underlying0
 a0:=Tryz.isAgg0
 z0:=Tryz.sizeOf0
 v0:=Tryz.zeroValue0
 t3:=Tryz.underlying3
 a3:=Tryz.isAgg3
 z3:=Tryz.sizeOf3
 v3:=Tryz.zeroValue3
 t4:=Tryz.underlying4
 a4:=Tryz.isAgg4
 z4:=Tryz.sizeOf4
 v4:=Tryz.zeroValue4
 t22:=Tryz.underlying31
 a22:=Tryz.isAgg31
 z22:=Tryz.sizeOf31
 v22:=Tryz.zeroValue31
 i3:=by kernel_rfl }
open Go.RowKit Go.Lib Go.Sort in
theorem Tryz.slices_Compact_int (blk off cap:Nat) (zs:List Int) (w:World) (hH:Holds (Value.int .i64) w blk off zs.toArray) (hsz:zs.length≤9223372036854775807) (hcap:zs.length≤cap) :
  Calls Tryz.prog 60 #[.slice (some ⟨blk,off,none⟩) zs.length cap] w fun e w'=>e=.returned (.slice (some ⟨blk,off,none⟩) (Lib.compact zs).length cap)∧∃ q,w'=putRow (Value.int .i64) (Sort.ahead w q) blk off (Lib.compact zs++List.replicate (zs.length - (Lib.compact zs).length) 0).toArray:=Any.slices_Compact_int Tryz.laysNm220 blk off cap zs w hH hsz hcap
open Go.RowKit Go.Lib Go.Sort in
theorem Tryz.slices_Compact_int_empty (a:Option Addr) (cap:Nat) (w:World) :
  Calls Tryz.prog 60 #[.slice a 0 cap] w fun e w'=>e=.returned (.slice a 0 cap)∧w'=w:=Any.slices_Compact_int_empty Tryz.laysNm220 a cap w
open Go.RowKit Go.Sort in
theorem Tryz.slices_Sort_int_none (p:Option Addr) (cap:Nat) (w:World) :
  Calls Tryz.prog 59 #[.slice p 0 cap] w fun e w'=>e=.returned (.tuple #[])∧w'=w:=Any.slices_Sort_int_none Tryz.lays189 p cap w
end Go.Proofs
namespace Go.Proofs.YtkegmchjobphdaaGreatDoor
open Go Y
set_option maxRecDepth 100000
set_option maxHeartbeats 4000000
theorem qIH {l:List Int} {k:Nat} (h:k<l.length):l.toArray[k]! = l.getD k 0:=by
 rw [getElem!_pos l.toArray k (by simpa using h),List.getD_eq_getElem?_getD,List.getElem?_eq_getElem h];rfl
theorem qSX {l:List Int} {m:Nat} (h:m<l.length):(l.take (m+1)).getLast?=some (l.getD m 0):=by
 rw [qAD 0 h,List.getLast?_append];rfl
theorem qRG (zs:List Int):∀ m,m≤zs.length→Lib.compactUpTo zs.toArray m=qCj (zs.take m)
 | 0,_=>rfl
 | m+1,h=>by
  rw [Lib.compactUpTo_succ,qRG zs m (by omega),qAD 0 (by omega),qFq,qIH (by omega)]
  cases m with
  | zero=>rfl
  | succ m=>
   have hl:(qCj (zs.take (m+1))).getLast?=some (zs.getD m 0):=by
    rw [qPI _ (fun e=>by have:=congrArg List.length e;simp at this;rw [this] at h;simp at h),qSX (by omega)]
   unfold qIL
   rw [hl]
   by_cases e:zs.getD m 0=zs.getD (m+1) 0
   ·have hk:Lib.keeps zs.toArray (m+1)=false:=Lib.keeps_neg (by omega) (by rw [Nat.add_sub_cancel,qIH (by omega),qIH (by omega)];exact e.symm)
    simp only [hk,Bool.false_eq_true,if_false,List.append_nil]
    rw [if_pos (by rw [e])]
   ·have hk:Lib.keeps zs.toArray (m+1)=true:=Lib.keeps_pos (by rw [Nat.add_sub_cancel,qIH (by omega),qIH (by omega)];exact fun h=>e h.symm)
    simp only [hk,if_true]
    rw [if_neg (fun h=>e (Option.some.inj h))]
theorem qQR (zs:List Int):Lib.compact zs=qCj zs:=by
 rw [Lib.compact,qRG zs _ (Nat.le_refl _),List.take_length]
theorem qM4 {Γ:Gm} {H:Hp} {w w':World} (h:R cx Γ H w) (e1:w'.os=w.os) (e2:w'.tape=w.tape) (e3:w'.output=w.output) (e4:w.heap.size≤w'.heap.size) (e5:∀ k,k<w.heap.size→w'.heap[k]?=w.heap[k]?):Later cx H.next Γ H w Γ H w':=by
 have hlt:∀ {b:Nat} {x:Obj},w.heap[b]?=some x→b<w.heap.size:=fun hx=>(Array.getElem?_eq_some_iff.1 hx).1
 refine⟨⟨h.glob,h.fresh,fun b arr hf=>?_,fun n o hn=>?_,h.own,h.apart⟩,Ext.refl _ _,Nat.le_refl _,⟨e1,e2,e3,e4,fun k hk _=>e5 k hk,fun k hk=>.inr hk,Fzn.le_refl _,fun k a hk=>.inl hk⟩⟩
 ·obtain⟨t,z,e⟩:=h.fzok b arr hf
  exact⟨t,z,by rw [e5 b (hlt e)];exact e⟩
 ·obtain⟨q,h1,h2⟩:=h.objs n o hn
  exact⟨q,h1,h2.ext (Gm.le_refl _) fun hl=>e5 _ (h2.blk_lt hl)⟩
theorem qNy {fz:Fzn}:∀ {l:List Int} {us:List Value},VPL fz (l.map i64) us→us=l.map (Value.int .i64)
 | [],us,h=>by simpa [VPL] using h
 | x::l,us,h=>by
  simp only [List.map_cons,VPL] at h
  obtain⟨u,us',rfl,h1,h2⟩:=h
  simp only [VP] at h1
  rw [h1,qNy h2];rfl
theorem qOs {fz:Fzn}:∀ l:List Int,VPL fz (l.map i64) (l.map (Value.int .i64))
 | []=>by simp [VPL]
 | x::l=>by simp only [List.map_cons,VPL];exact⟨_,_,rfl,by simp only [VP],qOs l⟩
theorem qUw {ys:List Int} {us rest:List Value} (h:us.length=ys.length):Sort.putCells (Value.int .i64) 0 ys.toArray ⟨us++rest⟩=⟨ys.map (Value.int .i64)++rest⟩:=by
 apply Array.ext
 ·simp [Sort.putCells,h]
 ·intro i h1 h2
  have hi:i<(us++rest).length:=by simpa [Sort.putCells] using h1
  simp only [Sort.putCells,Array.getElem_mapIdx,List.getElem_toArray]
  by_cases hk:i<ys.length
  ·rw [if_pos ⟨Nat.zero_le _,by simpa using hk⟩,List.getElem_append_left (by simpa using hk),List.getElem_map,Nat.sub_zero,getElem!_pos ys.toArray i (by simpa using hk)];rfl
  ·rw [if_neg (by simp;omega),List.getElem_append_right (by omega),List.getElem_append_right (by simp;omega)]
   simp [h]
structure RowW (xs:List Int) (Γ:Gm) (w:World) (q:Pl) where
 us:List Value
 rest:List Value
 z:Nat × Nat
 cells:w.heap[q.blk]?=some (.cells ⟨us++rest⟩ qWc z)
 free:qbd z (us++rest).length
 sz:qBX cx.P qWc=some q.s
 pos:0<q.s
 len:(us++rest).length=q.tc * q.s
 vals:us=xs.map (Value.int .i64)
 one:q.s=1
theorem row_of {xs:List Int} {Γ:Gm} {w:World} {q:Pl} (hR:R cx Γ ⟨1,[(0,iO xs)]⟩ w) (hq1:Γ.nm 0=some q) (hnl:q.nl=false):∃ _:RowW xs Γ w q,q.blk<w.heap.size:=by
 obtain⟨q',hq',hob⟩:=hR.objs 0 (iO xs) rfl
 rw [hq1] at hq'
 injection hq' with hq'
 subst hq'
 rcases (qAK rfl).1 hob with ⟨h,_⟩ | ⟨_,us,rest,z,g1,g2,g3,g4,g5,g6,g7,g8,g9⟩
 ·rw [hnl] at h;cases h
 exact⟨⟨us,rest,z,g1,g2,g3,g4,g5,qNy (qA8.1 g6),g8⟩,hob.blk_lt hnl⟩
theorem RowW.holds {xs:List Int} {Γ:Gm} {w:World} {q:Pl} (r:RowW xs Γ w q):Sort.Holds (Value.int .i64) w q.blk 0 xs.toArray:=by
 intro j hj
 have hj:j<xs.length:=by simpa using hj
 have hul:r.us.length=xs.length:=by rw [r.vals,List.length_map]
 have hx:(r.us++r.rest)[0+j]?=some (.int .i64 xs.toArray[j]!):=by
  rw [Nat.zero_add,List.getElem?_append_left (by omega),r.vals,List.getElem?_map,List.getElem?_eq_getElem hj,getElem!_pos xs.toArray j (by simpa using hj)];rfl
 refine⟨?_,?_⟩
 ·show(match w.heap[q.blk]? with | some (.cells c _ _)=>(if (none:Option Nat).isSome then none else c[0+j]?) | _=>none)=_
  rw [r.cells]
  show(List.toArray (r.us++r.rest))[0+j]?=_
  rw [List.getElem?_toArray];exact hx
 ·show(match w.heap[q.blk]? with | some (.cells _ _ (lo,hi))=>decide (lo≤0+j) && decide (0+j<hi) | _=>false)=false
  rw [r.cells]
  show(decide (r.z.1≤0+j) && decide (0+j<r.z.2))=false
  have hlen:j<(r.us++r.rest).length:=by rw [List.length_append];omega
  rw [Bool.and_eq_false_iff,decide_eq_false_iff_not,decide_eq_false_iff_not]
  rcases r.free with g2 | g2 <;> omega
theorem RowW.later {xs ys:List Int} {Γ:Gm} {w:World} {q:Pl} (r:RowW xs Γ w q) (hR:R cx Γ ⟨1,[(0,iO xs)]⟩ w) (hq1:Γ.nm 0=some q) (hnl:q.nl=false) (hlt:q.blk<w.heap.size) (hl:ys.length=xs.length) (n:Nat) (os:Array Obj) :
  Later cx 1 Γ ⟨1,[(0,iO xs)]⟩ w Γ ⟨1,[(0,iO ys)]⟩ (Sort.grow (Sort.putRow (Value.int .i64) (Sort.ahead w n) q.blk 0 ys.toArray) os):=by
 have hsz:r.us.length=ys.length:=by rw [r.vals,List.length_map,hl]
 have hput:=qUw (rest:=r.rest) hsz
 have hob':ObjR cx.P Γ (qAo w q.blk (.cells ⟨ys.map (Value.int .i64)++r.rest⟩ qWc r.z)) q (iO ys):=by
  have hlen:(ys.map (Value.int .i64)++r.rest).length=(r.us++r.rest).length:=by rw [List.length_append,List.length_append,hsz,List.length_map]
  exact(qAK rfl).2 (.inr ⟨hnl,_,r.rest,r.z,qA3 r.cells,by rw [hlen];exact r.free,r.sz,r.pos,by rw [hlen];exact r.len,qA8.2 (qOs ys),fun u hu=>by obtain⟨x,_,rfl⟩:=List.mem_map.1 hu;rfl,r.one,fun h=>nomatch h⟩)
 have L1:=hR.repl (n:=0) (o:=iO xs) (o':=iO ys) rfl rfl hq1 hnl rfl hob'
 refine L1.trans (qM4 L1.1 rfl rfl rfl ?_ fun k hk=>?_)
 ·show(qAo w q.blk _).heap.size≤_
  simp [qAo,Sort.grow,Sort.putRow,Sort.mapBlock,Sort.ahead]
 ·have hk:k<w.heap.size:=by simpa [qAo] using hk
  show((w.heap.modify q.blk (Sort.onCells (Sort.putCells (Value.int .i64) 0 ys.toArray)))++os)[k]?=(w.heap.setIfInBounds q.blk _)[k]?
  rw [Array.getElem?_append_left (by simpa using hk),Array.getElem?_modify,Array.getElem?_setIfInBounds]
  by_cases e:q.blk=k
  ·subst e
   rw [if_pos rfl,if_pos rfl,if_pos hlt,r.cells]
   show some (Obj.cells (Sort.putCells (Value.int .i64) 0 ys.toArray ⟨r.us++r.rest⟩) qWc r.z)=_
   rw [hput]
  ·rw [if_neg e,if_neg e]
theorem qY4 {xs:List Int} {Γ:Gm} {v:Value} (h:VR Γ (.sl 0 1 0 xs.length) v) (h0:xs ≠ []):∃ q,Γ.nm 0=some q∧q.nl=false∧xs.length≤q.tc∧v=.slice (some ⟨q.blk,0,none⟩) xs.length q.tc:=by
 simp only [VR] at h
 obtain⟨q,h1,h2,h3⟩:=h
 have hp:0<xs.length:=List.length_pos_iff.2 h0
 rcases h3 with ⟨_,_,h,_⟩ | ⟨hnl,htc,o,rfl,ho⟩
 ·omega
 ·have ho:o=0:=by rcases ho with h | h <;> omega
  subst ho
  exact⟨q,h1,hnl,by omega,by rw [Nat.sub_zero]⟩
theorem qV3 {Γ:Gm} {v:Value} (h:VR Γ (.sl 0 1 0 0) v):∃ p c,v=.slice p 0 c:=by
 simp only [VR] at h
 obtain⟨q,h1,h2,h3⟩:=h
 rcases h3 with ⟨_,_,_,rfl⟩ | ⟨_,_,o,rfl,_⟩
 ·exact⟨_,_,rfl⟩
 ·exact⟨_,_,rfl⟩
theorem qV2 (xs:List Int) (hs:xs.length≤100000):HoldsG cx 59 [.sl 0 1 0 xs.length] ⟨1,[(0,iO xs)]⟩ fun e H'=>∃ ys:List Int,ys.Perm xs∧ys.Pairwise (·≤·)∧e=.returned und∧H'=⟨1,[(0,iO ys)]⟩:=by
 intro Γ w args' hR hA
 simp only [VRL] at hA
 obtain⟨a,as',rfl,hq,rfl⟩:=hA
 refine⟨rfl,?_⟩
 by_cases h0:xs=[]
 ·subst h0
  obtain⟨p,c,rfl⟩:=qV3 hq
  refine(Tryz.slices_Sort_int_none p c w).mono ?_
  rintro e w' ⟨rfl,rfl⟩
  exact⟨.returned und,_,Γ,⟨[], .refl _,List.Pairwise.nil,rfl,rfl⟩,⟨_,rfl,by simp [VR,VRL]⟩,Later.refl hR _ (Nat.le_refl _)⟩
 obtain⟨q,hq1,hnl,htc,rfl⟩:=qY4 hq h0
 obtain⟨r,hlt⟩:=row_of hR hq1 hnl
 refine(Tryz.slices_Sort_int q.blk 0 q.tc xs w r.holds hlt (by omega)).mono ?_
 rintro e w' ⟨rfl,n,os,rfl⟩
 have hperm:=List.mergeSort_perm xs fun x y=>decide (x≤y)
 refine⟨.returned und,_,Γ,⟨_,hperm,?_,rfl,rfl⟩,⟨_,rfl,by simp [VR,VRL]⟩,r.later hR hq1 hnl hlt hperm.length_eq n os⟩
 have:=List.pairwise_mergeSort (le:=fun x y:Int=>decide (x≤y)) (fun a b c h1 h2=>by simp at *;omega) (fun a b=>by simp;omega) xs
 exact this.imp fun h=>by simpa using h
theorem qLm (xs:List Int) (hs:xs.length≤100000):HoldsG cx 60 [.sl 0 1 0 xs.length] ⟨1,[(0,iO xs)]⟩ fun e H'=>e=.returned (.sl 0 1 0 (qCj xs).length)∧H'=⟨1,[(0,iO (qCj xs++List.replicate (xs.length - (qCj xs).length) 0))]⟩:=by
 intro Γ w args' hR hA
 simp only [VRL] at hA
 obtain⟨a,as',rfl,hq,rfl⟩:=hA
 refine⟨rfl,?_⟩
 by_cases h0:xs=[]
 ·subst h0
  have hq':=hq
  obtain⟨p,c,rfl⟩:=qV3 hq
  refine(Tryz.slices_Compact_int_empty p c w).mono ?_
  rintro e w' ⟨rfl,rfl⟩
  exact⟨.returned (.sl 0 1 0 0),_,Γ,⟨rfl,rfl⟩,⟨_,rfl,hq'⟩,Later.refl hR _ (Nat.le_refl _)⟩
 have hq':=hq
 obtain⟨q,hq1,hnl,htc,rfl⟩:=qY4 hq h0
 obtain⟨r,hlt⟩:=row_of hR hq1 hnl
 refine(Tryz.slices_Compact_int q.blk 0 q.tc xs w r.holds (by omega) htc).mono ?_
 rintro e w' ⟨rfl,n,rfl⟩
 rw [qQR]
 have hcl:=qNP xs
 have hL:=r.later (ys:=qCj xs++List.replicate (xs.length - (qCj xs).length) 0) hR hq1 hnl hlt (by rw [List.length_append,List.length_replicate];omega) n #[]
 rw [Sort.grow_empty] at hL
 refine⟨.returned (.sl 0 1 0 (qCj xs).length),_,Γ,⟨rfl,rfl⟩,⟨_,rfl,?_⟩,hL⟩
 simp only [VR]
 exact⟨q,hq1,r.one, .inr ⟨hnl,by omega,0,by rw [Nat.sub_zero], .inl (by omega)⟩⟩
def qb8 (ws:List Wd) (r:Rd Cd) (e:AE) (H':Hp):Prop:=match r with
 | .inl p=>e=qAN ws p∧H'=⟨1,[]⟩
 | .inr (c,q)=>q≤ws.length∧(∃ y,e=.returned (.p y)∧NilD y c.pv)∧H'=psH ws q
abbrev cdQ (ws:List Wd) (r:Rd Cd):AE→Hp→Prop:=rdQ ws r fun c=>.p c.pv
theorem qUt {ws:List Wd} {g:FuncId} {args:List AV} {H:Hp} {r:Rd Cd} (h:HoldsG cx g args H (qb8 ws r)):HoldsG cx g args H (cdQ ws r):=
 h.weak fun e H' hq=>by
  rcases r with p | ⟨c,q⟩
  ·obtain⟨rfl,rfl⟩:=hq
   exact⟨_,rfl,rfl,rfl⟩
  ·obtain⟨h1,⟨y,rfl,h2⟩,rfl⟩:=hq
   exact⟨.returned (.p c.pv),⟨_,rfl,by simp only [NilA];exact⟨_,rfl,h2⟩⟩,h1,rfl,rfl⟩
theorem qLF (o n r v:Int) (rf:Rf):NilD (.agg [i64 o,i64 n,i64 r,i64 v, .str rf.name,i64 rf.mode, .str rf.plate,i64 rf.n, .nils, .nils]) (Cd.mk o n r v rf [] []).pv:=by
 show NilD _ (.agg [i64 o,i64 n,i64 r,i64 v, .str rf.name,i64 rf.mode, .str rf.plate,i64 rf.n, .lst [], .lsts 10 []])
 simp only [NilD,NilDL]
 exact⟨_,rfl,_,_,rfl,rfl,_,_,rfl,rfl,_,_,rfl,rfl,_,_,rfl,rfl,_,_,rfl,rfl,_,_,rfl,rfl,_,_,rfl,rfl,_,_,rfl,rfl,_,_,rfl, .inr (.inl rfl),_,_,rfl, .inr (.inr ⟨10,rfl⟩),rfl⟩
def cO (cs:List AV):AObj:=⟨qZ7,false, .bx cs⟩
abbrev zc:AObj:=cO [.p (i64 0), .p (i64 0), .p (i64 0), .p (i64 0), .p (.str []), .p (i64 0), .p (.str []), .p (i64 0), .p .nils, .p .nils]
abbrev lfS (rf:Rf) (k:Nat):AObj:=cO [.p (i64 5), .p (i64 0), .p (i64 0), .p (i64 0), .p (.str rf.name), .p (i64 rf.mode), .p (.str rf.plate), .p (i64 rf.n), .sl 4 1 0 k, .p .nils]
abbrev lf (o n r v:Int) (rf:Rf):AObj:=cO [.p (i64 o), .p (i64 n), .p (i64 r), .p (i64 v), .p (.str rf.name), .p (i64 rf.mode), .p (.str rf.plate), .p (i64 rf.n), .p .nils, .p .nils]
abbrev qPb (ws:List Wd) (F:Nat) (q:Nat):Prop:=HoldsG cx 168 [.ptr 0 0 0] (psH ws q) (cdQ ws (qDm ws F q))
theorem qY1 (ws:List Wd) (F q0:Nat) (hg:GoodW ws) (hq0:q0≤ws.length) (hF:4 * (ws.length - q0)+1≤F+1) (hC:∀ q,q≤ws.length→4 * (ws.length - q)+4≤F→qPb ws F q) :
  HoldsG cx 227 [.ptr 0 0 0] (psH ws q0) (cdQ ws (qHS ws (F+1) q0)):=by
 refine qUt ?_
 generalize hR:qHS ws (F+1) q0=R
 rw [qHS] at hR
 refine qAA Tryz.func227 rfl rfl rfl ?_
 have hl:=hg.len
 by_cases c1:txt ws q0=tLP
 ·have q1l:q0+1≤ws.length:=qBF (by rw [c1];decide)
  rw [if_pos c1] at hR
  refine(qAn ws q0 tLP hl hq0).holds.useT [] [] rfl (sk) (sk) fun e0 H0 hq=>?_
  obtain⟨rfl,rfl⟩:=hq.1 c1
  refine⟨rfl,_,⟨2,(0,psO ws (q0+1))::[(1,zc)]⟩,rfl,rfl,?_⟩
  refine(hC (q0+1) q1l (by omega)).holds.useT [] [] rfl (sk) (sk) fun e0 H0 hq=>?_
  rcases h1:qDm ws F (q0+1) with p | ⟨⟨o,n,rl,vl,rf,st,ar⟩,q2⟩
  ·rw [h1] at hq hR
   obtain⟨rfl,rfl⟩:=hq
   refine⟨rfl,_,_,rfl,rfl,?_⟩
   exact⟨[],[],[],qAN ws p,⟨1,[]⟩,rfl,⟨_,rfl,_,_,rfl,rfl,rfl⟩,trivial,by rw [← hR];exact⟨rfl,rfl⟩⟩
  rw [h1] at hq hR
  obtain⟨q2l,rfl,rfl⟩:=hq
  refine⟨rfl,_,⟨2,(0,psO ws q2)::[(1,zc)]⟩,rfl,rfl,?_⟩
  simp only [qAE] at hR
  rw [← qAs] at hR
  refine(qAb ws q2 [tRP] hl q2l (by simp) (by simp)).holds.useT [3] [] rfl (sk) ⟨_,_,rfl,⟨rfl,rfl⟩,_,_,rfl,⟨_,rfl,by decide,rfl⟩,rfl⟩ fun e0 H0 hq=>?_
  rcases h2:qAg ws [tRP] q2 with p | ⟨u,q3⟩
  ·rw [h2] at hq hR
   obtain⟨rfl,rfl⟩:=hq
   refine⟨rfl,_,_,rfl,rfl,?_⟩
   exact⟨[],[],[],qAN ws p,⟨1,[]⟩,rfl,⟨_,rfl,_,_,rfl,rfl,rfl⟩,trivial,by rw [← hR];exact⟨rfl,rfl⟩⟩
  rw [h2] at hq hR
  obtain⟨q3l,rfl,rfl⟩:=hq
  refine⟨rfl,_,⟨4,(0,psO ws q3)::[(3,sO [tRP]),(2,cO ((Cd.mk o n rl vl rf st ar).cells.map .p)),(1,zc)]⟩,rfl,rfl,?_⟩
  simp only [qAE] at hR
  exact⟨[],[],[], .returned (.p (Cd.mk o n rl vl rf st ar).pv),psH ws q3,rfl,sk,sk,by rw [← hR];exact⟨q3l,⟨_,rfl,NilD.refl _⟩,rfl⟩⟩
 rw [if_neg c1] at hR
 refine(qAn ws q0 tLP hl hq0).holds.useT [] [] rfl (sk) (sk) fun e0 H0 hq=>?_
 obtain⟨rfl,rfl⟩:=hq.2 c1
 refine⟨rfl,_,⟨2,(0,psO ws q0)::[(1,zc)]⟩,rfl,rfl,?_⟩
 by_cases c2:txt ws q0=qIZ
 ·have q1l:q0+1≤ws.length:=qBF (by rw [c2];decide)
  rw [if_pos c2] at hR
  obtain⟨q1,hq1⟩:∃ q1,q1=q0+1:=⟨_,rfl⟩
  have q1l:q1≤ws.length:=by omega
  rw [← hq1] at hR
  refine(qAn ws q0 qIZ hl hq0).holds.useT [] [] rfl (sk) (sk) fun e0 H0 hq=>?_
  obtain⟨rfl,rfl⟩:=hq.1 c2
  refine⟨rfl,_,⟨2,(0,psO ws (q0+1))::[(1,zc)]⟩,rfl,rfl,?_⟩
  rw [← hq1]
  rw [← qAs] at hR
  refine(qAb ws q1 [tLP] hl q1l (by simp) (by simp)).holds.useT [2] [] rfl (sk) ⟨_,_,rfl,⟨rfl,rfl⟩,_,_,rfl,⟨_,rfl,by decide,rfl⟩,rfl⟩ fun e0 H0 hq=>?_
  rcases h1:qAg ws [tLP] q1 with p | ⟨u1,q2⟩
  ·rw [h1] at hq hR
   obtain⟨rfl,rfl⟩:=hq
   refine⟨rfl,_,_,rfl,rfl,?_⟩
   exact⟨[],[],[],qAN ws p,⟨1,[]⟩,rfl,⟨_,rfl,_,_,rfl,rfl,rfl⟩,trivial,by rw [← hR];exact⟨rfl,rfl⟩⟩
  rw [h1] at hq hR
  obtain⟨q2l,rfl,rfl⟩:=hq
  refine⟨rfl,_,⟨3,(0,psO ws q2)::[(2,sO [tLP]),(1,zc)]⟩,rfl,rfl,?_⟩
  simp only [qAE] at hR
  refine(qHu ws q2 hl q2l).holds.useT [] [] rfl (sk) (sk) fun e0 H0 hq=>?_
  rcases h2:qCm ws q2 with p | ⟨nm,q3⟩
  ·rw [h2] at hq hR
   obtain⟨rfl,rfl⟩:=hq
   refine⟨rfl,_,_,rfl,rfl,?_⟩
   exact⟨[],[],[],qAN ws p,⟨1,[]⟩,rfl,⟨_,rfl,_,_,rfl,rfl,rfl⟩,trivial,by rw [← hR];exact⟨rfl,rfl⟩⟩
  rw [h2] at hq hR
  obtain⟨q3l,rfl,rfl⟩:=hq
  refine⟨rfl,_,⟨3,(0,psO ws q3)::[(2,sO [tLP]),(1,zc)]⟩,rfl,rfl,?_⟩
  simp only [qAE] at hR
  refine(qAb ws q3 [tLB,qPn,tRB,tEq] hl q3l (by simp) (by simp)).holds.useT [4] [] rfl (sk) ⟨_,_,rfl,⟨rfl,rfl⟩,_,_,rfl,⟨_,rfl,by decide,rfl⟩,rfl⟩ fun e0 H0 hq=>?_
  rcases h3:qAg ws [tLB,qPn,tRB,tEq] q3 with p | ⟨u3,q4⟩
  ·rw [h3] at hq hR
   obtain⟨rfl,rfl⟩:=hq
   refine⟨rfl,_,_,rfl,rfl,?_⟩
   exact⟨[],[],[],qAN ws p,⟨1,[]⟩,rfl,⟨_,rfl,_,_,rfl,rfl,rfl⟩,trivial,by rw [← hR];exact⟨rfl,rfl⟩⟩
  rw [h3] at hq hR
  obtain⟨q4l,rfl,rfl⟩:=hq
  refine⟨rfl,_,⟨5,(0,psO ws q4)::[(4,sO [tLB,qPn,tRB,tEq]),(3,lf 6 0 0 0 ⟨nm,3,[],0⟩),(2,sO [tLP]),(1,zc)]⟩,rfl,rfl,?_⟩
  simp only [qAE] at hR
  refine(qBK ws q4 hg q4l).holds.useT [] [] rfl (sk) (sk) fun e0 H0 hq=>?_
  rcases h4:qDR ws q4 with p | ⟨v,q5⟩
  ·rw [h4] at hq hR
   obtain⟨rfl,rfl⟩:=hq
   refine⟨rfl,_,_,rfl,rfl,?_⟩
   exact⟨[],[],[],qAN ws p,⟨1,[]⟩,rfl,⟨_,rfl,_,_,rfl,rfl,rfl⟩,trivial,by rw [← hR];exact⟨rfl,rfl⟩⟩
  rw [h4] at hq hR
  obtain⟨q5l,rfl,rfl⟩:=hq
  refine⟨rfl,_,⟨5,(0,psO ws q5)::[(4,sO [tLB,qPn,tRB,tEq]),(3,lf 6 0 0 0 ⟨nm,3,[],0⟩),(2,sO [tLP]),(1,zc)]⟩,rfl,rfl,?_⟩
  simp only [qAE] at hR
  rw [← qAs] at hR
  refine(qAb ws q5 [tRP] hl q5l (by simp) (by simp)).holds.useT [5] [] rfl (sk) ⟨_,_,rfl,⟨rfl,rfl⟩,_,_,rfl,⟨_,rfl,by decide,rfl⟩,rfl⟩ fun e0 H0 hq=>?_
  rcases h5:qAg ws [tRP] q5 with p | ⟨u5,q6⟩
  ·rw [h5] at hq hR
   obtain⟨rfl,rfl⟩:=hq
   refine⟨rfl,_,_,rfl,rfl,?_⟩
   exact⟨[],[],[],qAN ws p,⟨1,[]⟩,rfl,⟨_,rfl,_,_,rfl,rfl,rfl⟩,trivial,by rw [← hR];exact⟨rfl,rfl⟩⟩
  rw [h5] at hq hR
  obtain⟨q6l,rfl,rfl⟩:=hq
  refine⟨rfl,_,⟨6,(0,psO ws q6)::[(5,sO [tRP]),(4,sO [tLB,qPn,tRB,tEq]),(3,lf 6 0 0 v ⟨nm,3,[],0⟩),(2,sO [tLP]),(1,zc)]⟩,rfl,rfl,?_⟩
  simp only [qAE] at hR
  refine(qIi ws q6 hl q6l).holds.useT [] [] rfl (sk) (sk) fun e0 H0 hq=>?_
  rcases h6:qUr ws q6 with p | ⟨r,q7⟩
  ·rw [h6] at hq hR
   obtain⟨rfl,rfl⟩:=hq
   refine⟨rfl,_,_,rfl,rfl,?_⟩
   exact⟨[],[],[],qAN ws p,⟨1,[]⟩,rfl,⟨_,rfl,_,_,rfl,rfl,rfl⟩,trivial,by rw [← hR];exact⟨rfl,rfl⟩⟩
  rw [h6] at hq hR
  obtain⟨q7l,rfl,rfl⟩:=hq
  refine⟨rfl,_,⟨6,(0,psO ws q7)::[(5,sO [tRP]),(4,sO [tLB,qPn,tRB,tEq]),(3,lf 6 0 0 v ⟨nm,3,[],0⟩),(2,sO [tLP]),(1,zc)]⟩,rfl,rfl,?_⟩
  simp only [qAE] at hR
  refine(qBK ws q7 hg q7l).holds.useT [] [] rfl (sk) (sk) fun e0 H0 hq=>?_
  rcases h7:qDR ws q7 with p | ⟨n,q8⟩
  ·rw [h7] at hq hR
   obtain⟨rfl,rfl⟩:=hq
   refine⟨rfl,_,_,rfl,rfl,?_⟩
   exact⟨[],[],[],qAN ws p,⟨1,[]⟩,rfl,⟨_,rfl,_,_,rfl,rfl,rfl⟩,trivial,by rw [← hR];exact⟨rfl,rfl⟩⟩
  rw [h7] at hq hR
  obtain⟨q8l,rfl,rfl⟩:=hq
  refine⟨rfl,_,⟨6,(0,psO ws q8)::[(5,sO [tRP]),(4,sO [tLB,qPn,tRB,tEq]),(3,lf 6 0 r v ⟨nm,3,[],0⟩),(2,sO [tLP]),(1,zc)]⟩,rfl,rfl,?_⟩
  simp only [qAE] at hR
  exact⟨[],[],[], .returned (.p (.agg [i64 6,i64 n,i64 r,i64 v, .str nm,i64 3, .str [],i64 0, .nils, .nils])),psH ws q8,rfl,sk,sk,by rw [← hR];exact⟨q8l,⟨_,rfl,qLF 6 n r v ⟨nm,3,[],0⟩⟩,rfl⟩⟩
 rw [if_neg c2] at hR
 refine(qAn ws q0 qIZ hl hq0).holds.useT [] [] rfl (sk) (sk) fun e0 H0 hq=>?_
 obtain⟨rfl,rfl⟩:=hq.2 c2
 refine⟨rfl,_,⟨2,(0,psO ws q0)::[(1,zc)]⟩,rfl,rfl,?_⟩
 refine(qZA ws q0 hg hq0).holds.useT [] [] rfl (sk) (sk) fun e0 H0 hq=>?_
 rcases h1:qKz ws q0 with p | ⟨rf,q1⟩
 ·rw [h1] at hq hR
  obtain⟨rfl,rfl⟩:=hq
  refine⟨rfl,_,_,rfl,rfl,?_⟩
  exact⟨[],[],[],qAN ws p,⟨1,[]⟩,rfl,⟨_,rfl,_,_,rfl,rfl,rfl⟩,trivial,by rw [← hR];exact⟨rfl,rfl⟩⟩
 rw [h1] at hq hR
 obtain⟨q1l,rfl,rfl⟩:=hq
 refine⟨rfl,_,⟨2,(0,psO ws q1)::[(1,zc)]⟩,rfl,rfl,?_⟩
 simp only [qAE] at hR
 by_cases c3:txt ws q1=tIn
 rotate_left
 ·rw [if_neg c3] at hR
  refine(qAn ws q1 tIn hl q1l).holds.useT [] [] rfl (sk) (sk) fun e0 H0 hq=>?_
  obtain⟨rfl,rfl⟩:=hq.2 c3
  refine⟨rfl,_,⟨3,(0,psO ws q1)::[(2,lf 0 0 0 0 rf),(1,zc)]⟩,rfl,rfl,?_⟩
  refine(qIi ws q1 hl q1l).holds.useT [] [] rfl (sk) (sk) fun e0 H0 hq=>?_
  rcases h2:qUr ws q1 with p | ⟨o,q2⟩
  ·rw [h2] at hq hR
   obtain⟨rfl,rfl⟩:=hq
   refine⟨rfl,_,_,rfl,rfl,?_⟩
   exact⟨[],[],[],qAN ws p,⟨1,[]⟩,rfl,⟨_,rfl,_,_,rfl,rfl,rfl⟩,trivial,by rw [← hR];exact⟨rfl,rfl⟩⟩
  rw [h2] at hq hR
  obtain⟨q2l,rfl,rfl⟩:=hq
  refine⟨rfl,_,⟨3,(0,psO ws q2)::[(2,lf 0 0 0 0 rf),(1,zc)]⟩,rfl,rfl,?_⟩
  simp only [qAE] at hR
  refine(qBK ws q2 hg q2l).holds.useT [] [] rfl (sk) (sk) fun e0 H0 hq=>?_
  rcases h3:qDR ws q2 with p | ⟨n,q3⟩
  ·rw [h3] at hq hR
   obtain⟨rfl,rfl⟩:=hq
   refine⟨rfl,_,_,rfl,rfl,?_⟩
   exact⟨[],[],[],qAN ws p,⟨1,[]⟩,rfl,⟨_,rfl,_,_,rfl,rfl,rfl⟩,trivial,by rw [← hR];exact⟨rfl,rfl⟩⟩
  rw [h3] at hq hR
  obtain⟨q3l,rfl,rfl⟩:=hq
  refine⟨rfl,_,⟨3,(0,psO ws q3)::[(2,lf o 0 0 0 rf),(1,zc)]⟩,rfl,rfl,?_⟩
  simp only [qAE] at hR
  exact⟨[],[],[], .returned (.p (.agg [i64 o,i64 n,i64 0,i64 0, .str rf.name,i64 rf.mode, .str rf.plate,i64 rf.n, .nils, .nils])),psH ws q3,rfl,sk,sk,by rw [← hR];exact⟨q3l,⟨_,rfl,qLF o n 0 0 rf⟩,rfl⟩⟩
 have q2l:q1+1≤ws.length:=qBF (by rw [c3];decide)
 rw [if_pos c3] at hR
 refine(qAn ws q1 tIn hl q1l).holds.useT [] [] rfl (sk) (sk) fun e0 H0 hq=>?_
 obtain⟨rfl,rfl⟩:=hq.1 c3
 refine⟨rfl,_,⟨3,(0,psO ws (q1+1))::[(2,lf 0 0 0 0 rf),(1,zc)]⟩,rfl,rfl,?_⟩
 obtain⟨q2,hq2⟩:∃ q2,q2=q1+1:=⟨_,rfl⟩
 rw [← hq2] at hR q2l
 rw [← hq2]
 rw [← qAs] at hR
 refine(qAb ws q2 [tLC] hl q2l (by simp) (by simp)).holds.useT [3] [] rfl (sk) ⟨_,_,rfl,⟨rfl,rfl⟩,_,_,rfl,⟨_,rfl,by decide,rfl⟩,rfl⟩ fun e0 H0 hq=>?_
 rcases h2:qAg ws [tLC] q2 with p | ⟨u2,q3⟩
 ·rw [h2] at hq hR
  obtain⟨rfl,rfl⟩:=hq
  refine⟨rfl,_,_,rfl,rfl,?_⟩
  exact⟨[],[],[],qAN ws p,⟨1,[]⟩,rfl,⟨_,rfl,_,_,rfl,rfl,rfl⟩,trivial,by rw [← hR];exact⟨rfl,rfl⟩⟩
 rw [h2] at hq hR
 obtain⟨q3l,rfl,rfl⟩:=hq
 refine⟨rfl,_,⟨4,(0,psO ws q3)::[(3,sO [tLC]),(2,lf 5 0 0 0 rf),(1,zc)]⟩,rfl,rfl,?_⟩
 simp only [qAE] at hR
 have hlt:=qKy h1
 have hm2:=qAj (ws:=ws) (s:=tLC) (q:=q2) (q':=q3) (u:=u2) (by rw [← qAs];exact h2)
 refine(qMx ws F q3 (by omega) hg q3l).holds.useT [] [] rfl (sk) ⟨_,_,rfl,⟨rfl,_,_,rfl,⟨_,_,rfl,⟨rfl,rfl⟩,rfl⟩,rfl⟩,_,_,rfl,⟨rfl,_,_,rfl,⟨_,_,rfl,⟨rfl,rfl⟩,rfl⟩,rfl⟩,rfl⟩ fun e0 H0 hq=>?_
 rcases h3:qGC ws (qDR ws) F q3 with p | ⟨l,q4⟩
 ·rw [h3] at hq hR
  obtain⟨rfl,rfl⟩:=hq
  refine⟨rfl,_,_,rfl,rfl,?_⟩
  exact⟨[],[],[],qAN ws p,⟨1,[]⟩,rfl,⟨_,rfl,_,_,rfl,rfl,rfl⟩,trivial,by rw [← hR];exact⟨rfl,rfl⟩⟩
 rw [h3] at hq hR
 obtain⟨⟨q4l,hll⟩,rfl,rfl⟩:=hq
 refine⟨rfl,_,⟨5,[(4,iO l),(0,psO ws q4),(3,sO [tLC]),(2,lf 5 0 0 0 rf),(1,zc)]⟩,rfl,rfl,?_⟩
 simp only [qAE] at hR
 rw [← qAs] at hR
 refine(qAb ws q4 [tRC] hl q4l (by simp) (by simp)).holds.useT [5] [] rfl (sk) ⟨_,_,rfl,⟨rfl,rfl⟩,_,_,rfl,⟨_,rfl,by decide,rfl⟩,rfl⟩ fun e0 H0 hq=>?_
 rcases h4:qAg ws [tRC] q4 with p | ⟨u4,q5⟩
 ·rw [h4] at hq hR
  obtain⟨rfl,rfl⟩:=hq
  refine⟨rfl,_,_,rfl,rfl,?_⟩
  exact⟨[],[],[],qAN ws p,⟨1,[]⟩,rfl,⟨_,rfl,_,_,rfl,rfl,rfl⟩,trivial,by rw [← hR];exact⟨rfl,rfl⟩⟩
 rw [h4] at hq hR
 obtain⟨q5l,rfl,rfl⟩:=hq
 refine⟨rfl,_,⟨6,(0,psO ws q5)::[(5,sO [tRC]),(4,iO l),(3,sO [tLC]),(2,lfS rf l.length),(1,zc)]⟩,rfl,rfl,?_⟩
 simp only [qAE] at hR
 refine(qV2 l (by omega)).holds.useT [] [(0,4)] rfl (sk) (sk) fun e0 H0 hq=>?_
 obtain⟨ys,hp,hs,rfl,rfl⟩:=hq
 have hlen:=hp.length_eq
 refine⟨rfl,_,⟨6,[(4,iO ys),(0,psO ws q5),(5,sO [tRC]),(3,sO [tLC]),(2,lfS rf l.length),(1,zc)]⟩,rfl,rfl,?_⟩
 have hCp:=qLm ys (by omega)
 rw [hlen] at hCp
 have hcl:=qNP ys
 refine hCp.holds.useT [] [(0,4)] rfl (sk) (sk) fun e0 H0 hq=>?_
 obtain⟨rfl,rfl⟩:=hq
 refine⟨rfl,_,⟨6,[(4,iO (qCj ys++List.replicate (l.length - (qCj ys).length) 0)),(0,psO ws q5),(5,sO [tRC]),(3,sO [tLC]),(2,lfS rf l.length),(1,zc)]⟩,rfl,rfl,?_⟩
 rw [← qPr hp hs] at hR
 refine⟨[4],[],[], .returned (.p (Cd.mk 5 0 0 0 rf (qCj ys) []).pv),psH ws q5,rfl,⟨_,rfl,?_⟩,sk,by rw [← hR];exact⟨q5l,⟨_,rfl,NilD.refl _⟩,rfl⟩⟩
 refine⟨_,rfl,_,_,rfl,rfl,_,_,rfl,rfl,_,_,rfl,rfl,_,_,rfl,rfl,_,_,rfl,rfl,_,_,rfl,rfl,_,_,rfl,rfl,_,_,rfl,rfl,_,_,rfl,⟨(qCj ys).map i64,rfl,by show 0+(qCj ys).length≤((qCj ys++List.replicate (l.length - (qCj ys).length) 0).map i64).length;simp,?_⟩,_,_,rfl, .inr (.inr ⟨10,rfl⟩),rfl⟩
 show(qCj ys).map i64=(((qCj ys++List.replicate (l.length - (qCj ys).length) 0).map i64).drop 0).take (qCj ys).length
 rw [List.drop_zero,List.map_append,List.take_left' (List.length_map ..)]
theorem qV7 {ws:List Wd} {q q':Nat} {n:Int} (h:qUr ws q=.inr (n,q')):q<q':=by
 rw [qUr] at h
 split at h
 ·injection h with h;injection h with h1 h2;omega
 ·split at h
  ·injection h with h;injection h with h1 h2;omega
  ·split at h
   ·injection h with h;injection h with h1 h2;omega
   ·split at h
    ·injection h with h;injection h with h1 h2;omega
    ·cases h
theorem qSD {α:Type} {ws:List Wd} {rd:Nat→Rd α} (hrd:∀ q a q',rd q=.inr (a,q')→q<q'):∀ (f:Nat) {acc l:List α} {q q':Nat},qFb ws rd f acc q=.inr (l,q')→q≤q'
 | 0,_,_,_,_,h=>by cases h
 | f+1,acc,l,q,q',h=>by
  rw [qFb] at h
  split at h
  ·obtain⟨a,q1,h1,h⟩:=then_ok h
   have:=hrd _ _ _ h1
   have:=qSD hrd f h
   omega
  ·injection h with h;injection h with h1 h2;omega
theorem qSP {α:Type} {ws:List Wd} {rd:Nat→Rd α} (hrd:∀ q a q',rd q=.inr (a,q')→q<q') {F q q':Nat} {l:List α} (h:qGC ws rd F q=.inr (l,q')):q<q':=by
 rw [qGC] at h
 obtain⟨a,q1,h1,h⟩:=then_ok h
 have:=hrd _ _ _ h1
 have:=qSD hrd F h
 omega
structure CLt (ws:List Wd) (F:Nat):Prop where
 cond:∀ {q c q'},qDm ws F q=.inr (c,q')→q<q'
 orr:∀ {d q c q'},orR ws F d q=.inr (c,q')→q≤q'
 conj:∀ {q c q'},qDb ws F q=.inr (c,q')→q<q'
 andr:∀ {d q c q'},qTc ws F d q=.inr (c,q')→q≤q'
 neg:∀ {q c q'},qJw ws F q=.inr (c,q')→q<q'
 test:∀ {q c q'},qHS ws F q=.inr (c,q')→q<q'
theorem qac (ws:List Wd):∀ F,CLt ws F
 | 0=>by
  constructor
  ·intro q c q' h;rw [qDm] at h;cases h
  ·intro d q c q' h;rw [orR] at h;cases h
  ·intro q c q' h;rw [qDb] at h;cases h
  ·intro d q c q' h;rw [qTc] at h;cases h
  ·intro q c q' h;rw [qJw] at h;cases h
  ·intro q c q' h;rw [qHS] at h;cases h
 | F+1=>by
  have ih:=qac ws F
  constructor
  ·intro q c q' h
   rw [qDm] at h
   obtain⟨a,p,h1,h⟩:=then_ok h
   have:=ih.conj h1
   have:=ih.orr h
   omega
  ·intro d q c q' h
   rw [orR] at h
   split at h
   ·obtain⟨a,p,h1,h⟩:=then_ok h
    have:=ih.conj h1
    have:=ih.orr h
    omega
   ·injection h with h;injection h with h1 h2;omega
  ·intro q c q' h
   rw [qDb] at h
   obtain⟨a,p,h1,h⟩:=then_ok h
   have:=ih.neg h1
   have:=ih.andr h
   omega
  ·intro d q c q' h
   rw [qTc] at h
   split at h
   ·obtain⟨a,p,h1,h⟩:=then_ok h
    have:=ih.neg h1
    have:=ih.andr h
    omega
   ·injection h with h;injection h with h1 h2;omega
  ·intro q c q' h
   rw [qJw] at h
   split at h
   ·obtain⟨a,p,h1,h⟩:=then_ok h
    have:=ih.neg h1
    injection h with h;injection h with h1 h2;omega
   ·exact ih.test h
  ·intro q c q' h
   rw [qHS] at h
   split at h
   ·obtain⟨a,p,h1,h⟩:=then_ok h
    have:=ih.cond h1
    obtain⟨u,p2,h2,h⟩:=then_ok h
    have:=qAj h2
    injection h with h;injection h with h1 h2;omega
   ·split at h
    ·obtain⟨u,p1,h1,h⟩:=then_ok h
     have:=qAj h1
     obtain⟨nm,p2,h2,h⟩:=then_ok h
     have:=qEr h2
     obtain⟨u3,p3,h3,h⟩:=then_ok h
     obtain⟨v,p4,h4,h⟩:=then_ok h
     have:=qCe h4
     obtain⟨u5,p5,h5,h⟩:=then_ok h
     have:=qAj h5
     obtain⟨r,p6,h6,h⟩:=then_ok h
     have:=qV7 h6
     obtain⟨n,p7,h7,h⟩:=then_ok h
     have:=qCe h7
     have h3':p2≤p3:=by
      rw [qAg] at h3
      obtain⟨_,a1,g1,h3⟩:=then_ok h3
      rw [qAg] at h3
      obtain⟨_,a2,g2,h3⟩:=then_ok h3
      rw [qAg] at h3
      obtain⟨_,a3,g3,h3⟩:=then_ok h3
      rw [qAg] at h3
      obtain⟨_,a4,g4,h3⟩:=then_ok h3
      have:=qAj g1
      have:=qAj g2
      have:=qAj g3
      have:=qAj g4
      injection h3 with h3;injection h3 with h3 h3';omega
     injection h with h;injection h with h1 h2;omega
    ·obtain⟨r,p1,h1,h⟩:=then_ok h
     have:=qKy h1
     try simp only [] at h
     split at h
     ·obtain⟨u,p2,h2,h⟩:=then_ok h
      have:=qAj h2
      obtain⟨l,p3,h3,h⟩:=then_ok h
      have:=qSP (fun q a q' h=>qCe h) h3
      obtain⟨u4,p4,h4,h⟩:=then_ok h
      have:=qAj h4
      injection h with h;injection h with h1 h2;omega
     ·obtain⟨o,p2,h2,h⟩:=then_ok h
      have:=qV7 h2
      obtain⟨n,p3,h3,h⟩:=then_ok h
      have:=qCe h3
      injection h with h;injection h with h1 h2;omega
theorem qWF {ws:List Wd} (F:Nat) {q q':Nat} {c:Cd} (h:qJw ws F q=.inr (c,q')):q<q':=(qac ws F).neg h
theorem qTH {ws:List Wd} (F:Nat) {q q':Nat} {c:Cd} (h:qDb ws F q=.inr (c,q')):q<q':=(qac ws F).conj h
def ngF:AV:=.fn (.func 209) [.ptr 0 0 0] []
def cjF:AV:=.fn (.func 208) [] [.ptr 1 0 0]
theorem qbY (ws:List Wd) (F q0:Nat) (hg:GoodW ws) (hq0:q0≤ws.length) (hF:4 * (ws.length - q0)+3≤F+1) (hC:∀ q,q≤ws.length→∀ f,f≤F→4 * (ws.length - q)+2≤f→HoldsG cx 209 [.ptr 0 0 0] (psH ws q) (cdQ ws (qJw ws f q))) :
  HoldsG cx 207 [.ptr 0 0 0, .p (.str qV1), .p (i64 8),ngF] (psH ws q0) (rdQ ws (qDb ws (F+1) q0) fun c=>.p c.pv):=by
 generalize hR:qDb ws (F+1) q0=R
 rw [qDb] at hR
 refine qAA Tryz.func207 rfl rfl rfl ?_
 have hl:=hg.len
 refine(hC q0 hq0 F (Nat.le_refl _) (by omega)).holds.useT [] [] rfl (sk) (sk) fun e0 H0 hq=>?_
 rcases h1:qJw ws F q0 with p | ⟨⟨o,n,rl,vl,rf,st,ar⟩,q1⟩
 ·rw [h1] at hq hR
  obtain⟨rfl,rfl⟩:=hq
  refine⟨rfl,_,_,rfl,rfl,?_⟩
  exact⟨[],[],[],qAN ws p,⟨1,[]⟩,rfl,⟨_,rfl,_,_,rfl,rfl,rfl⟩,trivial,by rw [← hR];exact⟨rfl,rfl⟩⟩
 rw [h1] at hq hR
 obtain⟨q1l,rfl,rfl⟩:=hq
 have hlt:=qWF F h1
 refine⟨rfl,_,⟨2,(0,psO ws q1)::[(1,zc)]⟩,rfl,rfl,?_⟩
 simp only [qAE] at hR
 refine⟨Cd × Nat,fun x=>[(0, .ptr 0 0 0),(1, .p (.str qV1)),(2, .p (i64 8)),(3,ngF),(8, .ptr 1 0 0),(9, .ptr 2 0 0)],fun x=>⟨3,[(2,cO (x.1.cells.map .p)),(0,psO ws x.2),(1,zc)]⟩,fun x=>x.2≤ws.length∧∃ f,f≤F∧4 * (ws.length - x.2)+2≤f∧R=qTc ws f x.1 x.2,fun x=>ws.length - x.2,?_,?_⟩
 ·exact⟨(.mk o n rl vl rf st ar,q1),⟨q1l,F,Nat.le_refl _,by simp only [];omega,hR.symm⟩,qAB [] [] [] rfl ⟨⟨rfl,rfl⟩,rfl,rfl,⟨rfl,_,_,rfl,⟨_,_,rfl,⟨rfl,rfl⟩,rfl⟩,rfl⟩,⟨rfl,rfl⟩,⟨rfl,rfl⟩,trivial⟩ (sk) rfl⟩
 rintro⟨⟨o,n,rl,vl,rf,st,ar⟩,q⟩ ⟨k1,f,k0,k2,k3⟩
 simp only [] at k1 k0 k2 k3
 obtain⟨f,rfl⟩:∃ g,f=g+1:=⟨f - 1,by omega⟩
 rw [qTc] at k3
 by_cases c1:txt ws q=qV1
 ·have ql:q+1≤ws.length:=qBF (by rw [c1];decide)
  rw [if_pos c1] at k3
  refine(qAn ws q qV1 hl k1).holds.useT [] [] rfl (sk) (sk) fun e0 H0 hq=>?_
  obtain⟨rfl,rfl⟩:=hq.1 c1
  refine⟨rfl,_,⟨3,(0,psO ws (q+1))::[(2,cO ((Cd.mk o n rl vl rf st ar).cells.map .p)),(1,zc)]⟩,rfl,rfl,?_⟩
  refine VDraw.seq rfl ?_
  refine(hC (q+1) ql f (by omega) (by omega)).holds.useT [] [] rfl (sk) (sk) fun e0 H0 hq=>?_
  rcases h2:qJw ws f (q+1) with p | ⟨⟨o',n',rl',vl',rf',st',ar'⟩,q2⟩
  ·rw [h2] at hq k3
   obtain⟨rfl,rfl⟩:=hq
   refine⟨rfl,_,_,rfl,rfl,?_⟩
   exact⟨[],[],[],qAN ws p,⟨1,[]⟩,rfl,⟨_,rfl,_,_,rfl,rfl,rfl⟩,trivial,by rw [k3];exact⟨rfl,rfl⟩⟩
  rw [h2] at hq k3
  obtain⟨q2l,rfl,rfl⟩:=hq
  have hlt2:=qWF f h2
  refine⟨rfl,_,⟨3,(0,psO ws q2)::[(2,cO ((Cd.mk o n rl vl rf st ar).cells.map .p)),(1,zc)]⟩,rfl,rfl,?_⟩
  refine⟨sk,?_⟩
  exact⟨(.mk 8 0 0 0 rf0 [] [.mk o n rl vl rf st ar, .mk o' n' rl' vl' rf' st' ar'],q2),⟨q2l,f,by omega,by simp only [];omega,k3⟩,qAB [3] [] [] rfl ⟨⟨rfl,rfl⟩,rfl,rfl,⟨rfl,_,_,rfl,⟨_,_,rfl,⟨rfl,rfl⟩,rfl⟩,rfl⟩,⟨rfl,rfl⟩,⟨rfl,rfl⟩,trivial⟩
   ⟨⟨_,rfl,rfl,rfl,_,rfl,_,_,rfl,rfl,_,_,rfl,rfl,_,_,rfl,rfl,_,_,rfl,rfl,_,_,rfl,rfl,_,_,rfl,rfl,_,_,rfl,rfl,_,_,rfl,rfl,_,_,rfl, .inr (.inl rfl),_,_,rfl,⟨_,rfl,by show 0+2≤2;omega,rfl⟩,rfl⟩,sk⟩ rfl,by show ws.length - q2<ws.length - q;omega⟩
 ·rw [if_neg c1] at k3
  refine(qAn ws q qV1 hl k1).holds.useT [] [] rfl (sk) (sk) fun e0 H0 hq=>?_
  obtain⟨rfl,rfl⟩:=hq.2 c1
  refine⟨rfl,_,⟨3,(0,psO ws q)::[(2,cO ((Cd.mk o n rl vl rf st ar).cells.map .p)),(1,zc)]⟩,rfl,rfl,?_⟩
  exact⟨[],[],[], .returned (.p (Cd.mk o n rl vl rf st ar).pv),psH ws q,rfl,sk,sk,by rw [k3];exact⟨k1,rfl,rfl⟩⟩
theorem qcJ (ws:List Wd) (F q0:Nat) (hg:GoodW ws) (hq0:q0≤ws.length) (hF:4 * (ws.length - q0)+4≤F+1) (hC:∀ q,q≤ws.length→∀ f,f≤F→4 * (ws.length - q)+3≤f→HoldsG cx 208 [.ptr 1 0 0] (pbH ws q) (qV8 ws (qDb ws f q) fun c=>.p c.pv)) :
  HoldsG cx 207 [.ptr 0 0 0, .p (.str tOr), .p (i64 9),cjF] (pbH ws q0) (qV8 ws (qDm ws (F+1) q0) fun c=>.p c.pv):=by
 generalize hR:qDm ws (F+1) q0=R
 rw [qDm] at hR
 refine qAA Tryz.func207 rfl rfl rfl ?_
 have hl:=hg.len
 refine(hC q0 hq0 F (Nat.le_refl _) (by omega)).holds.useT [] [] rfl (sk) (sk) fun e0 H0 hq=>?_
 rcases h1:qDb ws F q0 with p | ⟨⟨o,n,rl,vl,rf,st,ar⟩,q1⟩
 ·rw [h1] at hq hR
  obtain⟨rfl,rfl⟩:=hq
  refine⟨rfl,_,_,rfl,rfl,?_⟩
  exact⟨[],[],[],qAN ws p,⟨2,[]⟩,rfl,⟨_,rfl,_,_,rfl,rfl,rfl⟩,trivial,by rw [← hR];exact⟨rfl,rfl⟩⟩
 rw [h1] at hq hR
 obtain⟨q1l,rfl,rfl⟩:=hq
 have hlt:=qTH F h1
 refine⟨rfl,_,⟨3,(0,psO ws q1)::[(1,bxO),(2,zc)]⟩,rfl,rfl,?_⟩
 simp only [qAE] at hR
 refine⟨Cd × Nat,fun x=>[(0, .ptr 0 0 0),(1, .p (.str tOr)),(2, .p (i64 9)),(3,cjF),(8, .ptr 2 0 0),(9, .ptr 3 0 0)],fun x=>⟨4,[(3,cO (x.1.cells.map .p)),(0,psO ws x.2),(1,bxO),(2,zc)]⟩,fun x=>x.2≤ws.length∧∃ f,f≤F∧4 * (ws.length - x.2)+3≤f∧R=orR ws f x.1 x.2,fun x=>ws.length - x.2,?_,?_⟩
 ·exact⟨(.mk o n rl vl rf st ar,q1),⟨q1l,F,Nat.le_refl _,by simp only [];omega,hR.symm⟩,qAB [] [] [] rfl ⟨⟨rfl,rfl⟩,rfl,rfl,⟨rfl,_,_,rfl,rfl,⟨_,_,rfl,⟨rfl,rfl⟩,rfl⟩⟩,⟨rfl,rfl⟩,⟨rfl,rfl⟩,trivial⟩ (sk) rfl⟩
 rintro⟨⟨o,n,rl,vl,rf,st,ar⟩,q⟩ ⟨k1,f,k0,k2,k3⟩
 simp only [] at k1 k0 k2 k3
 obtain⟨f,rfl⟩:∃ g,f=g+1:=⟨f - 1,by omega⟩
 rw [orR] at k3
 by_cases c1:txt ws q=tOr
 ·have ql:q+1≤ws.length:=qBF (by rw [c1];decide)
  rw [if_pos c1] at k3
  refine(qAn ws q tOr hl k1).holds.useT [] [] rfl (sk) (sk) fun e0 H0 hq=>?_
  obtain⟨rfl,rfl⟩:=hq.1 c1
  refine⟨rfl,_,⟨4,(0,psO ws (q+1))::[(3,cO ((Cd.mk o n rl vl rf st ar).cells.map .p)),(1,bxO),(2,zc)]⟩,rfl,rfl,?_⟩
  refine VDraw.seq rfl ?_
  refine(hC (q+1) ql f (by omega) (by omega)).holds.useT [] [] rfl (sk) (sk) fun e0 H0 hq=>?_
  rcases h2:qDb ws f (q+1) with p | ⟨⟨o',n',rl',vl',rf',st',ar'⟩,q2⟩
  ·rw [h2] at hq k3
   obtain⟨rfl,rfl⟩:=hq
   refine⟨rfl,_,_,rfl,rfl,?_⟩
   exact⟨[],[],[],qAN ws p,⟨2,[]⟩,rfl,⟨_,rfl,_,_,rfl,rfl,rfl⟩,trivial,by rw [k3];exact⟨rfl,rfl⟩⟩
  rw [h2] at hq k3
  obtain⟨q2l,rfl,rfl⟩:=hq
  have hlt2:=qTH f h2
  refine⟨rfl,_,⟨4,(0,psO ws q2)::[(1,bxO),(3,cO ((Cd.mk o n rl vl rf st ar).cells.map .p)),(2,zc)]⟩,rfl,rfl,?_⟩
  refine⟨sk,?_⟩
  exact⟨(.mk 9 0 0 0 rf0 [] [.mk o n rl vl rf st ar, .mk o' n' rl' vl' rf' st' ar'],q2),⟨q2l,f,by omega,by simp only [];omega,k3⟩,qAB [4] [] [] rfl ⟨⟨rfl,rfl⟩,rfl,rfl,⟨rfl,_,_,rfl,rfl,⟨_,_,rfl,⟨rfl,rfl⟩,rfl⟩⟩,⟨rfl,rfl⟩,⟨rfl,rfl⟩,trivial⟩
   ⟨⟨_,rfl,rfl,rfl,_,rfl,_,_,rfl,rfl,_,_,rfl,rfl,_,_,rfl,rfl,_,_,rfl,rfl,_,_,rfl,rfl,_,_,rfl,rfl,_,_,rfl,rfl,_,_,rfl,rfl,_,_,rfl, .inr (.inl rfl),_,_,rfl,⟨_,rfl,by show 0+2≤2;omega,rfl⟩,rfl⟩,sk⟩ rfl,by show ws.length - q2<ws.length - q;omega⟩
 ·rw [if_neg c1] at k3
  refine(qAn ws q tOr hl k1).holds.useT [] [] rfl (sk) (sk) fun e0 H0 hq=>?_
  obtain⟨rfl,rfl⟩:=hq.2 c1
  refine⟨rfl,_,⟨4,(0,psO ws q)::[(3,cO ((Cd.mk o n rl vl rf st ar).cells.map .p)),(1,bxO),(2,zc)]⟩,rfl,rfl,?_⟩
  exact⟨[],[],[], .returned (.p (Cd.mk o n rl vl rf st ar).pv),pbH ws q,rfl,sk,sk,by rw [k3];exact⟨k1,rfl,rfl⟩⟩
structure CAll (ws:List Wd) (f:Nat):Prop where
 cond:∀ q,q≤ws.length→4 * (ws.length - q)+4≤f→qPb ws f q
 conj:∀ q,q≤ws.length→4 * (ws.length - q)+3≤f→HoldsG cx 208 [.ptr 1 0 0] (pbH ws q) (qV8 ws (qDb ws f q) fun c=>.p c.pv)
 neg:∀ q,q≤ws.length→4 * (ws.length - q)+2≤f→HoldsG cx 209 [.ptr 0 0 0] (psH ws q) (cdQ ws (qJw ws f q))
 test:∀ q,q≤ws.length→4 * (ws.length - q)+1≤f→HoldsG cx 227 [.ptr 0 0 0] (psH ws q) (cdQ ws (qHS ws f q))
theorem qa9 (ws:List Wd) (F q0:Nat) (hg:GoodW ws) (hq0:q0≤ws.length) (hF:4 * (ws.length - q0)+2≤F+1) (ih:CAll ws F) :
  HoldsG cx 209 [.ptr 0 0 0] (psH ws q0) (cdQ ws (qJw ws (F+1) q0)):=by
 generalize hR:qJw ws (F+1) q0=R
 rw [qJw] at hR
 refine qAA Tryz.func209 rfl rfl rfl ?_
 have hl:=hg.len
 by_cases c1:txt ws q0=qYT
 ·have q1l:q0+1≤ws.length:=qBF (by rw [c1];decide)
  rw [if_pos c1] at hR
  refine(qAn ws q0 qYT hl hq0).holds.useT [] [] rfl (sk) (sk) fun e0 H0 hq=>?_
  obtain⟨rfl,rfl⟩:=hq.1 c1
  refine⟨rfl,_,⟨2,(0,psO ws (q0+1))::[(1,zc)]⟩,rfl,rfl,?_⟩
  refine(ih.neg (q0+1) q1l (by omega)).holds.useT [] [] rfl (sk) (sk) fun e0 H0 hq=>?_
  rcases h1:qJw ws F (q0+1) with p | ⟨⟨o,n,rl,vl,rf,st,ar⟩,q2⟩
  ·rw [h1] at hq hR
   obtain⟨rfl,rfl⟩:=hq
   refine⟨rfl,_,_,rfl,rfl,?_⟩
   exact⟨[],[],[],qAN ws p,⟨1,[]⟩,rfl,⟨_,rfl,_,_,rfl,rfl,rfl⟩,trivial,by rw [← hR];exact⟨rfl,rfl⟩⟩
  rw [h1] at hq hR
  obtain⟨q2l,rfl,rfl⟩:=hq
  refine⟨rfl,_,⟨2,(0,psO ws q2)::[(1,zc)]⟩,rfl,rfl,?_⟩
  simp only [qAE] at hR
  exact⟨[2],[],[], .returned (.p (Cd.mk 7 0 0 0 rf0 [] [.mk o n rl vl rf st ar]).pv),psH ws q2,rfl,⟨_,rfl,⟨_,rfl,_,_,rfl,rfl,_,_,rfl,rfl,_,_,rfl,rfl,_,_,rfl,rfl,_,_,rfl,rfl,_,_,rfl,rfl,_,_,rfl,rfl,_,_,rfl,rfl,_,_,rfl, .inr (.inl rfl),_,_,rfl,⟨_,rfl,by show 0+1≤1;omega,rfl⟩,rfl⟩⟩,sk,by rw [← hR];exact⟨q2l,rfl,rfl⟩⟩
 rw [if_neg c1] at hR
 refine(qAn ws q0 qYT hl hq0).holds.useT [] [] rfl (sk) (sk) fun e0 H0 hq=>?_
 obtain⟨rfl,rfl⟩:=hq.2 c1
 refine⟨rfl,_,⟨2,(0,psO ws q0)::[(1,zc)]⟩,rfl,rfl,?_⟩
 have hc:=ih.test q0 hq0 (by omega)
 rw [hR] at hc
 refine hc.holds.useT [] [] rfl (sk) (sk) fun e0 H0 hq=>?_
 rcases R with p | ⟨⟨o,n,rl,vl,rf,st,ar⟩,q2⟩
 ·obtain⟨rfl,rfl⟩:=hq
  refine⟨rfl,_,_,rfl,rfl,?_⟩
  exact⟨[],[],[],qAN ws p,⟨1,[]⟩,rfl,⟨_,rfl,_,_,rfl,rfl,rfl⟩,trivial,rfl,rfl⟩
 obtain⟨q2l,rfl,rfl⟩:=hq
 refine⟨rfl,_,⟨2,(0,psO ws q2)::[(1,zc)]⟩,rfl,rfl,?_⟩
 exact⟨[],[],[], .returned (.p (Cd.mk o n rl vl rf st ar).pv),psH ws q2,rfl,sk,sk,q2l,rfl,rfl⟩
theorem qZs (ws:List Wd) (F q0:Nat) (hg:GoodW ws) (hq0:q0≤ws.length) (hF:4 * (ws.length - q0)+3≤F+1) (ih:∀ f,f≤F→CAll ws f) :
  HoldsG cx 208 [.ptr 1 0 0] (pbH ws q0) (qV8 ws (qDb ws (F+1) q0) fun c=>.p c.pv):=by
 have hc:=qbY ws F q0 hg hq0 hF fun q hq f hf hb=>(ih f hf).neg q hq hb
 generalize qDb ws (F+1) q0=R at hc ⊢
 refine qAA Tryz.func208 rfl rfl rfl ?_
 refine hc.holds.useT [] [] rfl (sk) ⟨_,_,rfl,⟨rfl,rfl⟩,_,_,rfl,rfl,_,_,rfl,rfl,_,_,rfl,⟨rfl,_,_,rfl,⟨_,_,rfl,⟨rfl,rfl⟩,rfl⟩,rfl⟩,rfl⟩ fun e0 H0 hq=>?_
 rcases R with p | ⟨⟨o,n,rl,vl,rf,st,ar⟩,q2⟩
 ·obtain⟨rfl,rfl⟩:=hq
  refine⟨rfl,_,_,rfl,rfl,?_⟩
  exact⟨[],[],[],qAN ws p,⟨2,[]⟩,rfl,⟨_,rfl,_,_,rfl,rfl,rfl⟩,trivial,rfl,rfl⟩
 obtain⟨q2l,rfl,rfl⟩:=hq
 refine⟨rfl,_,⟨3,(0,psO ws q2)::[(2,zc),(1,bxO)]⟩,rfl,rfl,?_⟩
 exact⟨[],[],[], .returned (.p (Cd.mk o n rl vl rf st ar).pv),pbH ws q2,rfl,sk,sk,q2l,rfl,rfl⟩
theorem qZt (ws:List Wd) (F q0:Nat) (hg:GoodW ws) (hq0:q0≤ws.length) (hF:4 * (ws.length - q0)+4≤F+1) (ih:∀ f,f≤F→CAll ws f):qPb ws (F+1) q0:=by
 have hc:=qcJ ws F q0 hg hq0 hF fun q hq f hf hb=>(ih f hf).conj q hq hb
 show HoldsG cx _ _ _ (rdQ ws (qDm ws (F+1) q0) fun c=>.p c.pv)
 generalize qDm ws (F+1) q0=R at hc ⊢
 refine qAA Tryz.func168 rfl rfl rfl ?_
 refine hc.holds.useT [] [] rfl (sk) ⟨_,_,rfl,⟨rfl,rfl⟩,_,_,rfl,rfl,_,_,rfl,rfl,_,_,rfl,⟨rfl,_,_,rfl,rfl,⟨_,_,rfl,⟨rfl,rfl⟩,rfl⟩⟩,rfl⟩ fun e0 H0 hq=>?_
 rcases R with p | ⟨⟨o,n,rl,vl,rf,st,ar⟩,q2⟩
 ·obtain⟨rfl,rfl⟩:=hq
  refine⟨rfl,_,_,rfl,rfl,?_⟩
  exact⟨[],[],[],qAN ws p,⟨1,[]⟩,rfl,⟨_,rfl,_,_,rfl,rfl,rfl⟩,trivial,rfl,rfl⟩
 obtain⟨q2l,rfl,rfl⟩:=hq
 refine⟨rfl,_,⟨3,(0,psO ws q2)::[(1,bxO),(2,zc)]⟩,rfl,rfl,?_⟩
 exact⟨[],[],[], .returned (.p (Cd.mk o n rl vl rf st ar).pv),psH ws q2,rfl,sk,sk,q2l,rfl,rfl⟩
theorem qZ1 (ws:List Wd) (hg:GoodW ws):∀ F f,f≤F→CAll ws f
 | 0,f,hf=>by
  have:f=0:=by omega
  subst this
  exact⟨fun q _ h=>absurd h (by omega),fun q _ h=>absurd h (by omega),fun q _ h=>absurd h (by omega),fun q _ h=>absurd h (by omega)⟩
 | F+1,f,hf=>by
  have ih:=qZ1 ws hg F
  by_cases h:f≤F
  ·exact ih f h
  have:f=F+1:=by omega
  subst this
  exact⟨fun q hq hb=>qZt ws F q hg hq hb ih,fun q hq hb=>qZs ws F q hg hq hb ih,fun q hq hb=>qa9 ws F q hg hq hb (ih F (Nat.le_refl _)),fun q hq hb=>qY1 ws F q hg hq hb fun q hq hb=>(ih F (Nat.le_refl _)).cond q hq hb⟩
theorem qNO (ws:List Wd) (F q:Nat) (hg:GoodW ws) (hq:q≤ws.length) (hF:4 * (ws.length - q)+4≤F):qPb ws F q:=(qZ1 ws hg F F (Nat.le_refl _)).cond q hq hF
def qb9 {α:Type} (ws:List Wd) (r:Rd α) (val:α→PV) (e:AE) (H':Hp):Prop:=match r with
 | .inl p=>e=qAN ws p∧H'=⟨1,[]⟩
 | .inr (a,q)=>q≤ws.length∧(∃ y,e=.returned (.p y)∧NilD y (val a))∧H'=psH ws q
theorem qEF {α:Type} {ws:List Wd} {g:FuncId} {args:List AV} {H:Hp} {r:Rd α} {val:α→PV} (h:HoldsG cx g args H (qb9 ws r val)):HoldsG cx g args H (rdQ ws r fun a=>.p (val a)):=
 h.weak fun e H' hq=>by
  rcases r with p | ⟨c,q⟩
  ·obtain⟨rfl,rfl⟩:=hq
   exact⟨_,rfl,rfl,rfl⟩
  ·obtain⟨h1,⟨y,rfl,h2⟩,rfl⟩:=hq
   exact⟨.returned (.p (val c)),⟨_,rfl,by simp only [NilA];exact⟨_,rfl,h2⟩⟩,h1,rfl,rfl⟩
theorem qSd {ws:List Wd}:∀ (f:Nat) {acc l:List Int} {q q':Nat},qGo ws f acc q=.inr (l,q')→q≤q'
 | 0,_,_,_,_,h=>by cases h
 | f+1,acc,l,q,q',h=>by
  rw [qGo] at h
  split at h
  ·obtain⟨a,q1,h1,h⟩:=then_ok h
   have:=int_lt h1
   have:=qSd f h
   omega
  ·injection h with h;injection h with h1 h2;omega
theorem qMm {ws:List Wd} {F q q':Nat} {l:List Int} (h:qEn ws F q=.inr (l,q')):q<q':=by
 rw [qEn] at h
 obtain⟨a,q1,h1,h⟩:=then_ok h
 have:=int_lt h1
 have:=qSd F h
 omega
theorem qR1 {ws:List Wd} {q q':Nat} {n:Int} (h:qDR ws q=.inr (n,q')):q'≤ws.length:=by
 rw [qDR] at h
 split at h
 ·rename_i hk
  have:=qLM (ws:=ws) (q:=q) (by rw [hk];decide)
  injection h with h;injection h with h1 h2;omega
 ·cases h
theorem qSf {ws:List Wd} {q q':Nat} {n:Int} (h:qSg ws q=.inr (n,q')):q'≤ws.length:=by
 rw [qSg] at h
 split at h
 ·obtain⟨m,q2,h2,h⟩:=then_ok h
  have:=qR1 h2
  injection h with h;injection h with h3 h4;omega
 ·exact qR1 h
theorem qOu {ws:List Wd}:∀ (f:Nat) {acc l:List Int} {q q':Nat},q≤ws.length→qGo ws f acc q=.inr (l,q')→q'≤ws.length
 | 0,_,_,_,_,_,h=>by cases h
 | f+1,acc,l,q,q',hq,h=>by
  rw [qGo] at h
  split at h
  ·obtain⟨a,q1,h1,h⟩:=then_ok h
   exact qOu f (qSf h1) h
  ·injection h with h;injection h with h1 h2;omega
theorem qU4 {ws:List Wd} {F q q':Nat} {l:List Int} (h:qEn ws F q=.inr (l,q')):q'≤ws.length:=by
 rw [qEn] at h
 obtain⟨a,q1,h1,h⟩:=then_ok h
 exact qOu F (qSf h1) h
theorem qTI {ws:List Wd} (F:Nat) {q q':Nat} {c:Cd} (h:qDm ws F q=.inr (c,q')):q<q':=(qac ws F).cond h
def csO (l:List Cs):AObj:=⟨qTn,false, .pus (l.map Cs.cells)⟩
abbrev qWP (l:List Int):List PV:=[i64 0,i64 0,i64 0,i64 0, .str [],i64 0, .str [],i64 0, .nils, .nils,ints l]
theorem qXX (l:List Int):NilDL (qWP l) (Cs.cells ⟨cd0,l⟩):=by
 show NilDL _ [i64 0,i64 0,i64 0,i64 0, .str [],i64 0, .str [],i64 0, .lst [], .lsts 10 [],ints l]
 simp only [NilDL,NilD]
 exact⟨_,_,rfl,rfl,_,_,rfl,rfl,_,_,rfl,rfl,_,_,rfl,rfl,_,_,rfl,rfl,_,_,rfl,rfl,_,_,rfl,rfl,_,_,rfl,rfl,_,_,rfl, .inr (.inl rfl),_,_,rfl, .inr (.inr ⟨10,rfl⟩),_,_,rfl,⟨_,rfl,NilDL.refl _⟩,rfl⟩
theorem qI0 {y z:List PV} (h:NilDL y z):∀ xs:List (List PV),NilDLL (xs++[y]) (xs++[z])
 | []=>by
  show NilDLL [y] [z]
  simp only [NilDLL]
  exact⟨_,_,rfl,h,rfl⟩
 | x::xs=>by
  show NilDLL (x::(xs++[y])) (x::(xs++[z]))
  simp only [NilDLL]
  exact⟨_,_,rfl,NilDL.refl x,qI0 h xs⟩
theorem qXY (acc:List Cs) (l:List Int):NilD (.lsts 11 (acc.map Cs.cells++[qWP l])) (css (acc++[⟨cd0,l⟩])):=by
 show NilD _ (.lsts 11 ((acc++[(⟨cd0,l⟩:Cs)]).map Cs.cells))
 rw [List.map_append]
 simp only [NilD]
 exact⟨_,rfl,qI0 (qXX l) _⟩
theorem qRc (ws:List Wd) (F q0:Nat) (hF:4 * ws.length+8≤F) (hg:GoodW ws) (hq0:q0≤ws.length):HoldsG cx 116 [.ptr 0 0 0] (psH ws q0) (rdQ ws (qGl ws F q0) fun l=>.p (css l)):=by
 refine qEF ?_
 generalize hR:qGl ws F q0=R
 rw [qGl] at hR
 refine qAA Tryz.func116 rfl rfl rfl ?_
 have hl:=hg.len
 rw [← qAs] at hR
 refine(qAb ws q0 [tLC] hl hq0 (by simp) (by simp)).holds.useT [1] [] rfl (sk) ⟨_,_,rfl,⟨rfl,rfl⟩,_,_,rfl,⟨_,rfl,by decide,rfl⟩,rfl⟩ fun e0 H0 hq=>?_
 rcases h1:qAg ws [tLC] q0 with p | ⟨u1,q1⟩
 ·rw [h1] at hq hR
  obtain⟨rfl,rfl⟩:=hq
  refine⟨rfl,_,_,rfl,rfl,?_⟩
  exact⟨[],[],[],qAN ws p,⟨1,[]⟩,rfl,⟨_,rfl,_,_,rfl,rfl,rfl⟩,trivial,by rw [← hR];exact⟨rfl,rfl⟩⟩
 rw [h1] at hq hR
 obtain⟨q1l,rfl,rfl⟩:=hq
 refine⟨rfl,_,⟨2,(0,psO ws q1)::[(1,sO [tLC])]⟩,rfl,rfl,?_⟩
 simp only [qAE] at hR
 refine⟨List Cs × Nat,fun x=>[(0, .ptr 0 0 0),(3, .sl 1 11 0 x.1.length)],fun x=>⟨2,[(1,csO x.1),(0,psO ws x.2)]⟩,fun x=>x.2≤ws.length∧x.1.length≤x.2∧LI R (fun f=>qFr ws F f x.1 x.2) (ws.length - x.2),fun x=>ws.length - x.2,?_,?_⟩
 ·exact⟨([],q1),⟨q1l,by simp,⟨F,by simp only [];omega,hR.symm⟩⟩,qAB [] [] [(1,11)] rfl (sk) (sk) rfl⟩
 rintro⟨acc,q⟩ ⟨k1,k2,k3⟩
 simp only [] at k1 k2 k3
 by_cases c1:txt ws q=qUb
 ·have ql:q+1≤ws.length:=qBF (by rw [c1];decide)
  have hR:qHg ws F acc (q+1)=R:=(k3.is fun f=>by rw [qFr,if_pos c1]).symm
  clear k3
  rw [qHg] at hR
  refine(qAn ws q qUb hl k1).holds.useT [] [] rfl (sk) (sk) fun e0 H0 hq=>?_
  obtain⟨rfl,rfl⟩:=hq.1 c1
  refine⟨rfl,_,⟨2,(0,psO ws (q+1))::[(1,csO acc)]⟩,rfl,rfl,?_⟩
  rw [← qAs] at hR
  refine(qAb ws (q+1) [qER] hl ql (by simp) (by simp)).holds.useT [2] [] rfl (sk) ⟨_,_,rfl,⟨rfl,rfl⟩,_,_,rfl,⟨_,rfl,by decide,rfl⟩,rfl⟩ fun e0 H0 hq=>?_
  rcases h2:qAg ws [qER] (q+1) with p | ⟨u2,q2⟩
  ·rw [h2] at hq hR
   obtain⟨rfl,rfl⟩:=hq
   refine⟨rfl,_,_,rfl,rfl,?_⟩
   exact⟨[],[],[],qAN ws p,⟨1,[]⟩,rfl,⟨_,rfl,_,_,rfl,rfl,rfl⟩,trivial,by rw [← hR];exact⟨rfl,rfl⟩⟩
  rw [h2] at hq hR
  obtain⟨q2l,rfl,rfl⟩:=hq
  refine⟨rfl,_,⟨3,(0,psO ws q2)::[(2,sO [qER]),(1,csO acc)]⟩,rfl,rfl,?_⟩
  simp only [qAE] at hR
  refine(qLC ws F q2 (by omega) hg q2l).holds.useT [] [] rfl (sk) (sk) fun e0 H0 hq=>?_
  rcases h3:qEn ws F q2 with p | ⟨l,q3⟩
  ·rw [h3] at hq hR
   obtain⟨rfl,rfl⟩:=hq
   refine⟨rfl,_,_,rfl,rfl,?_⟩
   exact⟨[],[],[],qAN ws p,⟨1,[]⟩,rfl,⟨_,rfl,_,_,rfl,rfl,rfl⟩,trivial,by rw [← hR];exact⟨rfl,rfl⟩⟩
  rw [h3] at hq hR
  obtain⟨q3l,rfl,rfl⟩:=hq
  refine⟨rfl,_,⟨3,(0,psO ws q3)::[(2,sO [qER]),(1,csO acc)]⟩,rfl,rfl,?_⟩
  simp only [qAE] at hR
  refine⟨by show 0+1≤1;omega,[qWP l],rfl,?_⟩
  refine⟨by show 0+acc.length≤(acc.map Cs.cells).length;simp,acc.map Cs.cells,qAR (by simp),by show(acc.length+1) * 152≤140737488355328;omega,acc.map Cs.cells++[qWP l],rfl,?_⟩
  rw [← qAs] at hR
  refine(qAb ws q3 [tRC] hl q3l (by simp) (by simp)).holds.useT [5] [] rfl (sk) ⟨_,_,rfl,⟨rfl,rfl⟩,_,_,rfl,⟨_,rfl,by decide,rfl⟩,rfl⟩ fun e0 H0 hq=>?_
  rcases h4:qAg ws [tRC] q3 with p | ⟨u4,q4⟩
  ·rw [h4] at hq hR
   obtain⟨rfl,rfl⟩:=hq
   refine⟨rfl,_,_,rfl,rfl,?_⟩
   exact⟨[],[],[],qAN ws p,⟨1,[]⟩,rfl,⟨_,rfl,_,_,rfl,rfl,rfl⟩,trivial,by rw [← hR];exact⟨rfl,rfl⟩⟩
  rw [h4] at hq hR
  obtain⟨q4l,rfl,rfl⟩:=hq
  refine⟨rfl,_,⟨6,(0,psO ws q4)::[(5,sO [tRC]),(4,⟨qTn,false, .pus (acc.map Cs.cells++[qWP l])⟩),(3,⟨qTn,false, .pus [qWP l]⟩),(2,sO [qER])]⟩,rfl,rfl,?_⟩
  simp only [qAE] at hR
  exact⟨[4],[],[], .returned (.p (.lsts 11 (acc.map Cs.cells++[qWP l]))),psH ws q4,rfl,⟨_,rfl,⟨_,rfl,by show 0+(acc.length+1)≤(acc.map Cs.cells++[qWP l]).length;simp,qAR (by simp)⟩⟩,sk,by rw [← hR];exact⟨q4l,⟨_,rfl,qXY acc l⟩,rfl⟩⟩
 ·obtain⟨f,hf,k3⟩:=k3
  obtain⟨f,rfl⟩:∃ g,f=g+1:=⟨f - 1,by omega⟩
  simp only [] at k3
  rw [qFr,if_neg c1] at k3
  have hR:=k3.symm
  clear k3
  refine(qAn ws q qUb hl k1).holds.useT [] [] rfl (sk) (sk) fun e0 H0 hq=>?_
  obtain⟨rfl,rfl⟩:=hq.2 c1
  refine⟨rfl,_,⟨2,(0,psO ws q)::[(1,csO acc)]⟩,rfl,rfl,?_⟩
  refine(qNO ws F q hg k1 (by omega)).holds.useT [] [] rfl (sk) (sk) fun e0 H0 hq=>?_
  rcases h1:qDm ws F q with p | ⟨⟨o,n,rl,vl,rf,st,ar⟩,q1⟩
  ·rw [h1] at hq hR
   obtain⟨rfl,rfl⟩:=hq
   refine⟨rfl,_,_,rfl,rfl,?_⟩
   exact⟨[],[],[],qAN ws p,⟨1,[]⟩,rfl,⟨_,rfl,_,_,rfl,rfl,rfl⟩,trivial,by rw [← hR];exact⟨rfl,rfl⟩⟩
  have hlt1:=qTI F h1
  rw [h1] at hq hR
  obtain⟨q1l,rfl,rfl⟩:=hq
  refine⟨rfl,_,⟨2,(0,psO ws q1)::[(1,csO acc)]⟩,rfl,rfl,?_⟩
  simp only [qAE] at hR
  rw [← qAs] at hR
  refine(qAb ws q1 [qER] hl q1l (by simp) (by simp)).holds.useT [3] [] rfl (sk) ⟨_,_,rfl,⟨rfl,rfl⟩,_,_,rfl,⟨_,rfl,by decide,rfl⟩,rfl⟩ fun e0 H0 hq=>?_
  rcases h2:qAg ws [qER] q1 with p | ⟨u2,q2⟩
  ·rw [h2] at hq hR
   obtain⟨rfl,rfl⟩:=hq
   refine⟨rfl,_,_,rfl,rfl,?_⟩
   exact⟨[],[],[],qAN ws p,⟨1,[]⟩,rfl,⟨_,rfl,_,_,rfl,rfl,rfl⟩,trivial,by rw [← hR];exact⟨rfl,rfl⟩⟩
  rw [h2] at hq hR
  obtain⟨q2l,rfl,rfl⟩:=hq
  refine⟨rfl,_,⟨4,(0,psO ws q2)::[(3,sO [qER]),(2,cO ((Cd.mk o n rl vl rf st ar).cells.map .p)),(1,csO acc)]⟩,rfl,rfl,?_⟩
  simp only [qAE] at hR
  have hlt2:=qAj (ws:=ws) (s:=qER) (q:=q1) (q':=q2) (u:=u2) (by rw [← qAs];exact h2)
  have hN:=qLC ws F q2 (by omega) hg q2l
  rcases h3:qEn ws F q2 with p | ⟨l,q3⟩
  ·rw [h3] at hN hR
   refine VDraw.seq rfl ?_
   refine hN.holds.useT [] [] rfl (sk) (sk) fun e0 H0 hq=>?_
   obtain⟨rfl,rfl⟩:=hq
   refine⟨rfl,_,_,rfl,rfl,?_⟩
   exact⟨[],[],[],qAN ws p,⟨1,[]⟩,rfl,⟨_,rfl,_,_,rfl,rfl,rfl⟩,trivial,by rw [← hR];exact⟨rfl,rfl⟩⟩
  have hlt3:=qMm h3
  rw [h3] at hN hR
  simp only [qAE] at hR
  obtain⟨x,hx⟩:∃ x:Cs,x=⟨.mk o n rl vl rf st ar,l⟩:=⟨_,rfl⟩
  have hq3l:=qU4 h3
  refine VDraw.seqTo [(0, .ptr 0 0 0),(3, .sl 1 11 0 (acc.length+1))] ⟨2,[(1,csO (acc++[x])),(0,psO ws q3)]⟩ rfl ?_ ?_
  ·refine hN.holds.useT [] [] rfl (sk) (sk) fun e0 H0 hq=>?_
   obtain⟨q3l,rfl,rfl⟩:=hq
   refine⟨rfl,_,⟨4,(0,psO ws q3)::[(3,sO [qER]),(2,cO ((Cd.mk o n rl vl rf st ar).cells.map .p)),(1,csO acc)]⟩,rfl,rfl,?_⟩
   refine⟨sk,?_⟩
   refine⟨by show 0+1≤1;omega,[x.cells],by rw [hx];rfl,?_⟩
   refine⟨by show 0+acc.length≤(acc.map Cs.cells).length;simp,acc.map Cs.cells,qAR (by simp),by show(acc.length+1) * 152≤140737488355328;omega,(acc++[x]).map Cs.cells,by simp,?_⟩
   exact qAB [] [(1,5)] [] rfl (sk) (sk) rfl
  rw [← qAs] at hR
  refine(qAb ws q3 [qB8] hl hq3l (by simp) (by simp)).holds.useT [2] [] rfl (sk) ⟨_,_,rfl,⟨rfl,rfl⟩,_,_,rfl,⟨_,rfl,by decide,rfl⟩,rfl⟩ fun e0 H0 hq=>?_
  rcases h4:qAg ws [qB8] q3 with p | ⟨u4,q4⟩
  ·rw [h4] at hq hR
   obtain⟨rfl,rfl⟩:=hq
   refine⟨rfl,_,_,rfl,rfl,?_⟩
   exact⟨[],[],[],qAN ws p,⟨1,[]⟩,rfl,⟨_,rfl,_,_,rfl,rfl,rfl⟩,trivial,by rw [← hR];exact⟨rfl,rfl⟩⟩
  rw [h4] at hq hR
  obtain⟨q4l,rfl,rfl⟩:=hq
  refine⟨rfl,_,⟨3,(0,psO ws q4)::[(2,sO [qB8]),(1,csO (acc++[x]))]⟩,rfl,rfl,?_⟩
  simp only [qAE] at hR
  have hlt4:=qAj (ws:=ws) (s:=qB8) (q:=q3) (q':=q4) (u:=u4) (by rw [← qAs];exact h4)
  exact⟨(acc++[x],q4),⟨q4l,by simp only [qAI];omega,⟨f,by simp only [];omega,by rw [← hR,hx]⟩⟩,qAB [] [] [] rfl ⟨⟨rfl,rfl⟩,congrArg (fun k:Nat=>AV.sl 1 11 0 k) (qAI acc x).symm,trivial⟩ (sk) rfl,by show ws.length - q4<ws.length - q;omega⟩
def dO (k n:Int) (nm pl:List UInt8) (fr cs:PV):AObj:=⟨qVq,false, .bx [.p (i64 k), .p (i64 n), .p (.str nm), .p (.str pl), .p fr, .p cs]⟩
abbrev zd:AObj:=dO 0 0 [] [] .nils .nils
theorem qIz {k n:Int} {nm pl:List UInt8} {fr cs:PV} {l:List Rf} {c:List Cs} (hf:NilD fr (qE7 l)) (hc:NilD cs (css c)):NilD (.agg [i64 k,i64 n, .str nm, .str pl,fr,cs]) (De.pv ⟨k,n,nm,pl,l,c⟩):=by
 show NilD _ (.agg [i64 k,i64 n, .str nm, .str pl,qE7 l,css c])
 simp only [NilD,NilDL]
 exact⟨_,rfl,_,_,rfl,rfl,_,_,rfl,rfl,_,_,rfl,rfl,_,_,rfl,rfl,_,_,rfl,hf,_,_,rfl,hc,rfl⟩
theorem qZQ:NilD .nils (qE7 []):=by simp only [NilD];exact .inr (.inr ⟨4,rfl⟩)
theorem qR6:NilD .nils (css []):=by simp only [NilD];exact .inr (.inr ⟨11,rfl⟩)
def qTt (ws:List Wd) (g:FuncId) (rd:Nat→Rd De):Prop:=∀ q,q≤ws.length→HoldsG cx g [.ptr 0 0 0] (psH ws q) (rdQ ws (rd q) fun d=>.p d.pv)
theorem qXq (ws:List Wd) (F:Nat) (_hF:4 * ws.length+8≤F) (hg:GoodW ws):qTt ws 72 (qFj ws):=by
 intro q0 q0l
 refine qEF ?_
 generalize hR:qFj ws q0=R
 rw [qFj] at hR
 refine qAA Tryz.func72 rfl rfl rfl ?_
 have hl:=hg.len
 refine(qBK ws q0 hg q0l).holds.useT [] [] rfl (sk) (sk) fun e0 H0 hq=>?_
 rcases h1:qDR ws q0 with p | ⟨n,q1⟩
 ·rw [h1] at hq hR
  obtain⟨rfl,rfl⟩:=hq
  refine⟨rfl,_,_,rfl,rfl,?_⟩
  exact⟨[],[],[],qAN ws p,⟨1,[]⟩,rfl,⟨_,rfl,_,_,rfl,rfl,rfl⟩,trivial,by rw [← hR];exact⟨rfl,rfl⟩⟩
 rw [h1] at hq hR
 obtain⟨q1l,rfl,rfl⟩:=hq
 refine⟨rfl,_,⟨2,(0,psO ws q1)::[(1,zd)]⟩,rfl,rfl,?_⟩
 simp only [qAE] at hR
 exact⟨[],[],[], .returned (.p (.agg [i64 1,i64 n, .str [], .str [], .nils, .nils])),psH ws q1,rfl,sk,sk,by rw [← hR];exact⟨q1l,⟨_,rfl,qIz qZQ qR6⟩,rfl⟩⟩
theorem qXK (ws:List Wd) (F:Nat) (_hF:4 * ws.length+8≤F) (hg:GoodW ws):qTt ws 73 (qFV ws):=by
 intro q0 q0l
 refine qEF ?_
 generalize hR:qFV ws q0=R
 rw [qFV] at hR
 refine qAA Tryz.func73 rfl rfl rfl ?_
 have hl:=hg.len
 refine(qHu ws q0 hl q0l).holds.useT [] [] rfl (sk) (sk) fun e0 H0 hq=>?_
 rcases h1:qCm ws q0 with p | ⟨nm,q1⟩
 ·rw [h1] at hq hR
  obtain⟨rfl,rfl⟩:=hq
  refine⟨rfl,_,_,rfl,rfl,?_⟩
  exact⟨[],[],[],qAN ws p,⟨1,[]⟩,rfl,⟨_,rfl,_,_,rfl,rfl,rfl⟩,trivial,by rw [← hR];exact⟨rfl,rfl⟩⟩
 rw [h1] at hq hR
 obtain⟨q1l,rfl,rfl⟩:=hq
 refine⟨rfl,_,⟨2,(0,psO ws q1)::[(1,zd)]⟩,rfl,rfl,?_⟩
 simp only [qAE] at hR
 rw [← qAs] at hR
 refine(qAb ws q1 [tEq] hl q1l (by simp) (by simp)).holds.useT [3] [] rfl (sk) ⟨_,_,rfl,⟨rfl,rfl⟩,_,_,rfl,⟨_,rfl,by decide,rfl⟩,rfl⟩ fun e0 H0 hq=>?_
 rcases h2:qAg ws [tEq] q1 with p | ⟨u2,q2⟩
 ·rw [h2] at hq hR
  obtain⟨rfl,rfl⟩:=hq
  refine⟨rfl,_,_,rfl,rfl,?_⟩
  exact⟨[],[],[],qAN ws p,⟨1,[]⟩,rfl,⟨_,rfl,_,_,rfl,rfl,rfl⟩,trivial,by rw [← hR];exact⟨rfl,rfl⟩⟩
 rw [h2] at hq hR
 obtain⟨q2l,rfl,rfl⟩:=hq
 refine⟨rfl,_,⟨4,(0,psO ws q2)::[(3,sO [tEq]),(2,dO 2 0 nm [] .nils .nils),(1,zd)]⟩,rfl,rfl,?_⟩
 simp only [qAE] at hR
 refine(qBK ws q2 hg q2l).holds.useT [] [] rfl (sk) (sk) fun e0 H0 hq=>?_
 rcases h3:qDR ws q2 with p | ⟨n,q3⟩
 ·rw [h3] at hq hR
  obtain⟨rfl,rfl⟩:=hq
  refine⟨rfl,_,_,rfl,rfl,?_⟩
  exact⟨[],[],[],qAN ws p,⟨1,[]⟩,rfl,⟨_,rfl,_,_,rfl,rfl,rfl⟩,trivial,by rw [← hR];exact⟨rfl,rfl⟩⟩
 rw [h3] at hq hR
 obtain⟨q3l,rfl,rfl⟩:=hq
 refine⟨rfl,_,⟨4,(0,psO ws q3)::[(3,sO [tEq]),(2,dO 2 0 nm [] .nils .nils),(1,zd)]⟩,rfl,rfl,?_⟩
 simp only [qAE] at hR
 exact⟨[],[],[], .returned (.p (.agg [i64 2,i64 n, .str nm, .str [], .nils, .nils])),psH ws q3,rfl,sk,sk,by rw [← hR];exact⟨q3l,⟨_,rfl,qIz qZQ qR6⟩,rfl⟩⟩
theorem qVi (ws:List Wd) (F:Nat) (hF:4 * ws.length+8≤F) (hg:GoodW ws):qTt ws 75 (qDc ws F):=by
 intro q0 q0l
 refine qEF ?_
 generalize hR:qDc ws F q0=R
 rw [qDc] at hR
 refine qAA Tryz.func75 rfl rfl rfl ?_
 have hl:=hg.len
 refine(qHu ws q0 hl q0l).holds.useT [] [] rfl (sk) (sk) fun e0 H0 hq=>?_
 rcases h1:qCm ws q0 with p | ⟨nm,q1⟩
 ·rw [h1] at hq hR
  obtain⟨rfl,rfl⟩:=hq
  refine⟨rfl,_,_,rfl,rfl,?_⟩
  exact⟨[],[],[],qAN ws p,⟨1,[]⟩,rfl,⟨_,rfl,_,_,rfl,rfl,rfl⟩,trivial,by rw [← hR];exact⟨rfl,rfl⟩⟩
 rw [h1] at hq hR
 obtain⟨q1l,rfl,rfl⟩:=hq
 refine⟨rfl,_,⟨2,(0,psO ws q1)::[(1,zd)]⟩,rfl,rfl,?_⟩
 simp only [qAE] at hR
 rw [← qAs] at hR
 refine(qAb ws q1 [qER] hl q1l (by simp) (by simp)).holds.useT [3] [] rfl (sk) ⟨_,_,rfl,⟨rfl,rfl⟩,_,_,rfl,⟨_,rfl,by decide,rfl⟩,rfl⟩ fun e0 H0 hq=>?_
 rcases h2:qAg ws [qER] q1 with p | ⟨u2,q2⟩
 ·rw [h2] at hq hR
  obtain⟨rfl,rfl⟩:=hq
  refine⟨rfl,_,_,rfl,rfl,?_⟩
  exact⟨[],[],[],qAN ws p,⟨1,[]⟩,rfl,⟨_,rfl,_,_,rfl,rfl,rfl⟩,trivial,by rw [← hR];exact⟨rfl,rfl⟩⟩
 rw [h2] at hq hR
 obtain⟨q2l,rfl,rfl⟩:=hq
 refine⟨rfl,_,⟨4,(0,psO ws q2)::[(3,sO [qER]),(2,dO 4 0 nm [] .nils .nils),(1,zd)]⟩,rfl,rfl,?_⟩
 simp only [qAE] at hR
 refine(qBK ws q2 hg q2l).holds.useT [] [] rfl (sk) (sk) fun e0 H0 hq=>?_
 rcases h3:qDR ws q2 with p | ⟨n,q3⟩
 ·rw [h3] at hq hR
  obtain⟨rfl,rfl⟩:=hq
  refine⟨rfl,_,_,rfl,rfl,?_⟩
  exact⟨[],[],[],qAN ws p,⟨1,[]⟩,rfl,⟨_,rfl,_,_,rfl,rfl,rfl⟩,trivial,by rw [← hR];exact⟨rfl,rfl⟩⟩
 rw [h3] at hq hR
 obtain⟨q3l,rfl,rfl⟩:=hq
 refine⟨rfl,_,⟨4,(0,psO ws q3)::[(3,sO [qER]),(2,dO 4 0 nm [] .nils .nils),(1,zd)]⟩,rfl,rfl,?_⟩
 simp only [qAE] at hR
 refine(qOO ws F q3 qMS (by decide) (by omega) hg q3l).holds.useT [] [] rfl (sk) (sk) fun e0 H0 hq=>?_
 rcases h4:qFP ws F qMS q3 with p | ⟨l,q4⟩
 ·rw [h4] at hq hR
  obtain⟨rfl,rfl⟩:=hq
  refine⟨rfl,_,_,rfl,rfl,?_⟩
  exact⟨[],[],[],qAN ws p,⟨1,[]⟩,rfl,⟨_,rfl,_,_,rfl,rfl,rfl⟩,trivial,by rw [← hR];exact⟨rfl,rfl⟩⟩
 rw [h4] at hq hR
 obtain⟨q4l,rfl,rfl⟩:=hq
 refine⟨rfl,_,⟨4,(0,psO ws q4)::[(3,sO [qER]),(2,dO 4 n nm [] .nils .nils),(1,zd)]⟩,rfl,rfl,?_⟩
 simp only [qAE] at hR
 exact⟨[],[],[], .returned (.p (.agg [i64 4,i64 n, .str nm, .str [],qE7 l, .nils])),psH ws q4,rfl,sk,sk,by rw [← hR];exact⟨q4l,⟨_,rfl,qIz (NilD.refl _) qR6⟩,rfl⟩⟩
theorem qZh (ws:List Wd) (F:Nat) (hF:4 * ws.length+8≤F) (hg:GoodW ws):qTt ws 76 (qKB ws F):=by
 intro q0 q0l
 refine qEF ?_
 generalize hR:qKB ws F q0=R
 rw [qKB] at hR
 refine qAA Tryz.func76 rfl rfl rfl ?_
 have hl:=hg.len
 refine(qOO ws F q0 qKl (by decide) (by omega) hg q0l).holds.useT [] [] rfl (sk) (sk) fun e0 H0 hq=>?_
 rcases h1:qFP ws F qKl q0 with p | ⟨l,q1⟩
 ·rw [h1] at hq hR
  obtain⟨rfl,rfl⟩:=hq
  refine⟨rfl,_,_,rfl,rfl,?_⟩
  exact⟨[],[],[],qAN ws p,⟨1,[]⟩,rfl,⟨_,rfl,_,_,rfl,rfl,rfl⟩,trivial,by rw [← hR];exact⟨rfl,rfl⟩⟩
 rw [h1] at hq hR
 obtain⟨q1l,rfl,rfl⟩:=hq
 refine⟨rfl,_,⟨2,(0,psO ws q1)::[(1,zd)]⟩,rfl,rfl,?_⟩
 simp only [qAE] at hR
 rw [← qAs] at hR
 refine(qAb ws q1 [tEq] hl q1l (by simp) (by simp)).holds.useT [3] [] rfl (sk) ⟨_,_,rfl,⟨rfl,rfl⟩,_,_,rfl,⟨_,rfl,by decide,rfl⟩,rfl⟩ fun e0 H0 hq=>?_
 rcases h2:qAg ws [tEq] q1 with p | ⟨u2,q2⟩
 ·rw [h2] at hq hR
  obtain⟨rfl,rfl⟩:=hq
  refine⟨rfl,_,_,rfl,rfl,?_⟩
  exact⟨[],[],[],qAN ws p,⟨1,[]⟩,rfl,⟨_,rfl,_,_,rfl,rfl,rfl⟩,trivial,by rw [← hR];exact⟨rfl,rfl⟩⟩
 rw [h2] at hq hR
 obtain⟨q2l,rfl,rfl⟩:=hq
 refine⟨rfl,_,⟨4,(0,psO ws q2)::[(3,sO [tEq]),(2,dO 5 0 [] [] (qE7 l) .nils),(1,zd)]⟩,rfl,rfl,?_⟩
 simp only [qAE] at hR
 refine(qRc ws F q2 hF hg q2l).holds.useT [] [] rfl (sk) (sk) fun e0 H0 hq=>?_
 rcases h3:qGl ws F q2 with p | ⟨cs,q3⟩
 ·rw [h3] at hq hR
  obtain⟨rfl,rfl⟩:=hq
  refine⟨rfl,_,_,rfl,rfl,?_⟩
  exact⟨[],[],[],qAN ws p,⟨1,[]⟩,rfl,⟨_,rfl,_,_,rfl,rfl,rfl⟩,trivial,by rw [← hR];exact⟨rfl,rfl⟩⟩
 rw [h3] at hq hR
 obtain⟨q3l,rfl,rfl⟩:=hq
 refine⟨rfl,_,⟨4,(0,psO ws q3)::[(3,sO [tEq]),(2,dO 5 0 [] [] (qE7 l) .nils),(1,zd)]⟩,rfl,rfl,?_⟩
 simp only [qAE] at hR
 exact⟨[],[],[], .returned (.p (.agg [i64 5,i64 0, .str [], .str [],qE7 l,css cs])),psH ws q3,rfl,sk,sk,by rw [← hR];exact⟨q3l,⟨_,rfl,qIz (NilD.refl _) (NilD.refl _)⟩,rfl⟩⟩
theorem qZP (ws:List Wd) (F:Nat) (hF:4 * ws.length+8≤F) (hg:GoodW ws):qTt ws 74 (qJv ws F):=by
 intro q0 q0l
 refine qEF ?_
 generalize hR:qJv ws F q0=R
 rw [qJv] at hR
 refine qAA Tryz.func74 rfl rfl rfl ?_
 have hl:=hg.len
 refine(qHu ws q0 hl q0l).holds.useT [] [] rfl (sk) (sk) fun e0 H0 hq=>?_
 rcases h1:qCm ws q0 with p | ⟨nm,q1⟩
 ·rw [h1] at hq hR
  obtain⟨rfl,rfl⟩:=hq
  refine⟨rfl,_,_,rfl,rfl,?_⟩
  exact⟨[],[],[],qAN ws p,⟨1,[]⟩,rfl,⟨_,rfl,_,_,rfl,rfl,rfl⟩,trivial,by rw [← hR];exact⟨rfl,rfl⟩⟩
 rw [h1] at hq hR
 obtain⟨q1l,rfl,rfl⟩:=hq
 refine⟨rfl,_,⟨2,(0,psO ws q1)::[(1,zd)]⟩,rfl,rfl,?_⟩
 simp only [qAE] at hR
 by_cases c1:txt ws q1=tLB
 rotate_left
 ·rw [if_neg c1] at hR
  refine(qAn ws q1 tLB hl q1l).holds.useT [] [] rfl (sk) (sk) fun e0 H0 hq=>?_
  obtain⟨rfl,rfl⟩:=hq.2 c1
  refine⟨rfl,_,⟨3,(0,psO ws q1)::[(2,dO 3 0 nm [] .nils .nils),(1,zd)]⟩,rfl,rfl,?_⟩
  rw [qCq] at hR
  rw [← qAs] at hR
  refine(qAb ws q1 [qER] hl q1l (by simp) (by simp)).holds.useT [3] [] rfl (sk) ⟨_,_,rfl,⟨rfl,rfl⟩,_,_,rfl,⟨_,rfl,by decide,rfl⟩,rfl⟩ fun e0 H0 hq=>?_
  rcases h5:qAg ws [qER] q1 with p | ⟨u5,q5⟩
  ·rw [h5] at hq hR
   obtain⟨rfl,rfl⟩:=hq
   refine⟨rfl,_,_,rfl,rfl,?_⟩
   exact⟨[],[],[],qAN ws p,⟨1,[]⟩,rfl,⟨_,rfl,_,_,rfl,rfl,rfl⟩,trivial,by rw [← hR];exact⟨rfl,rfl⟩⟩
  rw [h5] at hq hR
  obtain⟨q5l,rfl,rfl⟩:=hq
  refine⟨rfl,_,⟨4,(0,psO ws q5)::[(3,sO [qER]),(2,dO 3 0 nm [] .nils .nils),(1,zd)]⟩,rfl,rfl,?_⟩
  simp only [qAE] at hR
  refine(qBK ws q5 hg q5l).holds.useT [] [] rfl (sk) (sk) fun e0 H0 hq=>?_
  rcases h6:qDR ws q5 with p | ⟨n,q6⟩
  ·rw [h6] at hq hR
   obtain⟨rfl,rfl⟩:=hq
   refine⟨rfl,_,_,rfl,rfl,?_⟩
   exact⟨[],[],[],qAN ws p,⟨1,[]⟩,rfl,⟨_,rfl,_,_,rfl,rfl,rfl⟩,trivial,by rw [← hR];exact⟨rfl,rfl⟩⟩
  rw [h6] at hq hR
  obtain⟨q6l,rfl,rfl⟩:=hq
  refine⟨rfl,_,⟨4,(0,psO ws q6)::[(3,sO [qER]),(2,dO 3 0 nm [] .nils .nils),(1,zd)]⟩,rfl,rfl,?_⟩
  simp only [qAE] at hR
  refine(qOO ws F q6 qKl (by decide) (by omega) hg q6l).holds.useT [] [] rfl (sk) (sk) fun e0 H0 hq=>?_
  rcases h7:qFP ws F qKl q6 with p | ⟨l,q7⟩
  ·rw [h7] at hq hR
   obtain⟨rfl,rfl⟩:=hq
   refine⟨rfl,_,_,rfl,rfl,?_⟩
   exact⟨[],[],[],qAN ws p,⟨1,[]⟩,rfl,⟨_,rfl,_,_,rfl,rfl,rfl⟩,trivial,by rw [← hR];exact⟨rfl,rfl⟩⟩
  rw [h7] at hq hR
  obtain⟨q7l,rfl,rfl⟩:=hq
  refine⟨rfl,_,⟨4,(0,psO ws q7)::[(3,sO [qER]),(2,dO 3 n nm [] .nils .nils),(1,zd)]⟩,rfl,rfl,?_⟩
  simp only [qAE] at hR
  rw [← qAs] at hR
  refine(qAb ws q7 [tEq] hl q7l (by simp) (by simp)).holds.useT [4] [] rfl (sk) ⟨_,_,rfl,⟨rfl,rfl⟩,_,_,rfl,⟨_,rfl,by decide,rfl⟩,rfl⟩ fun e0 H0 hq=>?_
  rcases h8:qAg ws [tEq] q7 with p | ⟨u8,q8⟩
  ·rw [h8] at hq hR
   obtain⟨rfl,rfl⟩:=hq
   refine⟨rfl,_,_,rfl,rfl,?_⟩
   exact⟨[],[],[],qAN ws p,⟨1,[]⟩,rfl,⟨_,rfl,_,_,rfl,rfl,rfl⟩,trivial,by rw [← hR];exact⟨rfl,rfl⟩⟩
  rw [h8] at hq hR
  obtain⟨q8l,rfl,rfl⟩:=hq
  refine⟨rfl,_,⟨5,(0,psO ws q8)::[(4,sO [tEq]),(3,sO [qER]),(2,dO 3 n nm [] (qE7 l) .nils),(1,zd)]⟩,rfl,rfl,?_⟩
  simp only [qAE] at hR
  refine(qRc ws F q8 hF hg q8l).holds.useT [] [] rfl (sk) (sk) fun e0 H0 hq=>?_
  rcases h9:qGl ws F q8 with p | ⟨cs,q9⟩
  ·rw [h9] at hq hR
   obtain⟨rfl,rfl⟩:=hq
   refine⟨rfl,_,_,rfl,rfl,?_⟩
   exact⟨[],[],[],qAN ws p,⟨1,[]⟩,rfl,⟨_,rfl,_,_,rfl,rfl,rfl⟩,trivial,by rw [← hR];exact⟨rfl,rfl⟩⟩
  rw [h9] at hq hR
  obtain⟨q9l,rfl,rfl⟩:=hq
  refine⟨rfl,_,⟨5,(0,psO ws q9)::[(4,sO [tEq]),(3,sO [qER]),(2,dO 3 n nm [] (qE7 l) .nils),(1,zd)]⟩,rfl,rfl,?_⟩
  simp only [qAE] at hR
  exact⟨[],[],[], .returned (.p (.agg [i64 3,i64 n, .str nm, .str [],qE7 l,css cs])),psH ws q9,rfl,sk,sk,by rw [← hR];exact⟨q9l,⟨_,rfl,qIz (NilD.refl _) (NilD.refl _)⟩,rfl⟩⟩
 rw [if_pos c1] at hR
 have q2l:q1+1≤ws.length:=qBF (by rw [c1];decide)
 refine(qAn ws q1 tLB hl q1l).holds.useT [] [] rfl (sk) (sk) fun e0 H0 hq=>?_
 obtain⟨rfl,rfl⟩:=hq.1 c1
 refine⟨rfl,_,⟨3,(0,psO ws (q1+1))::[(2,dO 3 0 nm [] .nils .nils),(1,zd)]⟩,rfl,rfl,?_⟩
 refine(qHu ws (q1+1) hl q2l).holds.useT [] [] rfl (sk) (sk) fun e0 H0 hq=>?_
 rcases h3:qCm ws (q1+1) with p | ⟨pl,q3⟩
 ·rw [h3] at hq hR
  obtain⟨rfl,rfl⟩:=hq
  refine⟨rfl,_,_,rfl,rfl,?_⟩
  exact⟨[],[],[],qAN ws p,⟨1,[]⟩,rfl,⟨_,rfl,_,_,rfl,rfl,rfl⟩,trivial,by rw [← hR];exact⟨rfl,rfl⟩⟩
 rw [h3] at hq hR
 obtain⟨q3l,rfl,rfl⟩:=hq
 refine⟨rfl,_,⟨3,(0,psO ws q3)::[(2,dO 3 0 nm [] .nils .nils),(1,zd)]⟩,rfl,rfl,?_⟩
 simp only [qAE] at hR
 rw [← qAs] at hR
 refine(qAb ws q3 [tRB] hl q3l (by simp) (by simp)).holds.useT [3] [] rfl (sk) ⟨_,_,rfl,⟨rfl,rfl⟩,_,_,rfl,⟨_,rfl,by decide,rfl⟩,rfl⟩ fun e0 H0 hq=>?_
 rcases h4:qAg ws [tRB] q3 with p | ⟨u4,q4⟩
 ·rw [h4] at hq hR
  obtain⟨rfl,rfl⟩:=hq
  refine⟨rfl,_,_,rfl,rfl,?_⟩
  exact⟨[],[],[],qAN ws p,⟨1,[]⟩,rfl,⟨_,rfl,_,_,rfl,rfl,rfl⟩,trivial,by rw [← hR];exact⟨rfl,rfl⟩⟩
 rw [h4] at hq hR
 obtain⟨q4l,rfl,rfl⟩:=hq
 refine⟨rfl,_,⟨4,(0,psO ws q4)::[(3,sO [tRB]),(2,dO 3 0 nm pl .nils .nils),(1,zd)]⟩,rfl,rfl,?_⟩
 simp only [qAE] at hR
 rw [qCq] at hR
 rw [← qAs] at hR
 refine(qAb ws q4 [qER] hl q4l (by simp) (by simp)).holds.useT [4] [] rfl (sk) ⟨_,_,rfl,⟨rfl,rfl⟩,_,_,rfl,⟨_,rfl,by decide,rfl⟩,rfl⟩ fun e0 H0 hq=>?_
 rcases h5:qAg ws [qER] q4 with p | ⟨u5,q5⟩
 ·rw [h5] at hq hR
  obtain⟨rfl,rfl⟩:=hq
  refine⟨rfl,_,_,rfl,rfl,?_⟩
  exact⟨[],[],[],qAN ws p,⟨1,[]⟩,rfl,⟨_,rfl,_,_,rfl,rfl,rfl⟩,trivial,by rw [← hR];exact⟨rfl,rfl⟩⟩
 rw [h5] at hq hR
 obtain⟨q5l,rfl,rfl⟩:=hq
 refine⟨rfl,_,⟨5,(0,psO ws q5)::[(4,sO [qER]),(3,sO [tRB]),(2,dO 3 0 nm pl .nils .nils),(1,zd)]⟩,rfl,rfl,?_⟩
 simp only [qAE] at hR
 refine(qBK ws q5 hg q5l).holds.useT [] [] rfl (sk) (sk) fun e0 H0 hq=>?_
 rcases h6:qDR ws q5 with p | ⟨n,q6⟩
 ·rw [h6] at hq hR
  obtain⟨rfl,rfl⟩:=hq
  refine⟨rfl,_,_,rfl,rfl,?_⟩
  exact⟨[],[],[],qAN ws p,⟨1,[]⟩,rfl,⟨_,rfl,_,_,rfl,rfl,rfl⟩,trivial,by rw [← hR];exact⟨rfl,rfl⟩⟩
 rw [h6] at hq hR
 obtain⟨q6l,rfl,rfl⟩:=hq
 refine⟨rfl,_,⟨5,(0,psO ws q6)::[(4,sO [qER]),(3,sO [tRB]),(2,dO 3 0 nm pl .nils .nils),(1,zd)]⟩,rfl,rfl,?_⟩
 simp only [qAE] at hR
 refine(qOO ws F q6 qKl (by decide) (by omega) hg q6l).holds.useT [] [] rfl (sk) (sk) fun e0 H0 hq=>?_
 rcases h7:qFP ws F qKl q6 with p | ⟨l,q7⟩
 ·rw [h7] at hq hR
  obtain⟨rfl,rfl⟩:=hq
  refine⟨rfl,_,_,rfl,rfl,?_⟩
  exact⟨[],[],[],qAN ws p,⟨1,[]⟩,rfl,⟨_,rfl,_,_,rfl,rfl,rfl⟩,trivial,by rw [← hR];exact⟨rfl,rfl⟩⟩
 rw [h7] at hq hR
 obtain⟨q7l,rfl,rfl⟩:=hq
 refine⟨rfl,_,⟨5,(0,psO ws q7)::[(4,sO [qER]),(3,sO [tRB]),(2,dO 3 n nm pl .nils .nils),(1,zd)]⟩,rfl,rfl,?_⟩
 simp only [qAE] at hR
 rw [← qAs] at hR
 refine(qAb ws q7 [tEq] hl q7l (by simp) (by simp)).holds.useT [5] [] rfl (sk) ⟨_,_,rfl,⟨rfl,rfl⟩,_,_,rfl,⟨_,rfl,by decide,rfl⟩,rfl⟩ fun e0 H0 hq=>?_
 rcases h8:qAg ws [tEq] q7 with p | ⟨u8,q8⟩
 ·rw [h8] at hq hR
  obtain⟨rfl,rfl⟩:=hq
  refine⟨rfl,_,_,rfl,rfl,?_⟩
  exact⟨[],[],[],qAN ws p,⟨1,[]⟩,rfl,⟨_,rfl,_,_,rfl,rfl,rfl⟩,trivial,by rw [← hR];exact⟨rfl,rfl⟩⟩
 rw [h8] at hq hR
 obtain⟨q8l,rfl,rfl⟩:=hq
 refine⟨rfl,_,⟨6,(0,psO ws q8)::[(5,sO [tEq]),(4,sO [qER]),(3,sO [tRB]),(2,dO 3 n nm pl (qE7 l) .nils),(1,zd)]⟩,rfl,rfl,?_⟩
 simp only [qAE] at hR
 refine(qRc ws F q8 hF hg q8l).holds.useT [] [] rfl (sk) (sk) fun e0 H0 hq=>?_
 rcases h9:qGl ws F q8 with p | ⟨cs,q9⟩
 ·rw [h9] at hq hR
  obtain⟨rfl,rfl⟩:=hq
  refine⟨rfl,_,_,rfl,rfl,?_⟩
  exact⟨[],[],[],qAN ws p,⟨1,[]⟩,rfl,⟨_,rfl,_,_,rfl,rfl,rfl⟩,trivial,by rw [← hR];exact⟨rfl,rfl⟩⟩
 rw [h9] at hq hR
 obtain⟨q9l,rfl,rfl⟩:=hq
 refine⟨rfl,_,⟨6,(0,psO ws q9)::[(5,sO [tEq]),(4,sO [qER]),(3,sO [tRB]),(2,dO 3 n nm pl (qE7 l) .nils),(1,zd)]⟩,rfl,rfl,?_⟩
 simp only [qAE] at hR
 exact⟨[],[],[], .returned (.p (.agg [i64 3,i64 n, .str nm, .str pl,qE7 l,css cs])),psH ws q9,rfl,sk,sk,by rw [← hR];exact⟨q9l,⟨_,rfl,qIz (NilD.refl _) (NilD.refl _)⟩,rfl⟩⟩
theorem qMi {ws:List Wd} {F:Nat} {key:List UInt8} {q q':Nat} {l:List Rf} (h:qFP ws F key q=.inr (l,q')):q≤q':=by
 rw [qFP] at h
 split at h
 ·have:=qSP (fun q a q' h=>qKy h) h;omega
 ·injection h with h;injection h with h1 h2;omega
theorem qPK {ws:List Wd} {F:Nat}:∀ (f:Nat) {acc l:List Cs} {q q':Nat},qFr ws F f acc q=.inr (l,q')→q<q'
 | 0,_,_,_,_,h=>by cases h
 | f+1,acc,l,q,q',h=>by
  rw [qFr] at h
  split at h
  ·rw [qHg] at h
   obtain⟨u,q1,h1,h⟩:=then_ok h
   have:=qAj h1
   obtain⟨l1,q2,h2,h⟩:=then_ok h
   have:=qMm h2
   obtain⟨u3,q3,h3,h⟩:=then_ok h
   have:=qAj h3
   injection h with h;injection h with h1 h2;omega
  ·obtain⟨c,q1,h1,h⟩:=then_ok h
   have:=qTI F h1
   obtain⟨u2,q2,h2,h⟩:=then_ok h
   have:=qAj h2
   obtain⟨l3,q3,h3,h⟩:=then_ok h
   have:=qMm h3
   obtain⟨u4,q4,h4,h⟩:=then_ok h
   have:=qAj h4
   have:=qPK f h
   omega
theorem qRa {ws:List Wd} {F q q':Nat} {l:List Cs} (h:qGl ws F q=.inr (l,q')):q<q':=by
 rw [qGl] at h
 obtain⟨u,q1,h1,h⟩:=then_ok h
 have:=qAj h1
 have:=qPK F h
 omega
theorem qOb {ws:List Wd} {F q q':Nat} {nm pl:List UInt8} {d:De} (h:qCq ws F nm pl q=.inr (d,q')):q<q':=by
 rw [qCq] at h
 obtain⟨u1,q1,h1,h⟩:=then_ok h
 have:=qAj h1
 obtain⟨n,q2,h2,h⟩:=then_ok h
 have:=qCe h2
 obtain⟨l,q3,h3,h⟩:=then_ok h
 have:=qMi h3
 obtain⟨u4,q4,h4,h⟩:=then_ok h
 have:=qAj h4
 obtain⟨cs,q5,h5,h⟩:=then_ok h
 have:=qRa h5
 injection h with h;injection h with h1 h2;omega
theorem qIE {ws:List Wd} {F q q':Nat} {d:De} (h:qD5 ws F q=.inr (d,q')):q<q':=by
 rw [qD5] at h
 split at h
 ·rw [qFj] at h
  obtain⟨n,q1,h1,h⟩:=then_ok h
  have:=qCe h1
  injection h with h;injection h with h1 h2;omega
 split at h
 ·rw [qFV] at h
  obtain⟨nm,q1,h1,h⟩:=then_ok h
  have:=qEr h1
  obtain⟨u,q2,h2,h⟩:=then_ok h
  have:=qAj h2
  obtain⟨n,q3,h3,h⟩:=then_ok h
  have:=qCe h3
  injection h with h;injection h with h1 h2;omega
 split at h
 ·rw [qJv] at h
  obtain⟨nm,q1,h1,h⟩:=then_ok h
  have:=qEr h1
  try simp only [] at h
  split at h
  ·obtain⟨pl,q2,h2,h⟩:=then_ok h
   have:=qEr h2
   obtain⟨u,q3,h3,h⟩:=then_ok h
   have:=qAj h3
   have:=qOb h
   omega
  ·have:=qOb h
   omega
 split at h
 ·rw [qDc] at h
  obtain⟨nm,q1,h1,h⟩:=then_ok h
  have:=qEr h1
  obtain⟨u,q2,h2,h⟩:=then_ok h
  have:=qAj h2
  obtain⟨n,q3,h3,h⟩:=then_ok h
  have:=qCe h3
  obtain⟨l,q4,h4,h⟩:=then_ok h
  have:=qMi h4
  injection h with h;injection h with h1 h2;omega
 split at h
 ·rw [qKB] at h
  obtain⟨l,q1,h1,h⟩:=then_ok h
  have:=qMi h1
  obtain⟨u,q2,h2,h⟩:=then_ok h
  have:=qAj h2
  obtain⟨cs,q3,h3,h⟩:=then_ok h
  have:=qRa h3
  injection h with h;injection h with h1 h2;omega
 ·cases h
abbrev fnP (g:FuncId):PV:=.fn (.func g) [] []
def qXG:List (List UInt8 × PV):=[(qN7,fnP 72),(qN6,fnP 73),(qUZ,fnP 74),(qJc,fnP 75),(qUa,fnP 76)]
def mpO:AObj:=⟨192,false, .ms qXG⟩
def srO (v:AV):AObj:=⟨39,false, .bx [v]⟩
def qQK (l:List De):AObj:=⟨qVq,false, .pus (l.map De.cells)⟩
def deO (d:De):AObj:=⟨qVq,false, .bx (d.cells.map .p)⟩
abbrev prH (ws:List Wd) (acc:List De) (q:Nat):Hp:=⟨5,[(4,qQK acc),(3,srO (.sl 4 6 0 acc.length)),(2,mpO),(1,srO (.p .nils)),(0,psO ws q)]⟩
theorem qXf {a:List UInt8} (h1:¬ a=qN7) (h2:¬ a=qN6) (h3:¬ a=qUZ) (h4:¬ a=qJc) (h5:¬ a=qUa):qAX qXG a=none:=by
 simp only [qXG,qAX,decide_eq_false h1,decide_eq_false h2,decide_eq_false h3,decide_eq_false h4,decide_eq_false h5]
theorem qRm (ws:List Wd) (F q0:Nat) (hF:4 * ws.length+8≤F) (hg:GoodW ws) (hq0:q0≤ws.length):HoldsG cx 44 [.ptr 0 0 0] (psH ws q0) (rdQ ws (qGm ws F F [] q0) fun l=>.p (qIM l)):=by
 generalize hR:qGm ws F F [] q0=R
 refine qAA Tryz.func44 rfl rfl rfl ?_
 have hl:=hg.len
 have hl':(ws.map Wd.cells).length=ws.length:=List.length_map ..
 refine⟨_,rfl,_,rfl,_,rfl,_,rfl,_,rfl,?_⟩
 refine⟨List De × Nat,fun x=>[(0, .ptr 0 0 0),(2, .ptr 1 0 0),(3, .mp 2),(4, .ptr 3 0 0)],fun x=>prH ws x.1 x.2,fun x=>x.2≤ws.length∧x.1.length≤x.2∧LI R (fun f=>qGm ws F f x.1 x.2) (ws.length - x.2),fun x=>ws.length - x.2,?_,?_⟩
 ·exact⟨([],q0),⟨hq0,by simp,⟨F,by simp only [];omega,hR.symm⟩⟩,qAB [] [] [(4,6)] rfl (sk) (sk) rfl⟩
 rintro⟨acc,q⟩ ⟨k1,k2,k3⟩
 simp only [] at k1 k2 k3
 refine VDraw.seq rfl ?_
 obtain⟨f,hf,k3⟩:=k3
 obtain⟨f,rfl⟩:∃ g,f=g+1:=⟨f - 1,by omega⟩
 simp only [] at k3
 rw [qGm] at k3
 (first | refine qAO (fun c0=>?_) (fun c0=>?_) | refine qAP (fun c0=>?_) (fun c0=>?_) | refine qAQ (fun c0=>?_) (fun c0=>?_))
 rotate_left
 ·have c0:¬ (q:Int)<((ws.map Wd.cells).length:Nat):=c0
  rw [hl'] at c0
  rw [if_neg (by omega)] at k3
  exact⟨[4],[],[], .returned (.p (qIM acc)),psH ws q,rfl,⟨_,rfl,⟨_,rfl,_,_,rfl,⟨_,rfl,by show 0+acc.length≤(acc.map De.cells).length;simp,qAR (by simp)⟩,rfl⟩⟩,sk,by rw [k3];exact⟨k1,rfl,rfl⟩⟩
 have c0:(q:Int)<((ws.map Wd.cells).length:Nat):=c0
 rw [hl'] at c0
 rw [if_pos (by omega)] at k3
 have hR:=k3.symm
 clear k3
 refine(qN5 ws q hl k1).holds.useT [] [] rfl (sk) (sk) fun e0 H0 hq=>?_
 obtain⟨rfl,rfl⟩:=hq
 refine⟨rfl,_,⟨5,(0,psO ws q)::[(4,qQK acc),(3,srO (.sl 4 6 0 acc.length)),(2,mpO),(1,srO (.p .nils))]⟩,rfl,rfl,?_⟩
 by_cases c:txt ws q=qN7
 ·have hdl:qD5 ws F q=qFj ws (q+1):=by rw [qD5,if_pos c]
  rw [hdl] at hR
  have ql:q+1≤ws.length:=qBF (by rw [c];decide)
  have hR:((qFj ws) (q+1)).then _=R:=hR
  refine⟨_, .inl ⟨_,by rw [c];rfl,rfl⟩,?_⟩
  refine⟨_,w6z,?_⟩
  refine((qXq ws F hF hg) (q+1) ql).holds.useT [] [] rfl (sk) (sk) fun e0 H0 hq=>?_
  rcases h1:(qFj ws) (q+1) with p | ⟨d,q2⟩
  ·rw [h1] at hq hR
   obtain⟨rfl,rfl⟩:=hq
   refine⟨rfl,_,_,rfl,rfl,?_⟩
   exact⟨[],[],[],qAN ws p,⟨1,[]⟩,rfl,⟨_,rfl,_,_,rfl,rfl,rfl⟩,trivial,by rw [← hR];exact⟨rfl,rfl⟩⟩
  rw [h1] at hq hR hdl
  have hlt:=qIE hdl
  obtain⟨q2l,rfl,rfl⟩:=hq
  refine⟨rfl,_,⟨5,(0,psO ws q2)::[(4,qQK acc),(3,srO (.sl 4 6 0 acc.length)),(2,mpO),(1,srO (.p .nils))]⟩,rfl,rfl,?_⟩
  simp only [qAE] at hR
  rw [← qAs] at hR
  refine(qAb ws q2 [qB8] hl q2l (by simp) (by simp)).holds.useT [6] [] rfl (sk) ⟨_,_,rfl,⟨rfl,rfl⟩,_,_,rfl,⟨_,rfl,by decide,rfl⟩,rfl⟩ fun e0 H0 hq=>?_
  rcases h2:qAg ws [qB8] q2 with p | ⟨u2,q3⟩
  ·rw [h2] at hq hR
   obtain⟨rfl,rfl⟩:=hq
   refine⟨rfl,_,_,rfl,rfl,?_⟩
   exact⟨[],[],[],qAN ws p,⟨1,[]⟩,rfl,⟨_,rfl,_,_,rfl,rfl,rfl⟩,trivial,by rw [← hR];exact⟨rfl,rfl⟩⟩
  rw [h2] at hq hR
  obtain⟨q3l,rfl,rfl⟩:=hq
  refine⟨rfl,_,⟨7,(0,psO ws q3)::[(6,sO [qB8]),(5,deO d),(4,qQK acc),(3,srO (.sl 4 6 0 acc.length)),(2,mpO),(1,srO (.p .nils))]⟩,rfl,rfl,?_⟩
  simp only [qAE] at hR
  have hlt2:=qAj (ws:=ws) (s:=qB8) (q:=q2) (q':=q3) (u:=u2) (by rw [← qAs];exact h2)
  refine⟨by show 0+1≤1;omega,[d.cells],rfl,?_⟩
  refine⟨by show 0+acc.length≤(acc.map De.cells).length;simp,acc.map De.cells,qAR (by simp),by show(acc.length+1) * 96≤140737488355328;omega,(acc++[d]).map De.cells,by simp,?_⟩
  exact⟨(acc++[d],q3),⟨q3l,by simp only [qAI];omega,⟨f,by simp only [];omega,hR.symm⟩⟩,qAB [] [(4,8)] [] rfl (sk) ⟨⟨_,rfl,rfl,rfl,rfl⟩,⟨_,rfl,rfl,rfl,_,rfl,_,_,rfl,congrArg (fun k:Nat=>AV.sl 8 6 0 k) (qAI acc d).symm,rfl⟩,sk⟩ rfl,by show ws.length - q3<ws.length - q;omega⟩
 have d1:=c
 clear c
 by_cases c:txt ws q=qN6
 ·have hdl:qD5 ws F q=qFV ws (q+1):=by rw [qD5,if_neg d1,if_pos c]
  rw [hdl] at hR
  have ql:q+1≤ws.length:=qBF (by rw [c];decide)
  have hR:((qFV ws) (q+1)).then _=R:=hR
  refine⟨_, .inl ⟨_,by rw [c];rfl,rfl⟩,?_⟩
  refine⟨_,w6z,?_⟩
  refine((qXK ws F hF hg) (q+1) ql).holds.useT [] [] rfl (sk) (sk) fun e0 H0 hq=>?_
  rcases h1:(qFV ws) (q+1) with p | ⟨d,q2⟩
  ·rw [h1] at hq hR
   obtain⟨rfl,rfl⟩:=hq
   refine⟨rfl,_,_,rfl,rfl,?_⟩
   exact⟨[],[],[],qAN ws p,⟨1,[]⟩,rfl,⟨_,rfl,_,_,rfl,rfl,rfl⟩,trivial,by rw [← hR];exact⟨rfl,rfl⟩⟩
  rw [h1] at hq hR hdl
  have hlt:=qIE hdl
  obtain⟨q2l,rfl,rfl⟩:=hq
  refine⟨rfl,_,⟨5,(0,psO ws q2)::[(4,qQK acc),(3,srO (.sl 4 6 0 acc.length)),(2,mpO),(1,srO (.p .nils))]⟩,rfl,rfl,?_⟩
  simp only [qAE] at hR
  rw [← qAs] at hR
  refine(qAb ws q2 [qB8] hl q2l (by simp) (by simp)).holds.useT [6] [] rfl (sk) ⟨_,_,rfl,⟨rfl,rfl⟩,_,_,rfl,⟨_,rfl,by decide,rfl⟩,rfl⟩ fun e0 H0 hq=>?_
  rcases h2:qAg ws [qB8] q2 with p | ⟨u2,q3⟩
  ·rw [h2] at hq hR
   obtain⟨rfl,rfl⟩:=hq
   refine⟨rfl,_,_,rfl,rfl,?_⟩
   exact⟨[],[],[],qAN ws p,⟨1,[]⟩,rfl,⟨_,rfl,_,_,rfl,rfl,rfl⟩,trivial,by rw [← hR];exact⟨rfl,rfl⟩⟩
  rw [h2] at hq hR
  obtain⟨q3l,rfl,rfl⟩:=hq
  refine⟨rfl,_,⟨7,(0,psO ws q3)::[(6,sO [qB8]),(5,deO d),(4,qQK acc),(3,srO (.sl 4 6 0 acc.length)),(2,mpO),(1,srO (.p .nils))]⟩,rfl,rfl,?_⟩
  simp only [qAE] at hR
  have hlt2:=qAj (ws:=ws) (s:=qB8) (q:=q2) (q':=q3) (u:=u2) (by rw [← qAs];exact h2)
  refine⟨by show 0+1≤1;omega,[d.cells],rfl,?_⟩
  refine⟨by show 0+acc.length≤(acc.map De.cells).length;simp,acc.map De.cells,qAR (by simp),by show(acc.length+1) * 96≤140737488355328;omega,(acc++[d]).map De.cells,by simp,?_⟩
  exact⟨(acc++[d],q3),⟨q3l,by simp only [qAI];omega,⟨f,by simp only [];omega,hR.symm⟩⟩,qAB [] [(4,8)] [] rfl (sk) ⟨⟨_,rfl,rfl,rfl,rfl⟩,⟨_,rfl,rfl,rfl,_,rfl,_,_,rfl,congrArg (fun k:Nat=>AV.sl 8 6 0 k) (qAI acc d).symm,rfl⟩,sk⟩ rfl,by show ws.length - q3<ws.length - q;omega⟩
 have d2:=c
 clear c
 by_cases c:txt ws q=qUZ
 ·have hdl:qD5 ws F q=qJv ws F (q+1):=by rw [qD5,if_neg d1,if_neg d2,if_pos c]
  rw [hdl] at hR
  have ql:q+1≤ws.length:=qBF (by rw [c];decide)
  have hR:((qJv ws F) (q+1)).then _=R:=hR
  refine⟨_, .inl ⟨_,by rw [c];rfl,rfl⟩,?_⟩
  refine⟨_,w6z,?_⟩
  refine((qZP ws F hF hg) (q+1) ql).holds.useT [] [] rfl (sk) (sk) fun e0 H0 hq=>?_
  rcases h1:(qJv ws F) (q+1) with p | ⟨d,q2⟩
  ·rw [h1] at hq hR
   obtain⟨rfl,rfl⟩:=hq
   refine⟨rfl,_,_,rfl,rfl,?_⟩
   exact⟨[],[],[],qAN ws p,⟨1,[]⟩,rfl,⟨_,rfl,_,_,rfl,rfl,rfl⟩,trivial,by rw [← hR];exact⟨rfl,rfl⟩⟩
  rw [h1] at hq hR hdl
  have hlt:=qIE hdl
  obtain⟨q2l,rfl,rfl⟩:=hq
  refine⟨rfl,_,⟨5,(0,psO ws q2)::[(4,qQK acc),(3,srO (.sl 4 6 0 acc.length)),(2,mpO),(1,srO (.p .nils))]⟩,rfl,rfl,?_⟩
  simp only [qAE] at hR
  rw [← qAs] at hR
  refine(qAb ws q2 [qB8] hl q2l (by simp) (by simp)).holds.useT [6] [] rfl (sk) ⟨_,_,rfl,⟨rfl,rfl⟩,_,_,rfl,⟨_,rfl,by decide,rfl⟩,rfl⟩ fun e0 H0 hq=>?_
  rcases h2:qAg ws [qB8] q2 with p | ⟨u2,q3⟩
  ·rw [h2] at hq hR
   obtain⟨rfl,rfl⟩:=hq
   refine⟨rfl,_,_,rfl,rfl,?_⟩
   exact⟨[],[],[],qAN ws p,⟨1,[]⟩,rfl,⟨_,rfl,_,_,rfl,rfl,rfl⟩,trivial,by rw [← hR];exact⟨rfl,rfl⟩⟩
  rw [h2] at hq hR
  obtain⟨q3l,rfl,rfl⟩:=hq
  refine⟨rfl,_,⟨7,(0,psO ws q3)::[(6,sO [qB8]),(5,deO d),(4,qQK acc),(3,srO (.sl 4 6 0 acc.length)),(2,mpO),(1,srO (.p .nils))]⟩,rfl,rfl,?_⟩
  simp only [qAE] at hR
  have hlt2:=qAj (ws:=ws) (s:=qB8) (q:=q2) (q':=q3) (u:=u2) (by rw [← qAs];exact h2)
  refine⟨by show 0+1≤1;omega,[d.cells],rfl,?_⟩
  refine⟨by show 0+acc.length≤(acc.map De.cells).length;simp,acc.map De.cells,qAR (by simp),by show(acc.length+1) * 96≤140737488355328;omega,(acc++[d]).map De.cells,by simp,?_⟩
  exact⟨(acc++[d],q3),⟨q3l,by simp only [qAI];omega,⟨f,by simp only [];omega,hR.symm⟩⟩,qAB [] [(4,8)] [] rfl (sk) ⟨⟨_,rfl,rfl,rfl,rfl⟩,⟨_,rfl,rfl,rfl,_,rfl,_,_,rfl,congrArg (fun k:Nat=>AV.sl 8 6 0 k) (qAI acc d).symm,rfl⟩,sk⟩ rfl,by show ws.length - q3<ws.length - q;omega⟩
 have d3:=c
 clear c
 by_cases c:txt ws q=qJc
 ·have hdl:qD5 ws F q=qDc ws F (q+1):=by rw [qD5,if_neg d1,if_neg d2,if_neg d3,if_pos c]
  rw [hdl] at hR
  have ql:q+1≤ws.length:=qBF (by rw [c];decide)
  have hR:((qDc ws F) (q+1)).then _=R:=hR
  refine⟨_, .inl ⟨_,by rw [c];rfl,rfl⟩,?_⟩
  refine⟨_,w6z,?_⟩
  refine((qVi ws F hF hg) (q+1) ql).holds.useT [] [] rfl (sk) (sk) fun e0 H0 hq=>?_
  rcases h1:(qDc ws F) (q+1) with p | ⟨d,q2⟩
  ·rw [h1] at hq hR
   obtain⟨rfl,rfl⟩:=hq
   refine⟨rfl,_,_,rfl,rfl,?_⟩
   exact⟨[],[],[],qAN ws p,⟨1,[]⟩,rfl,⟨_,rfl,_,_,rfl,rfl,rfl⟩,trivial,by rw [← hR];exact⟨rfl,rfl⟩⟩
  rw [h1] at hq hR hdl
  have hlt:=qIE hdl
  obtain⟨q2l,rfl,rfl⟩:=hq
  refine⟨rfl,_,⟨5,(0,psO ws q2)::[(4,qQK acc),(3,srO (.sl 4 6 0 acc.length)),(2,mpO),(1,srO (.p .nils))]⟩,rfl,rfl,?_⟩
  simp only [qAE] at hR
  rw [← qAs] at hR
  refine(qAb ws q2 [qB8] hl q2l (by simp) (by simp)).holds.useT [6] [] rfl (sk) ⟨_,_,rfl,⟨rfl,rfl⟩,_,_,rfl,⟨_,rfl,by decide,rfl⟩,rfl⟩ fun e0 H0 hq=>?_
  rcases h2:qAg ws [qB8] q2 with p | ⟨u2,q3⟩
  ·rw [h2] at hq hR
   obtain⟨rfl,rfl⟩:=hq
   refine⟨rfl,_,_,rfl,rfl,?_⟩
   exact⟨[],[],[],qAN ws p,⟨1,[]⟩,rfl,⟨_,rfl,_,_,rfl,rfl,rfl⟩,trivial,by rw [← hR];exact⟨rfl,rfl⟩⟩
  rw [h2] at hq hR
  obtain⟨q3l,rfl,rfl⟩:=hq
  refine⟨rfl,_,⟨7,(0,psO ws q3)::[(6,sO [qB8]),(5,deO d),(4,qQK acc),(3,srO (.sl 4 6 0 acc.length)),(2,mpO),(1,srO (.p .nils))]⟩,rfl,rfl,?_⟩
  simp only [qAE] at hR
  have hlt2:=qAj (ws:=ws) (s:=qB8) (q:=q2) (q':=q3) (u:=u2) (by rw [← qAs];exact h2)
  refine⟨by show 0+1≤1;omega,[d.cells],rfl,?_⟩
  refine⟨by show 0+acc.length≤(acc.map De.cells).length;simp,acc.map De.cells,qAR (by simp),by show(acc.length+1) * 96≤140737488355328;omega,(acc++[d]).map De.cells,by simp,?_⟩
  exact⟨(acc++[d],q3),⟨q3l,by simp only [qAI];omega,⟨f,by simp only [];omega,hR.symm⟩⟩,qAB [] [(4,8)] [] rfl (sk) ⟨⟨_,rfl,rfl,rfl,rfl⟩,⟨_,rfl,rfl,rfl,_,rfl,_,_,rfl,congrArg (fun k:Nat=>AV.sl 8 6 0 k) (qAI acc d).symm,rfl⟩,sk⟩ rfl,by show ws.length - q3<ws.length - q;omega⟩
 have d4:=c
 clear c
 by_cases c:txt ws q=qUa
 ·have hdl:qD5 ws F q=qKB ws F (q+1):=by rw [qD5,if_neg d1,if_neg d2,if_neg d3,if_neg d4,if_pos c]
  rw [hdl] at hR
  have ql:q+1≤ws.length:=qBF (by rw [c];decide)
  have hR:((qKB ws F) (q+1)).then _=R:=hR
  refine⟨_, .inl ⟨_,by rw [c];rfl,rfl⟩,?_⟩
  refine⟨_,w6z,?_⟩
  refine((qZh ws F hF hg) (q+1) ql).holds.useT [] [] rfl (sk) (sk) fun e0 H0 hq=>?_
  rcases h1:(qKB ws F) (q+1) with p | ⟨d,q2⟩
  ·rw [h1] at hq hR
   obtain⟨rfl,rfl⟩:=hq
   refine⟨rfl,_,_,rfl,rfl,?_⟩
   exact⟨[],[],[],qAN ws p,⟨1,[]⟩,rfl,⟨_,rfl,_,_,rfl,rfl,rfl⟩,trivial,by rw [← hR];exact⟨rfl,rfl⟩⟩
  rw [h1] at hq hR hdl
  have hlt:=qIE hdl
  obtain⟨q2l,rfl,rfl⟩:=hq
  refine⟨rfl,_,⟨5,(0,psO ws q2)::[(4,qQK acc),(3,srO (.sl 4 6 0 acc.length)),(2,mpO),(1,srO (.p .nils))]⟩,rfl,rfl,?_⟩
  simp only [qAE] at hR
  rw [← qAs] at hR
  refine(qAb ws q2 [qB8] hl q2l (by simp) (by simp)).holds.useT [6] [] rfl (sk) ⟨_,_,rfl,⟨rfl,rfl⟩,_,_,rfl,⟨_,rfl,by decide,rfl⟩,rfl⟩ fun e0 H0 hq=>?_
  rcases h2:qAg ws [qB8] q2 with p | ⟨u2,q3⟩
  ·rw [h2] at hq hR
   obtain⟨rfl,rfl⟩:=hq
   refine⟨rfl,_,_,rfl,rfl,?_⟩
   exact⟨[],[],[],qAN ws p,⟨1,[]⟩,rfl,⟨_,rfl,_,_,rfl,rfl,rfl⟩,trivial,by rw [← hR];exact⟨rfl,rfl⟩⟩
  rw [h2] at hq hR
  obtain⟨q3l,rfl,rfl⟩:=hq
  refine⟨rfl,_,⟨7,(0,psO ws q3)::[(6,sO [qB8]),(5,deO d),(4,qQK acc),(3,srO (.sl 4 6 0 acc.length)),(2,mpO),(1,srO (.p .nils))]⟩,rfl,rfl,?_⟩
  simp only [qAE] at hR
  have hlt2:=qAj (ws:=ws) (s:=qB8) (q:=q2) (q':=q3) (u:=u2) (by rw [← qAs];exact h2)
  refine⟨by show 0+1≤1;omega,[d.cells],rfl,?_⟩
  refine⟨by show 0+acc.length≤(acc.map De.cells).length;simp,acc.map De.cells,qAR (by simp),by show(acc.length+1) * 96≤140737488355328;omega,(acc++[d]).map De.cells,by simp,?_⟩
  exact⟨(acc++[d],q3),⟨q3l,by simp only [qAI];omega,⟨f,by simp only [];omega,hR.symm⟩⟩,qAB [] [(4,8)] [] rfl (sk) ⟨⟨_,rfl,rfl,rfl,rfl⟩,⟨_,rfl,rfl,rfl,_,rfl,_,_,rfl,congrArg (fun k:Nat=>AV.sl 8 6 0 k) (qAI acc d).symm,rfl⟩,sk⟩ rfl,by show ws.length - q3<ws.length - q;omega⟩
 have hdl:qD5 ws F q=.inl q:=by rw [qD5,if_neg d1,if_neg d2,if_neg d3,if_neg d4,if_neg c]
 rw [hdl] at hR
 refine⟨_, .inr ⟨qXf d1 d2 d3 d4 c,rfl⟩,?_⟩
 refine(qLa ws q hl k1).holds.useT [] [] rfl (sk) (sk) fun e0 H0 hq=>?_
 obtain⟨rfl,rfl⟩:=hq
 refine⟨rfl,_,⟨5,(0,psO ws q)::[(4,qQK acc),(3,srO (.sl 4 6 0 acc.length)),(2,mpO),(1,srO (.p .nils))]⟩,rfl,rfl,?_⟩
 exact⟨[],[],[],qAN ws q,⟨1,[]⟩,rfl,⟨_,rfl,_,_,rfl,rfl,rfl⟩,trivial,by rw [← hR];exact⟨rfl,rfl⟩⟩
def checkN (w:Wd):Bool:=decide (1≤w.line) && (decide (w.line≤8000) && (decide (1≤w.col) && (decide (w.col≤8000) && qAr w.kind w.text)))
def qGi (w:Wd):Int:=if checkN w then 0 else 370
theorem qX3 (w:Wd) (ht:w.text.length≤9223372036854775807):Pure cx 170 [.agg w.cells] (·=.ret [i64 (qGi w)]):=by
 refine qAF Tryz.func170 rfl rfl rfl ?_
 have bad:checkN w=false→PEnd.ret [i64 370]=.ret [i64 (qGi w)]:=fun h=>by rw [qGi,h];rfl
 refine And.intro (fun h1=>?_) (fun h1=>?_)
 ·have h1:w.line<1:=h1
  exact qAY _ rfl rfl (bad (by simp [checkN];omega))
 ·have h1:¬ w.line<1:=h1
  refine And.intro (fun h2=>?_) (fun h2=>?_)
  ·have h2:8000<w.line:=h2
   exact qAY _ rfl rfl (bad (by simp [checkN];omega))
  ·have h2:¬ 8000<w.line:=h2
   refine And.intro (fun h3=>?_) (fun h3=>?_)
   ·have h3:w.col<1:=h3
    exact qAY _ rfl rfl (bad (by simp [checkN];omega))
   ·have h3:¬ w.col<1:=h3
    refine And.intro (fun h4=>?_) (fun h4=>?_)
    ·have h4:8000<w.col:=h4
     exact qAY _ rfl rfl (bad (by simp [checkN];omega))
    ·have h4:¬ 8000<w.col:=h4
     have hP:=qDO w.kind w.text ht
     by_cases hr:qAr w.kind w.text=true
     ·rw [hr] at hP
      refine hP.eq rfl ?_
      refine qAY _ rfl rfl ?_
      rw [qGi,if_pos (by simp [checkN,hr];omega)]
     ·rw [Bool.not_eq_true] at hr
      rw [hr] at hP
      refine hP.eq rfl ?_
      exact qAY _ rfl rfl (bad (by simp [checkN,hr]))
def qGZ (n:Int):Bool:=decide (0≤n) && decide (n≤9999)
def qE8 (r:Rf):Bool:=qBU r.name && (if r.mode=0∨r.mode=3 then decide (r.plate=[]) && decide (r.n=0) else if r.mode=1 then qBU r.plate && qGZ r.n else if r.mode=2 then decide (r.plate=[]) && qGZ r.n else false)
def qYj (l:List Int):Nat→Nat→Bool
 | 0,_=>true
 | f+1,k=>qGZ (l.getD k 0) && (decide (k=0) || decide (l.getD (k - 1) 0<l.getD k 0)) && qYj l f (k+1)
def qQe (l:List Int):Bool:=decide (1≤l.length) && decide (l.length≤8) && qYj l l.length 0
abbrev qQb (t:List UInt8):Prop:=t.length≤9223372036854775807
structure BigR (r:Rf):Prop where
 name:qQb r.name
 plate:qQb r.plate
theorem qG5 (t:List UInt8) (ht:qQb t):Pure cx 119 [.str t] (·=.ret [.bool (qBU t)]):=by
 have hc:=qX3 ⟨1,t,1,1⟩ ht
 refine qAF Tryz.func119 rfl rfl rfl ?_
 refine hc.eq rfl ?_
 have e:qGi ⟨1,t,1,1⟩=if qBU t then 0 else 370:=by
  simp [qGi,checkN,qAr]
 (first | refine qAO (fun h1=>?_) (fun h1=>?_) | refine qAP (fun h1=>?_) (fun h1=>?_) | refine qAQ (fun h1=>?_) (fun h1=>?_))
 ·have h1:qGi ⟨1,t,1,1⟩=0:=h1
  exact qAY _ rfl rfl (qAl (by cases hn:qBU t <;> simp_all))
 ·have h1:¬ qGi ⟨1,t,1,1⟩=0:=h1
  exact qAY _ rfl rfl (qAl (by cases hn:qBU t <;> simp_all))
theorem qDx (n:Int):Pure cx 117 [i64 n] (·=.ret [.bool (qGZ n)]):=by
 refine qAF Tryz.func117 rfl rfl rfl ?_
 (first | refine qAO (fun h1=>?_) (fun h1=>?_) | refine qAP (fun h1=>?_) (fun h1=>?_) | refine qAQ (fun h1=>?_) (fun h1=>?_))
 ·have h1:(0:Int)≤n:=h1
  (first | refine qAO (fun h2=>?_) (fun h2=>?_) | refine qAP (fun h2=>?_) (fun h2=>?_) | refine qAQ (fun h2=>?_) (fun h2=>?_))
  ·have h2:n≤9999:=h2
   exact qAY _ rfl rfl (qAl (by simp [qGZ,h1,h2]))
  ·have h2:¬ n≤9999:=h2
   exact qAY _ rfl rfl (qAl (by simp [qGZ,h2]))
 ·have h1:¬ (0:Int)≤n:=h1
  exact qAY _ rfl rfl (qAl (by simp [qGZ,h1]))
theorem qHm (r:Rf) (hr:BigR r):Pure cx 118 [r.pv] (·=.ret [.bool (qE8 r)]):=by
 refine qAF Tryz.func118 rfl rfl rfl ?_
 have hN:=qG5 r.name hr.name
 by_cases n1:qBU r.name=true
 rotate_left
 ·rw [Bool.not_eq_true] at n1
  rw [n1] at hN
  refine hN.eq rfl ?_
  exact qAY _ rfl rfl (qAl (by rw [qE8,n1];rfl))
 rw [n1] at hN
 refine hN.eq rfl ?_
 have hP:=qG5 r.plate hr.plate
 have hA:=qDx r.n
 (first | refine qAO (fun h1=>?_) (fun h1=>?_) | refine qAP (fun h1=>?_) (fun h1=>?_) | refine qAQ (fun h1=>?_) (fun h1=>?_))
 ·have h1:r.mode=0:=h1
  (first | refine qAO (fun h2=>?_) (fun h2=>?_) | refine qAP (fun h2=>?_) (fun h2=>?_) | refine qAQ (fun h2=>?_) (fun h2=>?_))
  ·have h2:r.plate=[]:=h2
   (first | refine qAO (fun h3=>?_) (fun h3=>?_) | refine qAP (fun h3=>?_) (fun h3=>?_) | refine qAQ (fun h3=>?_) (fun h3=>?_))
   ·have h3:r.n=0:=h3
    exact qAY _ rfl rfl (qAl (by simp [qE8,n1,h1,h2,h3]))
   ·have h3:¬ r.n=0:=h3
    exact qAY _ rfl rfl (qAl (by simp [qE8,n1,h1,h2,h3]))
  ·have h2:¬ r.plate=[]:=h2
   exact qAY _ rfl rfl (qAl (by simp [qE8,n1,h1,h2]))
 have h1:¬ r.mode=0:=h1
 (first | refine qAO (fun h4=>?_) (fun h4=>?_) | refine qAP (fun h4=>?_) (fun h4=>?_) | refine qAQ (fun h4=>?_) (fun h4=>?_))
 ·have h4:r.mode=3:=h4
  (first | refine qAO (fun h2=>?_) (fun h2=>?_) | refine qAP (fun h2=>?_) (fun h2=>?_) | refine qAQ (fun h2=>?_) (fun h2=>?_))
  ·have h2:r.plate=[]:=h2
   (first | refine qAO (fun h3=>?_) (fun h3=>?_) | refine qAP (fun h3=>?_) (fun h3=>?_) | refine qAQ (fun h3=>?_) (fun h3=>?_))
   ·have h3:r.n=0:=h3
    exact qAY _ rfl rfl (qAl (by simp [qE8,n1,h4,h2,h3]))
   ·have h3:¬ r.n=0:=h3
    exact qAY _ rfl rfl (qAl (by simp [qE8,n1,h4,h2,h3]))
  ·have h2:¬ r.plate=[]:=h2
   exact qAY _ rfl rfl (qAl (by simp [qE8,n1,h4,h2]))
 have h4:¬ r.mode=3:=h4
 (first | refine qAO (fun h5=>?_) (fun h5=>?_) | refine qAP (fun h5=>?_) (fun h5=>?_) | refine qAQ (fun h5=>?_) (fun h5=>?_))
 ·have h5:r.mode=1:=h5
  by_cases n2:qBU r.plate=true
  ·rw [n2] at hP
   refine hP.eq rfl ?_
   refine hA.eq rfl ?_
   exact qAY _ rfl rfl (qAl (by simp [qE8,n1,n2,h5]))
  ·rw [Bool.not_eq_true] at n2
   rw [n2] at hP
   refine hP.eq rfl ?_
   exact qAY _ rfl rfl (qAl (by simp [qE8,n1,n2,h5]))
 have h5:¬ r.mode=1:=h5
 (first | refine qAO (fun h6=>?_) (fun h6=>?_) | refine qAP (fun h6=>?_) (fun h6=>?_) | refine qAQ (fun h6=>?_) (fun h6=>?_))
 ·have h6:r.mode=2:=h6
  (first | refine qAO (fun h2=>?_) (fun h2=>?_) | refine qAP (fun h2=>?_) (fun h2=>?_) | refine qAQ (fun h2=>?_) (fun h2=>?_))
  ·have h2:r.plate=[]:=h2
   refine hA.eq rfl ?_
   exact qAY _ rfl rfl (qAl (by simp [qE8,n1,h6,h2]))
  ·have h2:¬ r.plate=[]:=h2
   exact qAY _ rfl rfl (qAl (by simp [qE8,n1,h6,h2]))
 have h6:¬ r.mode=2:=h6
 exact qAY _ rfl rfl (qAl (by simp [qE8,h1,h4,h5,h6]))
theorem qao (l:List Int) (hl:l.length≤9223372036854775807):Pure cx 213 [ints l] (·=.ret [.bool (qQe l)]):=by
 refine qAF Tryz.func213 rfl rfl rfl ?_
 have hm:(l.map i64).length=l.length:=List.length_map ..
 (first | refine qAO (fun h1=>?_) (fun h1=>?_) | refine qAP (fun h1=>?_) (fun h1=>?_) | refine qAQ (fun h1=>?_) (fun h1=>?_))
 ·have h1:((l.map i64).length:Int)<1:=h1
  rw [hm] at h1
  exact qAY _ rfl rfl (qAl (by rw [qQe,decide_eq_false (by omega)];rfl))
 have h1:¬ ((l.map i64).length:Int)<1:=h1
 rw [hm] at h1
 (first | refine qAO (fun h2=>?_) (fun h2=>?_) | refine qAP (fun h2=>?_) (fun h2=>?_) | refine qAQ (fun h2=>?_) (fun h2=>?_))
 ·have h2:(8:Int)<((l.map i64).length:Nat):=h2
  rw [hm] at h2
  exact qAY _ rfl rfl (qAl (by rw [qQe,decide_eq_false (show ¬ l.length≤8 by omega),Bool.and_false];rfl))
 have h2:¬ (8:Int)<((l.map i64).length:Nat):=h2
 rw [hm] at h2
 have hB0:qQe l=qYj l (l.length - 0) 0:=by rw [qQe,decide_eq_true (show 1≤l.length by omega),decide_eq_true (show l.length≤8 by omega)];rfl
 refine⟨Nat,fun k=>[(0, .p (ints l)),(13, .p (ints l)),(14, .p (i64 l.length)),(15, .p (i64 k))],fun _=>⟨0,[]⟩,fun k=>k≤l.length∧qQe l=qYj l (l.length - k) k,fun k=>l.length - k,?_,?_⟩
 ·exact⟨0,⟨Nat.zero_le _,hB0⟩,qG7 rfl ⟨rfl,rfl,congrArg (fun n:Nat=>i64 n) hm.symm,rfl,trivial⟩ trivial rfl⟩
 rintro k ⟨k1,k2⟩
 (first | refine qAO (fun h3=>?_) (fun h3=>?_) | refine qAP (fun h3=>?_) (fun h3=>?_) | refine qAQ (fun h3=>?_) (fun h3=>?_))
 rotate_left
 ·have h3:¬ (k:Int)<(l.length:Nat):=h3
  rw [show l.length - k=0 by omega,qYj] at k2
  exact qAY _ rfl rfl (qAl k2.symm)
 have h3:(k:Int)<(l.length:Nat):=h3
 have hk:k<l.length:=by omega
 obtain⟨f,hf⟩:∃ f,l.length - k=f+1:=⟨l.length - k - 1,by omega⟩
 rw [hf,qYj] at k2
 refine⟨_,⟨by omega,i64 (l.getD k 0),qJ6 hk,rfl⟩,?_⟩
 have hN:=qDx (l.getD k 0)
 by_cases n1:qGZ (l.getD k 0)=true
 rotate_left
 ·rw [Bool.not_eq_true] at n1
  rw [n1] at hN k2
  refine hN.eq rfl ?_
  exact qAY _ rfl rfl (qAl (by rw [k2];simp))
 rw [n1] at hN k2
 refine hN.eq rfl ?_
 (first | refine qAO (fun h4=>?_) (fun h4=>?_) | refine qAP (fun h4=>?_) (fun h4=>?_) | refine qAQ (fun h4=>?_) (fun h4=>?_))
 ·have h4:(0:Int)<(k:Nat):=h4
  obtain⟨j,rfl⟩:∃ j,k=j+1:=⟨k - 1,by omega⟩
  refine⟨(j:Int),by rw [show((j+1:Nat):Int) - 1=(j:Int) by omega];exact w6z,?_⟩
  refine⟨_,⟨by omega,i64 (l.getD j 0),qJ6 (by omega),rfl⟩,?_⟩
  (first | refine qAO (fun h5=>?_) (fun h5=>?_) | refine qAP (fun h5=>?_) (fun h5=>?_) | refine qAQ (fun h5=>?_) (fun h5=>?_))
  ·have h5:l.getD (j+1) 0≤l.getD j 0:=h5
   exact qAY _ rfl rfl (qAl (by rw [k2,Nat.add_sub_cancel,decide_eq_false (show ¬ l.getD j 0<l.getD (j+1) 0 by omega),decide_eq_false (by omega)];rfl))
  ·have h5:¬ l.getD (j+1) 0≤l.getD j 0:=h5
   refine⟨_,w6z,?_⟩
   exact⟨j+1+1,⟨by omega,by rw [k2,Nat.add_sub_cancel,decide_eq_true (show l.getD j 0<l.getD (j+1) 0 by omega),Bool.or_true,show l.length - (j+1+1)=f by omega];rfl⟩,qG7 rfl ⟨rfl,rfl,rfl,rfl,trivial⟩ trivial rfl,by show l.length - (j+1+1)<l.length - (j+1);omega⟩
 ·have h4:¬ (0:Int)<(k:Nat):=h4
  have hk0:k=0:=by omega
  subst hk0
  refine⟨_,w6z,?_⟩
  exact⟨0+1,⟨by omega,by rw [k2,show l.length - (0+1)=f by omega];rfl⟩,qG7 rfl ⟨rfl,rfl,rfl,rfl,trivial⟩ trivial rfl,by show l.length - (0+1)<l.length - 0;omega⟩
def qCd (n rel val:Int) (r:Rf) (st:List Int):Bool:=decide (n=0) && decide (rel=0) && decide (val=0) && decide (r=rf0) && decide (st=[])
def qAy (op n rel val:Int) (r:Rf) (st:List Int):Bool:=
 if op=1∨op=2∨op=3∨op=4 then qE8 r && qGZ n && decide (rel=0) && decide (val=0) && decide (st=[])
 else if op=5 then qE8 r && decide (n=0) && decide (rel=0) && decide (val=0) && qQe st
 else if op=6 then qE8 r && decide (r.mode=3) && qGZ n && qGZ val && decide (1≤rel) && decide (rel≤4) && decide (st=[]) else false
def qAe (op:Int):Nat:=if op=7 then 1 else if op=8∨op=9 then 2 else 0
def qAd (op n rel val:Int) (r:Rf) (st:List Int) (k:Nat):Bool:=if qAe op=0 then qAy op n rel val r st && decide (k=0) else decide (k=qAe op) && qCd n rel val r st
def qA6:Nat→Cd→Nat→Option Nat
 | 0,_,_=>none
 | d+1, .mk op n rel val r st ar,left=>if left=0 then none else if qAd op n rel val r st ar.length=true then ar.foldlM (fun l c=>qA6 d c l) (left - 1) else none
theorem qSt {f:Nat→Cd→Option Nat} (hf:∀ l c k,f l c=some k→k≤l):∀ (ar:List Cd) (l k:Nat),ar.foldlM f l=some k→k≤l
 | [],l,k,h=>by
  rw [List.foldlM_nil] at h
  injection h with h;omega
 | c::ar,l,k,h=>by
  rw [List.foldlM_cons] at h
  cases hc:f l c with
  | none=>rw [hc] at h;cases h
  | some m=>
   rw [hc] at h
   have:=qSt hf ar m k h
   have:=hf l c m hc
   omega
theorem qB4:∀ (d:Nat) (c:Cd) (left k:Nat),qA6 d c left=some k→k≤left
 | 0,_,_,_,h=>by cases h
 | d+1, .mk op n rel val r st ar,left,k,h=>by
  rw [qA6] at h
  split at h
  ·cases h
  ·split at h
   ·have:=qSt (fun l c k h=>qB4 d c l k h) ar _ k h
    omega
   ·cases h
mutual
def qHF:Cd→Prop
 | .mk _ _ _ _ r st ar=>BigR r∧st.length≤9223372036854775807∧ar.length≤9223372036854775807∧qNj ar
def qNj:List Cd→Prop
 | []=>True
 | c::r=>qHF c∧qNj r
end
theorem qBd:∀ {l:List Cd} {c:Cd},qNj l→c∈l→qHF c
 | [],_,_,h=>by simp at h
 | x::l,c,h,hc=>by
  simp only [qNj] at h
  rcases List.mem_cons.1 hc with rfl | hc
  ·exact h.1
  ·exact qBd h.2 hc
theorem qRp (op n rel val:Int) (r:Rf) (st:List Int) (ar:List Cd) (_hs:st.length≤9223372036854775807):Pure cx 171 [(Cd.mk op n rel val r st ar).pv] (·=.ret [.bool (qCd n rel val r st)]):=by
 refine qAF Tryz.func171 rfl rfl rfl ?_
 (first | refine qAO (fun h1=>?_) (fun h1=>?_) | refine qAP (fun h1=>?_) (fun h1=>?_) | refine qAQ (fun h1=>?_) (fun h1=>?_))
 rotate_left
 ·have h1:¬ n=0:=h1
  exact qAY _ rfl rfl (qAl (by rw [qCd,decide_eq_false h1];rfl))
 have h1:n=0:=h1
 (first | refine qAO (fun h2=>?_) (fun h2=>?_) | refine qAP (fun h2=>?_) (fun h2=>?_) | refine qAQ (fun h2=>?_) (fun h2=>?_))
 rotate_left
 ·have h2:¬ rel=0:=h2
  exact qAY _ rfl rfl (qAl (by rw [qCd,decide_eq_false h2,Bool.and_false];rfl))
 have h2:rel=0:=h2
 (first | refine qAO (fun h3=>?_) (fun h3=>?_) | refine qAP (fun h3=>?_) (fun h3=>?_) | refine qAQ (fun h3=>?_) (fun h3=>?_))
 rotate_left
 ·have h3:¬ val=0:=h3
  exact qAY _ rfl rfl (qAl (by rw [qCd,decide_eq_false h3,Bool.and_false];rfl))
 have h3:val=0:=h3
 refine⟨⟨by kernel_rfl,by kernel_rfl⟩,fun h4=>?_,fun h4=>?_⟩
 rotate_left
 ·have h4:¬ r=rf0:=fun e=>h4 (by rw [e];rfl)
  exact qAY _ rfl rfl (qAl (by rw [qCd,decide_eq_false h4,Bool.and_false];rfl))
 have h4:r=rf0:=by
  have h4:r.cells=rf0.cells:=by first | exact h4 | (injection h4)
  obtain⟨a,b,c,d⟩:=r
  simp only [Rf.cells,rf0,List.cons.injEq,PV.str.injEq,PV.int.injEq,true_and,and_true] at h4
  obtain⟨rfl,rfl,rfl,rfl⟩:=h4
  rfl
 (first | refine qAO (fun h5=>?_) (fun h5=>?_) | refine qAP (fun h5=>?_) (fun h5=>?_) | refine qAQ (fun h5=>?_) (fun h5=>?_))
 ·have h5:((st.map i64).length:Int)=0:=h5
  rw [List.length_map] at h5
  have:st=[]:=List.length_eq_zero_iff.1 (by omega)
  exact qAY _ rfl rfl (qAl (by rw [qCd,decide_eq_true h1,decide_eq_true h2,decide_eq_true h3,decide_eq_true h4,decide_eq_true this];rfl))
 ·have h5:¬ ((st.map i64).length:Int)=0:=h5
  rw [List.length_map] at h5
  exact qAY _ rfl rfl (qAl (by rw [qCd,decide_eq_false (show ¬ st=[] from fun e=>h5 (by rw [e];rfl)),Bool.and_false]))
set_option maxHeartbeats 40000000
def lfO (l:Int):AObj:=⟨qWc,false, .bx [.p (i64 l)]⟩
abbrev lfH (l:Nat):Hp:=⟨1,[(0,lfO l)]⟩
def cvQ (r:Option Nat) (e:AE) (H':Hp):Prop:=match r with
 | some l=>e=.returned (vB true)∧H'=lfH l
 | none=>e=.returned (vB false)∧H'=⟨1,[]⟩
theorem qIS {l:List Cd} {k:Nat} (h:k<l.length):(l.map Cd.cells)[k]?=some (l.getD k cd0).cells:=qDj cd0 h
def qbf (d:Nat):Prop:=∀ (c:Cd) (left p:Nat),qHF c→left≤1000→p+d=9→HoldsG cx 172 [.p c.pv, .p (i64 p), .ptr 0 0 0] (lfH left) (cvQ (qA6 d c left))
theorem qX0 (d:Nat) (ih:qbf d):qbf (d+1):=by
 rintro⟨op,n,rel,val,r,st,ar⟩ left p hb hl hp9
 simp only [qHF] at hb
 obtain⟨hb1,hb2,hb3,hb4⟩:=hb
 have hP:=qRp op n rel val r st ar hb2
 have epv:(Cd.mk op n rel val r st ar).pv=.agg [i64 op,i64 n,i64 rel,i64 val, .str r.name,i64 r.mode, .str r.plate,i64 r.n,ints st,cds ar]:=by
  show PV.agg [i64 op,i64 n,i64 rel,i64 val, .str r.name,i64 r.mode, .str r.plate,i64 r.n,ints st, .lsts 10 (qCk ar)]=_
  rw [qBl]
 rw [epv] at hP ⊢
 generalize hR:qA6 (d+1) (.mk op n rel val r st ar) left=R
 rw [qA6] at hR
 have hRf:=qHm r hb1
 have hNn:=qDx n
 have hNv:=qDx val
 have hS:=qao st hb2
 refine qAA Tryz.func172 rfl rfl rfl ?_
 rcases Nat.eq_zero_or_pos left with h0 | h0
 ·subst h0
  rw [if_pos rfl] at hR
  refine⟨-1,by decide,?_⟩
  refine And.intro (fun _=>?_) (fun h=>absurd (show(-1:Int)<0 by decide) h)
  exact⟨[],[],[], .returned (vB false),⟨1,[]⟩,rfl,sk,trivial,by rw [← hR];exact⟨rfl,rfl⟩⟩
 obtain⟨m,rfl⟩:∃ m,left=m+1:=⟨left - 1,by omega⟩
 rw [if_neg (by omega),Nat.add_sub_cancel] at hR
 have hno:qAd op n rel val r st ar.length=false→R=none:=fun h=>by rw [← hR,if_neg (by rw [h];decide)]
 have hyes:qAd op n rel val r st ar.length=true→ar.foldlM (fun l c=>qA6 d c l) m=R:=fun h=>by rw [← hR,if_pos h]
 clear hR
 refine⟨(m:Int),by rw [show((m+1:Nat):Int) - 1=(m:Int) by omega];exact w6z,?_⟩
 refine And.intro (fun h=>absurd (show(m:Int)<0 from h) (by omega)) (fun _=>?_)
 refine And.intro (fun h=>absurd (show(8:Int)<(p:Nat) from h) (by omega)) (fun _=>?_)
 (first | refine qAO (fun o1=>?_) (fun o1=>?_) | refine qAP (fun o1=>?_) (fun o1=>?_) | refine qAQ (fun o1=>?_) (fun o1=>?_))
 ·have o1:op=1:=o1
  by_cases r1:qE8 r=true
  rotate_left
  ·rw [Bool.not_eq_true] at r1
   rw [r1] at hRf
   refine hRf.eq rfl ?_
   exact⟨[],[],[], .returned (vB false),⟨1,[]⟩,rfl,sk,trivial,by rw [hno (by simp [qAd,qAe,qAy, *])];exact⟨rfl,rfl⟩⟩
  rw [r1] at hRf
  refine hRf.eq rfl ?_
  by_cases r2:qGZ n=true
  rotate_left
  ·rw [Bool.not_eq_true] at r2
   rw [r2] at hNn
   refine hNn.eq rfl ?_
   exact⟨[],[],[], .returned (vB false),⟨1,[]⟩,rfl,sk,trivial,by rw [hno (by simp [qAd,qAe,qAy, *])];exact⟨rfl,rfl⟩⟩
  rw [r2] at hNn
  refine hNn.eq rfl ?_
  refine And.intro (fun r3=>?_) (fun r3=>?_)
  rotate_left
  ·have r3:¬ rel=0:=r3
   exact⟨[],[],[], .returned (vB false),⟨1,[]⟩,rfl,sk,trivial,by rw [hno (by simp [qAd,qAe,qAy, *])];exact⟨rfl,rfl⟩⟩
  have r3:rel=0:=r3
  refine And.intro (fun r4=>?_) (fun r4=>?_)
  rotate_left
  ·have r4:¬ val=0:=r4
   exact⟨[],[],[], .returned (vB false),⟨1,[]⟩,rfl,sk,trivial,by rw [hno (by simp [qAd,qAe,qAy, *])];exact⟨rfl,rfl⟩⟩
  have r4:val=0:=r4
  refine And.intro (fun r5=>?_) (fun r5=>?_)
  rotate_left
  ·have r5:¬ ((st.map i64).length:Int)=0:=r5
   have r5:¬ st=[]:=fun e=>r5 (by rw [e];rfl)
   exact⟨[],[],[], .returned (vB false),⟨1,[]⟩,rfl,sk,trivial,by rw [hno (by simp [qAd,qAe,qAy, *])];exact⟨rfl,rfl⟩⟩
  have r5:((st.map i64).length:Int)=0:=r5
  have r5:st=[]:=by rw [List.length_map] at r5;exact List.length_eq_zero_iff.1 (by omega)
  by_cases hk:ar.length=0
  rotate_left
  ·refine And.intro (fun h=>absurd (show((ar.map Cd.cells).length:Int)=0 from h) (by rw [List.length_map];omega)) (fun _=>?_)
   exact⟨[],[],[], .returned (vB false),⟨1,[]⟩,rfl,sk,trivial,by rw [hno (by simp [qAd,qAe, *])];exact⟨rfl,rfl⟩⟩
  refine And.intro (fun _=>?_) (fun h=>absurd (show((ar.map Cd.cells).length:Int)=0 by rw [List.length_map];omega) h)
  refine And.intro (fun h=>absurd (show(0:Int)<0 from h) (by decide)) (fun _=>?_)
  refine⟨Nat × Nat,fun x=>[(1, .p (i64 p)),(2, .ptr 0 0 0),(143, .p (cds ar)),(144, .p (i64 ar.length)),(145, .p (i64 x.1))],fun x=>lfH x.2,fun x=>x.1≤ar.length∧x.2≤1000∧(ar.drop x.1).foldlM (fun l c=>qA6 d c l) x.2=R,fun x=>ar.length - x.1,?_,?_⟩
  ·exact⟨(0,m),⟨Nat.zero_le _,by simp only [];omega,hyes (by first | (simp [qAd,qAe, *];done) | simp [qAd,qAe,qAy, *])⟩,qAB [] [] [] rfl ⟨rfl,⟨rfl,rfl⟩,rfl,congrArg (fun n:Nat=>i64 n) (List.length_map ..).symm,rfl,trivial⟩ ⟨⟨_,rfl,rfl,rfl,_,rfl,_,_,rfl,congrArg i64 (by omega),rfl⟩,trivial⟩ rfl⟩
  rintro⟨i,l⟩ ⟨i1,i2,i3⟩
  simp only [] at i1 i2 i3
  (first | refine qAO (fun j1=>?_) (fun j1=>?_) | refine qAP (fun j1=>?_) (fun j1=>?_) | refine qAQ (fun j1=>?_) (fun j1=>?_))
  rotate_left
  ·have j1:¬ (i:Int)<(ar.length:Nat):=j1
   rw [List.drop_eq_nil_of_le (by omega),List.foldlM_nil] at i3
   exact⟨[],[],[], .returned (vB true),lfH l,rfl,sk,sk,by rw [← i3];exact⟨rfl,rfl⟩⟩
  have j1:(i:Int)<(ar.length:Nat):=j1
  have hi:i<ar.length:=by omega
  rw [qDJ cd0 hi,List.foldlM_cons] at i3
  have hbx:=qBd hb4 (qAG cd0 hi)
  have hcell:=qIS hi
  rcases hx:ar.getD i cd0 with ⟨o',n',rl',vl',rf',st',ar'⟩
  rw [hx] at i3 hbx hcell
  refine⟨_,⟨by omega,(Cd.mk o' n' rl' vl' rf' st' ar').cells,hcell,rfl⟩,?_⟩
  refine⟨((p+1:Nat):Int),w6z,?_⟩
  have hrec:=ih (.mk o' n' rl' vl' rf' st' ar') l (p+1) hbx (by omega) (by omega)
  rcases hv:qA6 d (.mk o' n' rl' vl' rf' st' ar') l with _ | l2
  ·rw [hv] at hrec i3
   refine hrec.holds.useT [] [] rfl (sk) (sk) fun e0 H0 hq=>?_
   obtain⟨rfl,rfl⟩:=hq
   refine⟨rfl,_,_,rfl,rfl,?_⟩
   exact⟨[],[],[], .returned (vB false),⟨1,[]⟩,rfl,sk,trivial,by rw [← i3];exact⟨rfl,rfl⟩⟩
  ·have hle:=qB4 _ _ _ _ hv
   rw [hv] at hrec i3
   refine hrec.holds.useT [] [] rfl (sk) (sk) fun e0 H0 hq=>?_
   obtain⟨rfl,rfl⟩:=hq
   refine⟨rfl,_,⟨2,[(0,lfO l2),(1,cO ((Cd.mk o' n' rl' vl' rf' st' ar').cells.map .p))]⟩,rfl,rfl,?_⟩
   refine⟨_,w6z,?_⟩
   exact⟨(i+1,l2),⟨by simp only [];omega,by simp only [];omega,i3⟩,qAB [] [] [] rfl (sk) (sk) rfl,by show ar.length - (i+1)<ar.length - i;omega⟩
 have o1:¬ op=1:=o1
 (first | refine qAO (fun o2=>?_) (fun o2=>?_) | refine qAP (fun o2=>?_) (fun o2=>?_) | refine qAQ (fun o2=>?_) (fun o2=>?_))
 ·have o2:op=2:=o2
  by_cases r1:qE8 r=true
  rotate_left
  ·rw [Bool.not_eq_true] at r1
   rw [r1] at hRf
   refine hRf.eq rfl ?_
   exact⟨[],[],[], .returned (vB false),⟨1,[]⟩,rfl,sk,trivial,by rw [hno (by simp [qAd,qAe,qAy, *])];exact⟨rfl,rfl⟩⟩
  rw [r1] at hRf
  refine hRf.eq rfl ?_
  by_cases r2:qGZ n=true
  rotate_left
  ·rw [Bool.not_eq_true] at r2
   rw [r2] at hNn
   refine hNn.eq rfl ?_
   exact⟨[],[],[], .returned (vB false),⟨1,[]⟩,rfl,sk,trivial,by rw [hno (by simp [qAd,qAe,qAy, *])];exact⟨rfl,rfl⟩⟩
  rw [r2] at hNn
  refine hNn.eq rfl ?_
  refine And.intro (fun r3=>?_) (fun r3=>?_)
  rotate_left
  ·have r3:¬ rel=0:=r3
   exact⟨[],[],[], .returned (vB false),⟨1,[]⟩,rfl,sk,trivial,by rw [hno (by simp [qAd,qAe,qAy, *])];exact⟨rfl,rfl⟩⟩
  have r3:rel=0:=r3
  refine And.intro (fun r4=>?_) (fun r4=>?_)
  rotate_left
  ·have r4:¬ val=0:=r4
   exact⟨[],[],[], .returned (vB false),⟨1,[]⟩,rfl,sk,trivial,by rw [hno (by simp [qAd,qAe,qAy, *])];exact⟨rfl,rfl⟩⟩
  have r4:val=0:=r4
  refine And.intro (fun r5=>?_) (fun r5=>?_)
  rotate_left
  ·have r5:¬ ((st.map i64).length:Int)=0:=r5
   have r5:¬ st=[]:=fun e=>r5 (by rw [e];rfl)
   exact⟨[],[],[], .returned (vB false),⟨1,[]⟩,rfl,sk,trivial,by rw [hno (by simp [qAd,qAe,qAy, *])];exact⟨rfl,rfl⟩⟩
  have r5:((st.map i64).length:Int)=0:=r5
  have r5:st=[]:=by rw [List.length_map] at r5;exact List.length_eq_zero_iff.1 (by omega)
  by_cases hk:ar.length=0
  rotate_left
  ·refine And.intro (fun h=>absurd (show((ar.map Cd.cells).length:Int)=0 from h) (by rw [List.length_map];omega)) (fun _=>?_)
   exact⟨[],[],[], .returned (vB false),⟨1,[]⟩,rfl,sk,trivial,by rw [hno (by simp [qAd,qAe, *])];exact⟨rfl,rfl⟩⟩
  refine And.intro (fun _=>?_) (fun h=>absurd (show((ar.map Cd.cells).length:Int)=0 by rw [List.length_map];omega) h)
  refine And.intro (fun h=>absurd (show(0:Int)<0 from h) (by decide)) (fun _=>?_)
  refine⟨Nat × Nat,fun x=>[(1, .p (i64 p)),(2, .ptr 0 0 0),(143, .p (cds ar)),(144, .p (i64 ar.length)),(145, .p (i64 x.1))],fun x=>lfH x.2,fun x=>x.1≤ar.length∧x.2≤1000∧(ar.drop x.1).foldlM (fun l c=>qA6 d c l) x.2=R,fun x=>ar.length - x.1,?_,?_⟩
  ·exact⟨(0,m),⟨Nat.zero_le _,by simp only [];omega,hyes (by first | (simp [qAd,qAe, *];done) | simp [qAd,qAe,qAy, *])⟩,qAB [] [] [] rfl ⟨rfl,⟨rfl,rfl⟩,rfl,congrArg (fun n:Nat=>i64 n) (List.length_map ..).symm,rfl,trivial⟩ ⟨⟨_,rfl,rfl,rfl,_,rfl,_,_,rfl,congrArg i64 (by omega),rfl⟩,trivial⟩ rfl⟩
  rintro⟨i,l⟩ ⟨i1,i2,i3⟩
  simp only [] at i1 i2 i3
  (first | refine qAO (fun j1=>?_) (fun j1=>?_) | refine qAP (fun j1=>?_) (fun j1=>?_) | refine qAQ (fun j1=>?_) (fun j1=>?_))
  rotate_left
  ·have j1:¬ (i:Int)<(ar.length:Nat):=j1
   rw [List.drop_eq_nil_of_le (by omega),List.foldlM_nil] at i3
   exact⟨[],[],[], .returned (vB true),lfH l,rfl,sk,sk,by rw [← i3];exact⟨rfl,rfl⟩⟩
  have j1:(i:Int)<(ar.length:Nat):=j1
  have hi:i<ar.length:=by omega
  rw [qDJ cd0 hi,List.foldlM_cons] at i3
  have hbx:=qBd hb4 (qAG cd0 hi)
  have hcell:=qIS hi
  rcases hx:ar.getD i cd0 with ⟨o',n',rl',vl',rf',st',ar'⟩
  rw [hx] at i3 hbx hcell
  refine⟨_,⟨by omega,(Cd.mk o' n' rl' vl' rf' st' ar').cells,hcell,rfl⟩,?_⟩
  refine⟨((p+1:Nat):Int),w6z,?_⟩
  have hrec:=ih (.mk o' n' rl' vl' rf' st' ar') l (p+1) hbx (by omega) (by omega)
  rcases hv:qA6 d (.mk o' n' rl' vl' rf' st' ar') l with _ | l2
  ·rw [hv] at hrec i3
   refine hrec.holds.useT [] [] rfl (sk) (sk) fun e0 H0 hq=>?_
   obtain⟨rfl,rfl⟩:=hq
   refine⟨rfl,_,_,rfl,rfl,?_⟩
   exact⟨[],[],[], .returned (vB false),⟨1,[]⟩,rfl,sk,trivial,by rw [← i3];exact⟨rfl,rfl⟩⟩
  ·have hle:=qB4 _ _ _ _ hv
   rw [hv] at hrec i3
   refine hrec.holds.useT [] [] rfl (sk) (sk) fun e0 H0 hq=>?_
   obtain⟨rfl,rfl⟩:=hq
   refine⟨rfl,_,⟨2,[(0,lfO l2),(1,cO ((Cd.mk o' n' rl' vl' rf' st' ar').cells.map .p))]⟩,rfl,rfl,?_⟩
   refine⟨_,w6z,?_⟩
   exact⟨(i+1,l2),⟨by simp only [];omega,by simp only [];omega,i3⟩,qAB [] [] [] rfl (sk) (sk) rfl,by show ar.length - (i+1)<ar.length - i;omega⟩
 have o2:¬ op=2:=o2
 (first | refine qAO (fun o3=>?_) (fun o3=>?_) | refine qAP (fun o3=>?_) (fun o3=>?_) | refine qAQ (fun o3=>?_) (fun o3=>?_))
 ·have o3:op=3:=o3
  by_cases r1:qE8 r=true
  rotate_left
  ·rw [Bool.not_eq_true] at r1
   rw [r1] at hRf
   refine hRf.eq rfl ?_
   exact⟨[],[],[], .returned (vB false),⟨1,[]⟩,rfl,sk,trivial,by rw [hno (by simp [qAd,qAe,qAy, *])];exact⟨rfl,rfl⟩⟩
  rw [r1] at hRf
  refine hRf.eq rfl ?_
  by_cases r2:qGZ n=true
  rotate_left
  ·rw [Bool.not_eq_true] at r2
   rw [r2] at hNn
   refine hNn.eq rfl ?_
   exact⟨[],[],[], .returned (vB false),⟨1,[]⟩,rfl,sk,trivial,by rw [hno (by simp [qAd,qAe,qAy, *])];exact⟨rfl,rfl⟩⟩
  rw [r2] at hNn
  refine hNn.eq rfl ?_
  refine And.intro (fun r3=>?_) (fun r3=>?_)
  rotate_left
  ·have r3:¬ rel=0:=r3
   exact⟨[],[],[], .returned (vB false),⟨1,[]⟩,rfl,sk,trivial,by rw [hno (by simp [qAd,qAe,qAy, *])];exact⟨rfl,rfl⟩⟩
  have r3:rel=0:=r3
  refine And.intro (fun r4=>?_) (fun r4=>?_)
  rotate_left
  ·have r4:¬ val=0:=r4
   exact⟨[],[],[], .returned (vB false),⟨1,[]⟩,rfl,sk,trivial,by rw [hno (by simp [qAd,qAe,qAy, *])];exact⟨rfl,rfl⟩⟩
  have r4:val=0:=r4
  refine And.intro (fun r5=>?_) (fun r5=>?_)
  rotate_left
  ·have r5:¬ ((st.map i64).length:Int)=0:=r5
   have r5:¬ st=[]:=fun e=>r5 (by rw [e];rfl)
   exact⟨[],[],[], .returned (vB false),⟨1,[]⟩,rfl,sk,trivial,by rw [hno (by simp [qAd,qAe,qAy, *])];exact⟨rfl,rfl⟩⟩
  have r5:((st.map i64).length:Int)=0:=r5
  have r5:st=[]:=by rw [List.length_map] at r5;exact List.length_eq_zero_iff.1 (by omega)
  by_cases hk:ar.length=0
  rotate_left
  ·refine And.intro (fun h=>absurd (show((ar.map Cd.cells).length:Int)=0 from h) (by rw [List.length_map];omega)) (fun _=>?_)
   exact⟨[],[],[], .returned (vB false),⟨1,[]⟩,rfl,sk,trivial,by rw [hno (by simp [qAd,qAe, *])];exact⟨rfl,rfl⟩⟩
  refine And.intro (fun _=>?_) (fun h=>absurd (show((ar.map Cd.cells).length:Int)=0 by rw [List.length_map];omega) h)
  refine And.intro (fun h=>absurd (show(0:Int)<0 from h) (by decide)) (fun _=>?_)
  refine⟨Nat × Nat,fun x=>[(1, .p (i64 p)),(2, .ptr 0 0 0),(143, .p (cds ar)),(144, .p (i64 ar.length)),(145, .p (i64 x.1))],fun x=>lfH x.2,fun x=>x.1≤ar.length∧x.2≤1000∧(ar.drop x.1).foldlM (fun l c=>qA6 d c l) x.2=R,fun x=>ar.length - x.1,?_,?_⟩
  ·exact⟨(0,m),⟨Nat.zero_le _,by simp only [];omega,hyes (by first | (simp [qAd,qAe, *];done) | simp [qAd,qAe,qAy, *])⟩,qAB [] [] [] rfl ⟨rfl,⟨rfl,rfl⟩,rfl,congrArg (fun n:Nat=>i64 n) (List.length_map ..).symm,rfl,trivial⟩ ⟨⟨_,rfl,rfl,rfl,_,rfl,_,_,rfl,congrArg i64 (by omega),rfl⟩,trivial⟩ rfl⟩
  rintro⟨i,l⟩ ⟨i1,i2,i3⟩
  simp only [] at i1 i2 i3
  (first | refine qAO (fun j1=>?_) (fun j1=>?_) | refine qAP (fun j1=>?_) (fun j1=>?_) | refine qAQ (fun j1=>?_) (fun j1=>?_))
  rotate_left
  ·have j1:¬ (i:Int)<(ar.length:Nat):=j1
   rw [List.drop_eq_nil_of_le (by omega),List.foldlM_nil] at i3
   exact⟨[],[],[], .returned (vB true),lfH l,rfl,sk,sk,by rw [← i3];exact⟨rfl,rfl⟩⟩
  have j1:(i:Int)<(ar.length:Nat):=j1
  have hi:i<ar.length:=by omega
  rw [qDJ cd0 hi,List.foldlM_cons] at i3
  have hbx:=qBd hb4 (qAG cd0 hi)
  have hcell:=qIS hi
  rcases hx:ar.getD i cd0 with ⟨o',n',rl',vl',rf',st',ar'⟩
  rw [hx] at i3 hbx hcell
  refine⟨_,⟨by omega,(Cd.mk o' n' rl' vl' rf' st' ar').cells,hcell,rfl⟩,?_⟩
  refine⟨((p+1:Nat):Int),w6z,?_⟩
  have hrec:=ih (.mk o' n' rl' vl' rf' st' ar') l (p+1) hbx (by omega) (by omega)
  rcases hv:qA6 d (.mk o' n' rl' vl' rf' st' ar') l with _ | l2
  ·rw [hv] at hrec i3
   refine hrec.holds.useT [] [] rfl (sk) (sk) fun e0 H0 hq=>?_
   obtain⟨rfl,rfl⟩:=hq
   refine⟨rfl,_,_,rfl,rfl,?_⟩
   exact⟨[],[],[], .returned (vB false),⟨1,[]⟩,rfl,sk,trivial,by rw [← i3];exact⟨rfl,rfl⟩⟩
  ·have hle:=qB4 _ _ _ _ hv
   rw [hv] at hrec i3
   refine hrec.holds.useT [] [] rfl (sk) (sk) fun e0 H0 hq=>?_
   obtain⟨rfl,rfl⟩:=hq
   refine⟨rfl,_,⟨2,[(0,lfO l2),(1,cO ((Cd.mk o' n' rl' vl' rf' st' ar').cells.map .p))]⟩,rfl,rfl,?_⟩
   refine⟨_,w6z,?_⟩
   exact⟨(i+1,l2),⟨by simp only [];omega,by simp only [];omega,i3⟩,qAB [] [] [] rfl (sk) (sk) rfl,by show ar.length - (i+1)<ar.length - i;omega⟩
 have o3:¬ op=3:=o3
 (first | refine qAO (fun o4=>?_) (fun o4=>?_) | refine qAP (fun o4=>?_) (fun o4=>?_) | refine qAQ (fun o4=>?_) (fun o4=>?_))
 ·have o4:op=4:=o4
  by_cases r1:qE8 r=true
  rotate_left
  ·rw [Bool.not_eq_true] at r1
   rw [r1] at hRf
   refine hRf.eq rfl ?_
   exact⟨[],[],[], .returned (vB false),⟨1,[]⟩,rfl,sk,trivial,by rw [hno (by simp [qAd,qAe,qAy, *])];exact⟨rfl,rfl⟩⟩
  rw [r1] at hRf
  refine hRf.eq rfl ?_
  by_cases r2:qGZ n=true
  rotate_left
  ·rw [Bool.not_eq_true] at r2
   rw [r2] at hNn
   refine hNn.eq rfl ?_
   exact⟨[],[],[], .returned (vB false),⟨1,[]⟩,rfl,sk,trivial,by rw [hno (by simp [qAd,qAe,qAy, *])];exact⟨rfl,rfl⟩⟩
  rw [r2] at hNn
  refine hNn.eq rfl ?_
  refine And.intro (fun r3=>?_) (fun r3=>?_)
  rotate_left
  ·have r3:¬ rel=0:=r3
   exact⟨[],[],[], .returned (vB false),⟨1,[]⟩,rfl,sk,trivial,by rw [hno (by simp [qAd,qAe,qAy, *])];exact⟨rfl,rfl⟩⟩
  have r3:rel=0:=r3
  refine And.intro (fun r4=>?_) (fun r4=>?_)
  rotate_left
  ·have r4:¬ val=0:=r4
   exact⟨[],[],[], .returned (vB false),⟨1,[]⟩,rfl,sk,trivial,by rw [hno (by simp [qAd,qAe,qAy, *])];exact⟨rfl,rfl⟩⟩
  have r4:val=0:=r4
  refine And.intro (fun r5=>?_) (fun r5=>?_)
  rotate_left
  ·have r5:¬ ((st.map i64).length:Int)=0:=r5
   have r5:¬ st=[]:=fun e=>r5 (by rw [e];rfl)
   exact⟨[],[],[], .returned (vB false),⟨1,[]⟩,rfl,sk,trivial,by rw [hno (by simp [qAd,qAe,qAy, *])];exact⟨rfl,rfl⟩⟩
  have r5:((st.map i64).length:Int)=0:=r5
  have r5:st=[]:=by rw [List.length_map] at r5;exact List.length_eq_zero_iff.1 (by omega)
  by_cases hk:ar.length=0
  rotate_left
  ·refine And.intro (fun h=>absurd (show((ar.map Cd.cells).length:Int)=0 from h) (by rw [List.length_map];omega)) (fun _=>?_)
   exact⟨[],[],[], .returned (vB false),⟨1,[]⟩,rfl,sk,trivial,by rw [hno (by simp [qAd,qAe, *])];exact⟨rfl,rfl⟩⟩
  refine And.intro (fun _=>?_) (fun h=>absurd (show((ar.map Cd.cells).length:Int)=0 by rw [List.length_map];omega) h)
  refine And.intro (fun h=>absurd (show(0:Int)<0 from h) (by decide)) (fun _=>?_)
  refine⟨Nat × Nat,fun x=>[(1, .p (i64 p)),(2, .ptr 0 0 0),(143, .p (cds ar)),(144, .p (i64 ar.length)),(145, .p (i64 x.1))],fun x=>lfH x.2,fun x=>x.1≤ar.length∧x.2≤1000∧(ar.drop x.1).foldlM (fun l c=>qA6 d c l) x.2=R,fun x=>ar.length - x.1,?_,?_⟩
  ·exact⟨(0,m),⟨Nat.zero_le _,by simp only [];omega,hyes (by first | (simp [qAd,qAe, *];done) | simp [qAd,qAe,qAy, *])⟩,qAB [] [] [] rfl ⟨rfl,⟨rfl,rfl⟩,rfl,congrArg (fun n:Nat=>i64 n) (List.length_map ..).symm,rfl,trivial⟩ ⟨⟨_,rfl,rfl,rfl,_,rfl,_,_,rfl,congrArg i64 (by omega),rfl⟩,trivial⟩ rfl⟩
  rintro⟨i,l⟩ ⟨i1,i2,i3⟩
  simp only [] at i1 i2 i3
  (first | refine qAO (fun j1=>?_) (fun j1=>?_) | refine qAP (fun j1=>?_) (fun j1=>?_) | refine qAQ (fun j1=>?_) (fun j1=>?_))
  rotate_left
  ·have j1:¬ (i:Int)<(ar.length:Nat):=j1
   rw [List.drop_eq_nil_of_le (by omega),List.foldlM_nil] at i3
   exact⟨[],[],[], .returned (vB true),lfH l,rfl,sk,sk,by rw [← i3];exact⟨rfl,rfl⟩⟩
  have j1:(i:Int)<(ar.length:Nat):=j1
  have hi:i<ar.length:=by omega
  rw [qDJ cd0 hi,List.foldlM_cons] at i3
  have hbx:=qBd hb4 (qAG cd0 hi)
  have hcell:=qIS hi
  rcases hx:ar.getD i cd0 with ⟨o',n',rl',vl',rf',st',ar'⟩
  rw [hx] at i3 hbx hcell
  refine⟨_,⟨by omega,(Cd.mk o' n' rl' vl' rf' st' ar').cells,hcell,rfl⟩,?_⟩
  refine⟨((p+1:Nat):Int),w6z,?_⟩
  have hrec:=ih (.mk o' n' rl' vl' rf' st' ar') l (p+1) hbx (by omega) (by omega)
  rcases hv:qA6 d (.mk o' n' rl' vl' rf' st' ar') l with _ | l2
  ·rw [hv] at hrec i3
   refine hrec.holds.useT [] [] rfl (sk) (sk) fun e0 H0 hq=>?_
   obtain⟨rfl,rfl⟩:=hq
   refine⟨rfl,_,_,rfl,rfl,?_⟩
   exact⟨[],[],[], .returned (vB false),⟨1,[]⟩,rfl,sk,trivial,by rw [← i3];exact⟨rfl,rfl⟩⟩
  ·have hle:=qB4 _ _ _ _ hv
   rw [hv] at hrec i3
   refine hrec.holds.useT [] [] rfl (sk) (sk) fun e0 H0 hq=>?_
   obtain⟨rfl,rfl⟩:=hq
   refine⟨rfl,_,⟨2,[(0,lfO l2),(1,cO ((Cd.mk o' n' rl' vl' rf' st' ar').cells.map .p))]⟩,rfl,rfl,?_⟩
   refine⟨_,w6z,?_⟩
   exact⟨(i+1,l2),⟨by simp only [];omega,by simp only [];omega,i3⟩,qAB [] [] [] rfl (sk) (sk) rfl,by show ar.length - (i+1)<ar.length - i;omega⟩
 have o4:¬ op=4:=o4
 (first | refine qAO (fun o5=>?_) (fun o5=>?_) | refine qAP (fun o5=>?_) (fun o5=>?_) | refine qAQ (fun o5=>?_) (fun o5=>?_))
 ·have o5:op=5:=o5
  by_cases r1:qE8 r=true
  rotate_left
  ·rw [Bool.not_eq_true] at r1
   rw [r1] at hRf
   refine hRf.eq rfl ?_
   exact⟨[],[],[], .returned (vB false),⟨1,[]⟩,rfl,sk,trivial,by rw [hno (by simp [qAd,qAe,qAy, *])];exact⟨rfl,rfl⟩⟩
  rw [r1] at hRf
  refine hRf.eq rfl ?_
  refine And.intro (fun r2=>?_) (fun r2=>?_)
  rotate_left
  ·have r2:¬ n=0:=r2
   exact⟨[],[],[], .returned (vB false),⟨1,[]⟩,rfl,sk,trivial,by rw [hno (by simp [qAd,qAe,qAy, *])];exact⟨rfl,rfl⟩⟩
  have r2:n=0:=r2
  refine And.intro (fun r3=>?_) (fun r3=>?_)
  rotate_left
  ·have r3:¬ rel=0:=r3
   exact⟨[],[],[], .returned (vB false),⟨1,[]⟩,rfl,sk,trivial,by rw [hno (by simp [qAd,qAe,qAy, *])];exact⟨rfl,rfl⟩⟩
  have r3:rel=0:=r3
  refine And.intro (fun r4=>?_) (fun r4=>?_)
  rotate_left
  ·have r4:¬ val=0:=r4
   exact⟨[],[],[], .returned (vB false),⟨1,[]⟩,rfl,sk,trivial,by rw [hno (by simp [qAd,qAe,qAy, *])];exact⟨rfl,rfl⟩⟩
  have r4:val=0:=r4
  by_cases r5:qQe st=true
  rotate_left
  ·rw [Bool.not_eq_true] at r5
   rw [r5] at hS
   refine hS.eq rfl ?_
   exact⟨[],[],[], .returned (vB false),⟨1,[]⟩,rfl,sk,trivial,by rw [hno (by simp [qAd,qAe,qAy, *])];exact⟨rfl,rfl⟩⟩
  rw [r5] at hS
  refine hS.eq rfl ?_
  by_cases hk:ar.length=0
  rotate_left
  ·refine And.intro (fun h=>absurd (show((ar.map Cd.cells).length:Int)=0 from h) (by rw [List.length_map];omega)) (fun _=>?_)
   exact⟨[],[],[], .returned (vB false),⟨1,[]⟩,rfl,sk,trivial,by rw [hno (by simp [qAd,qAe, *])];exact⟨rfl,rfl⟩⟩
  refine And.intro (fun _=>?_) (fun h=>absurd (show((ar.map Cd.cells).length:Int)=0 by rw [List.length_map];omega) h)
  refine And.intro (fun h=>absurd (show(0:Int)<0 from h) (by decide)) (fun _=>?_)
  refine⟨Nat × Nat,fun x=>[(1, .p (i64 p)),(2, .ptr 0 0 0),(143, .p (cds ar)),(144, .p (i64 ar.length)),(145, .p (i64 x.1))],fun x=>lfH x.2,fun x=>x.1≤ar.length∧x.2≤1000∧(ar.drop x.1).foldlM (fun l c=>qA6 d c l) x.2=R,fun x=>ar.length - x.1,?_,?_⟩
  ·exact⟨(0,m),⟨Nat.zero_le _,by simp only [];omega,hyes (by first | (simp [qAd,qAe, *];done) | simp [qAd,qAe,qAy, *])⟩,qAB [] [] [] rfl ⟨rfl,⟨rfl,rfl⟩,rfl,congrArg (fun n:Nat=>i64 n) (List.length_map ..).symm,rfl,trivial⟩ ⟨⟨_,rfl,rfl,rfl,_,rfl,_,_,rfl,congrArg i64 (by omega),rfl⟩,trivial⟩ rfl⟩
  rintro⟨i,l⟩ ⟨i1,i2,i3⟩
  simp only [] at i1 i2 i3
  (first | refine qAO (fun j1=>?_) (fun j1=>?_) | refine qAP (fun j1=>?_) (fun j1=>?_) | refine qAQ (fun j1=>?_) (fun j1=>?_))
  rotate_left
  ·have j1:¬ (i:Int)<(ar.length:Nat):=j1
   rw [List.drop_eq_nil_of_le (by omega),List.foldlM_nil] at i3
   exact⟨[],[],[], .returned (vB true),lfH l,rfl,sk,sk,by rw [← i3];exact⟨rfl,rfl⟩⟩
  have j1:(i:Int)<(ar.length:Nat):=j1
  have hi:i<ar.length:=by omega
  rw [qDJ cd0 hi,List.foldlM_cons] at i3
  have hbx:=qBd hb4 (qAG cd0 hi)
  have hcell:=qIS hi
  rcases hx:ar.getD i cd0 with ⟨o',n',rl',vl',rf',st',ar'⟩
  rw [hx] at i3 hbx hcell
  refine⟨_,⟨by omega,(Cd.mk o' n' rl' vl' rf' st' ar').cells,hcell,rfl⟩,?_⟩
  refine⟨((p+1:Nat):Int),w6z,?_⟩
  have hrec:=ih (.mk o' n' rl' vl' rf' st' ar') l (p+1) hbx (by omega) (by omega)
  rcases hv:qA6 d (.mk o' n' rl' vl' rf' st' ar') l with _ | l2
  ·rw [hv] at hrec i3
   refine hrec.holds.useT [] [] rfl (sk) (sk) fun e0 H0 hq=>?_
   obtain⟨rfl,rfl⟩:=hq
   refine⟨rfl,_,_,rfl,rfl,?_⟩
   exact⟨[],[],[], .returned (vB false),⟨1,[]⟩,rfl,sk,trivial,by rw [← i3];exact⟨rfl,rfl⟩⟩
  ·have hle:=qB4 _ _ _ _ hv
   rw [hv] at hrec i3
   refine hrec.holds.useT [] [] rfl (sk) (sk) fun e0 H0 hq=>?_
   obtain⟨rfl,rfl⟩:=hq
   refine⟨rfl,_,⟨2,[(0,lfO l2),(1,cO ((Cd.mk o' n' rl' vl' rf' st' ar').cells.map .p))]⟩,rfl,rfl,?_⟩
   refine⟨_,w6z,?_⟩
   exact⟨(i+1,l2),⟨by simp only [];omega,by simp only [];omega,i3⟩,qAB [] [] [] rfl (sk) (sk) rfl,by show ar.length - (i+1)<ar.length - i;omega⟩
 have o5:¬ op=5:=o5
 (first | refine qAO (fun o6=>?_) (fun o6=>?_) | refine qAP (fun o6=>?_) (fun o6=>?_) | refine qAQ (fun o6=>?_) (fun o6=>?_))
 ·have o6:op=6:=o6
  by_cases r1:qE8 r=true
  rotate_left
  ·rw [Bool.not_eq_true] at r1
   rw [r1] at hRf
   refine hRf.eq rfl ?_
   exact⟨[],[],[], .returned (vB false),⟨1,[]⟩,rfl,sk,trivial,by rw [hno (by simp [qAd,qAe,qAy, *])];exact⟨rfl,rfl⟩⟩
  rw [r1] at hRf
  refine hRf.eq rfl ?_
  refine And.intro (fun r2=>?_) (fun r2=>?_)
  rotate_left
  ·have r2:¬ r.mode=3:=r2
   exact⟨[],[],[], .returned (vB false),⟨1,[]⟩,rfl,sk,trivial,by rw [hno (by simp [qAd,qAe,qAy, *])];exact⟨rfl,rfl⟩⟩
  have r2:r.mode=3:=r2
  by_cases r3:qGZ n=true
  rotate_left
  ·rw [Bool.not_eq_true] at r3
   rw [r3] at hNn
   refine hNn.eq rfl ?_
   exact⟨[],[],[], .returned (vB false),⟨1,[]⟩,rfl,sk,trivial,by rw [hno (by simp [qAd,qAe,qAy, *])];exact⟨rfl,rfl⟩⟩
  rw [r3] at hNn
  refine hNn.eq rfl ?_
  by_cases r4:qGZ val=true
  rotate_left
  ·rw [Bool.not_eq_true] at r4
   rw [r4] at hNv
   refine hNv.eq rfl ?_
   exact⟨[],[],[], .returned (vB false),⟨1,[]⟩,rfl,sk,trivial,by rw [hno (by simp [qAd,qAe,qAy, *])];exact⟨rfl,rfl⟩⟩
  rw [r4] at hNv
  refine hNv.eq rfl ?_
  refine And.intro (fun r5=>?_) (fun r5=>?_)
  ·have r5:rel<1:=r5
   have r5:¬ 1≤rel:=by omega
   exact⟨[],[],[], .returned (vB false),⟨1,[]⟩,rfl,sk,trivial,by rw [hno (by simp [qAd,qAe,qAy, *])];exact⟨rfl,rfl⟩⟩
  have r5:¬ rel<1:=r5
  have r5:1≤rel:=by omega
  refine And.intro (fun r6=>?_) (fun r6=>?_)
  ·have r6:(4:Int)<rel:=r6
   have r6:¬ rel≤4:=by omega
   exact⟨[],[],[], .returned (vB false),⟨1,[]⟩,rfl,sk,trivial,by rw [hno (by simp [qAd,qAe,qAy, *])];exact⟨rfl,rfl⟩⟩
  have r6:¬ (4:Int)<rel:=r6
  have r6:rel≤4:=by omega
  refine And.intro (fun r9=>?_) (fun r9=>?_)
  rotate_left
  ·have r9:¬ ((st.map i64).length:Int)=0:=r9
   have r9:¬ st=[]:=fun e=>r9 (by rw [e];rfl)
   exact⟨[],[],[], .returned (vB false),⟨1,[]⟩,rfl,sk,trivial,by rw [hno (by simp [qAd,qAe,qAy, *])];exact⟨rfl,rfl⟩⟩
  have r9:((st.map i64).length:Int)=0:=r9
  have r9:st=[]:=by rw [List.length_map] at r9;exact List.length_eq_zero_iff.1 (by omega)
  by_cases hk:ar.length=0
  rotate_left
  ·refine And.intro (fun h=>absurd (show((ar.map Cd.cells).length:Int)=0 from h) (by rw [List.length_map];omega)) (fun _=>?_)
   exact⟨[],[],[], .returned (vB false),⟨1,[]⟩,rfl,sk,trivial,by rw [hno (by simp [qAd,qAe, *])];exact⟨rfl,rfl⟩⟩
  refine And.intro (fun _=>?_) (fun h=>absurd (show((ar.map Cd.cells).length:Int)=0 by rw [List.length_map];omega) h)
  refine And.intro (fun h=>absurd (show(0:Int)<0 from h) (by decide)) (fun _=>?_)
  refine⟨Nat × Nat,fun x=>[(1, .p (i64 p)),(2, .ptr 0 0 0),(143, .p (cds ar)),(144, .p (i64 ar.length)),(145, .p (i64 x.1))],fun x=>lfH x.2,fun x=>x.1≤ar.length∧x.2≤1000∧(ar.drop x.1).foldlM (fun l c=>qA6 d c l) x.2=R,fun x=>ar.length - x.1,?_,?_⟩
  ·exact⟨(0,m),⟨Nat.zero_le _,by simp only [];omega,hyes (by first | (simp [qAd,qAe, *];done) | simp [qAd,qAe,qAy, *])⟩,qAB [] [] [] rfl ⟨rfl,⟨rfl,rfl⟩,rfl,congrArg (fun n:Nat=>i64 n) (List.length_map ..).symm,rfl,trivial⟩ ⟨⟨_,rfl,rfl,rfl,_,rfl,_,_,rfl,congrArg i64 (by omega),rfl⟩,trivial⟩ rfl⟩
  rintro⟨i,l⟩ ⟨i1,i2,i3⟩
  simp only [] at i1 i2 i3
  (first | refine qAO (fun j1=>?_) (fun j1=>?_) | refine qAP (fun j1=>?_) (fun j1=>?_) | refine qAQ (fun j1=>?_) (fun j1=>?_))
  rotate_left
  ·have j1:¬ (i:Int)<(ar.length:Nat):=j1
   rw [List.drop_eq_nil_of_le (by omega),List.foldlM_nil] at i3
   exact⟨[],[],[], .returned (vB true),lfH l,rfl,sk,sk,by rw [← i3];exact⟨rfl,rfl⟩⟩
  have j1:(i:Int)<(ar.length:Nat):=j1
  have hi:i<ar.length:=by omega
  rw [qDJ cd0 hi,List.foldlM_cons] at i3
  have hbx:=qBd hb4 (qAG cd0 hi)
  have hcell:=qIS hi
  rcases hx:ar.getD i cd0 with ⟨o',n',rl',vl',rf',st',ar'⟩
  rw [hx] at i3 hbx hcell
  refine⟨_,⟨by omega,(Cd.mk o' n' rl' vl' rf' st' ar').cells,hcell,rfl⟩,?_⟩
  refine⟨((p+1:Nat):Int),w6z,?_⟩
  have hrec:=ih (.mk o' n' rl' vl' rf' st' ar') l (p+1) hbx (by omega) (by omega)
  rcases hv:qA6 d (.mk o' n' rl' vl' rf' st' ar') l with _ | l2
  ·rw [hv] at hrec i3
   refine hrec.holds.useT [] [] rfl (sk) (sk) fun e0 H0 hq=>?_
   obtain⟨rfl,rfl⟩:=hq
   refine⟨rfl,_,_,rfl,rfl,?_⟩
   exact⟨[],[],[], .returned (vB false),⟨1,[]⟩,rfl,sk,trivial,by rw [← i3];exact⟨rfl,rfl⟩⟩
  ·have hle:=qB4 _ _ _ _ hv
   rw [hv] at hrec i3
   refine hrec.holds.useT [] [] rfl (sk) (sk) fun e0 H0 hq=>?_
   obtain⟨rfl,rfl⟩:=hq
   refine⟨rfl,_,⟨2,[(0,lfO l2),(1,cO ((Cd.mk o' n' rl' vl' rf' st' ar').cells.map .p))]⟩,rfl,rfl,?_⟩
   refine⟨_,w6z,?_⟩
   exact⟨(i+1,l2),⟨by simp only [];omega,by simp only [];omega,i3⟩,qAB [] [] [] rfl (sk) (sk) rfl,by show ar.length - (i+1)<ar.length - i;omega⟩
 have o6:¬ op=6:=o6
 (first | refine qAO (fun o7=>?_) (fun o7=>?_) | refine qAP (fun o7=>?_) (fun o7=>?_) | refine qAQ (fun o7=>?_) (fun o7=>?_))
 ·have o7:op=7:=o7
  by_cases hk:ar.length=1
  rotate_left
  ·refine And.intro (fun h=>absurd (show((ar.map Cd.cells).length:Int)=1 from h) (by rw [List.length_map];omega)) (fun _=>?_)
   exact⟨[],[],[], .returned (vB false),⟨1,[]⟩,rfl,sk,trivial,by rw [hno (by simp [qAd,qAe, *])];exact⟨rfl,rfl⟩⟩
  refine And.intro (fun _=>?_) (fun h=>absurd (show((ar.map Cd.cells).length:Int)=1 by rw [List.length_map];omega) h)
  refine And.intro (fun _=>?_) (fun h=>absurd (show(0:Int)<1 by decide) h)
  by_cases hp:qCd n rel val r st=true
  rotate_left
  ·rw [Bool.not_eq_true] at hp
   rw [hp] at hP
   refine hP.eq rfl ?_
   exact⟨[],[],[], .returned (vB false),⟨1,[]⟩,rfl,sk,trivial,by rw [hno (by simp [qAd,qAe, *])];exact⟨rfl,rfl⟩⟩
  rw [hp] at hP
  refine hP.eq rfl ?_
  refine⟨Nat × Nat,fun x=>[(1, .p (i64 p)),(2, .ptr 0 0 0),(143, .p (cds ar)),(144, .p (i64 ar.length)),(145, .p (i64 x.1))],fun x=>lfH x.2,fun x=>x.1≤ar.length∧x.2≤1000∧(ar.drop x.1).foldlM (fun l c=>qA6 d c l) x.2=R,fun x=>ar.length - x.1,?_,?_⟩
  ·exact⟨(0,m),⟨Nat.zero_le _,by simp only [];omega,hyes (by first | (simp [qAd,qAe, *];done) | simp [qAd,qAe,qAy, *])⟩,qAB [] [] [] rfl ⟨rfl,⟨rfl,rfl⟩,rfl,congrArg (fun n:Nat=>i64 n) (List.length_map ..).symm,rfl,trivial⟩ ⟨⟨_,rfl,rfl,rfl,_,rfl,_,_,rfl,congrArg i64 (by omega),rfl⟩,trivial⟩ rfl⟩
  rintro⟨i,l⟩ ⟨i1,i2,i3⟩
  simp only [] at i1 i2 i3
  (first | refine qAO (fun j1=>?_) (fun j1=>?_) | refine qAP (fun j1=>?_) (fun j1=>?_) | refine qAQ (fun j1=>?_) (fun j1=>?_))
  rotate_left
  ·have j1:¬ (i:Int)<(ar.length:Nat):=j1
   rw [List.drop_eq_nil_of_le (by omega),List.foldlM_nil] at i3
   exact⟨[],[],[], .returned (vB true),lfH l,rfl,sk,sk,by rw [← i3];exact⟨rfl,rfl⟩⟩
  have j1:(i:Int)<(ar.length:Nat):=j1
  have hi:i<ar.length:=by omega
  rw [qDJ cd0 hi,List.foldlM_cons] at i3
  have hbx:=qBd hb4 (qAG cd0 hi)
  have hcell:=qIS hi
  rcases hx:ar.getD i cd0 with ⟨o',n',rl',vl',rf',st',ar'⟩
  rw [hx] at i3 hbx hcell
  refine⟨_,⟨by omega,(Cd.mk o' n' rl' vl' rf' st' ar').cells,hcell,rfl⟩,?_⟩
  refine⟨((p+1:Nat):Int),w6z,?_⟩
  have hrec:=ih (.mk o' n' rl' vl' rf' st' ar') l (p+1) hbx (by omega) (by omega)
  rcases hv:qA6 d (.mk o' n' rl' vl' rf' st' ar') l with _ | l2
  ·rw [hv] at hrec i3
   refine hrec.holds.useT [] [] rfl (sk) (sk) fun e0 H0 hq=>?_
   obtain⟨rfl,rfl⟩:=hq
   refine⟨rfl,_,_,rfl,rfl,?_⟩
   exact⟨[],[],[], .returned (vB false),⟨1,[]⟩,rfl,sk,trivial,by rw [← i3];exact⟨rfl,rfl⟩⟩
  ·have hle:=qB4 _ _ _ _ hv
   rw [hv] at hrec i3
   refine hrec.holds.useT [] [] rfl (sk) (sk) fun e0 H0 hq=>?_
   obtain⟨rfl,rfl⟩:=hq
   refine⟨rfl,_,⟨2,[(0,lfO l2),(1,cO ((Cd.mk o' n' rl' vl' rf' st' ar').cells.map .p))]⟩,rfl,rfl,?_⟩
   refine⟨_,w6z,?_⟩
   exact⟨(i+1,l2),⟨by simp only [];omega,by simp only [];omega,i3⟩,qAB [] [] [] rfl (sk) (sk) rfl,by show ar.length - (i+1)<ar.length - i;omega⟩
 have o7:¬ op=7:=o7
 (first | refine qAO (fun o8=>?_) (fun o8=>?_) | refine qAP (fun o8=>?_) (fun o8=>?_) | refine qAQ (fun o8=>?_) (fun o8=>?_))
 ·have o8:op=8:=o8
  by_cases hk:ar.length=2
  rotate_left
  ·refine And.intro (fun h=>absurd (show((ar.map Cd.cells).length:Int)=2 from h) (by rw [List.length_map];omega)) (fun _=>?_)
   exact⟨[],[],[], .returned (vB false),⟨1,[]⟩,rfl,sk,trivial,by rw [hno (by simp [qAd,qAe, *])];exact⟨rfl,rfl⟩⟩
  refine And.intro (fun _=>?_) (fun h=>absurd (show((ar.map Cd.cells).length:Int)=2 by rw [List.length_map];omega) h)
  refine And.intro (fun _=>?_) (fun h=>absurd (show(0:Int)<2 by decide) h)
  by_cases hp:qCd n rel val r st=true
  rotate_left
  ·rw [Bool.not_eq_true] at hp
   rw [hp] at hP
   refine hP.eq rfl ?_
   exact⟨[],[],[], .returned (vB false),⟨1,[]⟩,rfl,sk,trivial,by rw [hno (by simp [qAd,qAe, *])];exact⟨rfl,rfl⟩⟩
  rw [hp] at hP
  refine hP.eq rfl ?_
  refine⟨Nat × Nat,fun x=>[(1, .p (i64 p)),(2, .ptr 0 0 0),(143, .p (cds ar)),(144, .p (i64 ar.length)),(145, .p (i64 x.1))],fun x=>lfH x.2,fun x=>x.1≤ar.length∧x.2≤1000∧(ar.drop x.1).foldlM (fun l c=>qA6 d c l) x.2=R,fun x=>ar.length - x.1,?_,?_⟩
  ·exact⟨(0,m),⟨Nat.zero_le _,by simp only [];omega,hyes (by first | (simp [qAd,qAe, *];done) | simp [qAd,qAe,qAy, *])⟩,qAB [] [] [] rfl ⟨rfl,⟨rfl,rfl⟩,rfl,congrArg (fun n:Nat=>i64 n) (List.length_map ..).symm,rfl,trivial⟩ ⟨⟨_,rfl,rfl,rfl,_,rfl,_,_,rfl,congrArg i64 (by omega),rfl⟩,trivial⟩ rfl⟩
  rintro⟨i,l⟩ ⟨i1,i2,i3⟩
  simp only [] at i1 i2 i3
  (first | refine qAO (fun j1=>?_) (fun j1=>?_) | refine qAP (fun j1=>?_) (fun j1=>?_) | refine qAQ (fun j1=>?_) (fun j1=>?_))
  rotate_left
  ·have j1:¬ (i:Int)<(ar.length:Nat):=j1
   rw [List.drop_eq_nil_of_le (by omega),List.foldlM_nil] at i3
   exact⟨[],[],[], .returned (vB true),lfH l,rfl,sk,sk,by rw [← i3];exact⟨rfl,rfl⟩⟩
  have j1:(i:Int)<(ar.length:Nat):=j1
  have hi:i<ar.length:=by omega
  rw [qDJ cd0 hi,List.foldlM_cons] at i3
  have hbx:=qBd hb4 (qAG cd0 hi)
  have hcell:=qIS hi
  rcases hx:ar.getD i cd0 with ⟨o',n',rl',vl',rf',st',ar'⟩
  rw [hx] at i3 hbx hcell
  refine⟨_,⟨by omega,(Cd.mk o' n' rl' vl' rf' st' ar').cells,hcell,rfl⟩,?_⟩
  refine⟨((p+1:Nat):Int),w6z,?_⟩
  have hrec:=ih (.mk o' n' rl' vl' rf' st' ar') l (p+1) hbx (by omega) (by omega)
  rcases hv:qA6 d (.mk o' n' rl' vl' rf' st' ar') l with _ | l2
  ·rw [hv] at hrec i3
   refine hrec.holds.useT [] [] rfl (sk) (sk) fun e0 H0 hq=>?_
   obtain⟨rfl,rfl⟩:=hq
   refine⟨rfl,_,_,rfl,rfl,?_⟩
   exact⟨[],[],[], .returned (vB false),⟨1,[]⟩,rfl,sk,trivial,by rw [← i3];exact⟨rfl,rfl⟩⟩
  ·have hle:=qB4 _ _ _ _ hv
   rw [hv] at hrec i3
   refine hrec.holds.useT [] [] rfl (sk) (sk) fun e0 H0 hq=>?_
   obtain⟨rfl,rfl⟩:=hq
   refine⟨rfl,_,⟨2,[(0,lfO l2),(1,cO ((Cd.mk o' n' rl' vl' rf' st' ar').cells.map .p))]⟩,rfl,rfl,?_⟩
   refine⟨_,w6z,?_⟩
   exact⟨(i+1,l2),⟨by simp only [];omega,by simp only [];omega,i3⟩,qAB [] [] [] rfl (sk) (sk) rfl,by show ar.length - (i+1)<ar.length - i;omega⟩
 have o8:¬ op=8:=o8
 (first | refine qAO (fun o9=>?_) (fun o9=>?_) | refine qAP (fun o9=>?_) (fun o9=>?_) | refine qAQ (fun o9=>?_) (fun o9=>?_))
 ·have o9:op=9:=o9
  by_cases hk:ar.length=2
  rotate_left
  ·refine And.intro (fun h=>absurd (show((ar.map Cd.cells).length:Int)=2 from h) (by rw [List.length_map];omega)) (fun _=>?_)
   exact⟨[],[],[], .returned (vB false),⟨1,[]⟩,rfl,sk,trivial,by rw [hno (by simp [qAd,qAe, *])];exact⟨rfl,rfl⟩⟩
  refine And.intro (fun _=>?_) (fun h=>absurd (show((ar.map Cd.cells).length:Int)=2 by rw [List.length_map];omega) h)
  refine And.intro (fun _=>?_) (fun h=>absurd (show(0:Int)<2 by decide) h)
  by_cases hp:qCd n rel val r st=true
  rotate_left
  ·rw [Bool.not_eq_true] at hp
   rw [hp] at hP
   refine hP.eq rfl ?_
   exact⟨[],[],[], .returned (vB false),⟨1,[]⟩,rfl,sk,trivial,by rw [hno (by simp [qAd,qAe, *])];exact⟨rfl,rfl⟩⟩
  rw [hp] at hP
  refine hP.eq rfl ?_
  refine⟨Nat × Nat,fun x=>[(1, .p (i64 p)),(2, .ptr 0 0 0),(143, .p (cds ar)),(144, .p (i64 ar.length)),(145, .p (i64 x.1))],fun x=>lfH x.2,fun x=>x.1≤ar.length∧x.2≤1000∧(ar.drop x.1).foldlM (fun l c=>qA6 d c l) x.2=R,fun x=>ar.length - x.1,?_,?_⟩
  ·exact⟨(0,m),⟨Nat.zero_le _,by simp only [];omega,hyes (by first | (simp [qAd,qAe, *];done) | simp [qAd,qAe,qAy, *])⟩,qAB [] [] [] rfl ⟨rfl,⟨rfl,rfl⟩,rfl,congrArg (fun n:Nat=>i64 n) (List.length_map ..).symm,rfl,trivial⟩ ⟨⟨_,rfl,rfl,rfl,_,rfl,_,_,rfl,congrArg i64 (by omega),rfl⟩,trivial⟩ rfl⟩
  rintro⟨i,l⟩ ⟨i1,i2,i3⟩
  simp only [] at i1 i2 i3
  (first | refine qAO (fun j1=>?_) (fun j1=>?_) | refine qAP (fun j1=>?_) (fun j1=>?_) | refine qAQ (fun j1=>?_) (fun j1=>?_))
  rotate_left
  ·have j1:¬ (i:Int)<(ar.length:Nat):=j1
   rw [List.drop_eq_nil_of_le (by omega),List.foldlM_nil] at i3
   exact⟨[],[],[], .returned (vB true),lfH l,rfl,sk,sk,by rw [← i3];exact⟨rfl,rfl⟩⟩
  have j1:(i:Int)<(ar.length:Nat):=j1
  have hi:i<ar.length:=by omega
  rw [qDJ cd0 hi,List.foldlM_cons] at i3
  have hbx:=qBd hb4 (qAG cd0 hi)
  have hcell:=qIS hi
  rcases hx:ar.getD i cd0 with ⟨o',n',rl',vl',rf',st',ar'⟩
  rw [hx] at i3 hbx hcell
  refine⟨_,⟨by omega,(Cd.mk o' n' rl' vl' rf' st' ar').cells,hcell,rfl⟩,?_⟩
  refine⟨((p+1:Nat):Int),w6z,?_⟩
  have hrec:=ih (.mk o' n' rl' vl' rf' st' ar') l (p+1) hbx (by omega) (by omega)
  rcases hv:qA6 d (.mk o' n' rl' vl' rf' st' ar') l with _ | l2
  ·rw [hv] at hrec i3
   refine hrec.holds.useT [] [] rfl (sk) (sk) fun e0 H0 hq=>?_
   obtain⟨rfl,rfl⟩:=hq
   refine⟨rfl,_,_,rfl,rfl,?_⟩
   exact⟨[],[],[], .returned (vB false),⟨1,[]⟩,rfl,sk,trivial,by rw [← i3];exact⟨rfl,rfl⟩⟩
  ·have hle:=qB4 _ _ _ _ hv
   rw [hv] at hrec i3
   refine hrec.holds.useT [] [] rfl (sk) (sk) fun e0 H0 hq=>?_
   obtain⟨rfl,rfl⟩:=hq
   refine⟨rfl,_,⟨2,[(0,lfO l2),(1,cO ((Cd.mk o' n' rl' vl' rf' st' ar').cells.map .p))]⟩,rfl,rfl,?_⟩
   refine⟨_,w6z,?_⟩
   exact⟨(i+1,l2),⟨by simp only [];omega,by simp only [];omega,i3⟩,qAB [] [] [] rfl (sk) (sk) rfl,by show ar.length - (i+1)<ar.length - i;omega⟩
 have o9:¬ op=9:=o9
 exact⟨[],[],[], .returned (vB false),⟨1,[]⟩,rfl,sk,trivial,by rw [hno (by simp [qAd,qAe,qAy, *])];exact⟨rfl,rfl⟩⟩
theorem qLi:∀ d,d≤8→qbf d
 | 0,_=>by
  rintro⟨op,n,rel,val,r,st,ar⟩ left p hb hl hp9
  generalize hR:qA6 0 (.mk op n rel val r st ar) left=R
  rw [qA6] at hR
  refine qAA Tryz.func172 rfl rfl rfl ?_
  refine⟨(left:Int) - 1,w6z,?_⟩
  (first | refine qAO (fun h1=>?_) (fun h1=>?_) | refine qAP (fun h1=>?_) (fun h1=>?_) | refine qAQ (fun h1=>?_) (fun h1=>?_))
  ·exact⟨[],[],[], .returned (vB false),⟨1,[]⟩,rfl,sk,trivial,by rw [← hR];exact⟨rfl,rfl⟩⟩
  ·refine And.intro (fun _=>?_) (fun h=>absurd (show(8:Int)<(p:Nat) by omega) h)
   exact⟨[],[],[], .returned (vB false),⟨1,[]⟩,rfl,sk,trivial,by rw [← hR];exact⟨rfl,rfl⟩⟩
 | d+1,h=>qX0 d (qLi d (by omega))
set_option maxHeartbeats 4000000
def qTu (n:Int):Bool:=decide (-9999≤n) && decide (n≤9999)
def qEo (l:List Int):Bool:=decide (1≤l.length) && decide (l.length≤8) && l.all qTu
def qFa:Cd→Bool
 | .mk op n rel val r st ar=>decide (op=0) && qCd n rel val r st && decide (ar.length=0)
def qBw:List Cs→Bool
 | []=>true
 | [c]=>qEo c.nums && qFa c.cond
 | c::d::r=>qEo c.nums && (qA6 8 c.cond 30).isSome && qBw (d::r)
def casesB (l:List Cs):Bool:=decide (1≤l.length) && decide (l.length≤12) && qBw l
structure BigL (l:List Cs):Prop where
 len:l.length≤9223372036854775807
 cond:∀ c∈l,qHF c.cond
 nums:∀ c∈l,c.nums.length≤9223372036854775807
def cs0:Cs:=⟨cd0,[]⟩
theorem qRX {l:List Cs} {k:Nat} (h:k<l.length):(l.map Cs.cells)[k]?=some (l.getD k cs0).cells:=qDj cs0 h
theorem qNR {l:List Cs} {i:Nat} (h:i+1<l.length):qBw (l.drop i)=(qEo (l.getD i cs0).nums && (qA6 8 (l.getD i cs0).cond 30).isSome && qBw (l.drop (i+1))):=by
 rw [qDJ cs0 (by omega:i<l.length),qDJ cs0 h,qBw]
theorem qNS {l:List Cs} {i:Nat} (h:i+1=l.length):qBw (l.drop i)=(qEo (l.getD i cs0).nums && qFa (l.getD i cs0).cond):=by
 rw [qDJ cs0 (by omega:i<l.length),List.drop_eq_nil_of_le (by omega),qBw]
def kO (c:Cs):AObj:=⟨qTn,false, .bx (c.cells.map .p)⟩
theorem qX4 (l:List Cs) (hb:BigL l):Pure cx 120 [css l] (·=.ret [.bool (casesB l)]):=by
 refine qAF Tryz.func120 rfl rfl rfl ?_
 have hll:=hb.len
 have hm:(l.map Cs.cells).length=l.length:=List.length_map ..
 (first | refine qAO (fun h1=>?_) (fun h1=>?_) | refine qAP (fun h1=>?_) (fun h1=>?_) | refine qAQ (fun h1=>?_) (fun h1=>?_))
 ·have h1:((l.map Cs.cells).length:Int)<1:=h1
  rw [hm] at h1
  exact qAY _ rfl rfl (qAl (by rw [casesB,decide_eq_false (by omega)];rfl))
 have h1:¬ ((l.map Cs.cells).length:Int)<1:=h1
 rw [hm] at h1
 (first | refine qAO (fun h2=>?_) (fun h2=>?_) | refine qAP (fun h2=>?_) (fun h2=>?_) | refine qAQ (fun h2=>?_) (fun h2=>?_))
 ·have h2:(12:Int)<((l.map Cs.cells).length:Nat):=h2
  rw [hm] at h2
  exact qAY _ rfl rfl (qAl (by rw [casesB,decide_eq_false (show ¬ l.length≤12 by omega),Bool.and_false];rfl))
 have h2:¬ (12:Int)<((l.map Cs.cells).length:Nat):=h2
 rw [hm] at h2
 have hB0:casesB l=qBw (l.drop 0):=by rw [casesB,decide_eq_true (show 1≤l.length by omega),decide_eq_true (show l.length≤12 by omega)];rfl
 refine⟨Nat,fun i=>[(0, .p (css l)),(16, .p (css l)),(17, .p (i64 l.length)),(18, .p (i64 i))],fun _=>⟨0,[]⟩,fun i=>i<l.length∧casesB l=qBw (l.drop i),fun i=>l.length - i,?_,?_⟩
 ·exact⟨0,⟨by omega,hB0⟩,qG7 rfl ⟨rfl,rfl,congrArg (fun n:Nat=>i64 n) hm.symm,rfl,trivial⟩ trivial rfl⟩
 rintro i ⟨i1,i2⟩
 (first | refine qAO (fun j1=>?_) (fun j1=>?_) | refine qAP (fun j1=>?_) (fun j1=>?_) | refine qAQ (fun j1=>?_) (fun j1=>?_))
 rotate_left
 ·exact absurd (show(i:Int)<(l.length:Nat) by omega) j1
 have hmem:=qAG cs0 i1
 have hbc:=hb.cond _ hmem
 have hbn:=hb.nums _ hmem
 have hcell:=qRX i1
 have hstep:=fun h=>qNR (l:=l) (i:=i) h
 have hlast:=fun h=>qNS (l:=l) (i:=i) h
 rcases hx:l.getD i cs0 with ⟨⟨op,n,rel,val,r,st,ar⟩,nums⟩
 rw [hx] at hbc hbn hcell hstep hlast
 simp only [] at hbc hbn hstep hlast
 have hno:qEo nums=false→casesB l=false:=fun h=>by
  rw [i2]
  rcases Nat.lt_or_ge (i+1) l.length with h3 | h3
  ·rw [hstep h3,h];rfl
  ·rw [hlast (by omega),h];rfl
 have hnm:(nums.map i64).length=nums.length:=List.length_map ..
 refine⟨_,⟨by omega,(⟨.mk op n rel val r st ar,nums⟩:Cs).cells,hcell,rfl⟩,?_⟩
 (first | refine qAO (fun j2=>?_) (fun j2=>?_) | refine qAP (fun j2=>?_) (fun j2=>?_) | refine qAQ (fun j2=>?_) (fun j2=>?_))
 ·have j2:((nums.map i64).length:Int)<1:=j2
  rw [hnm] at j2
  exact qAY _ rfl rfl (qAl (hno (by rw [qEo,decide_eq_false (by omega)];rfl)).symm)
 have j2:¬ ((nums.map i64).length:Int)<1:=j2
 rw [hnm] at j2
 (first | refine qAO (fun j3=>?_) (fun j3=>?_) | refine qAP (fun j3=>?_) (fun j3=>?_) | refine qAQ (fun j3=>?_) (fun j3=>?_))
 ·have j3:(8:Int)<((nums.map i64).length:Nat):=j3
  rw [hnm] at j3
  exact qAY _ rfl rfl (qAl (hno (by rw [qEo,decide_eq_false (show ¬ nums.length≤8 by omega),Bool.and_false];rfl)).symm)
 have j3:¬ (8:Int)<((nums.map i64).length:Nat):=j3
 rw [hnm] at j3
 refine⟨Nat,fun k=>[(0, .p (css l)),(16, .p (css l)),(17, .p (i64 l.length)),(18, .p (i64 i)),(3, .p (i64 i)),(4, .ptr 0 0 0),(34, .p (ints nums)),(35, .p (i64 nums.length)),(36, .p (i64 k))],fun _=>⟨1,[(0,kO ⟨.mk op n rel val r st ar,nums⟩)]⟩,fun k=>k≤nums.length∧∀ x∈nums.take k,qTu x=true,fun k=>nums.length - k,?_,?_⟩
 ·exact⟨0,⟨Nat.zero_le _,by simp⟩,qAB [] [] [] rfl ⟨rfl,rfl,rfl,rfl,rfl,⟨rfl,rfl⟩,rfl,congrArg (fun n:Nat=>i64 n) hnm.symm,rfl,trivial⟩ (sk) rfl⟩
 rintro k ⟨k1,k2⟩
 (first | refine qAO (fun m1=>?_) (fun m1=>?_) | refine qAP (fun m1=>?_) (fun m1=>?_) | refine qAQ (fun m1=>?_) (fun m1=>?_))
 ·have m1:(k:Int)<(nums.length:Nat):=m1
  have hk:k<nums.length:=by omega
  refine⟨_,⟨by omega,i64 (nums.getD k 0),qJ6 hk,rfl⟩,?_⟩
  have bad:qTu (nums.getD k 0)=false→casesB l=false:=fun h=>hno (by
   have:nums.all qTu=false:=by
    rw [Bool.eq_false_iff]
    intro ha
    have:=List.all_eq_true.1 ha _ (qAG 0 hk)
    rw [h] at this;cases this
   rw [qEo,this,Bool.and_false])
  (first | refine qAO (fun m2=>?_) (fun m2=>?_) | refine qAP (fun m2=>?_) (fun m2=>?_) | refine qAQ (fun m2=>?_) (fun m2=>?_))
  ·have m2:nums.getD k 0 < -9999:=m2
   exact qAY _ rfl rfl (qAl (bad (by rw [qTu,decide_eq_false (by omega)];rfl)).symm)
  have m2:¬ nums.getD k 0 < -9999:=m2
  (first | refine qAO (fun m3=>?_) (fun m3=>?_) | refine qAP (fun m3=>?_) (fun m3=>?_) | refine qAQ (fun m3=>?_) (fun m3=>?_))
  ·have m3:(9999:Int)<nums.getD k 0:=m3
   exact qAY _ rfl rfl (qAl (bad (by rw [qTu,decide_eq_false (show ¬ nums.getD k 0≤9999 by omega),Bool.and_false])).symm)
  have m3:¬ (9999:Int)<nums.getD k 0:=m3
  refine⟨_,w6z,?_⟩
  refine⟨k+1,⟨by omega,fun x hx=>?_⟩,qAB [] [] [] rfl (sk) (sk) rfl,by show nums.length - (k+1)<nums.length - k;omega⟩
  rw [qAD 0 hk] at hx
  rcases List.mem_append.1 hx with hx | hx
  ·exact k2 x hx
  ·rw [List.mem_singleton.1 hx,qTu,decide_eq_true (by omega),decide_eq_true (by omega)];rfl
 have m1:¬ (k:Int)<(nums.length:Nat):=m1
 have hnums:qEo nums=true:=by
  have:nums.all qTu=true:=by
   rw [List.all_eq_true]
   rw [qAh (by omega)] at k2
   exact k2
  rw [qEo,this,decide_eq_true (by omega),decide_eq_true (by omega)];rfl
 refine⟨((l.length - 1:Nat):Int),by show _=IntKind.i64.wrap (((l.map Cs.cells).length:Int) - 1);rw [hm,show(l.length:Int) - 1=((l.length - 1:Nat):Int) by omega];exact w6z,?_⟩
 (first | refine qAO (fun m4=>?_) (fun m4=>?_) | refine qAP (fun m4=>?_) (fun m4=>?_) | refine qAQ (fun m4=>?_) (fun m4=>?_))
 ·have m4:(i:Int)=((l.length - 1:Nat):Int):=m4
  have hT:=hlast (by omega)
  rw [← i2,hnums,Bool.true_and] at hT
  have hP:=qRp op n rel val r st ar (by simp only [qHF] at hbc;exact hbc.2.1)
  (first | refine qAO (fun p1=>?_) (fun p1=>?_) | refine qAP (fun p1=>?_) (fun p1=>?_) | refine qAQ (fun p1=>?_) (fun p1=>?_))
  rotate_left
  ·have p1:¬ op=0:=p1
   exact qAY _ rfl rfl (qAl (by rw [hT,qFa,decide_eq_false p1];rfl))
  have p1:op=0:=p1
  by_cases p2:qCd n rel val r st=true
  rotate_left
  ·rw [Bool.not_eq_true] at p2
   rw [p2] at hP
   refine hP.eq rfl ?_
   exact qAY _ rfl rfl (qAl (by rw [hT,qFa,p2,Bool.and_false];rfl))
  rw [p2] at hP
  refine hP.eq rfl ?_
  (first | refine qAO (fun p3=>?_) (fun p3=>?_) | refine qAP (fun p3=>?_) (fun p3=>?_) | refine qAQ (fun p3=>?_) (fun p3=>?_))
  ·have p3:((qCk ar).length:Int)=0:=p3
   rw [qBl,List.length_map] at p3
   exact qAY _ rfl rfl (qAl (by rw [hT,qFa,p2,decide_eq_true p1,decide_eq_true (show ar.length=0 by omega)];rfl))
  ·have p3:¬ ((qCk ar).length:Int)=0:=p3
   rw [qBl,List.length_map] at p3
   exact qAY _ rfl rfl (qAl (by rw [hT,qFa,decide_eq_false (show ¬ ar.length=0 by omega),Bool.and_false]))
 have m4:¬ (i:Int)=((l.length - 1:Nat):Int):=m4
 have hT:=hstep (by omega)
 rw [← i2,hnums,Bool.true_and] at hT
 have hC:=qLi 8 (Nat.le_refl _) (.mk op n rel val r st ar) 30 1 hbc (by omega) (by omega)
 rcases hv:qA6 8 (.mk op n rel val r st ar) 30 with _ | k2
 ·rw [hv] at hC hT
  refine hC.holds.useT [] [(0,1)] rfl (sk) (sk) fun e0 H0 hq=>?_
  obtain⟨rfl,rfl⟩:=hq
  refine⟨rfl,_,⟨2,[(0,kO ⟨.mk op n rel val r st ar,nums⟩)]⟩,rfl,rfl,?_⟩
  exact qAY _ rfl rfl (qAl (by rw [hT];rfl))
 ·rw [hv] at hC hT
  refine hC.holds.useT [] [(0,1)] rfl (sk) (sk) fun e0 H0 hq=>?_
  obtain⟨rfl,rfl⟩:=hq
  refine⟨rfl,_,⟨2,[(1,lfO k2),(0,kO ⟨.mk op n rel val r st ar,nums⟩)]⟩,rfl,rfl,?_⟩
  refine⟨_,w6z,?_⟩
  exact⟨i+1,⟨by omega,by rw [hT];rfl⟩,qAB [] [] [] rfl (sk) (sk) rfl,by show l.length - (i+1)<l.length - i;omega⟩
def qBo (d:De):Bool:=
 if d.kind=1 then decide (d.name=[]) && decide (d.plate=[]) && decide (d.refs.length=0) && decide (d.cases.length=0)
 else if d.kind=2 then qBU d.name && decide (d.plate=[]) && decide (d.refs.length=0) && decide (d.cases.length=0)
 else if d.kind=3 then qBU d.name && (decide (d.plate=[]) || qBU d.plate) && casesB d.cases
 else if d.kind=4 then qBU d.name && decide (d.plate=[]) && decide (d.cases.length=0)
 else if d.kind=5 then decide (d.n=0) && decide (d.name=[]) && decide (d.plate=[]) && casesB d.cases else false
def declB (d:De):Bool:=qGZ d.n && decide (d.refs.length≤8) && d.refs.all qE8 && qBo d
def qBq (ds:List De):Bool:=decide (ds.length≤30) && ds.all declB
def qX2 (ds:List De):Int:=if qBq ds then 0 else 380
structure BigD (d:De):Prop where
 name:qQb d.name
 plate:qQb d.plate
 len:d.refs.length≤9223372036854775807
 refs:∀ r∈d.refs,BigR r
 cases:BigL d.cases
structure BigP (ds:List De):Prop where
 len:ds.length≤9223372036854775807
 decl:∀ d∈ds,BigD d
def de0:De:=⟨0,0,[],[],[],[]⟩
theorem qPt {l:List Rf} {k:Nat} (h:k<l.length):(l.map Rf.cells)[k]?=some (l.getD k rf0).cells:=qDj rf0 h
theorem qEZ {l:List De} {k:Nat} (h:k<l.length):(l.map De.cells)[k]?=some (l.getD k de0).cells:=qDj de0 h
theorem qWY {α:Type} {l:List α} {f:α→Bool} {k:Nat} (d:α) (h:k<l.length) (hf:f (l.getD k d)=false):l.all f=false:=by
 rw [Bool.eq_false_iff]
 intro ha
 have:=List.all_eq_true.1 ha _ (qAG d h)
 rw [hf] at this;cases this
theorem qKO (d:De) (hb:BigD d):Pure cx 80 [d.pv] (·=.ret [.bool (declB d)]):=by
 refine qAF Tryz.func80 rfl rfl rfl ?_
 have hN:=qDx d.n
 have hI:=qG5 d.name hb.name
 have hJ:=qG5 d.plate hb.plate
 have hC:=qX4 d.cases hb.cases
 have hrl:=hb.len
 have hcl:=hb.cases.len
 have hm:(d.refs.map Rf.cells).length=d.refs.length:=List.length_map ..
 by_cases n1:qGZ d.n=true
 rotate_left
 ·rw [Bool.not_eq_true] at n1
  rw [n1] at hN
  refine hN.eq rfl ?_
  exact qAY _ rfl rfl (qAl (by rw [declB,n1];rfl))
 rw [n1] at hN
 refine hN.eq rfl ?_
 (first | refine qAO (fun h2=>?_) (fun h2=>?_) | refine qAP (fun h2=>?_) (fun h2=>?_) | refine qAQ (fun h2=>?_) (fun h2=>?_))
 ·have h2:(8:Int)<((d.refs.map Rf.cells).length:Nat):=h2
  rw [hm] at h2
  exact qAY _ rfl rfl (qAl (by rw [declB,decide_eq_false (show ¬ d.refs.length≤8 by omega),Bool.and_false];rfl))
 have h2:¬ (8:Int)<((d.refs.map Rf.cells).length:Nat):=h2
 rw [hm] at h2
 refine⟨Nat,fun k=>[(1, .ptr 0 0 0),(16, .p (qE7 d.refs)),(17, .p (i64 d.refs.length)),(18, .p (i64 k))],fun _=>⟨1,[(0,deO d)]⟩,fun k=>k≤d.refs.length∧∀ x∈d.refs.take k,qE8 x=true,fun k=>d.refs.length - k,?_,?_⟩
 ·exact⟨0,⟨Nat.zero_le _,by simp⟩,qAB [] [] [] rfl ⟨⟨rfl,rfl⟩,rfl,congrArg (fun n:Nat=>i64 n) hm.symm,rfl,trivial⟩ (sk) rfl⟩
 rintro k ⟨k1,k2⟩
 (first | refine qAO (fun m1=>?_) (fun m1=>?_) | refine qAP (fun m1=>?_) (fun m1=>?_) | refine qAQ (fun m1=>?_) (fun m1=>?_))
 ·have m1:(k:Int)<(d.refs.length:Nat):=m1
  have hk:k<d.refs.length:=by omega
  refine⟨_,⟨by omega,(d.refs.getD k rf0).cells,qPt hk,rfl⟩,?_⟩
  have hR:=qHm (d.refs.getD k rf0) (hb.refs _ (qAG rf0 hk))
  by_cases r1:qE8 (d.refs.getD k rf0)=true
  rotate_left
  ·rw [Bool.not_eq_true] at r1
   rw [r1] at hR
   refine hR.eq rfl ?_
   exact qAY _ rfl rfl (qAl (by rw [declB,qWY rf0 hk r1,Bool.and_false];rfl))
  rw [r1] at hR
  refine hR.eq rfl ?_
  refine⟨_,w6z,?_⟩
  refine⟨k+1,⟨by omega,fun x hx=>?_⟩,qAB [] [] [] rfl (sk) (sk) rfl,by show d.refs.length - (k+1)<d.refs.length - k;omega⟩
  rw [qAD rf0 hk] at hx
  rcases List.mem_append.1 hx with hx | hx
  ·exact k2 x hx
  ·rw [List.mem_singleton.1 hx];exact r1
 have m1:¬ (k:Int)<(d.refs.length:Nat):=m1
 rw [qAh (by omega)] at k2
 have hfin:declB d=qBo d:=by rw [declB,n1,decide_eq_true (show d.refs.length≤8 by omega),List.all_eq_true.2 k2];rfl
 clear k1 k2 m1
 (first | refine qAO (fun o1=>?_) (fun o1=>?_) | refine qAP (fun o1=>?_) (fun o1=>?_) | refine qAQ (fun o1=>?_) (fun o1=>?_))
 ·have o1:d.kind=1:=o1
  (first | refine qAO (fun p1=>?_) (fun p1=>?_) | refine qAP (fun p1=>?_) (fun p1=>?_) | refine qAQ (fun p1=>?_) (fun p1=>?_))
  rotate_left
  ·have p1:¬ d.name=[]:=p1
   exact qAY _ rfl rfl (qAl (by rw [hfin];simp [qBo, *]))
  have p1:d.name=[]:=p1
  (first | refine qAO (fun p2=>?_) (fun p2=>?_) | refine qAP (fun p2=>?_) (fun p2=>?_) | refine qAQ (fun p2=>?_) (fun p2=>?_))
  rotate_left
  ·have p2:¬ d.plate=[]:=p2
   exact qAY _ rfl rfl (qAl (by rw [hfin];simp [qBo, *]))
  have p2:d.plate=[]:=p2
  (first | refine qAO (fun p3=>?_) (fun p3=>?_) | refine qAP (fun p3=>?_) (fun p3=>?_) | refine qAQ (fun p3=>?_) (fun p3=>?_))
  rotate_left
  ·have p3:¬ ((d.refs.map Rf.cells).length:Int)=0:=p3
   rw [List.length_map] at p3
   have p3:¬ d.refs=[]:=fun e=>p3 (by rw [e];rfl)
   exact qAY _ rfl rfl (qAl (by rw [hfin];simp [qBo, *]))
  have p3:((d.refs.map Rf.cells).length:Int)=0:=p3
  rw [List.length_map] at p3
  have p3:d.refs=[]:=List.length_eq_zero_iff.1 (by omega)
  (first | refine qAO (fun p4=>?_) (fun p4=>?_) | refine qAP (fun p4=>?_) (fun p4=>?_) | refine qAQ (fun p4=>?_) (fun p4=>?_))
  rotate_left
  ·have p4:¬ ((d.cases.map Cs.cells).length:Int)=0:=p4
   rw [List.length_map] at p4
   have p4:¬ d.cases=[]:=fun e=>p4 (by rw [e];rfl)
   exact qAY _ rfl rfl (qAl (by rw [hfin];simp [qBo, *]))
  have p4:((d.cases.map Cs.cells).length:Int)=0:=p4
  rw [List.length_map] at p4
  have p4:d.cases=[]:=List.length_eq_zero_iff.1 (by omega)
  exact qAY _ rfl rfl (qAl (by rw [hfin];simp [qBo, *]))
 have o1:¬ d.kind=1:=o1
 (first | refine qAO (fun o2=>?_) (fun o2=>?_) | refine qAP (fun o2=>?_) (fun o2=>?_) | refine qAQ (fun o2=>?_) (fun o2=>?_))
 ·have o2:d.kind=2:=o2
  by_cases p1:qBU d.name=true
  rotate_left
  ·rw [Bool.not_eq_true] at p1
   rw [p1] at hI
   refine hI.eq rfl ?_
   exact qAY _ rfl rfl (qAl (by rw [hfin];simp [qBo, *]))
  rw [p1] at hI
  refine hI.eq rfl ?_
  (first | refine qAO (fun p2=>?_) (fun p2=>?_) | refine qAP (fun p2=>?_) (fun p2=>?_) | refine qAQ (fun p2=>?_) (fun p2=>?_))
  rotate_left
  ·have p2:¬ d.plate=[]:=p2
   exact qAY _ rfl rfl (qAl (by rw [hfin];simp [qBo, *]))
  have p2:d.plate=[]:=p2
  (first | refine qAO (fun p3=>?_) (fun p3=>?_) | refine qAP (fun p3=>?_) (fun p3=>?_) | refine qAQ (fun p3=>?_) (fun p3=>?_))
  rotate_left
  ·have p3:¬ ((d.refs.map Rf.cells).length:Int)=0:=p3
   rw [List.length_map] at p3
   have p3:¬ d.refs=[]:=fun e=>p3 (by rw [e];rfl)
   exact qAY _ rfl rfl (qAl (by rw [hfin];simp [qBo, *]))
  have p3:((d.refs.map Rf.cells).length:Int)=0:=p3
  rw [List.length_map] at p3
  have p3:d.refs=[]:=List.length_eq_zero_iff.1 (by omega)
  (first | refine qAO (fun p4=>?_) (fun p4=>?_) | refine qAP (fun p4=>?_) (fun p4=>?_) | refine qAQ (fun p4=>?_) (fun p4=>?_))
  rotate_left
  ·have p4:¬ ((d.cases.map Cs.cells).length:Int)=0:=p4
   rw [List.length_map] at p4
   have p4:¬ d.cases=[]:=fun e=>p4 (by rw [e];rfl)
   exact qAY _ rfl rfl (qAl (by rw [hfin];simp [qBo, *]))
  have p4:((d.cases.map Cs.cells).length:Int)=0:=p4
  rw [List.length_map] at p4
  have p4:d.cases=[]:=List.length_eq_zero_iff.1 (by omega)
  exact qAY _ rfl rfl (qAl (by rw [hfin];simp [qBo, *]))
 have o2:¬ d.kind=2:=o2
 (first | refine qAO (fun o3=>?_) (fun o3=>?_) | refine qAP (fun o3=>?_) (fun o3=>?_) | refine qAQ (fun o3=>?_) (fun o3=>?_))
 ·have o3:d.kind=3:=o3
  by_cases p1:qBU d.name=true
  rotate_left
  ·rw [Bool.not_eq_true] at p1
   rw [p1] at hI
   refine hI.eq rfl ?_
   exact qAY _ rfl rfl (qAl (by rw [hfin];simp [qBo, *]))
  rw [p1] at hI
  refine hI.eq rfl ?_
  (first | refine qAO (fun p2=>?_) (fun p2=>?_) | refine qAP (fun p2=>?_) (fun p2=>?_) | refine qAQ (fun p2=>?_) (fun p2=>?_))
  ·have p2:d.plate=[]:=p2
   refine hC.eq rfl ?_
   exact qAY _ rfl rfl (qAl (by rw [hfin];simp [qBo, *]))
  have p2:¬ d.plate=[]:=p2
  by_cases p3:qBU d.plate=true
  rotate_left
  ·rw [Bool.not_eq_true] at p3
   rw [p3] at hJ
   refine hJ.eq rfl ?_
   exact qAY _ rfl rfl (qAl (by rw [hfin];simp [qBo, *]))
  rw [p3] at hJ
  refine hJ.eq rfl ?_
  refine hC.eq rfl ?_
  exact qAY _ rfl rfl (qAl (by rw [hfin];simp [qBo, *]))
 have o3:¬ d.kind=3:=o3
 (first | refine qAO (fun o4=>?_) (fun o4=>?_) | refine qAP (fun o4=>?_) (fun o4=>?_) | refine qAQ (fun o4=>?_) (fun o4=>?_))
 ·have o4:d.kind=4:=o4
  by_cases p1:qBU d.name=true
  rotate_left
  ·rw [Bool.not_eq_true] at p1
   rw [p1] at hI
   refine hI.eq rfl ?_
   exact qAY _ rfl rfl (qAl (by rw [hfin];simp [qBo, *]))
  rw [p1] at hI
  refine hI.eq rfl ?_
  (first | refine qAO (fun p2=>?_) (fun p2=>?_) | refine qAP (fun p2=>?_) (fun p2=>?_) | refine qAQ (fun p2=>?_) (fun p2=>?_))
  rotate_left
  ·have p2:¬ d.plate=[]:=p2
   exact qAY _ rfl rfl (qAl (by rw [hfin];simp [qBo, *]))
  have p2:d.plate=[]:=p2
  (first | refine qAO (fun p4=>?_) (fun p4=>?_) | refine qAP (fun p4=>?_) (fun p4=>?_) | refine qAQ (fun p4=>?_) (fun p4=>?_))
  rotate_left
  ·have p4:¬ ((d.cases.map Cs.cells).length:Int)=0:=p4
   rw [List.length_map] at p4
   have p4:¬ d.cases=[]:=fun e=>p4 (by rw [e];rfl)
   exact qAY _ rfl rfl (qAl (by rw [hfin];simp [qBo, *]))
  have p4:((d.cases.map Cs.cells).length:Int)=0:=p4
  rw [List.length_map] at p4
  have p4:d.cases=[]:=List.length_eq_zero_iff.1 (by omega)
  exact qAY _ rfl rfl (qAl (by rw [hfin];simp [qBo, *]))
 have o4:¬ d.kind=4:=o4
 (first | refine qAO (fun o5=>?_) (fun o5=>?_) | refine qAP (fun o5=>?_) (fun o5=>?_) | refine qAQ (fun o5=>?_) (fun o5=>?_))
 ·have o5:d.kind=5:=o5
  (first | refine qAO (fun p1=>?_) (fun p1=>?_) | refine qAP (fun p1=>?_) (fun p1=>?_) | refine qAQ (fun p1=>?_) (fun p1=>?_))
  rotate_left
  ·have p1:¬ d.n=0:=p1
   exact qAY _ rfl rfl (qAl (by rw [hfin];simp [qBo, *]))
  have p1:d.n=0:=p1
  (first | refine qAO (fun p2=>?_) (fun p2=>?_) | refine qAP (fun p2=>?_) (fun p2=>?_) | refine qAQ (fun p2=>?_) (fun p2=>?_))
  rotate_left
  ·have p2:¬ d.name=[]:=p2
   exact qAY _ rfl rfl (qAl (by rw [hfin];simp [qBo, *]))
  have p2:d.name=[]:=p2
  (first | refine qAO (fun p3=>?_) (fun p3=>?_) | refine qAP (fun p3=>?_) (fun p3=>?_) | refine qAQ (fun p3=>?_) (fun p3=>?_))
  rotate_left
  ·have p3:¬ d.plate=[]:=p3
   exact qAY _ rfl rfl (qAl (by rw [hfin];simp [qBo, *]))
  have p3:d.plate=[]:=p3
  refine hC.eq rfl ?_
  exact qAY _ rfl rfl (qAl (by rw [hfin];simp [qBo, *]))
 have o5:¬ d.kind=5:=o5
 exact qAY _ rfl rfl (qAl (by rw [hfin];simp [qBo, *]))
theorem qOU (ds:List De) (hb:BigP ds):Pure cx 45 [qIM ds] (·=.ret [i64 (qX2 ds)]):=by
 refine qAF Tryz.func45 rfl rfl rfl ?_
 have hl:=hb.len
 have hm:(ds.map De.cells).length=ds.length:=List.length_map ..
 have bad:qBq ds=false→qX2 ds=380:=fun h=>by rw [qX2,h];rfl
 (first | refine qAO (fun h2=>?_) (fun h2=>?_) | refine qAP (fun h2=>?_) (fun h2=>?_) | refine qAQ (fun h2=>?_) (fun h2=>?_))
 ·have h2:(30:Int)<((ds.map De.cells).length:Nat):=h2
  rw [hm] at h2
  exact qAY _ rfl rfl (qY8 (bad (by rw [qBq,decide_eq_false (show ¬ ds.length≤30 by omega)];rfl)).symm)
 have h2:¬ (30:Int)<((ds.map De.cells).length:Nat):=h2
 rw [hm] at h2
 refine⟨Nat,fun k=>[(10, .p (des ds)),(11, .p (i64 ds.length)),(12, .p (i64 k))],fun _=>⟨0,[]⟩,fun k=>k≤ds.length∧∀ x∈ds.take k,declB x=true,fun k=>ds.length - k,?_,?_⟩
 ·exact⟨0,⟨Nat.zero_le _,by simp⟩,qAB [] [] [] rfl ⟨rfl,congrArg (fun n:Nat=>i64 n) hm.symm,rfl,trivial⟩ trivial rfl⟩
 rintro k ⟨k1,k2⟩
 (first | refine qAO (fun m1=>?_) (fun m1=>?_) | refine qAP (fun m1=>?_) (fun m1=>?_) | refine qAQ (fun m1=>?_) (fun m1=>?_))
 ·have m1:(k:Int)<(ds.length:Nat):=m1
  have hk:k<ds.length:=by omega
  refine⟨_,⟨by omega,(ds.getD k de0).cells,qEZ hk,rfl⟩,?_⟩
  have hR:=qKO (ds.getD k de0) (hb.decl _ (qAG de0 hk))
  by_cases r1:declB (ds.getD k de0)=true
  rotate_left
  ·rw [Bool.not_eq_true] at r1
   rw [r1] at hR
   refine hR.eq rfl ?_
   exact qAY _ rfl rfl (qY8 (bad (by rw [qBq,qWY de0 hk r1,Bool.and_false])).symm)
  rw [r1] at hR
  refine hR.eq rfl ?_
  refine⟨_,w6z,?_⟩
  refine⟨k+1,⟨by omega,fun x hx=>?_⟩,qAB [] [] [] rfl (sk) trivial rfl,by show ds.length - (k+1)<ds.length - k;omega⟩
  rw [qAD de0 hk] at hx
  rcases List.mem_append.1 hx with hx | hx
  ·exact k2 x hx
  ·rw [List.mem_singleton.1 hx];exact r1
 have m1:¬ (k:Int)<(ds.length:Nat):=m1
 rw [qAh (by omega)] at k2
 exact qAY _ rfl rfl (qY8 (by rw [qX2,qBq,decide_eq_true (show ds.length≤30 by omega),List.all_eq_true.2 k2];rfl))
structure Iss where
 kind:Int
 decl:Int
 name:List UInt8
deriving DecidableEq
abbrev Iss.cells (i:Iss):List PV:=[i64 i.kind,i64 i.decl, .str i.name]
abbrev isl (l:List Iss):PV:=.lsts 3 (l.map Iss.cells)
def qCL:List De→List UInt8→Option Nat
 | [],_=>none
 | d::r,nm=>if d.name=nm then some 0 else(qCL r nm).map (·+1)
def qDE (l:List De) (nm:List UInt8):Option De:=(qCL l nm).map fun i=>l.getD i de0
def qCx (l:List De) (nm:List UInt8):Int:=match qDE l nm with
 | some d=>if d.kind=2 then d.n else 0
 | none=>0
def ownB (d:De) (r:Rf):Bool:=decide (d.kind=3) && (decide (¬ d.plate=[]) && (decide (r.name=d.name) && (decide (r.mode=1) && (decide (r.plate=d.plate) && decide (1≤r.n)))))
def qHt (l:List De) (d t:De) (r:Rf):Bool:=
 if t.kind=2 then true
 else if t.plate=[] then decide (¬ r.mode=0)
 else if r.mode=0 then true
 else if r.mode=2 then decide (qCx l t.plate≤r.n)
 else if r.mode=1 then decide (¬ (d.kind=3∧d.plate=t.plate∧r.plate=t.plate))
 else false
def qK0 (l:List De) (d:De) (r:Rf):Int:=match qDE l r.name with
 | none=>if ownB d r then 0 else 3
 | some t=>if qHt l d t r then 4 else 0
def qQc (l:List De) (d:De) (r:Rf):Option Int:=match qDE l r.name with
 | some t=>if t.kind=2 then none else some t.n
 | none=>if ownB d r then some d.n else none
def qLO (op n val:Int) (st:List Int):Int:=if op=5 then st.getD (st.length - 1) 0 else if op=6 then val else n
def qEc (l:List De) (d:De) (op n val:Int) (r:Rf) (st:List Int):Int:=
 if r ∉ d.refs then 7
 else if r.mode=3∧¬ op=6 then 4
 else match qQc l d r with
  | some k=>if k≤qLO op n val st then 8 else 0
  | none=>0
def qFY (k a:Int) (nm:List UInt8):List Iss:=if k=0 then [] else [⟨k,a,nm⟩]
mutual
def qBR (l:List De) (d:De):Cd→List Iss
 | .mk op n _ val r st ar=>match ar with
  | []=>if op=0 then [] else qFY (qEc l d op n val r st) l.length r.name
  | a::az=>qBR l d a++qBO l d az
def qBO (l:List De) (d:De):List Cd→List Iss
 | []=>[]
 | a::az=>qBR l d a++qBO l d az
end
def qL9 (d:De) (nums:List Int) (grain:Int):Bool:=
 if d.kind=5 then decide (nums.length=1) && (decide (-100≤nums.getD 0 0) && decide (nums.getD 0 0≤100))
 else nums.all (fun w=>decide (0≤w)) && (decide ((nums.length:Int)=d.n) && decide (nums.sum=grain))
def casesI (l:List De) (d:De) (grain:Int) (cs:List Cs):List Iss:=cs.flatMap fun c=>qBR l d c.cond++(if qL9 d c.nums grain then [] else [⟨9,l.length,[]⟩])
def qC2 (l:List De) (d:De):List Rf→List Rf→List Iss
 | _,[]=>[]
 | done,r::rs=>(if r∈done then [⟨2,l.length,r.name⟩] else [])++(qFY (qK0 l d r) l.length r.name++qC2 l d (done++[r]) rs)
def qBW (l:List De) (d:De):List Iss:=if (qCL l d.name).isSome then [⟨2,l.length,d.name⟩] else []
def qGJ (l:List De) (d:De):List Iss:=if d.n<2∨4<d.n then [⟨6,l.length,d.name⟩] else []
def qIn (l:List De) (d:De):List Iss:=if d.plate=[] then [] else match qDE l d.plate with
 | none=>[⟨3,l.length,d.plate⟩]
 | some t=>if t.kind=2 then [] else [⟨4,l.length,d.plate⟩]
def qCp (l:List De) (d:De) (grain:Int):List Iss:=
 if d.kind=1 then(if l.length > 0∨d.n<1∨60<d.n then [⟨1,l.length,[]⟩] else [])
 else if d.kind=2 then qBW l d++(if d.n<1∨6<d.n then [⟨5,l.length,d.name⟩] else [])
 else if d.kind=3 then qBW l d++(qIn l d++(qGJ l d++(qC2 l d [] d.refs++casesI l d grain d.cases)))
 else if d.kind=4 then qBW l d++(qGJ l d++qC2 l d [] d.refs)
 else qC2 l d [] d.refs++casesI l d grain d.cases
def qAk (ds:List De):Int:=match ds with
 | []=>0
 | d::_=>if d.kind=1 then d.n else 0
def qEw (ds:List De):List Iss:=match ds with
 | []=>[⟨1,0,[]⟩]
 | d::_=>if d.kind=1 then [] else [⟨1,0,[]⟩]
def qCE (grain:Int):List De→List De→List Iss
 | _,[]=>[]
 | l,d::r=>qCp l d grain++qCE grain (l++[d]) r
def qVE (l:List De) (d:De):Nat:=if d.kind=3 then(if d.plate=[] then 1 else(qCx l d.plate).toNat) else if d.kind=4 then 1 else 0
def qAT:List De→List De→Nat
 | _,[]=>0
 | l,d::r=>qVE l d+qAT (l++[d]) r
def qBb (ds:List De):Nat:=(ds.filter fun d=>decide (d.kind=5)).length
def qAf:List De→List De→Nat
 | _,[]=>1
 | l,d::r=>d.n.toNat ^ qVE l d * qAf (l++[d]) r
def qIT (ds:List De):Bool:=decide (qAT [] ds<1) || (decide (8<qAT [] ds) || (decide (4<qBb ds) || decide (1024<qAf [] ds)))
def qTZ (ds:List De):List Iss:=qEw ds++qCE (qAk ds) [] ds
def qMB (ds:List De):List Iss:=if qTZ ds=[] then(if qIT ds then [⟨10,ds.length,[]⟩] else []) else qTZ ds
def qYi (ds:List De):List PV:=if qBq ds=true then [isl (qMB ds),i64 0] else [isl [],i64 380]
def qBY (ds:List De):Int:=if qBq ds=true then(if qMB ds=[] then 0 else 390) else 380
structure Sy where
 name:List UInt8
 kind:Int
 plate:List UInt8
 card:Int
 size:Int
abbrev Sy.cells (s:Sy):List PV:=[.str s.name,i64 s.kind, .str s.plate,i64 s.card,i64 s.size]
structure Mb where
 d:De
 idx:Int
 name:List UInt8
def mb0:Mb:=⟨de0,0,[]⟩
abbrev Mb.cells (m:Mb):List PV:=m.d.cells++[i64 m.idx, .str m.name]
def qIN:List De→List UInt8→Int
 | [],_=>0
 | d::r,pl=>if d.kind=2∧d.name=pl then d.n else qIN r pl
def qNN (k:Nat):List UInt8:=[UInt8.ofNat (48+k)]
def qP7 (d:De) (k:Nat):List UInt8:=(d.name++[91])++qNN k++[93]
def qFs (p:List De) (d:De):List Mb:=if d.kind=3∨d.kind=4 then(if d.plate=[] then [⟨d,0,d.name⟩] else(List.range (qIN p d.plate).toNat).map fun k=>⟨d,(k:Nat),qP7 d k⟩) else []
def qAL (p ds:List De):List Mb:=ds.flatMap (qFs p)
def isG (m:Mb) (r:Rf) (idx:Int):Bool:=decide (m.d.name=r.name) && (if r.mode=2 then decide (m.idx=r.n) else if r.mode=1 then decide (m.idx=idx+r.n) else true)
def qCK (l:List Mb) (r:Rf) (idx:Int):List Nat:=(List.range l.length).filter fun i=>isG (l.getD i mb0) r idx
def qG2 (l:List Mb) (refs:List Rf) (idx:Int):List Nat:=(List.range l.length).filter fun i=>refs.any fun r=>isG (l.getD i mb0) r idx
def qQh (rel a b:Int):Bool:=if rel=1 then decide (a=b) else if rel=2 then decide (¬ a=b) else if rel=3 then decide (a<b) else decide (a≤b)
def qQD (l:List Mb) (idx:Int) (vals:List Int) (op n rel val:Int) (r:Rf) (st:List Int):Bool:=
 if op=6 then qQh rel (((qCK l r idx).filter fun i=>decide (vals.getD i 0=val)).length:Nat) n
 else match qCK l r idx with
  | []=>false
  | i::_=>if op=5 then st.any fun x=>decide (x=vals.getD i 0) else qQh op (vals.getD i 0) n
mutual
def qAc (l:List Mb) (idx:Int) (vals:List Int):Cd→Bool
 | .mk op n rel val r st ar=>
  if op=0 then true
  else if op=7 then !((qBH l idx vals ar).getD 0 false)
  else if op=8 then(qBH l idx vals ar).getD 0 false && (qBH l idx vals ar).getD 1 false
  else if op=9 then(qBH l idx vals ar).getD 0 false || (qBH l idx vals ar).getD 1 false
  else qQD l idx vals op n rel val r st
def qBH (l:List Mb) (idx:Int) (vals:List Int):List Cd→List Bool
 | []=>[]
 | c::r=>qAc l idx vals c::qBH l idx vals r
end
def qDw (l:List Mb) (cs:List Cs) (idx:Int) (vals:List Int):List Int:=match cs.find? fun c=>qAc l idx vals c.cond with
 | some c=>c.nums
 | none=>[]
def qDs (l:List Mb) (cs:List Cs) (idx:Int):List Nat→List Int→List (List Int)
 | [],vals=>[qDw l cs idx vals]
 | v::r,vals=>(List.range ((l.getD v mb0).d.n).toNat).flatMap fun x=>qDs l cs idx r (vals.set v (x:Nat))
structure Nd where
 card:Int
 pars:List Nat
 rows:List (List Int)
abbrev qET (l:List Nat):PV:=.lst (l.map fun i=>i64 (i:Nat))
abbrev qY7 (l:List (List Int)):PV:=.lst (l.map ints)
abbrev Nd.cells (x:Nd):List PV:=[i64 x.card,qET x.pars,qY7 x.rows]
structure Ut where
 vars:List Nat
 w:List Int
abbrev Ut.cells (x:Ut):List PV:=[qET x.vars,ints x.w]
structure Gr where
 names:List (List UInt8)
 grain:Int
 nodes:List Nd
 dec:Int
 utils:List Ut
abbrev Gr.cells (g:Gr):List PV:=[strs g.names,i64 g.grain, .lsts 3 (g.nodes.map Nd.cells), .int .u64 g.dec, .lsts 2 (g.utils.map Ut.cells)]
def qBS (n:Nat):List Int:=List.replicate n 0
def qU7 (l:List Mb) (m:Mb):Nd:=⟨m.d.n,qG2 l m.d.refs m.idx,if m.d.kind=4 then [] else qDs l m.d.cases m.idx (qG2 l m.d.refs m.idx) (qBS l.length)⟩
def qKP:List Mb→Nat→Nat
 | [],_=>0
 | m::r,i=>(if m.d.kind=4 then 2 ^ i else 0)+qKP r (i+1)
def qJY (l:List Mb) (d:De):Ut:=⟨qG2 l d.refs 0,(qDs l d.cases 0 (qG2 l d.refs 0) (qBS l.length)).map fun w=>w.getD 0 0⟩
def qEx (ds:List De):Gr:=
 ⟨(qAL ds ds).map Mb.name,(ds.getD 0 de0).n,(qAL ds ds).map (qU7 (qAL ds ds)),(qKP (qAL ds ds) 0:Nat),(ds.filter fun d=>decide (d.kind=5)).map (qJY (qAL ds ds))⟩
theorem qH4:∀ {l:List De} {nm:List UInt8} {i:Nat},qCL l nm=some i→i<l.length∧(l.getD i de0).name=nm
 | [],_,_,h=>by cases h
 | d::r,nm,i,h=>by
  rw [qCL] at h
  split at h
  ·rename_i hd
   injection h with h;subst h
   exact⟨by simp,hd⟩
  ·cases hr:qCL r nm with
   | none=>rw [hr] at h;cases h
   | some j=>
    rw [hr] at h
    injection h with h
    have h:j+1=i:=h
    subst h
    have h2:=qH4 hr
    exact⟨by rw [List.length_cons];omega,h2.2⟩
theorem qKE (m:List De) (nm:List UInt8):∀ l:List De,qCL (l++m) nm=match qCL l nm with
  | some i=>some i
  | none=>(qCL m nm).map (·+l.length)
 | []=>by
  show qCL m nm=(qCL m nm).map (·+0)
  cases qCL m nm <;> rfl
 | d::r=>by
  rw [List.cons_append,qCL,qCL,qKE m nm r]
  split
  ·rfl
  ·cases qCL r nm with
   | some i=>rfl
   | none=>cases qCL m nm with
    | none=>rfl
    | some j=>show some (j+r.length+1)=some (j+(r.length+1));rw [Nat.add_assoc]
theorem qSr (l:List De) (d:De) (nm:List UInt8):qCL (l++[d]) nm=match qCL l nm with
  | some i=>some i
  | none=>if d.name=nm then some l.length else none:=by
 rw [qKE]
 cases qCL l nm with
 | some i=>rfl
 | none=>
  show(qCL [d] nm).map (·+l.length)=_
  rw [qCL]
  split
  ·show some (0+l.length)=some l.length;rw [Nat.zero_add]
  ·rfl
theorem qSs {l:List De} {nm:List UInt8}:qCL l nm=none ↔ ∀ d∈l,d.name ≠ nm:=by
 induction l with
 | nil=>simp [qCL]
 | cons d r ih=>
  rw [qCL]
  split
  ·rename_i h
   constructor
   ·intro e;cases e
   ·intro e;exact absurd h (e d (List.mem_cons_self ..))
  ·rename_i h
   rw [Option.map_eq_none_iff,ih]
   constructor
   ·intro e x hx
    rcases List.mem_cons.1 hx with rfl | hx
    ·exact h
    ·exact e x hx
   ·intro e x hx;exact e x (List.mem_cons_of_mem _ hx)
theorem qLQ {l:List De} {nm:List UInt8} {i:Nat} (h:qCL l nm=some i):qDE l nm=some (l.getD i de0):=by rw [qDE,h];rfl
theorem qSq {l:List De} {nm:List UInt8} (h:qCL l nm=none):qDE l nm=none:=by rw [qDE,h];rfl
theorem qKD {l:List De} {nm:List UInt8} {d:De} (h:qDE l nm=some d):d∈l∧d.name=nm:=by
 rw [qDE] at h
 cases hi:qCL l nm with
 | none=>rw [hi] at h;cases h
 | some i=>
  rw [hi] at h
  injection h with h;subst h
  have:=qH4 hi
  exact⟨qAG de0 this.1,this.2⟩
theorem qG6 {l m:List De} {nm:List UInt8} {d:De} (h:qDE l nm=some d):qDE (l++m) nm=some d:=by
 rw [qDE] at h ⊢
 cases hi:qCL l nm with
 | none=>rw [hi] at h;cases h
 | some i=>
  rw [hi] at h
  injection h with h
  have h:l.getD i de0=d:=h
  have hl:=(qH4 hi).1
  rw [qKE,hi]
  show some ((l++m).getD i de0)=some d
  rw [← h,List.getD_eq_getElem?_getD,List.getD_eq_getElem?_getD,List.getElem?_append_left hl]
theorem qFJ {α:Type} {l:List α} {k i:Nat} (d:α) (h:i<k):(l.take k).getD i d=l.getD i d:=by
 rw [List.getD_eq_getElem?_getD,List.getD_eq_getElem?_getD,List.getElem?_take,if_pos h]
theorem qWL {ds:List De} {a i:Nat} {nm:List UInt8} (h:qCL (ds.take a) nm=some i):i<ds.length∧qDE (ds.take a) nm=some (ds.getD i de0):=by
 have h1:=(qH4 h).1
 rw [List.length_take] at h1
 exact⟨by omega,by rw [qLQ h,qFJ de0 (by omega)]⟩
def qYf (l:List De):List De→List (List UInt8 × PV)
 | []=>[]
 | d::r=>(if d.name=[]∨(qCL l d.name).isSome then [] else [(d.name,i64 l.length)])++qYf (l++[d]) r
def qCC (ds:List De):List (List UInt8 × PV):=qYf [] ds
theorem qLK (d:De):∀ (r l:List De),qYf l (r++[d])=qYf l r++(if d.name=[]∨(qCL (l++r) d.name).isSome then [] else [(d.name,i64 (l++r).length)])
 | [],l=>by rw [List.append_nil];show _++[]=[]++_;rw [List.append_nil,List.nil_append]
 | x::r,l=>by
  have e:l++[x]++r=l++x::r:=by rw [List.append_assoc];rfl
  rw [List.cons_append,qYf,qYf,qLK d r (l++[x]),e,List.append_assoc]
theorem qLJ (ds:List De) (d:De):qCC (ds++[d])=qCC ds++(if d.name=[]∨(qCL ds d.name).isSome then [] else [(d.name,i64 ds.length)]):=by
 rw [qCC,qLK];rfl
theorem qLY (a:List UInt8):∀ l m:List (List UInt8 × PV),qAX (l++m) a=match qAX l a with
  | some x=>some x
  | none=>qAX m a
 | [],m=>rfl
 | (k,y)::r,m=>by
  rw [List.cons_append,qAX,qAX]
  by_cases h:a=k
  ·rw [decide_eq_true h]
  ·rw [decide_eq_false h];exact qLY a r m
theorem qG0 {a:List UInt8} {x:PV}:∀ {l:List (List UInt8 × PV)},qAX l a=none→qCM l a x=l++[(a,x)]
 | [],_=>rfl
 | (k,y)::r,h=>by
  rw [qAX] at h
  rw [qCM]
  by_cases hk:a=k
  ·rw [decide_eq_true hk] at h;cases h
  ·rw [decide_eq_false hk] at h ⊢
   show(k,y)::qCM r a x=(k,y)::(r++[(a,x)])
   rw [qG0 h]
theorem qKJ (nm:List UInt8):∀ n (ds:List De),ds.length=n→qAX (qCC ds) nm=if nm=[] then none else(qCL ds nm).map fun i=>i64 (i:Nat)
 | 0,ds,h=>by
  rw [List.eq_nil_of_length_eq_zero h]
  split <;> rfl
 | n+1,ds,h=>by
  have hne:ds ≠ []:=fun e=>by rw [e] at h;cases h
  obtain⟨l,d,rfl⟩:∃ l d,ds=l++[d]:=⟨ds.dropLast,ds.getLast hne,(List.dropLast_concat_getLast hne).symm⟩
  have ih:=qKJ nm n l (by rw [List.length_append] at h;simpa using h)
  rw [qLJ,qLY,ih,qSr]
  by_cases h0:nm=[]
  ·subst h0
   rw [if_pos rfl,if_pos rfl]
   show qAX (if d.name=[]∨(qCL l d.name).isSome then [] else [(d.name,i64 l.length)]) []=none
   split
   ·rfl
   ·rename_i hn
    show(match decide ([]=d.name) with | true=>some (i64 (l.length:Nat)) | false=>none)=none
    rw [decide_eq_false fun e=>hn (.inl e.symm)]
  ·rw [if_neg h0,if_neg h0]
   cases hf:qCL l nm with
   | some i=>rfl
   | none=>
    show qAX (if d.name=[]∨(qCL l d.name).isSome then [] else [(d.name,i64 l.length)]) nm=_
    by_cases hd:d.name=nm
    ·rw [hd,hf,if_neg (by intro h;rcases h with h | h;exact h0 h;cases h)]
     show _=(if nm=nm then some l.length else none).map _
     rw [if_pos rfl]
     show(match decide (nm=nm) with | true=>some (i64 (l.length:Nat)) | false=>none)=_
     rw [decide_eq_true rfl];rfl
    ·show qAX _ nm=(if d.name=nm then some l.length else none).map _
     rw [if_neg hd]
     split
     ·rfl
     ·show(match decide (nm=d.name) with | true=>some (i64 (l.length:Nat)) | false=>none)=none
      rw [decide_eq_false fun e=>hd e.symm]
theorem qNI (ds:List De) {nm:List UInt8} (h:nm ≠ []):qAX (qCC ds) nm=(qCL ds nm).map fun i=>i64 (i:Nat):=by
 rw [qKJ nm _ ds rfl,if_neg h]
theorem qVW (ds:List De):qAX (qCC ds) []=none:=by rw [qKJ [] _ ds rfl,if_pos rfl]
theorem qLc (g:Int) (b:List De):∀ (a l:List De),qCE g l (a++b)=qCE g l a++qCE g (l++a) b
 | [],l=>by rw [List.append_nil];rfl
 | d::a,l=>by
  have e:l++[d]++a=l++d::a:=by rw [List.append_assoc];rfl
  rw [List.cons_append,qCE,qCE,qLc g b a (l++[d]),e,List.append_assoc]
def DK (a:Nat) (X:List Iss):Prop:=∀ i∈X,i.decl=(a:Nat)∧i.kind ≠ 10
theorem DK.nil {a:Nat}:DK a []:=fun i h=>by cases h
theorem DK.app {a:Nat} {X Z:List Iss} (h:DK a X) (k:DK a Z):DK a (X++Z):=fun i hi=>by
 rcases List.mem_append.1 hi with hi | hi
 ·exact h i hi
 ·exact k i hi
theorem DK.one {a:Nat} {k:Int} {nm:List UInt8} (h:k ≠ 10):DK a [⟨k,(a:Nat),nm⟩]:=fun i hi=>by
 rw [List.mem_singleton.1 hi];exact⟨rfl,h⟩
theorem DK.note {a:Nat} {k:Int} {nm:List UInt8} (h:k ≠ 10):DK a (qFY k (a:Nat) nm):=by
 unfold qFY
 split
 ·exact DK.nil
 ·exact DK.one h
theorem qUW (l:List De) (d:De) (op n val:Int) (r:Rf) (st:List Int):qEc l d op n val r st ≠ 10:=by
 unfold qEc
 split
 ·decide
 ·split
  ·decide
  ·split
   ·split <;> decide
   ·decide
mutual
theorem qPF (l:List De) (d:De):∀ c:Cd,DK l.length (qBR l d c)
 | .mk op n _ val r st []=>by
  rw [qBR]
  split
  ·exact DK.nil
  ·exact DK.note (qUW l d op n val r st)
 | .mk op n _ val r st (a::az)=>by
  rw [qBR]
  exact(qPF l d a).app (qLj l d az)
theorem qLj (l:List De) (d:De):∀ c:List Cd,DK l.length (qBO l d c)
 | []=>by rw [qBO];exact DK.nil
 | a::az=>by
  rw [qBO]
  exact(qPF l d a).app (qLj l d az)
end
structure OkD (d:De):Prop where
 kind:d.kind=1∨d.kind=2∨d.kind=3∨d.kind=4∨d.kind=5
 bare:d.kind=1∨d.kind=5→d.name=[]
 name:d.kind=2∨d.kind=3∨d.kind=4→d.name ≠ []
 plate:¬ d.kind=3→d.plate=[]
 refs:∀ r∈d.refs,r.name ≠ []
theorem qDD (nm:List UInt8):∀ l:List De,qDE l nm=l.find? fun d=>decide (d.name=nm)
 | []=>rfl
 | d::r=>by
  rw [List.find?_cons,← qDD nm r,qDE,qCL]
  by_cases h:d.name=nm
  ·rw [if_pos h,decide_eq_true h];rfl
  ·rw [if_neg h,decide_eq_false h]
   show((qCL r nm).map (·+1)).map _=qDE r nm
   rw [qDE]
   cases qCL r nm <;> rfl
theorem qEJ {k a:Int} {nm:List UInt8}:qFY k a nm=[] ↔ k=0:=by
 unfold qFY
 split
 ·rename_i h;exact⟨fun _=>h,fun _=>rfl⟩
 ·rename_i h;exact⟨fun e=>(by cases e),fun e=>absurd e h⟩
structure Apart (d x:De):Prop where
 plate:x.plate ≠ []→d.name ≠ x.plate
 refs:∀ r∈x.refs,d.name ≠ r.name
mutual
theorem qLk {l m:List De} {x:De} (h:∀ op n val r st,qEc l x op n val r st=qEc m x op n val r st):∀ c:Cd,qBR l x c=[]→qBR m x c=[]
 | .mk op n _ val r st [],hc=>by
  rw [qBR] at hc ⊢
  split
  ·rfl
  ·rename_i h0
   rw [if_neg h0,qEJ,h] at hc
   exact qEJ.2 hc
 | .mk op n _ val r st (a::az),hc=>by
  rw [qBR] at hc ⊢
  obtain⟨h1,h2⟩:=List.append_eq_nil_iff.1 hc
  rw [qLk h a h1,qJF h az h2];rfl
theorem qJF {l m:List De} {x:De} (h:∀ op n val r st,qEc l x op n val r st=qEc m x op n val r st):∀ c:List Cd,qBO l x c=[]→qBO m x c=[]
 | [],_=>by rw [qBO]
 | a::az,hc=>by
  rw [qBO] at hc ⊢
  obtain⟨h1,h2⟩:=List.append_eq_nil_iff.1 hc
  rw [qLk h a h1,qJF h az h2];rfl
end
theorem qDa {g:Int}:∀ (r l:List De),qCE g l r=[]→∀ k,k<r.length→qCp (l++r.take k) (r.getD k de0) g=[]
 | [],_,_,k,hk=>by cases hk
 | x::r,l,h,k,hk=>by
  rw [qCE] at h
  obtain⟨h1,h2⟩:=List.append_eq_nil_iff.1 h
  cases k with
  | zero=>rw [List.take_zero,List.append_nil];exact h1
  | succ k=>
   have:=qDa r (l++[x]) h2 k (by simpa using hk)
   rw [List.append_assoc] at this
   exact this
theorem qGB:∀ (a l b:List De),qAT l (a++b)=qAT l a+qAT (l++a) b∧qAf l (a++b)=qAf l a * qAf (l++a) b
 | [],l,b=>by rw [List.append_nil];exact⟨(Nat.zero_add _).symm,(Nat.one_mul _).symm⟩
 | d::a,l,b=>by
  have ih:=qGB a (l++[d]) b
  have e:l++[d]++a=l++d::a:=by rw [List.append_assoc];rfl
  rw [e] at ih
  rw [List.cons_append,qAT,qAT,qAf,qAf,ih.1,ih.2,Nat.add_assoc,Nat.mul_assoc]
  exact⟨rfl,rfl⟩
theorem qTO {l:List De} {d:De} (h:qGJ l d=[]):2≤d.n∧d.n≤4:=by
 unfold qGJ at h
 split at h
 ·cases h
 ·rename_i hn;omega
theorem qFW {l:List De} {d:De} {g:Int} (h:qCp l d g=[]) (hk:d.kind=3∨d.kind=4):2≤d.n∧d.n≤4:=by
 unfold qCp at h
 rcases hk with hk | hk
 ·rw [if_neg (by omega),if_neg (by omega),if_pos hk] at h
  exact qTO (List.append_eq_nil_iff.1 (List.append_eq_nil_iff.1 (List.append_eq_nil_iff.1 h).2).2).1
 ·rw [if_neg (by omega),if_neg (by omega),if_neg (by omega),if_pos hk] at h
  exact qTO (List.append_eq_nil_iff.1 (List.append_eq_nil_iff.1 h).2).1
theorem qRw {l:List De} {d:De} {g:Int} (h:qCp l d g=[]) (hk:d.kind=2):1≤d.n∧d.n≤6:=by
 unfold qCp at h
 rw [if_neg (by omega),if_pos hk] at h
 have h2:=(List.append_eq_nil_iff.1 h).2
 split at h2
 ·cases h2
 ·rename_i hn;omega
theorem qF8 {l:List De} {d:De} {g:Int} (h:qCp l d g=[]) (hk:d.kind=3) (hp:¬ d.plate=[]):∃ t,qDE l d.plate=some t∧t.kind=2:=by
 unfold qCp at h
 rw [if_neg (by omega),if_neg (by omega),if_pos hk] at h
 have h2:=(List.append_eq_nil_iff.1 (List.append_eq_nil_iff.1 h).2).1
 unfold qIn at h2
 rw [if_neg hp] at h2
 cases ht:qDE l d.plate with
 | none=>rw [ht] at h2;cases h2
 | some t=>
  rw [ht] at h2
  simp only [] at h2
  split at h2
  ·rename_i hk;exact⟨t,rfl,hk⟩
  ·cases h2
theorem qEX {α:Type} {l:List α} {x:α} (d:α) (h:x∈l):∃ k,k<l.length∧l.getD k d=x:=by
 obtain⟨k,hk,e⟩:=List.getElem_of_mem h
 exact⟨k,hk,by rw [List.getD_eq_getElem?_getD,List.getElem?_eq_getElem hk];exact e⟩
theorem qOA {ds:List De} {g:Int} (h:qCE g [] ds=[]) {k:Nat} (hk:k<ds.length) (h3:(ds.getD k de0).kind=3) (hp:¬ (ds.getD k de0).plate=[]):1≤qCx (ds.take k) (ds.getD k de0).plate∧qCx (ds.take k) (ds.getD k de0).plate≤6:=by
 have h1:=qDa ds [] h k hk
 rw [List.nil_append] at h1
 obtain⟨t,ht,k2⟩:=qF8 h1 h3 hp
 obtain⟨j,hj,e⟩:=qEX de0 (List.mem_of_mem_take (qKD ht).1)
 have h2:=qDa ds [] h j hj
 rw [e] at h2
 rw [qCx,ht]
 simp only [if_pos k2]
 exact qRw h2 k2
theorem base_nil {ds:List De} (h:qMB ds=[]):qEw ds=[]∧qCE (qAk ds) [] ds=[]∧qIT ds=false:=by
 unfold qMB at h
 split at h
 ·rename_i hb
  obtain⟨h1,h2⟩:=List.append_eq_nil_iff.1 hb
  refine⟨h1,h2,?_⟩
  by_cases hx:qIT ds=true
  ·rw [if_pos hx] at h;cases h
  ·exact Bool.not_eq_true _ ▸ hx
 ·rename_i hb;exact absurd h hb
theorem all_nil {ds:List De} (h1:qEw ds=[]) (h2:qCE (qAk ds) [] ds=[]) (h3:qIT ds=false):qMB ds=[]:=by
 rw [qMB,qTZ,h1,h2,List.append_nil,if_pos rfl,h3];rfl
theorem qZ3 {ds:List De} (h:qIT ds=false):1≤qAT [] ds∧qAT [] ds≤8∧qBb ds≤4∧qAf [] ds≤1024:=by
 unfold qIT at h
 simp only [Bool.or_eq_false_iff,decide_eq_false_iff_not] at h
 omega
end Go.Proofs.YtkegmchjobphdaaGreatDoor
