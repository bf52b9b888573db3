/- Part 3 of the proof: Lc Ld Le Lf Lg Lh Li Lj Lk Ll Lm Ka Kb Kc Kd Ke Kf Kg Kh Sq Ki Kj Kk Kl Km Kn Ba Ln Ko Kp -/
import Derived.Shelf.Strings.Builder1
import Derived.Shelf.Strings.Builder2
import Derived.Shelf.Small.Bits
import Derived.Shelf.Strings.BuilderF
import Derived.Shelf.Utf8.RuneCount
import Derived.Shelf.Strconv.Itoa0
import Derived.Shelf.Strconv.Itoa1
import Derived.Shelf.LaysM
import Derived.Shelf.Strconv.Itoa2
import Derived.Shelf.Strconv.Itoa3
import Derived.Shelf.Strings.Search1
import Derived.Shelf.Strings.Search2
import Derived.Shelf.Strings.Search3
import Derived.Shelf.Strings.Count
import Derived.Shelf.Strings.Shaped
import Derived.Shelf.Sort.Plain
import Derived.Shelf.Strings.Prefix
import Derived.Shelf.Strings.Split
import Derived.Shelf.Strings.Replace
import Derived.Shelf.Strings.SplitShaped
import Derived.Shelf.Unicode.Decode
import Derived.Shelf.Strings.RuneCount
import Derived.Shelf.Bits.Mul64
import Derived.Shelf.Strings.Repeat
import Derived.Shelf.Unicode.DecodeSlow
import Derived.Shelf.Unicode.DecodeAny
import Derived.Ground.Names2Prog
import Derived.Shelf.Slices.CompactI
import Derived.Shelf.Slices.SearchI
import Derived.Shelf.Slices.Cells
import Derived.Shelf.Slices.In.SortNone
import Derived.Test.YtohfoaplnjcihaaGreatDoorProg
import Derived.Lib.MakeNoZero
import Derived.Laws.Externs
import Derived.Test.YtohfoaplnjcihaaGreatDoorQ2
namespace Go.Proofs.YtohfoaplnjcihaaGreatDoor
open Go Y
set_option maxRecDepth 100000
def at_ (s:List UInt8) (k:Nat):Nat × Nat:=qIT (1,1) (s.take k)
theorem qVV (p:Nat × Nat) (s:List UInt8):(qIT p s).1<=p.1+s.length/\(qIT p s).2<=max 1 p.2+s.length:=by
 induction s generalizing p with
 | nil=>simp [qIT];omega
 | cons c r ih=>
  rw [qLe]
  have h1:=ih (adv p c)
  have h2:(adv p c).1<=p.1+1/\(adv p c).2<=max 1 p.2+1:=by
   unfold adv;split <;> simp <;> omega
  simp only [List.length_cons]
  omega
theorem qVT (s:List UInt8) (k:Nat):(at_ s k).1<=s.length+1/\(at_ s k).2<=s.length+1:=by
 have:=qVV (1,1) (s.take k)
 have h2:(s.take k).length<=s.length:=by rw [List.length_take];omega
 simp only [at_]
 have:max 1 (1,1).2=1:=rfl
 simp only [] at *
 omega
theorem qRi {s:List UInt8} {k:Nat} (h:k<s.length):at_ s (k+1)=adv (at_ s k) s[k]:=by
 unfold at_
 rw [List.take_add_one,qEI,List.getElem?_eq_getElem h]
 rfl
def rs (s:List UInt8) (k:Nat):Hp:=rdH (at_ s k) s k
theorem qEM (s:List UInt8) (hs:s.length<=8000) (k m:Nat) (hk:k+m<=s.length) :
  HoldsG cx 141 [.ptr 0 0 0, .p (i64 m)] (rs s k) fun e H'=>e=.returned und/\H'=rs s (k+m):=by
 refine qA3 Tryz.func141 rfl rfl rfl ?_
 refine⟨Nat,fun j=>[(4, .p (i64 m)),(5, .p (i64 j)),(0, .ptr 0 0 0)],fun j=>rs s (k+j),fun j=>j<=m,fun j=>m - j,?_,?_⟩
 ·exact⟨0,by omega,qCA rfl (sk) (sk) rfl⟩
 ·intro j hj
  refine And.intro (fun h1=>?_) (fun h1=>?_)
  ·have hk':k+j<s.length:=by omega
   refine VDraw.seq rfl ?_
   refine⟨_,⟨by omega,s[k+j],List.getElem?_eq_getElem hk',rfl⟩,?_⟩
   have hle:=qVT s (k+j)
   refine(qWN (at_ s (k+j)).1 (at_ s (k+j)).2 s[k+j] 140 [vS s, .p (i64 (k+j:Nat))] (by omega) (by omega)).useE [] [] rfl ?_ ?_ ?_
   ·(exact sk)
   ·(exact sk)
   ·refine⟨((k+j:Nat):Int)+1,w6z,?_⟩
    refine⟨(j:Int)+1,w6z,?_⟩
    refine⟨j+1,by omega,?_,?_⟩
    ·have e:rs s (k+(j+1))=rdH (adv (at_ s (k+j)) s[k+j]) s (k+(j+1)):=by
      rw [rs,<- qRi hk'];rfl
     show Ent _ _ _ _ _ _ _ _ (rs s (k+(j+1)))
     rw [e]
     exact qCA rfl (sk) (sk) rfl
    ·show m - (j+1)<m - j
     omega
  ·have:j=m:=by omega
   subst this
   exact⟨rfl,rfl⟩
def qBU:Nat->Nat->List UInt8->Option Nat
 | 0,_,_=>none
 | f+1,d,r=>match r with
  | []=>none
  | _::_=>if List.isPrefixOf [40,42] r then(qBU f (d+1) (r.drop 2)).map (·+2)
   else if List.isPrefixOf [42,41] r then(if d=1 then some 2 else(qBU f (d - 1) (r.drop 2)).map (·+2))
   else(qBU f d (r.drop 1)).map (·+1)
abbrev err (p:Nat × Nat) (c:Int):PV:=.iface 136 (.agg [i64 p.1,i64 p.2,i64 c])
theorem qS9 (b:UInt8):Pure cx 144 [u8 b] (·=.ret [.bool (!decide (b.toNat=10))]):=by
 refine qAB Tryz.func144 rfl rfl rfl ?_
 refine And.intro (fun h1=>?_) (fun h1=>?_)
 ·exact qAF _ rfl rfl (qAN (by simp;omega))
 ·exact qAF _ rfl rfl (qAN (by simp;omega))
theorem qCI {a:List UInt8} {s:List UInt8} {k:Nat} (h:a.isPrefixOf (s.drop k)=true):k+a.length<=s.length∨a=[]:=by
 rw [List.isPrefixOf_iff_prefix] at h
 have:=h.length_le
 rw [List.length_drop] at this
 cases a with
 | nil=>exact .inr rfl
 | cons x r=>simp only [List.length_cons] at *;exact .inl (by omega)
theorem qRZ (s:List UInt8) (hs:s.length<=8000) (k f:Nat) (hk:List.isPrefixOf [40,42] (s.drop k)=true) (hf:s.length - (k+2)<=f) :
  HoldsG cx 145 [.ptr 0 0 0] (rs s k) fun e H'=>match qBU f 1 (s.drop (k+2)) with
   | some n=>k+2+n<=s.length/\e=.returned und/\H'=rs s (k+2+n)
   | none=>e=.panicked [⟨.p (err (at_ s k) 370),false⟩]/\∃ k',k'<=s.length/\H'=rs s k':=by
 refine qAA Tryz.func145 rfl rfl rfl ?_
 have hk2:k+2<=s.length:=(qCI hk).resolve_right (by simp)
 refine⟨Nat × Nat × Nat,fun x=>[(0, .ptr 0 0 0),(2, .ptr 1 0 0),(3, .p (i64 x.2.1))],fun x=>⟨2,[(0,⟨140,false, .bx (rdr (at_ s x.1) s x.1)⟩),(1,⟨134,false, .bx [.p (i64 (at_ s k).1), .p (i64 (at_ s k).2)]⟩)]⟩,
  fun x=>x.1<=s.length/\((x.1=k/\x.2.1=0)∨(1<=x.2.1/\x.2.1<=x.1/\k+2<=x.1/\s.length - x.1<=x.2.2/\qBU f 1 (s.drop (k+2))=(qBU x.2.2 x.2.1 (s.drop x.1)).map (·+(x.1 - (k+2))))),fun x=>s.length - x.1,?_,?_⟩
 ·exact⟨(k,0,0),⟨by omega, .inl ⟨rfl,rfl⟩⟩,qCA rfl (sk) (sk) rfl⟩
 ·rintro⟨k',d,f'⟩ ⟨hk',hx⟩
  refine VDraw.seq rfl ?_
  refine And.intro (fun h1=>?_) (fun h1=>?_)
  ·have h1:(s.length:Int)<=(k':Int):=h1
   simp only [] at hk' hx
   have ek:k'=s.length:=by omega
   rcases hx with ⟨rfl,-⟩ | ⟨-,-,-,-,hc⟩
   ·omega
   ·have hn:qBU f 1 (s.drop (k+2))=none:=by
     rw [hc,ek,List.drop_length]
     cases f' <;> rfl
    refine⟨[],[],[], .panicked [⟨.p (err (at_ s k) 370),false⟩],rs s k',rfl,sk,sk,?_⟩
    rw [hn]
    exact⟨rfl,k',hk',rfl⟩
  ·have h1:¬ (s.length:Int)<=(k':Int):=h1
   simp only [] at hk' hx
   have hlt:k'<s.length:=by omega
   obtain⟨c,r,hr⟩:∃ c r,s.drop k'=c::r:=⟨_,_,List.drop_eq_getElem_cons hlt⟩
   refine(qHZ (at_ s k') s [40,42] k' hk').useE [] [] rfl (sk) (sk) ?_
   cases hb:List.isPrefixOf [40,42] (s.drop k')
   ·rcases hx with ⟨rfl,-⟩ | ⟨g1,g2,g3,g4,hc⟩
    ·rw [hk] at hb;cases hb
    obtain⟨f'',rfl⟩:∃ n,f'=n+1:=⟨f' - 1,by omega⟩
    refine(qHZ (at_ s k') s [42,41] k' hk').useE [] [] rfl (sk) (sk) ?_
    cases hb2:List.isPrefixOf [42,41] (s.drop k')
    ·refine(qEM s hs k' 1 (by omega)).useE [] [] rfl (sk) (sk) ?_
     refine⟨(k'+1,d,f''),⟨by simp only [];omega, .inr ⟨g1,by simp only [];omega,by simp only [];omega,by simp only [];omega,?_⟩⟩,qCA rfl (sk) (sk) rfl,by simp only [];omega⟩
     rw [hc,hr,qBU,<- hr,if_neg (by rw [hb];simp),if_neg (by rw [hb2];simp),List.drop_drop]
     rw [Option.map_map]
     congr 1
     funext n
     simp only [Function.comp]
     omega
    ·have hk3:k'+2<=s.length:=(qCI hb2).resolve_right (by simp)
     refine⟨(d:Int) - 1,w6z,?_⟩
     refine(qEM s hs k' 2 hk3).useE [] [] rfl (sk) (sk) ?_
     refine And.intro (fun h2=>?_) (fun h2=>?_)
     ·have h2:(d:Int) - 1=0:=h2
      have hn:qBU f 1 (s.drop (k+2))=some (k' - k):=by
       rw [hc,hr,qBU,<- hr,if_neg (by rw [hb];simp),if_pos hb2,if_pos (by omega)]
       simp only [Option.map_some]
       congr 1
       omega
      refine⟨[],[],[], .returned und,rs s (k'+2),rfl,sk,sk,?_⟩
      rw [hn]
      exact⟨by omega,rfl,by rw [show k+2+(k' - k)=k'+2 by omega]⟩
     ·have h2:¬ (d:Int) - 1=0:=h2
      refine⟨(k'+2,d - 1,f''),⟨by simp only [];omega, .inr ⟨by simp only [];omega,by simp only [];omega,by simp only [];omega,by simp only [];omega,?_⟩⟩,?_,by simp only [];omega⟩
      ·rw [hc,hr,qBU,<- hr,if_neg (by rw [hb];simp),if_pos hb2,if_neg (by omega),List.drop_drop]
       rw [Option.map_map]
       congr 1
       funext n
       simp only [Function.comp]
       omega
      ·have e:(d:Int) - 1=((d - 1:Nat):Int):=by omega
       rw [e]
       exact qCA rfl (sk) (sk) rfl
   ·have hk3:k'+2<=s.length:=(qCI hb).resolve_right (by simp)
    have hd:d<=k':=by rcases hx with ⟨rfl,rfl⟩ | ⟨g1,g2,-⟩ <;> omega
    refine⟨(d:Int)+1,w6z,?_⟩
    refine(qEM s hs k' 2 hk3).useE [] [] rfl (sk) (sk) ?_
    rcases hx with ⟨rfl,rfl⟩ | ⟨g1,g2,g3,g4,hc⟩
    ·refine⟨(k'+2,1,f),⟨hk3, .inr ⟨by simp,by simp,by simp,hf,?_⟩⟩,qCA rfl (sk) (sk) rfl,by simp only [];omega⟩
     simp
    ·obtain⟨f'',rfl⟩:∃ n,f'=n+1:=⟨f' - 1,by omega⟩
     refine⟨(k'+2,d+1,f''),⟨hk3, .inr ⟨by simp only [];omega,by simp only [];omega,by simp only [];omega,by simp only [];omega,?_⟩⟩,qCA rfl (sk) (sk) rfl,by simp only [];omega⟩
     rw [hc,hr,qBU,<- hr,if_pos hb,List.drop_drop]
     rw [Option.map_map]
     congr 1
     funext n
     simp only [Function.comp]
     omega
set_option maxHeartbeats 4000000
def shift (n:Nat):Nat ⊕ Nat->Nat ⊕ Nat
 | .inl m=>.inl (m+n)
 | .inr m=>.inr (m+n)
theorem qCY (a b:Nat) (x:Nat ⊕ Nat):shift a (shift b x)=shift (b+a) x:=by
 cases x <;> simp [shift] <;> omega
theorem qIq (x:Nat ⊕ Nat):shift 0 x=x:=by cases x <;> rfl
def qE7 (b:UInt8):Bool:=!decide (b.toNat=10)
def qBK:Nat->List UInt8->Nat ⊕ Nat
 | 0,_=>.inl 0
 | f+1,r=>match r with
  | []=>.inl 0
  | c::_=>if c.toNat=32∨c.toNat=10 then shift 1 (qBK f (r.drop 1))
   else if List.isPrefixOf [45,45] r then shift (qAL qE7 r) (qBK f (r.drop (qAL qE7 r)))
   else if List.isPrefixOf [40,42] r then(match qBU f 1 (r.drop 2) with
    | none=>.inr 0
    | some n=>shift (2+n) (qBK f (r.drop (2+n))))
   else .inl 0
theorem qV3 {r:List UInt8} (h:List.isPrefixOf [45,45] r=true):2<=qAL qE7 r:=by
 rw [List.isPrefixOf_iff_prefix] at h
 obtain⟨t,rfl⟩:=h
 simp [qAL,qE7]
theorem qRg (s:List UInt8) (hs:s.length<=8000) (k f:Nat) (hk:k<=s.length) (hf:s.length - k<=f) :
  HoldsG cx 103 [.ptr 0 0 0] (rs s k) fun e H'=>match qBK f (s.drop k) with
   | .inl n=>k+n<=s.length/\e=.returned und/\H'=rs s (k+n)
   | .inr n=>k+n<=s.length/\e=.panicked [⟨.p (err (at_ s (k+n)) 370),false⟩]/\∃ k',k'<=s.length/\H'=rs s k':=by
 refine qA3 Tryz.func103 rfl rfl rfl ?_
 refine⟨Nat × Nat,fun x=>[(0, .ptr 0 0 0)],fun x=>rs s x.1,
  fun x=>k<=x.1/\x.1<=s.length/\s.length - x.1<=x.2/\qBK f (s.drop k)=shift (x.1 - k) (qBK x.2 (s.drop x.1)),fun x=>s.length - x.1,?_,?_⟩
 ·exact⟨(k,f),⟨by simp,hk,hf,by simp [qIq]⟩,qCA rfl ⟨⟨rfl,rfl⟩,trivial⟩ ⟨⟨_,rfl,rfl,rfl,_,rfl,_,_,rfl,rfl,_,_,rfl,rfl,_,_,rfl,rfl,_,_,rfl,rfl,rfl⟩,trivial⟩ rfl⟩
 ·rintro⟨k',f'⟩ ⟨g1,g2,g3,hc⟩
  simp only [] at g1 g2 g3 hc
  refine VDraw.seq rfl ?_
  refine And.intro (fun h1=>?_) (fun h1=>?_)
  ·have hlt:k'<s.length:=by have h1:(k':Int)<(s.length:Int):=h1;omega
   have hr:s.drop k'=s[k']::s.drop (k'+1):=List.drop_eq_getElem_cons hlt
   obtain⟨f'',rfl⟩:∃ n,f'=n+1:=⟨f' - 1,by omega⟩
   refine VDraw.seq rfl ?_
   refine⟨_,⟨by omega,s[k'],List.getElem?_eq_getElem hlt,rfl⟩,?_⟩
   have one:(s[k'].toNat=32∨s[k'].toNat=10)->qBK f (s.drop k)=shift (k'+1 - k) (qBK f'' (s.drop (k'+1))):=by
    intro h
    rw [hc,hr,qBK,if_pos h,qCY]
    congr 1
    omega
   refine And.intro (fun h2=>?_) (fun h2=>?_)
   ·have h2:((s[k'].toNat:Nat):Int)=32:=h2
    refine(qEM s hs k' 1 (by omega)).useE [] [] rfl ⟨⟨_,rfl,rfl,rfl,_,rfl,_,_,rfl,rfl,_,_,rfl,rfl,_,_,rfl,rfl,_,_,rfl,rfl,rfl⟩,trivial⟩ ⟨_,_,rfl,⟨rfl,rfl⟩,_,_,rfl,rfl,rfl⟩ ?_
    exact⟨(k'+1,f''),⟨by simp only [];omega,by simp only [];omega,by simp only [];omega,one (by omega)⟩,qCA rfl ⟨⟨rfl,rfl⟩,trivial⟩ ⟨⟨_,rfl,rfl,rfl,_,rfl,_,_,rfl,rfl,_,_,rfl,rfl,_,_,rfl,rfl,_,_,rfl,rfl,rfl⟩,trivial⟩ rfl,by simp only [];omega⟩
   ·have h2:¬ ((s[k'].toNat:Nat):Int)=32:=h2
    refine And.intro (fun h3=>?_) (fun h3=>?_)
    ·have h3:((s[k'].toNat:Nat):Int)=10:=h3
     refine(qEM s hs k' 1 (by omega)).useE [] [] rfl ⟨⟨_,rfl,rfl,rfl,_,rfl,_,_,rfl,rfl,_,_,rfl,rfl,_,_,rfl,rfl,_,_,rfl,rfl,rfl⟩,trivial⟩ ⟨_,_,rfl,⟨rfl,rfl⟩,_,_,rfl,rfl,rfl⟩ ?_
     exact⟨(k'+1,f''),⟨by simp only [];omega,by simp only [];omega,by simp only [];omega,one (by omega)⟩,qCA rfl ⟨⟨rfl,rfl⟩,trivial⟩ ⟨⟨_,rfl,rfl,rfl,_,rfl,_,_,rfl,rfl,_,_,rfl,rfl,_,_,rfl,rfl,_,_,rfl,rfl,rfl⟩,trivial⟩ rfl,by simp only [];omega⟩
    ·have h3:¬ ((s[k'].toNat:Nat):Int)=10:=h3
     have hno:¬ (s[k'].toNat=32∨s[k'].toNat=10):=by omega
     have hB:=qHZ (at_ s k') s [45,45] k' g2
     by_cases hb:List.isPrefixOf [45,45] (s.drop k')=true
     rotate_left
     ·rw [Bool.not_eq_true] at hb
      rw [hb] at hB
      refine hB.useE [] [] rfl ⟨⟨_,rfl,rfl,rfl,_,rfl,_,_,rfl,rfl,_,_,rfl,rfl,_,_,rfl,rfl,_,_,rfl,rfl,rfl⟩,trivial⟩ ⟨_,_,rfl,⟨rfl,rfl⟩,_,_,rfl,rfl,rfl⟩ ?_
      have hB2:=qHZ (at_ s k') s [40,42] k' g2
      by_cases hb2:List.isPrefixOf [40,42] (s.drop k')=true
      rotate_left
      ·rw [Bool.not_eq_true] at hb2
       rw [hb2] at hB2
       refine hB2.useE [] [] rfl ⟨⟨_,rfl,rfl,rfl,_,rfl,_,_,rfl,rfl,_,_,rfl,rfl,_,_,rfl,rfl,_,_,rfl,rfl,rfl⟩,trivial⟩ ⟨_,_,rfl,⟨rfl,rfl⟩,_,_,rfl,rfl,rfl⟩ ?_
       have e:qBK f (s.drop k)=.inl (k' - k):=by
        rw [hc,hr,qBK,if_neg hno,<- hr,if_neg (by rw [hb];simp),if_neg (by rw [hb2];simp)]
        simp [shift]
       show(match qBK f (s.drop k) with | .inl n=>_ | .inr n=>_)
       rw [e]
       have e2:k+(k' - k)=k':=by omega
       exact⟨by omega,rfl,by rw [e2];rfl⟩
      ·rw [hb2] at hB2
       refine hB2.useE [] [] rfl ⟨⟨_,rfl,rfl,rfl,_,rfl,_,_,rfl,rfl,_,_,rfl,rfl,_,_,rfl,rfl,_,_,rfl,rfl,rfl⟩,trivial⟩ ⟨_,_,rfl,⟨rfl,rfl⟩,_,_,rfl,rfl,rfl⟩ ?_
       have hk2:k'+2<=s.length:=(qCI hb2).resolve_right (by simp)
       have hcm:=qRZ s hs k' f'' hb2 (by omega)
       refine Or.elim (Option.eq_none_or_eq_some (qBU f'' 1 (s.drop (k'+2)))) (fun hcl=>?_) (fun hn=>Exists.elim hn (fun n hcl=>?_))
       ·
        have e:qBK f (s.drop k)=.inr (k' - k):=by
         rw [hc,hr,qBK,if_neg hno,<- hr,if_neg (by rw [hb];simp),if_pos hb2,List.drop_drop,hcl]
         simp [shift]
        simp only [hcl] at hcm
        refine hcm.holds.useN [] [] rfl ⟨⟨_,rfl,rfl,rfl,_,rfl,_,_,rfl,rfl,_,_,rfl,rfl,_,_,rfl,rfl,_,_,rfl,rfl,rfl⟩,trivial⟩ ⟨_,_,rfl,⟨rfl,rfl⟩,rfl⟩ fun e0 H0' hq=>?_
        obtain⟨rfl,k2,k3,rfl⟩:=hq
        refine⟨rfl,?_⟩
        show(match qBK f (s.drop k) with | .inl n=>_ | .inr n=>_)
        rw [e]
        have e2:k+(k' - k)=k':=by omega
        exact⟨by omega,by rw [e2];rfl,k2,k3,rfl⟩
       ·
        simp only [hcl] at hcm
        refine hcm.holds.useN [] [] rfl ⟨⟨_,rfl,rfl,rfl,_,rfl,_,_,rfl,rfl,_,_,rfl,rfl,_,_,rfl,rfl,_,_,rfl,rfl,rfl⟩,trivial⟩ ⟨_,_,rfl,⟨rfl,rfl⟩,rfl⟩ fun e0 H0' hq=>?_
        obtain⟨k3,rfl,rfl⟩:=hq
        refine⟨rfl,?_⟩
        refine⟨(k'+2+n,f''),⟨by simp only [];omega,by simp only [];omega,by simp only [];omega,?_⟩,qCA rfl ⟨⟨rfl,rfl⟩,trivial⟩ ⟨⟨_,rfl,rfl,rfl,_,rfl,_,_,rfl,rfl,_,_,rfl,rfl,_,_,rfl,rfl,_,_,rfl,rfl,rfl⟩,trivial⟩ rfl,by simp only [];omega⟩
        rw [hc,hr,qBK,if_neg hno,<- hr,if_neg (by rw [hb];simp),if_pos hb2,List.drop_drop,hcl]
        simp only []
        rw [qCY,List.drop_drop,show k'+(2+n)=k'+2+n by omega]
        congr 1
        omega
     ·rw [hb] at hB
      refine hB.useE [] [] rfl ⟨⟨_,rfl,rfl,rfl,_,rfl,_,_,rfl,rfl,_,_,rfl,rfl,_,_,rfl,rfl,_,_,rfl,rfl,rfl⟩,trivial⟩ ⟨_,_,rfl,⟨rfl,rfl⟩,_,_,rfl,rfl,rfl⟩ ?_
      have hsp:=qV3 hb
      have hle:=qCf qE7 (s.drop k')
      rw [List.length_drop] at hle
      refine VDraw.seq rfl ?_
      refine⟨⟨by omega,by omega⟩,?_⟩
      refine(qSL (s.drop k')).eq rfl ?_
      refine(qNR _ qE7 qS9 (s.drop k') (by rw [List.length_drop];omega)).eq rfl ?_
      refine(qEM s hs k' (qAL qE7 (s.drop k')) (by omega)).useE [] [] rfl ⟨⟨_,rfl,rfl,rfl,_,rfl,_,_,rfl,rfl,_,_,rfl,rfl,_,_,rfl,rfl,_,_,rfl,rfl,rfl⟩,trivial⟩ ⟨_,_,rfl,⟨rfl,rfl⟩,_,_,rfl,rfl,rfl⟩ ?_
      refine⟨(k'+qAL qE7 (s.drop k'),f''),⟨by simp only [];omega,by simp only [];omega,by simp only [];omega,?_⟩,qCA rfl ⟨⟨rfl,rfl⟩,trivial⟩ ⟨⟨_,rfl,rfl,rfl,_,rfl,_,_,rfl,rfl,_,_,rfl,rfl,_,_,rfl,rfl,_,_,rfl,rfl,rfl⟩,trivial⟩ rfl,by simp only [];omega⟩
      rw [hc]
      conv=>lhs;rw [hr,qBK,if_neg hno,<- hr,if_pos hb]
      rw [qCY,List.drop_drop]
      congr 1
      omega
  ·have hk':k'=s.length:=by have h1:¬ (k':Int)<(s.length:Int):=h1;omega
   have e:qBK f (s.drop k)=.inl (k' - k):=by
    rw [hc,hk',List.drop_length]
    cases f' <;> simp [qBK,shift]
   show(match qBK f (s.drop k) with | .inl n=>_ | .inr n=>_)
   rw [e]
   have e2:k+(k' - k)=k':=by omega
   exact⟨by omega,rfl,by rw [e2]⟩
def inL:List (List UInt8)->List UInt8->Bool
 | [],_=>false
 | x::r,s=>decide (s=x) || inL r s
theorem qMY (s:List UInt8):Pure cx 147 [.str s] (·=.ret [.bool (inL keysL s)]):=by
 refine qAB Tryz.func147 rfl rfl rfl ?_
 refine⟨Nat,fun k=>[(5, .p (.agg (keysL.map .str))),(6, .p (i64 k)),(0,vS s)],fun _=>⟨0,[]⟩,fun k=>k<=14/\inL keysL s=inL (keysL.drop k) s,fun k=>14 - k,?_,?_⟩
 ·exact⟨0,⟨by omega,rfl⟩,qCA rfl (sk) trivial rfl⟩
 ·rintro k ⟨hk,he⟩
  refine And.intro (fun h1=>?_) (fun h1=>?_)
  ·have hk':k<14:=by omega
   have hc:keysL.drop k=keysL[k]::keysL.drop (k+1):=List.drop_eq_getElem_cons hk'
   refine⟨_,⟨⟨by omega,by omega⟩, .str keysL[k],qQ2 rfl (by show(keysL.map PV.str)[(k:Int).toNat * 1]?=_;simp;exact List.getElem?_eq_getElem hk'),rfl⟩,?_⟩
   refine And.intro (fun h2=>?_) (fun h2=>?_)
   ·have h2:s=keysL[k]:=h2
    exact qAF _ rfl rfl (qAN (by rw [he,hc,inL,h2];simp))
   ·have h2:¬ s=keysL[k]:=h2
    refine⟨(k:Int)+1,w6z,k+1,⟨by omega,?_⟩,qCA rfl (sk) trivial rfl,?_⟩
    ·rw [he,hc,inL,decide_eq_false h2]
     rfl
    ·show 14 - (k+1)<14 - k
     omega
  ·have:k=14:=by omega
   subst this
   exact qAF _ rfl rfl (qAN (by rw [he];rfl))
theorem qN2 (s:List UInt8):Pure cx 149 [.str s] (·=.ret [.bool (inL marksL s)]):=by
 refine qAB Tryz.func149 rfl rfl rfl ?_
 refine⟨Nat,fun k=>[(5, .p (.agg (marksL.map .str))),(6, .p (i64 k)),(0,vS s)],fun _=>⟨0,[]⟩,fun k=>k<=16/\inL marksL s=inL (marksL.drop k) s,fun k=>16 - k,?_,?_⟩
 ·exact⟨0,⟨by omega,rfl⟩,qCA rfl (sk) trivial rfl⟩
 ·rintro k ⟨hk,he⟩
  refine And.intro (fun h1=>?_) (fun h1=>?_)
  ·have hk':k<16:=by omega
   have hc:marksL.drop k=marksL[k]::marksL.drop (k+1):=List.drop_eq_getElem_cons hk'
   refine⟨_,⟨⟨by omega,by omega⟩, .str marksL[k],qQ2 rfl (by show(marksL.map PV.str)[(k:Int).toNat * 1]?=_;simp;exact List.getElem?_eq_getElem hk'),rfl⟩,?_⟩
   refine And.intro (fun h2=>?_) (fun h2=>?_)
   ·have h2:s=marksL[k]:=h2
    exact qAF _ rfl rfl (qAN (by rw [he,hc,inL,h2];simp))
   ·have h2:¬ s=marksL[k]:=h2
    refine⟨(k:Int)+1,w6z,k+1,⟨by omega,?_⟩,qCA rfl (sk) trivial rfl,?_⟩
    ·rw [he,hc,inL,decide_eq_false h2]
     rfl
    ·show 16 - (k+1)<16 - k
     omega
  ·have:k=16:=by omega
   subst this
   exact qAF _ rfl rfl (qAN (by rw [he];rfl))
def qAo (t:List UInt8):Bool:=decide (t ≠ []) && decide (t.length<=10) && isLet (t.headD 0) && decide (qAL qAS t=t.length) && !inL keysL t
def qIY (t:List UInt8):Bool:=decide (t ≠ []) && decide (t.length<=4) && decide (qAL qBf t=t.length) && (decide (t=[48]) || decide ((t.headD 0).toNat ≠ 48))
def qAk (k:Int) (t:List UInt8):Bool:=
 if k=1 then qAo t else if k=2 then inL keysL t else if k=3 then qIY t else if k=4 then inL marksL t else false
theorem qD1 (k:Int) (t:List UInt8) (ht:t.length<=9223372036854775807):Pure cx 150 [i64 k, .str t] (·=.ret [.bool (qAk k t)]):=by
 refine qAB Tryz.func150 rfl rfl rfl ?_
 refine And.intro (fun h1=>?_) (fun h1=>?_)
 ·have h1:k=1:=h1
  subst h1
  have er:qAk 1 t=qAo t:=rfl
  rw [er]
  refine And.intro (fun h2=>?_) (fun h2=>?_)
  ·have h2:t=[]:=h2
   subst h2
   exact qAF _ rfl rfl rfl
  ·have h2:¬ t=[]:=h2
   refine And.intro (fun h3=>?_) (fun h3=>?_)
   ·have h3:(t.length:Int)<=10:=h3
    obtain⟨c,r,rfl⟩:∃ c r,t=c::r:=by cases t with | nil=>exact(h2 rfl).elim | cons c r=>exact⟨c,r,rfl⟩
    refine⟨_,⟨by omega,c,rfl,rfl⟩,?_⟩
    have hL:=qNx c
    by_cases hl:isLet c=true
    rotate_left
    ·rw [Bool.not_eq_true] at hl
     rw [hl] at hL
     refine hL.eq rfl ?_
     exact qAF _ rfl rfl (qAN (by simp [qAo,hl]))
    ·rw [hl] at hL
     refine hL.eq rfl ?_
     refine(qSL _).eq rfl ?_
     refine(qNR _ qAS qRl (c::r) ht).eq rfl ?_
     refine And.intro (fun h4=>?_) (fun h4=>?_)
     ·have h4:(qAL qAS (c::r):Int)=((c::r).length:Int):=h4
      refine(qMY (c::r)).eq rfl ?_
      exact qAF _ rfl rfl (qAN (by simp only [qAo,List.headD_cons,hl,decide_eq_true (show qAL qAS (c::r)=(c::r).length by omega),decide_eq_true h2,decide_eq_true (show(c::r).length<=10 by omega),Bool.true_and]))
     ·have h4:¬ (qAL qAS (c::r):Int)=((c::r).length:Int):=h4
      exact qAF _ rfl rfl (qAN (by simp only [qAo,decide_eq_false (show ¬ qAL qAS (c::r)=(c::r).length by omega),Bool.and_false,Bool.false_and]))
   ·have h3:¬ (t.length:Int)<=10:=h3
    exact qAF _ rfl rfl (qAN (by simp only [qAo,decide_eq_false (show ¬ t.length<=10 by omega),Bool.and_false,Bool.false_and]))
 ·have h1:¬ k=1:=h1
  refine And.intro (fun h2=>?_) (fun h2=>?_)
  ·have h2:k=2:=h2
   subst h2
   refine(qMY t).eq rfl ?_
   exact qAF _ rfl rfl rfl
  ·have h2:¬ k=2:=h2
   refine And.intro (fun h3=>?_) (fun h3=>?_)
   ·have h3:k=3:=h3
    subst h3
    have er:qAk 3 t=qIY t:=rfl
    rw [er]
    refine And.intro (fun h4=>?_) (fun h4=>?_)
    ·have h4:t=[]:=h4
     subst h4
     exact qAF _ rfl rfl rfl
    ·have h4:¬ t=[]:=h4
     refine And.intro (fun h5=>?_) (fun h5=>?_)
     ·have h5:(4:Int)<t.length:=h5
      exact qAF _ rfl rfl (qAN (by simp only [qIY,decide_eq_false (show ¬ t.length<=4 by omega),Bool.and_false,Bool.false_and]))
     ·have h5:¬ (4:Int)<t.length:=h5
      refine(qSL _).eq rfl ?_
      refine(qNR _ qBf qMj t ht).eq rfl ?_
      have hle:=qCf qBf t
      refine And.intro (fun h6=>?_) (fun h6=>?_)
      ·have h6:(qAL qBf t:Int)<t.length:=h6
       exact qAF _ rfl rfl (qAN (by simp only [qIY,decide_eq_false (show ¬ qAL qBf t=t.length by omega),Bool.and_false,Bool.false_and]))
      ·have h6:¬ (qAL qBf t:Int)<t.length:=h6
       have hn:qIY t=(decide (t=[48]) || decide ((t.headD 0).toNat ≠ 48)):=by
        simp only [qIY,decide_eq_true (show qAL qBf t=t.length by omega),decide_eq_true h4,decide_eq_true (show t.length<=4 by omega),Bool.true_and]
       rw [hn]
       refine And.intro (fun h7=>?_) (fun h7=>?_)
       ·have h7:t=[48]:=h7
        exact qAF _ rfl rfl (qAN (by simp [h7]))
       ·have h7:¬ t=[48]:=h7
        obtain⟨c,r,rfl⟩:∃ c r,t=c::r:=by cases t with | nil=>exact(h4 rfl).elim | cons c r=>exact⟨c,r,rfl⟩
        refine⟨_,⟨by omega,c,rfl,rfl⟩,?_⟩
        rw [decide_eq_false h7,Bool.false_or]
        refine And.intro (fun h8=>?_) (fun h8=>?_)
        ·have h8:((c.toNat:Nat):Int)=48:=h8
         exact qAF _ rfl rfl (qAN (by rw [eq_comm,decide_eq_false_iff_not];show ¬ c.toNat ≠ 48;omega))
        ·have h8:¬ ((c.toNat:Nat):Int)=48:=h8
         exact qAF _ rfl rfl (qAN (by rw [eq_comm,decide_eq_true_eq];show c.toNat ≠ 48;omega))
   ·have h3:¬ k=3:=h3
    refine And.intro (fun h4=>?_) (fun h4=>?_)
    ·have h4:k=4:=h4
     subst h4
     refine(qN2 t).eq rfl ?_
     exact qAF _ rfl rfl rfl
    ·have h4:¬ k=4:=h4
     exact qAF _ rfl rfl (qAN (by simp [qAk,h1,h2,h3,h4]))
structure Wd where
 kind:Int
 text:List UInt8
 line:Int
 col:Int
deriving DecidableEq
abbrev Wd.cells (w:Wd):List PV:=[i64 w.kind, .str w.text,i64 w.line,i64 w.col]
def qBN (r : List UInt8) : Int × List UInt8 :=
  if 0 < qAL qAS r then
    (if inL keysL (r.take (qAL qAS r)) then (2, r.take (qAL qAS r))
     else if qBf ((r.take (qAL qAS r)).headD 0) then (3, r.take (qAL qAS r)) else (1, r.take (qAL qAS r)))
  else if 1 < r.length && inL marksL (r.take 2) then (4, r.take 2) else (4, r.take 1)
theorem qVu (s:List UInt8) (hs:s.length<=8000) (k:Nat) (hk:k<s.length) :
  HoldsG cx 104 [.ptr 0 0 0] (rs s k) fun e H'=>match qAk (qBN (s.drop k)).1 (qBN (s.drop k)).2 with
   | true=>k+(qBN (s.drop k)).2.length<=s.length/\e=.returned (.p (.agg (Wd.cells ⟨(qBN (s.drop k)).1,(qBN (s.drop k)).2,(at_ s k).1,(at_ s k).2⟩)))/\H'=rs s (k+(qBN (s.drop k)).2.length)
   | false=>e=.panicked [⟨.p (err (at_ s k) 370),false⟩]/\H'=rs s k:=by
 refine qAA Tryz.func104 rfl rfl rfl ?_
 have hr:s.drop k=s[k]::s.drop (k+1):=List.drop_eq_getElem_cons hk
 have hlen:(s.drop k).length=s.length - k:=List.length_drop
 have hsp:=qCf qAS (s.drop k)
 refine VDraw.seqTo [(0, .ptr 0 0 0),(2, .ptr 1 0 0),(3, .ptr 2 0 0)] ⟨3,[(0,⟨140,false, .bx (rdr (at_ s k) s k)⟩),(1,⟨72,false, .bx [.p (i64 0),vS [], .p (i64 0), .p (i64 0)]⟩),(2,⟨72,false, .bx [.p (i64 4),vS [], .p (i64 (at_ s k).1), .p (i64 (at_ s k).2)]⟩)]⟩ rfl ?_ ?_
 ·refine⟨sk,?_⟩
  exact qCA rfl ⟨⟨rfl,rfl⟩,⟨rfl,rfl⟩,⟨rfl,rfl⟩,trivial⟩ ⟨⟨_,rfl,rfl,rfl,_,rfl,_,_,rfl,rfl,_,_,rfl,rfl,_,_,rfl,rfl,_,_,rfl,rfl,rfl⟩,⟨_,rfl,rfl,rfl,_,rfl,_,_,rfl,rfl,_,_,rfl,rfl,_,_,rfl,rfl,_,_,rfl,rfl,rfl⟩,⟨_,rfl,rfl,rfl,_,rfl,_,_,rfl,rfl,_,_,rfl,rfl,_,_,rfl,rfl,_,_,rfl,rfl,rfl⟩,trivial⟩ rfl
 refine VDraw.seqTo [(0, .ptr 0 0 0),(2, .ptr 1 0 0),(3, .ptr 2 0 0),(4,vS (s.drop k))] ⟨3,[(0,⟨140,false, .bx (rdr (at_ s k) s k)⟩),(1,⟨72,false, .bx [.p (i64 0),vS [], .p (i64 0), .p (i64 0)]⟩),(2,⟨72,false, .bx [.p (i64 4),vS [], .p (i64 (at_ s k).1), .p (i64 (at_ s k).2)]⟩)]⟩ rfl ?_ ?_
 ·refine⟨⟨by omega,by omega⟩,?_⟩
  exact qCA rfl ⟨⟨rfl,rfl⟩,⟨rfl,rfl⟩,⟨rfl,rfl⟩,rfl,trivial⟩ ⟨⟨_,rfl,rfl,rfl,_,rfl,_,_,rfl,rfl,_,_,rfl,rfl,_,_,rfl,rfl,_,_,rfl,rfl,rfl⟩,⟨_,rfl,rfl,rfl,_,rfl,_,_,rfl,rfl,_,_,rfl,rfl,_,_,rfl,rfl,_,_,rfl,rfl,rfl⟩,⟨_,rfl,rfl,rfl,_,rfl,_,_,rfl,rfl,_,_,rfl,rfl,_,_,rfl,rfl,_,_,rfl,rfl,rfl⟩,trivial⟩ rfl
 refine(qSL (s.drop k)).eq rfl ?_
 refine(qNR _ qAS qRl (s.drop k) (by omega)).eq rfl ?_
 refine And.intro (fun h1=>?_) (fun h1=>?_)
 ·have h1:(0:Int)<(qAL qAS (s.drop k):Nat):=h1
  refine⟨⟨by omega,by show((qAL qAS (s.drop k):Nat):Int)<=((s.drop k).length:Nat);omega⟩,?_⟩
  have hpos:0<qAL qAS (s.drop k):=by omega
  have htl:((s.drop k).take (qAL qAS (s.drop k))).length=qAL qAS (s.drop k):=by rw [List.length_take];omega
  have hK:=qMY ((s.drop k).take (qAL qAS (s.drop k)))
  by_cases hkey:inL keysL ((s.drop k).take (qAL qAS (s.drop k)))=true
  rotate_left
  ·rw [Bool.not_eq_true] at hkey
   rw [hkey] at hK
   refine hK.eq rfl ?_
   obtain⟨c,r,hcr⟩:∃ c r,(s.drop k).take (qAL qAS (s.drop k))=c::r:=by
    cases ht:(s.drop k).take (qAL qAS (s.drop k)) with
    | nil=>rw [ht] at htl;simp at htl;omega
    | cons c r=>exact⟨c,r,rfl⟩
   refine⟨_,⟨by omega,c,by show((s.drop k).take (qAL qAS (s.drop k)))[0]?=_;rw [hcr];rfl,rfl⟩,?_⟩
   have hD:=qMj c
   by_cases hd:qBf c=true
   rotate_left
   ·rw [Bool.not_eq_true] at hd
    rw [hd] at hD
    refine hD.eq rfl ?_
    have e1:=(show qBN (s.drop k)=(1,(s.drop k).take (qAL qAS (s.drop k))) by rw [qBN,if_pos hpos,if_neg (by rw [hkey];simp),if_neg (by rw [hcr];simp [hd])])
    have hl:=(show k+((s.drop k).take (qAL qAS (s.drop k))).length<=s.length by omega)
    have hP:=qD1 1 ((s.drop k).take (qAL qAS (s.drop k))) (by omega)
    by_cases hp:qAk 1 ((s.drop k).take (qAL qAS (s.drop k)))=true
    rotate_left
    ·rw [Bool.not_eq_true] at hp
     rw [hp] at hP
     refine hP.eq rfl ?_
     refine⟨[],[],[], .panicked [⟨.p (err (at_ s k) 370),false⟩],rs s k,rfl,⟨_,rfl,_,_,rfl,rfl,rfl⟩,⟨⟨_,rfl,rfl,rfl,_,rfl,_,_,rfl,rfl,_,_,rfl,rfl,_,_,rfl,rfl,_,_,rfl,rfl,rfl⟩,trivial⟩,?_⟩
     rw [e1]
     show(match qAk 1 ((s.drop k).take (qAL qAS (s.drop k))) with | true=>_ | false=>_)
     rw [hp]
     exact⟨rfl,rfl⟩
    ·rw [hp] at hP
     refine hP.eq rfl ?_
     refine(qEM s hs k (List.length ((s.drop k).take (qAL qAS (s.drop k)))) (by omega)).useE [] [] rfl ⟨⟨_,rfl,rfl,rfl,_,rfl,_,_,rfl,rfl,_,_,rfl,rfl,_,_,rfl,rfl,_,_,rfl,rfl,rfl⟩,trivial⟩ ⟨_,_,rfl,⟨rfl,rfl⟩,_,_,rfl,rfl,rfl⟩ ?_
     refine⟨[],[],[], .returned (.p (.agg (Wd.cells ⟨1,((s.drop k).take (qAL qAS (s.drop k))),(at_ s k).1,(at_ s k).2⟩))),rs s (k+(List.length ((s.drop k).take (qAL qAS (s.drop k))))),rfl,⟨_,rfl,rfl⟩,⟨⟨_,rfl,rfl,rfl,_,rfl,_,_,rfl,rfl,_,_,rfl,rfl,_,_,rfl,rfl,_,_,rfl,rfl,rfl⟩,trivial⟩,?_⟩
     rw [e1]
     show(match qAk 1 ((s.drop k).take (qAL qAS (s.drop k))) with | true=>_ | false=>_)
     rw [hp]
     exact⟨by omega,rfl,rfl⟩
   ·rw [hd] at hD
    refine hD.eq rfl ?_
    have e1:=(show qBN (s.drop k)=(3,(s.drop k).take (qAL qAS (s.drop k))) by rw [qBN,if_pos hpos,if_neg (by rw [hkey];simp),if_pos (by rw [hcr];simp [hd])])
    have hl:=(show k+((s.drop k).take (qAL qAS (s.drop k))).length<=s.length by omega)
    have hP:=qD1 3 ((s.drop k).take (qAL qAS (s.drop k))) (by omega)
    by_cases hp:qAk 3 ((s.drop k).take (qAL qAS (s.drop k)))=true
    rotate_left
    ·rw [Bool.not_eq_true] at hp
     rw [hp] at hP
     refine hP.eq rfl ?_
     refine⟨[],[],[], .panicked [⟨.p (err (at_ s k) 370),false⟩],rs s k,rfl,⟨_,rfl,_,_,rfl,rfl,rfl⟩,⟨⟨_,rfl,rfl,rfl,_,rfl,_,_,rfl,rfl,_,_,rfl,rfl,_,_,rfl,rfl,_,_,rfl,rfl,rfl⟩,trivial⟩,?_⟩
     rw [e1]
     show(match qAk 3 ((s.drop k).take (qAL qAS (s.drop k))) with | true=>_ | false=>_)
     rw [hp]
     exact⟨rfl,rfl⟩
    ·rw [hp] at hP
     refine hP.eq rfl ?_
     refine(qEM s hs k (List.length ((s.drop k).take (qAL qAS (s.drop k)))) (by omega)).useE [] [] rfl ⟨⟨_,rfl,rfl,rfl,_,rfl,_,_,rfl,rfl,_,_,rfl,rfl,_,_,rfl,rfl,_,_,rfl,rfl,rfl⟩,trivial⟩ ⟨_,_,rfl,⟨rfl,rfl⟩,_,_,rfl,rfl,rfl⟩ ?_
     refine⟨[],[],[], .returned (.p (.agg (Wd.cells ⟨3,((s.drop k).take (qAL qAS (s.drop k))),(at_ s k).1,(at_ s k).2⟩))),rs s (k+(List.length ((s.drop k).take (qAL qAS (s.drop k))))),rfl,⟨_,rfl,rfl⟩,⟨⟨_,rfl,rfl,rfl,_,rfl,_,_,rfl,rfl,_,_,rfl,rfl,_,_,rfl,rfl,_,_,rfl,rfl,rfl⟩,trivial⟩,?_⟩
     rw [e1]
     show(match qAk 3 ((s.drop k).take (qAL qAS (s.drop k))) with | true=>_ | false=>_)
     rw [hp]
     exact⟨by omega,rfl,rfl⟩
  ·rw [hkey] at hK
   refine hK.eq rfl ?_
   have e1:=(show qBN (s.drop k)=(2,(s.drop k).take (qAL qAS (s.drop k))) by rw [qBN,if_pos hpos,if_pos hkey])
   have hl:=(show k+((s.drop k).take (qAL qAS (s.drop k))).length<=s.length by omega)
   have hP:=qD1 2 ((s.drop k).take (qAL qAS (s.drop k))) (by omega)
   by_cases hp:qAk 2 ((s.drop k).take (qAL qAS (s.drop k)))=true
   rotate_left
   ·rw [Bool.not_eq_true] at hp
    rw [hp] at hP
    refine hP.eq rfl ?_
    refine⟨[],[],[], .panicked [⟨.p (err (at_ s k) 370),false⟩],rs s k,rfl,⟨_,rfl,_,_,rfl,rfl,rfl⟩,⟨⟨_,rfl,rfl,rfl,_,rfl,_,_,rfl,rfl,_,_,rfl,rfl,_,_,rfl,rfl,_,_,rfl,rfl,rfl⟩,trivial⟩,?_⟩
    rw [e1]
    show(match qAk 2 ((s.drop k).take (qAL qAS (s.drop k))) with | true=>_ | false=>_)
    rw [hp]
    exact⟨rfl,rfl⟩
   ·rw [hp] at hP
    refine hP.eq rfl ?_
    refine(qEM s hs k (List.length ((s.drop k).take (qAL qAS (s.drop k)))) (by omega)).useE [] [] rfl ⟨⟨_,rfl,rfl,rfl,_,rfl,_,_,rfl,rfl,_,_,rfl,rfl,_,_,rfl,rfl,_,_,rfl,rfl,rfl⟩,trivial⟩ ⟨_,_,rfl,⟨rfl,rfl⟩,_,_,rfl,rfl,rfl⟩ ?_
    refine⟨[],[],[], .returned (.p (.agg (Wd.cells ⟨2,((s.drop k).take (qAL qAS (s.drop k))),(at_ s k).1,(at_ s k).2⟩))),rs s (k+(List.length ((s.drop k).take (qAL qAS (s.drop k))))),rfl,⟨_,rfl,rfl⟩,⟨⟨_,rfl,rfl,rfl,_,rfl,_,_,rfl,rfl,_,_,rfl,rfl,_,_,rfl,rfl,_,_,rfl,rfl,rfl⟩,trivial⟩,?_⟩
    rw [e1]
    show(match qAk 2 ((s.drop k).take (qAL qAS (s.drop k))) with | true=>_ | false=>_)
    rw [hp]
    exact⟨by omega,rfl,rfl⟩
 ·have h1:¬ (0:Int)<(qAL qAS (s.drop k):Nat):=h1
  have hpos:¬ 0<qAL qAS (s.drop k):=by omega
  have ht1:((s.drop k).take 1).length=1:=by rw [List.length_take];omega
  refine And.intro (fun h2=>?_) (fun h2=>?_)
  ·have h2:(1:Int)<((s.drop k).length:Nat):=h2
   have ht2:((s.drop k).take 2).length=2:=by rw [List.length_take];omega
   refine⟨⟨by omega,by show(2:Int)<=((s.drop k).length:Nat);omega⟩,?_⟩
   have hM:=qN2 ((s.drop k).take 2)
   by_cases hm:inL marksL ((s.drop k).take 2)=true
   rotate_left
   ·rw [Bool.not_eq_true] at hm
    rw [hm] at hM
    refine hM.eq rfl ?_
    refine⟨⟨by omega,by show(1:Int)<=((s.drop k).length:Nat);omega⟩,?_⟩
    have e1:=(show qBN (s.drop k)=(4,(s.drop k).take 1) by rw [qBN,if_neg hpos,if_neg (by rw [hm];simp)])
    have hl:=(show k+((s.drop k).take 1).length<=s.length by omega)
    have hP:=qD1 4 ((s.drop k).take 1) (by omega)
    by_cases hp:qAk 4 ((s.drop k).take 1)=true
    rotate_left
    ·rw [Bool.not_eq_true] at hp
     rw [hp] at hP
     refine hP.eq rfl ?_
     refine⟨[],[],[], .panicked [⟨.p (err (at_ s k) 370),false⟩],rs s k,rfl,⟨_,rfl,_,_,rfl,rfl,rfl⟩,⟨⟨_,rfl,rfl,rfl,_,rfl,_,_,rfl,rfl,_,_,rfl,rfl,_,_,rfl,rfl,_,_,rfl,rfl,rfl⟩,trivial⟩,?_⟩
     rw [e1]
     show(match qAk 4 ((s.drop k).take 1) with | true=>_ | false=>_)
     rw [hp]
     exact⟨rfl,rfl⟩
    ·rw [hp] at hP
     refine hP.eq rfl ?_
     refine(qEM s hs k (List.length ((s.drop k).take 1)) (by omega)).useE [] [] rfl ⟨⟨_,rfl,rfl,rfl,_,rfl,_,_,rfl,rfl,_,_,rfl,rfl,_,_,rfl,rfl,_,_,rfl,rfl,rfl⟩,trivial⟩ ⟨_,_,rfl,⟨rfl,rfl⟩,_,_,rfl,rfl,rfl⟩ ?_
     refine⟨[],[],[], .returned (.p (.agg (Wd.cells ⟨4,((s.drop k).take 1),(at_ s k).1,(at_ s k).2⟩))),rs s (k+(List.length ((s.drop k).take 1))),rfl,⟨_,rfl,rfl⟩,⟨⟨_,rfl,rfl,rfl,_,rfl,_,_,rfl,rfl,_,_,rfl,rfl,_,_,rfl,rfl,_,_,rfl,rfl,rfl⟩,trivial⟩,?_⟩
     rw [e1]
     show(match qAk 4 ((s.drop k).take 1) with | true=>_ | false=>_)
     rw [hp]
     exact⟨by omega,rfl,rfl⟩
   ·rw [hm] at hM
    refine hM.eq rfl ?_
    refine⟨⟨by omega,by show(2:Int)<=((s.drop k).length:Nat);omega⟩,?_⟩
    have e1:=(show qBN (s.drop k)=(4,(s.drop k).take 2) by rw [qBN,if_neg hpos,if_pos (by rw [hm,decide_eq_true (by omega)];rfl)])
    have hl:=(show k+((s.drop k).take 2).length<=s.length by omega)
    have hP:=qD1 4 ((s.drop k).take 2) (by omega)
    by_cases hp:qAk 4 ((s.drop k).take 2)=true
    rotate_left
    ·rw [Bool.not_eq_true] at hp
     rw [hp] at hP
     refine hP.eq rfl ?_
     refine⟨[],[],[], .panicked [⟨.p (err (at_ s k) 370),false⟩],rs s k,rfl,⟨_,rfl,_,_,rfl,rfl,rfl⟩,⟨⟨_,rfl,rfl,rfl,_,rfl,_,_,rfl,rfl,_,_,rfl,rfl,_,_,rfl,rfl,_,_,rfl,rfl,rfl⟩,trivial⟩,?_⟩
     rw [e1]
     show(match qAk 4 ((s.drop k).take 2) with | true=>_ | false=>_)
     rw [hp]
     exact⟨rfl,rfl⟩
    ·rw [hp] at hP
     refine hP.eq rfl ?_
     refine(qEM s hs k (List.length ((s.drop k).take 2)) (by omega)).useE [] [] rfl ⟨⟨_,rfl,rfl,rfl,_,rfl,_,_,rfl,rfl,_,_,rfl,rfl,_,_,rfl,rfl,_,_,rfl,rfl,rfl⟩,trivial⟩ ⟨_,_,rfl,⟨rfl,rfl⟩,_,_,rfl,rfl,rfl⟩ ?_
     refine⟨[],[],[], .returned (.p (.agg (Wd.cells ⟨4,((s.drop k).take 2),(at_ s k).1,(at_ s k).2⟩))),rs s (k+(List.length ((s.drop k).take 2))),rfl,⟨_,rfl,rfl⟩,⟨⟨_,rfl,rfl,rfl,_,rfl,_,_,rfl,rfl,_,_,rfl,rfl,_,_,rfl,rfl,_,_,rfl,rfl,rfl⟩,trivial⟩,?_⟩
     rw [e1]
     show(match qAk 4 ((s.drop k).take 2) with | true=>_ | false=>_)
     rw [hp]
     exact⟨by omega,rfl,rfl⟩
  ·have h2:¬ (1:Int)<((s.drop k).length:Nat):=h2
   refine⟨⟨by omega,by show(1:Int)<=((s.drop k).length:Nat);omega⟩,?_⟩
   have e1:=(show qBN (s.drop k)=(4,(s.drop k).take 1) by rw [qBN,if_neg hpos,if_neg (by rw [decide_eq_false (by omega)];simp)])
   have hl:=(show k+((s.drop k).take 1).length<=s.length by omega)
   have hP:=qD1 4 ((s.drop k).take 1) (by omega)
   by_cases hp:qAk 4 ((s.drop k).take 1)=true
   rotate_left
   ·rw [Bool.not_eq_true] at hp
    rw [hp] at hP
    refine hP.eq rfl ?_
    refine⟨[],[],[], .panicked [⟨.p (err (at_ s k) 370),false⟩],rs s k,rfl,⟨_,rfl,_,_,rfl,rfl,rfl⟩,⟨⟨_,rfl,rfl,rfl,_,rfl,_,_,rfl,rfl,_,_,rfl,rfl,_,_,rfl,rfl,_,_,rfl,rfl,rfl⟩,trivial⟩,?_⟩
    rw [e1]
    show(match qAk 4 ((s.drop k).take 1) with | true=>_ | false=>_)
    rw [hp]
    exact⟨rfl,rfl⟩
   ·rw [hp] at hP
    refine hP.eq rfl ?_
    refine(qEM s hs k (List.length ((s.drop k).take 1)) (by omega)).useE [] [] rfl ⟨⟨_,rfl,rfl,rfl,_,rfl,_,_,rfl,rfl,_,_,rfl,rfl,_,_,rfl,rfl,_,_,rfl,rfl,rfl⟩,trivial⟩ ⟨_,_,rfl,⟨rfl,rfl⟩,_,_,rfl,rfl,rfl⟩ ?_
    refine⟨[],[],[], .returned (.p (.agg (Wd.cells ⟨4,((s.drop k).take 1),(at_ s k).1,(at_ s k).2⟩))),rs s (k+(List.length ((s.drop k).take 1))),rfl,⟨_,rfl,rfl⟩,⟨⟨_,rfl,rfl,rfl,_,rfl,_,_,rfl,rfl,_,_,rfl,rfl,_,_,rfl,rfl,_,_,rfl,rfl,rfl⟩,trivial⟩,?_⟩
    rw [e1]
    show(match qAk 4 ((s.drop k).take 1) with | true=>_ | false=>_)
    rw [hp]
    exact⟨by omega,rfl,rfl⟩
inductive RdR where
 | ok (ws:List Wd)
 | err (p:Nat × Nat) (c:Int)
def qFT (rec:Nat->List Wd->RdR) (s:List UInt8) (k:Nat) (acc:List Wd):RdR:=
 if s.length<=k then .ok acc
 else match qAk (qBN (s.drop k)).1 (qBN (s.drop k)).2 with
  | false=>.err (at_ s k) 370
  | true=>if acc.length=1500 then .err (at_ s k) 3
   else rec (k+(qBN (s.drop k)).2.length) (acc++[⟨(qBN (s.drop k)).1,(qBN (s.drop k)).2,(at_ s k).1,(at_ s k).2⟩])
def qDe:Nat->List UInt8->Nat->List Wd->RdR
 | 0,_,_,acc=>.ok acc
 | f+1,s,k,acc=>match qBK s.length (s.drop k) with
  | .inr n=>.err (at_ s (k+n)) 370
  | .inl n=>qFT (qDe f s) s (k+n) acc
def qDd (s:List UInt8):RdR:=qDe (s.length+1) s 0 []
theorem one_pos {r:List UInt8} (h:r ≠ []):1<=(qBN r).2.length:=by
 have h1:1<=r.length:=by cases r <;> simp at h ⊢
 have h2:=qCf qAS r
 unfold qBN
 split
 ·split
  ·simp;omega
  ·split <;> simp <;> omega
 ·split <;> simp <;> omega
theorem qT7 (o:AObj) (_ho:isCells o.c=true) :
  HoldsG cx 60 [.ptr 0 0 0] ⟨1,[(0,o)]⟩ fun e H'=>e=.returned (.fn (.func 102) [] [.ptr 1 0 0])/\H'=⟨2,[(1,⟨138,false, .bx [.ptr 0 0 0]⟩),(0,o)]⟩:=by
 refine qA3 Tryz.func60 rfl rfl rfl ?_
 exact⟨rfl,rfl⟩
def qCl (s:List UInt8):List PV:=
 if 8000<s.length then [.lsts 4 [],i64 0,i64 0,i64 3]
 else match qDd s with
  | .ok ws=>[.lsts 4 (ws.map Wd.cells),i64 0,i64 0,i64 0]
  | .err p c=>[.lsts 4 [],i64 p.1,i64 p.2,i64 c]
def rdL (s:List UInt8) (st:LoopState) (N:Nat) (σ:Sg) (ps:List Tmp) (ac bd:Code) (k:Nat) (out:AV):List (Nat × AObj):=
 [(7,⟨0,false, .lp st none 6 N σ ps ac bd 6⟩),(6,⟨0,false, .df⟩),(5,⟨138,false, .bx [.ptr 4 0 0]⟩),(4,⟨140,false, .bx (rdr (at_ s k) s k)⟩),(3,⟨45,false, .bx [.p (i64 0)]⟩),(2,⟨3,false, .bx [.p (i64 0)]⟩),(1,⟨3,false, .bx [.p (i64 0)]⟩),(0,⟨56,false, .bx [out]⟩)]
def rdA (acc:List Wd):AObj:=⟨72,false, .pus (acc.map Wd.cells)⟩
def rdM (s:List UInt8) (st:LoopState) (N:Nat) (σ:Sg) (ps:List Tmp) (ac bd:Code) (k:Nat) (acc:List Wd) (out:AV):List (Nat × AObj):=
 [(4,⟨140,false, .bx (rdr (at_ s k) s k)⟩),(8,rdA acc),(7,⟨0,false, .lp st none 6 N σ ps ac bd 6⟩),(6,⟨0,false, .df⟩),(5,⟨138,false, .bx [.ptr 4 0 0]⟩),(3,⟨45,false, .bx [.p (i64 0)]⟩),(2,⟨3,false, .bx [.p (i64 0)]⟩),(1,⟨3,false, .bx [.p (i64 0)]⟩),(0,⟨56,false, .bx [out]⟩)]
def rdN (s:List UInt8) (N:Nat) (σ:Sg) (ps:List Tmp) (ac bd:Code) (k:Nat) (acc:List Wd) (w:Wd):List (Nat × AObj):=
 [(11,rdA (acc++[w])),(10,rdA [w]),(9,⟨72,false, .bx (w.cells.map .p)⟩),(4,⟨140,false, .bx (rdr (at_ s k) s k)⟩),(7,⟨0,false, .lp .ready none 6 N σ ps ac bd 6⟩),(6,⟨0,false, .df⟩),(5,⟨138,false, .bx [.ptr 4 0 0]⟩),(3,⟨45,false, .bx [.p (i64 0)]⟩),(2,⟨3,false, .bx [.p (i64 0)]⟩),(1,⟨3,false, .bx [.p (i64 0)]⟩),(0,⟨56,false, .bx [.sl 11 4 0 (acc.length+1)]⟩)]
theorem qXW (x:Nat ⊕ Nat):(∃ n,x=.inl n)∨∃ n,x=.inr n:=by
 cases x with
 | inl n=>exact .inl ⟨n,rfl⟩
 | inr n=>exact .inr ⟨n,rfl⟩
theorem qWg (s:List UInt8) (hs:s.length<=8000) (N:Nat) (σ σ1:Sg) (ds:List AD) (ps:List Tmp) (ac bd:Code) (Q:KQ)
  (hok:∀ k acc,qDd s=.ok acc->Q .normal σ1 ds ⟨9,(8,rdA acc)::rdL s .exhausted N σ ps ac bd k (.sl 8 4 0 acc.length)⟩)
  (hp1:∀ p c k acc st,qDd s=.err p c->Q (.panic [⟨.p (err p c),false⟩]) σ1 ds ⟨9,(8,rdA acc)::rdL s st N σ ps ac bd k (.sl 8 4 0 acc.length)⟩)
  (hrd:∀ k acc (w:Wd) (K:AE->Hp->Prop),acc.length<=1500 ->
    (acc.length=1500->K (.panicked [⟨.p (.iface 136 (.agg [i64 w.line,i64 w.col,i64 3])),false⟩]) ⟨10,(9,⟨72,false, .bx (w.cells.map .p)⟩)::rdM s .busy N σ ps ac bd k acc (.sl 8 4 0 acc.length)⟩) ->
    (acc.length<1500->K (.returned (vB true)) ⟨12,rdN s N σ ps ac bd k acc w⟩) ->
    qOS cx 7 [.p (.agg w.cells)] ⟨9,rdM s .ready N σ ps ac bd k acc (.sl 8 4 0 acc.length)⟩ K) :
  HoldsG cx 102 [.fn (.yield 7) [] [], .ptr 5 0 0] ⟨8,rdL s .ready N σ ps ac bd 0 (.p .nils)⟩ (qRw 7 σ1 ds Q):=by
 refine qAA Tryz.func102 rfl rfl rfl ?_
 have hB:=qRg s hs 0 s.length (by omega) (by omega)
 have hR:qDd s=match qBK s.length (s.drop 0) with
  | .inr n=>.err (at_ s (0+n)) 370
  | .inl n=>qFT (qDe s.length s) s (0+n) []:=rfl
 refine Or.elim (qXW (qBK s.length (s.drop 0))) (fun hn=>Exists.elim hn fun n hsk=>?_) (fun hn=>Exists.elim hn fun n hsk=>?_)
 ·simp only [hsk] at hB hR
  refine hB.holds.useN [] [(0,4)] rfl ⟨⟨_,rfl,rfl,rfl,_,rfl,_,_,rfl,rfl,_,_,rfl,rfl,_,_,rfl,rfl,_,_,rfl,rfl,rfl⟩,trivial⟩ ⟨_,_,rfl,⟨rfl,rfl⟩,rfl⟩ fun e0 H0' hq=>?_
  obtain⟨k1,rfl,rfl⟩:=hq
  refine⟨rfl,?_⟩
  refine⟨Nat × Nat × List Wd,fun x=>[(0, .fn (.yield 7) [] []),(1, .ptr 5 0 0)],fun x=>⟨9,(8,rdA x.2.2)::rdL s .ready N σ ps ac bd x.1 (.sl 8 4 0 x.2.2.length)⟩,
   fun x=>x.1<=s.length/\s.length - x.1<=x.2.1/\x.2.2.length<=1500/\qDd s=qFT (qDe x.2.1 s) s x.1 x.2.2,fun x=>s.length - x.1,?_,?_⟩
  ·refine⟨(0+n,s.length,[]),⟨k1,by simp,by simp,hR⟩,?_⟩
   exact qAC [] [] [(8,4)] rfl (sk) (sk) rfl
  ·rintro⟨k,f,acc⟩ ⟨g1,g2,g3,g4⟩
   simp only [] at g1 g2 g3 g4
   refine VDraw.seq rfl ?_
   refine And.intro (fun h1=>?_) (fun h1=>?_)
   ·have h1:(k:Int)<(s.length:Int):=h1
    have hlt:k<s.length:=by omega
    have hW:=qVu s hs k hlt
    have hne:s.drop k ≠ []:=by intro e;have:=congrArg List.length e;rw [List.length_drop] at this;simp only [List.length_nil] at this;omega
    have hpos:=one_pos hne
    have hb:qFT (qDe f s) s k acc=match qAk (qBN (s.drop k)).1 (qBN (s.drop k)).2 with
      | false=>.err (at_ s k) 370
      | true=>if acc.length=1500 then .err (at_ s k) 3
       else qDe f s (k+(qBN (s.drop k)).2.length) (acc++[⟨(qBN (s.drop k)).1,(qBN (s.drop k)).2,(at_ s k).1,(at_ s k).2⟩]):=by
     rw [qFT,if_neg (by omega)]
    by_cases hr:qAk (qBN (s.drop k)).1 (qBN (s.drop k)).2=true
    rotate_left
    ·rw [Bool.not_eq_true] at hr
     simp only [hr] at hW hb
     refine hW.holds.useN [] [(0,4)] rfl ⟨⟨_,rfl,rfl,rfl,_,rfl,_,_,rfl,rfl,_,_,rfl,rfl,_,_,rfl,rfl,_,_,rfl,rfl,rfl⟩,trivial⟩ ⟨_,_,rfl,⟨rfl,rfl⟩,rfl⟩ fun e0 H0' hq=>?_
     obtain⟨rfl,rfl⟩:=hq
     refine⟨rfl,?_⟩
     exact⟨[],[(8,8)],[], .panicked [⟨.p (err (at_ s k) 370),false⟩],⟨9,(8,rdA acc)::rdL s .ready N σ ps ac bd k (.sl 8 4 0 acc.length)⟩,rfl,sk,sk,hp1 _ _ k acc .ready (g4.trans hb)⟩
    ·simp only [hr] at hW hb
     refine hW.holds.useN [] [(0,4)] rfl ⟨⟨_,rfl,rfl,rfl,_,rfl,_,_,rfl,rfl,_,_,rfl,rfl,_,_,rfl,rfl,_,_,rfl,rfl,rfl⟩,trivial⟩ ⟨_,_,rfl,⟨rfl,rfl⟩,rfl⟩ fun e0 H0' hq=>?_
     obtain⟨k1,rfl,rfl⟩:=hq
     refine⟨rfl,?_⟩
     refine hrd _ acc ⟨(qBN (s.drop k)).1,(qBN (s.drop k)).2,(at_ s k).1,(at_ s k).2⟩ _ g3 (fun h2=>?_) (fun h2=>?_)
     ·rw [if_pos h2] at hb
      exact⟨[],[(8,8)],[], .panicked [⟨.p (err (at_ s k) 3),false⟩],⟨9,(8,rdA acc)::rdL s .busy N σ ps ac bd (k+(qBN (s.drop k)).2.length) (.sl 8 4 0 acc.length)⟩,rfl,sk,sk,hp1 _ _ _ acc .busy (g4.trans hb)⟩
     ·rw [if_neg (by omega)] at hb
      have hw0:∀ w:Wd,AV.sl 11 4 0 (acc.length+1)=AV.sl 11 4 0 (acc++[w]).length:=fun w=>by rw [List.length_append];rfl
      obtain⟨f',rfl⟩:∃ n,f=n+1:=⟨f - 1,by omega⟩
      have hB:=qRg s hs (k+(qBN (s.drop k)).2.length) s.length k1 (by omega)
      rw [qDe] at hb
      refine Or.elim (qXW (qBK s.length (s.drop (k+(qBN (s.drop k)).2.length)))) (fun hn=>Exists.elim hn fun n hsk=>?_) (fun hn=>Exists.elim hn fun n hsk=>?_)
      ·simp only [hsk] at hB hb
       refine hB.holds.useN [] [(0,4)] rfl ⟨⟨_,rfl,rfl,rfl,_,rfl,_,_,rfl,rfl,_,_,rfl,rfl,_,_,rfl,rfl,_,_,rfl,rfl,rfl⟩,trivial⟩ ⟨_,_,rfl,⟨rfl,rfl⟩,rfl⟩ fun e0 H0' hq=>?_
       obtain⟨k2,rfl,rfl⟩:=hq
       refine⟨rfl,?_⟩
       refine⟨(k+(qBN (s.drop k)).2.length+n,f',acc++[⟨(qBN (s.drop k)).1,(qBN (s.drop k)).2,(at_ s k).1,(at_ s k).2⟩]),⟨k2,by simp only [];omega,by simp;omega,g4.trans hb⟩,?_,by simp only [];omega⟩
       exact qAC [] [(8,11)] [] rfl ⟨⟨rfl,_,_,rfl,rfl,rfl⟩,⟨rfl,rfl⟩,trivial⟩ ⟨⟨_,rfl,rfl,rfl,rfl⟩,⟨_,rfl,rfl,rfl,rfl,rfl,rfl⟩,⟨_,rfl,rfl,rfl,rfl⟩,⟨_,rfl,rfl,rfl,_,rfl,_,_,rfl,⟨rfl,rfl⟩,rfl⟩,⟨_,rfl,rfl,rfl,_,rfl,_,_,rfl,rfl,_,_,rfl,rfl,_,_,rfl,rfl,_,_,rfl,rfl,rfl⟩,⟨_,rfl,rfl,rfl,_,rfl,_,_,rfl,rfl,rfl⟩,⟨_,rfl,rfl,rfl,_,rfl,_,_,rfl,rfl,rfl⟩,⟨_,rfl,rfl,rfl,_,rfl,_,_,rfl,rfl,rfl⟩,⟨_,rfl,rfl,rfl,_,rfl,_,_,rfl,hw0 _,rfl⟩,trivial⟩ rfl
      ·simp only [hsk] at hB hb
       refine hB.holds.useN [] [(0,4)] rfl ⟨⟨_,rfl,rfl,rfl,_,rfl,_,_,rfl,rfl,_,_,rfl,rfl,_,_,rfl,rfl,_,_,rfl,rfl,rfl⟩,trivial⟩ ⟨_,_,rfl,⟨rfl,rfl⟩,rfl⟩ fun e0 H0' hq=>?_
       obtain⟨k2,rfl,k',k3,rfl⟩:=hq
       refine⟨rfl,?_⟩
       exact⟨[],[(8,11)],[], .panicked [⟨.p (err (at_ s (k+(qBN (s.drop k)).2.length+n)) 370),false⟩],⟨9,(8,rdA (acc++[(⟨(qBN (s.drop k)).1,(qBN (s.drop k)).2,(at_ s k).1,(at_ s k).2⟩:Wd)]))::rdL s .ready N σ ps ac bd k' (.sl 8 4 0 (acc++[(⟨(qBN (s.drop k)).1,(qBN (s.drop k)).2,(at_ s k).1,(at_ s k).2⟩:Wd)]).length)⟩,rfl,⟨_,rfl,_,_,rfl,rfl,rfl⟩,⟨⟨_,rfl,rfl,rfl,rfl⟩,⟨_,rfl,rfl,rfl,rfl,rfl,rfl⟩,⟨_,rfl,rfl,rfl,rfl⟩,⟨_,rfl,rfl,rfl,_,rfl,_,_,rfl,⟨rfl,rfl⟩,rfl⟩,⟨_,rfl,rfl,rfl,_,rfl,_,_,rfl,rfl,_,_,rfl,rfl,_,_,rfl,rfl,_,_,rfl,rfl,rfl⟩,⟨_,rfl,rfl,rfl,_,rfl,_,_,rfl,rfl,rfl⟩,⟨_,rfl,rfl,rfl,_,rfl,_,_,rfl,rfl,rfl⟩,⟨_,rfl,rfl,rfl,_,rfl,_,_,rfl,rfl,rfl⟩,⟨_,rfl,rfl,rfl,_,rfl,_,_,rfl,hw0 _,rfl⟩,trivial⟩,hp1 _ _ k' _ .ready (g4.trans hb)⟩
   ·have h1:¬ (k:Int)<(s.length:Int):=h1
    have e:qDd s=.ok acc:=by rw [g4,qFT,if_pos (by omega)]
    exact⟨[],[(8,8)],[], .returned und,⟨9,(8,rdA acc)::rdL s .ready N σ ps ac bd k (.sl 8 4 0 acc.length)⟩,rfl,sk,sk,hok k acc e⟩
 ·simp only [hsk] at hB hR
  refine hB.holds.useN [] [(0,4)] rfl ⟨⟨_,rfl,rfl,rfl,_,rfl,_,_,rfl,rfl,_,_,rfl,rfl,_,_,rfl,rfl,_,_,rfl,rfl,rfl⟩,trivial⟩ ⟨_,_,rfl,⟨rfl,rfl⟩,rfl⟩ fun e0 H0' hq=>?_
  obtain⟨k1,rfl,k',k2,rfl⟩:=hq
  refine⟨rfl,?_⟩
  exact⟨[],[],[(8,4)], .panicked [⟨.p (err (at_ s (0+n)) 370),false⟩],⟨9,(8,rdA [])::rdL s .ready N σ ps ac bd k' (.sl 8 4 0 0)⟩,rfl,sk,sk,hp1 _ _ k' [] .ready hR⟩
theorem qWE (s:List UInt8):Pure cx 27 [.str s] (·=.ret (qCl s)):=by
 refine qAB Tryz.func27 rfl rfl rfl ?_
 refine And.intro (fun h1=>?_) (fun h1=>?_)
 ·have h1:(8000:Int)<s.length:=h1
  have e:qCl s=[.lsts 4 [],i64 0,i64 0,i64 3]:=by rw [qCl,if_pos (by omega)]
  rw [e]
  exact qKQ (.lsts 4 []) (i64 0) (i64 0) (i64 3) rfl (.inr (.inr ⟨4,rfl⟩)) rfl rfl rfl rfl
 ·have hs:s.length<=8000:=by have h1:¬ (8000:Int)<s.length:=h1;omega
  have hw:=qT7 ⟨140,false, .bx (rdr (at_ s 0) s 0)⟩ rfl
  refine hw.useE [] [(0,4)] rfl ⟨⟨_,rfl,rfl,rfl,_,rfl,_,_,rfl,rfl,_,_,rfl,rfl,_,_,rfl,rfl,_,_,rfl,rfl,rfl⟩,trivial⟩ ⟨_,_,rfl,⟨rfl,rfl⟩,rfl⟩ ?_
  refine qSZ ?_
  intro σ' ps ac bd e1 e2 e3 e4
  have hrd:∀ k acc (w:Wd) (K:AE->Hp->Prop),acc.length<=1500 ->
    (acc.length=1500->K (.panicked [⟨.p (.iface 136 (.agg [i64 w.line,i64 w.col,i64 3])),false⟩]) ⟨10,(9,⟨72,false, .bx (w.cells.map .p)⟩)::rdM s .busy Tryz.f27.ntmps σ' ps ac bd k acc (.sl 8 4 0 acc.length)⟩) ->
    (acc.length<1500->K (.returned (vB true)) ⟨12,rdN s Tryz.f27.ntmps σ' ps ac bd k acc w⟩) ->
    qOS cx 7 [.p (.agg w.cells)] ⟨9,rdM s .ready Tryz.f27.ntmps σ' ps ac bd k acc (.sl 8 4 0 acc.length)⟩ K:=by
   intro k acc w K hacc hK1 hK2
   subst e1 e2 e3 e4
   refine qL2 rfl rfl rfl ?_
   refine And.intro (fun h2=>?_) (fun h2=>?_)
   ·have h2:(acc.length:Int)=1500:=h2
    exact hK1 (by omega)
   ·have h2:¬ (acc.length:Int)=1500:=h2
    refine⟨by show 0+1<=1;omega,[w.cells],rfl,?_⟩
    refine⟨by show 0+acc.length<=(acc.map Wd.cells).length;simp,acc.map Wd.cells,?_,?_⟩
    ·show acc.map Wd.cells=((acc.map Wd.cells).drop 0).take acc.length
     rw [List.drop_zero,List.take_of_length_le (by simp)]
    refine⟨by show(acc.length+1) * 40<=140737488355328;omega,(acc++[w]).map Wd.cells,by simp,?_⟩
    exact hK2 (by omega)
  refine qWg s hs _ σ' _ _ ps ac bd _ ?_ ?_ hrd
  ·intro k acc hr
   have e:qCl s=[.lsts 4 (acc.map Wd.cells),i64 0,i64 0,i64 0]:=by rw [qCl,if_neg (by omega),hr]
   rw [e]
   refine qDr Tryz.func59 rfl rfl rfl ?_
   refine⟨[],[(0,0),(1,1),(2,2),(3,3),(8,8)],[], .returned und,⟨9,[(8,rdA acc),(3,⟨45,false, .bx [.p (i64 0)]⟩),(2,⟨3,false, .bx [.p (i64 0)]⟩),(1,⟨3,false, .bx [.p (i64 0)]⟩),(0,⟨56,false, .bx [.sl 8 4 0 acc.length]⟩)]⟩,rfl,sk,sk,?_⟩
   refine qKQ (.lsts 4 (acc.map Wd.cells)) (i64 0) (i64 0) (i64 0) rfl ?_ rfl rfl rfl rfl
   exact⟨_,rfl,by simp,by rw [List.drop_zero,List.take_of_length_le (by simp)]⟩
  ·intro p c k acc st hr
   have e:qCl s=[.lsts 4 [],i64 p.1,i64 p.2,i64 c]:=by rw [qCl,if_neg (by omega),hr]
   rw [e]
   refine qDr Tryz.func59 rfl rfl rfl ?_
   refine VDraw.seq rfl ?_
   refine⟨sk,?_⟩
   refine⟨sk,?_⟩
   refine⟨sk,?_⟩
   refine⟨[],[(0,0),(1,1),(2,2),(3,3)],[], .returned und,⟨9,[(3,⟨45,false, .bx [.p (i64 c)]⟩),(2,⟨3,false, .bx [.p (i64 p.2)]⟩),(1,⟨3,false, .bx [.p (i64 p.1)]⟩),(0,⟨56,false, .bx [.p .nils]⟩)]⟩,rfl,sk,sk,?_⟩
   exact qKQ (.lsts 4 []) (i64 p.1) (i64 p.2) (i64 c) rfl (.inr (.inr ⟨4,rfl⟩)) rfl rfl rfl rfl
theorem qHP (b:UInt8):Pure cx 124 [u8 b] (·=.ret [.bool (qBf b)]):=by
 refine qAB Tryz.func124 rfl rfl rfl ?_
 refine And.intro (fun h1=>?_) (fun h1=>?_)
 ·refine And.intro (fun h2=>?_) (fun h2=>?_)
  ·exact qAF _ rfl rfl (qAN (by simp [qBf];omega))
  ·exact qAF _ rfl rfl (qAN (by simp [qBf];omega))
 ·exact qAF _ rfl rfl (qAN (by simp [qBf];omega))
theorem qK0 (b:UInt8):Pure cx 160 [u8 b] (·=.ret [.bool (isLet b)]):=by
 refine qAB Tryz.func160 rfl rfl rfl ?_
 refine And.intro (fun h1=>?_) (fun h1=>?_)
 ·refine And.intro (fun h2=>?_) (fun h2=>?_)
  ·exact qAF _ rfl rfl (qAN (by simp [isLet];omega))
  ·refine And.intro (fun h3=>?_) (fun h3=>?_)
   ·refine And.intro (fun h4=>?_) (fun h4=>?_)
    ·exact qAF _ rfl rfl (qAN (by simp [isLet];omega))
    ·exact qAF _ rfl rfl (qAN (by simp [isLet];omega))
   ·exact qAF _ rfl rfl (qAN (by simp [isLet];omega))
 ·refine And.intro (fun h3=>?_) (fun h3=>?_)
  ·refine And.intro (fun h4=>?_) (fun h4=>?_)
   ·exact qAF _ rfl rfl (qAN (by simp [isLet];omega))
   ·exact qAF _ rfl rfl (qAN (by simp [isLet];omega))
  ·exact qAF _ rfl rfl (qAN (by simp [isLet];omega))
theorem qMB (l:List (List UInt8)) (hl:l.length<=9223372036854775807) (s:List UInt8):Pure cx 123 [.lst (l.map .str), .str s] (·=.ret [.bool (inL l s)]):=by
 refine qAB Tryz.func123 rfl rfl rfl ?_
 refine⟨Nat,fun k=>[(5, .p (i64 k)),(0, .p (.lst (l.map .str))),(1,vS s)],fun _=>⟨0,[]⟩,fun k=>k<=l.length/\inL l s=inL (l.drop k) s,fun k=>l.length - k,?_,?_⟩
 ·exact⟨0,⟨by omega,rfl⟩,qCA rfl ⟨rfl,rfl,rfl,trivial⟩ trivial rfl⟩
 ·rintro k ⟨hk,he⟩
  refine And.intro (fun h1=>?_) (fun h1=>?_)
  ·have h1:(k:Int)<((l.map PV.str).length:Nat):=h1
   rw [List.length_map] at h1
   have hk':k<l.length:=by omega
   have hc:l.drop k=l[k]::l.drop (k+1):=List.drop_eq_getElem_cons hk'
   refine⟨_,⟨by omega, .str l[k],by show(l.map PV.str)[k]?=_;rw [List.getElem?_map,List.getElem?_eq_getElem hk'];rfl,rfl⟩,?_⟩
   refine And.intro (fun h2=>?_) (fun h2=>?_)
   ·have h2:l[k]=s:=h2
    exact qAF _ rfl rfl (qAN (by rw [he,hc,inL,h2];simp))
   ·have h2:¬ l[k]=s:=h2
    refine⟨(k:Int)+1,w6z,k+1,⟨by omega,?_⟩,qCA rfl ⟨rfl,rfl,rfl,trivial⟩ trivial rfl,?_⟩
    ·rw [he,hc,inL,decide_eq_false (fun e=>h2 e.symm)]
     rfl
    ·show l.length - (k+1)<l.length - k
     omega
  ·have h1:¬ (k:Int)<((l.map PV.str).length:Nat):=h1
   rw [List.length_map] at h1
   have:k=l.length:=by omega
   subst this
   exact qAF _ rfl rfl (qAN (by rw [he,List.drop_length];rfl))
theorem rKeys_c:Pure cx 83 [] (·=.ret [.lst (keysL.map .str)]):=by
 refine qAB Tryz.func83 rfl rfl rfl ?_
 exact qAF (.lst (keysL.map .str)) rfl ⟨_,rfl,by decide,rfl⟩ rfl
theorem rMarks_c:Pure cx 84 [] (·=.ret [.lst (marksL.map .str)]):=by
 refine qAB Tryz.func84 rfl rfl rfl ?_
 exact qAF (.lst (marksL.map .str)) rfl ⟨_,rfl,by decide,rfl⟩ rfl
def runN (s:List UInt8):Bool:=decide (s ≠ []) && decide (qAL qAS s=s.length)
theorem qTe (s:List UInt8) (hs:s.length<=9223372036854775807):Pure cx 122 [.str s] (·=.ret [.bool (runN s)]):=by
 refine qAB Tryz.func122 rfl rfl rfl ?_
 refine⟨Nat,fun k=>[(3, .p (i64 k)),(0,vS s)],fun _=>⟨0,[]⟩,fun k=>k<=s.length/\qAL qAS s=k+qAL qAS (s.drop k),fun k=>s.length - k,?_,?_⟩
 ·exact⟨0,⟨by omega,by simp⟩,qCA rfl ⟨rfl,rfl,trivial⟩ trivial rfl⟩
 ·rintro k ⟨hk,he⟩
  refine And.intro (fun h1=>?_) (fun h1=>?_)
  ·have hk':k<s.length:=by have h1:(k:Int)<(s.length:Nat):=h1;omega
   have hc:s.drop k=s[k]::s.drop (k+1):=List.drop_eq_getElem_cons hk'
   refine⟨_,⟨by omega,s[k],List.getElem?_eq_getElem hk',rfl⟩,?_⟩
   have hL:=qK0 s[k]
   have next:qAS s[k]=true->qAL qAS s=k+1+qAL qAS (s.drop (k+1)):=by
    intro h
    rw [he,hc,qAL,if_pos h]
    omega
   by_cases hl:isLet s[k]=true
   ·rw [hl] at hL
    refine hL.eq rfl ?_
    refine⟨(k:Int)+1,w6z,k+1,⟨by omega,next (by simp [qAS,hl])⟩,qCA rfl ⟨rfl,rfl,trivial⟩ trivial rfl,?_⟩
    show s.length - (k+1)<s.length - k
    omega
   ·rw [Bool.not_eq_true] at hl
    rw [hl] at hL
    refine hL.eq rfl ?_
    refine⟨_,⟨by omega,s[k],List.getElem?_eq_getElem hk',rfl⟩,?_⟩
    have hD:=qHP s[k]
    by_cases hd:qBf s[k]=true
    ·rw [hd] at hD
     refine hD.eq rfl ?_
     refine⟨(k:Int)+1,w6z,k+1,⟨by omega,next (by simp [qAS,hd])⟩,qCA rfl ⟨rfl,rfl,trivial⟩ trivial rfl,?_⟩
     show s.length - (k+1)<s.length - k
     omega
    ·rw [Bool.not_eq_true] at hd
     rw [hd] at hD
     refine hD.eq rfl ?_
     refine qAF _ rfl rfl (qAN ?_)
     have:qAL qAS s=k:=by rw [he,hc,qAL,if_neg (by simp [qAS,hl,hd])];omega
     simp only [runN,decide_eq_false (show ¬ qAL qAS s=s.length by omega),Bool.and_false]
  ·have:k=s.length:=by have h1:¬ (k:Int)<(s.length:Nat):=h1;omega
   have hsp:qAL qAS s=s.length:=by rw [he,this];simp [qAL]
   refine And.intro (fun h2=>?_) (fun h2=>?_)
   ·have h2:s=[]:=h2
    exact qAF _ rfl rfl (qAN (by simp [runN,h2]))
   ·have h2:¬ s=[]:=h2
    exact qAF _ rfl rfl (qAN (by simp [runN,h2,hsp]))
theorem qHt (t:List UInt8) (ht:t.length<=9223372036854775807):Pure cx 118 [.str t] (·=.ret [.bool (qAo t)]):=by
 refine qAB Tryz.func118 rfl rfl rfl ?_
 have hR:=qTe t ht
 by_cases hr:runN t=true
 ·rw [hr] at hR
  refine hR.eq rfl ?_
  have hr2:=hr
  simp only [runN,Bool.and_eq_true,decide_eq_true_eq] at hr2
  obtain⟨c,r,rfl⟩:∃ c r,t=c::r:=by cases t with | nil=>exact(hr2.1 rfl).elim | cons c r=>exact⟨c,r,rfl⟩
  refine⟨_,⟨by omega,c,rfl,rfl⟩,?_⟩
  have hL:=qK0 c
  by_cases hl:isLet c=true
  ·rw [hl] at hL
   refine hL.eq rfl ?_
   refine And.intro (fun h1=>?_) (fun h1=>?_)
   ·have h1:((c::r).length:Int)<=10:=h1
    refine rKeys_c.eq rfl ?_
    refine(qMB keysL (by decide) (c::r)).eq rfl ?_
    exact qAF _ rfl rfl (qAN (by simp only [qAo,List.headD_cons,hl,decide_eq_true hr2.1,decide_eq_true hr2.2,decide_eq_true (show(c::r).length<=10 by omega),Bool.true_and]))
   ·have h1:¬ ((c::r).length:Int)<=10:=h1
    exact qAF _ rfl rfl (qAN (by simp only [qAo,decide_eq_false (show ¬ (c::r).length<=10 by omega),Bool.and_false,Bool.false_and]))
  ·rw [Bool.not_eq_true] at hl
   rw [hl] at hL
   refine hL.eq rfl ?_
   exact qAF _ rfl rfl (qAN (by simp only [qAo,List.headD_cons,hl,Bool.and_false,Bool.false_and]))
 ·rw [Bool.not_eq_true] at hr
  rw [hr] at hR
  refine hR.eq rfl ?_
  refine qAF _ rfl rfl (qAN ?_)
  simp only [runN,Bool.and_eq_false_iff,decide_eq_false_iff_not] at hr
  rcases hr with hr | hr
  ·simp only [qAo,decide_eq_false hr,Bool.false_and]
  ·simp only [qAo,decide_eq_false hr,Bool.and_false,Bool.false_and]
theorem qQL (t:List UInt8) (ht:t.length<=9223372036854775807):Pure cx 125 [.str t] (·=.ret [.bool (qIY t)]):=by
 refine qAB Tryz.func125 rfl rfl rfl ?_
 refine⟨Nat,fun k=>[(3, .p (i64 k)),(0,vS t)],fun _=>⟨0,[]⟩,fun k=>k<=t.length/\qAL qBf t=k+qAL qBf (t.drop k),fun k=>t.length - k,?_,?_⟩
 ·exact⟨0,⟨by omega,by simp⟩,qCA rfl ⟨rfl,rfl,trivial⟩ trivial rfl⟩
 ·rintro k ⟨hk,he⟩
  refine And.intro (fun h1=>?_) (fun h1=>?_)
  ·have hk':k<t.length:=by have h1:(k:Int)<(t.length:Nat):=h1;omega
   have hc:t.drop k=t[k]::t.drop (k+1):=List.drop_eq_getElem_cons hk'
   refine⟨_,⟨by omega,t[k],List.getElem?_eq_getElem hk',rfl⟩,?_⟩
   have hD:=qHP t[k]
   by_cases hd:qBf t[k]=true
   ·rw [hd] at hD
    refine hD.eq rfl ?_
    refine⟨(k:Int)+1,w6z,k+1,⟨by omega,?_⟩,qCA rfl ⟨rfl,rfl,trivial⟩ trivial rfl,?_⟩
    ·rw [he,hc,qAL,if_pos hd];omega
    ·show t.length - (k+1)<t.length - k
     omega
   ·rw [Bool.not_eq_true] at hd
    rw [hd] at hD
    refine hD.eq rfl ?_
    refine qAF _ rfl rfl (qAN ?_)
    have:qAL qBf t=k:=by rw [he,hc,qAL,if_neg (by simp [hd])];omega
    simp only [qIY,decide_eq_false (show ¬ qAL qBf t=t.length by omega),Bool.and_false,Bool.false_and]
  ·have hkk:k=t.length:=by have h1:¬ (k:Int)<(t.length:Nat):=h1;omega
   have hsp:qAL qBf t=t.length:=by rw [he,hkk];simp [qAL]
   refine And.intro (fun h2=>?_) (fun h2=>?_)
   ·have h2:t=[48]:=h2
    exact qAF _ rfl rfl (qAN (by rw [h2];decide))
   ·have h2:¬ t=[48]:=h2
    refine And.intro (fun h3=>?_) (fun h3=>?_)
    ·have h3:t=[]:=h3
     exact qAF _ rfl rfl (qAN (by rw [h3];decide))
    ·have h3:¬ t=[]:=h3
     have hn:qIY t=(decide (t.length<=4) && decide ((t.headD 0).toNat ≠ 48)):=by
      simp only [qIY,decide_eq_true hsp,decide_eq_true h3,decide_eq_false h2,Bool.true_and,Bool.and_true,Bool.false_or]
     rw [hn]
     obtain⟨c,r,rfl⟩:∃ c r,t=c::r:=by cases t with | nil=>exact(h3 rfl).elim | cons c r=>exact⟨c,r,rfl⟩
     refine⟨_,⟨by omega,c,rfl,rfl⟩,?_⟩
     refine And.intro (fun h4=>?_) (fun h4=>?_)
     ·have h4:((c.toNat:Nat):Int)=48:=h4
      exact qAF _ rfl rfl (qAN (by rw [List.headD_cons,decide_eq_false (show ¬ c.toNat ≠ 48 by omega),Bool.and_false]))
     ·have h4:¬ ((c.toNat:Nat):Int)=48:=h4
      refine And.intro (fun h5=>?_) (fun h5=>?_)
      ·have h5:((c::r).length:Int)<=4:=h5
       exact qAF _ rfl rfl (qAN (by rw [List.headD_cons,decide_eq_true (show c.toNat ≠ 48 by omega),decide_eq_true (show(c::r).length<=4 by omega)];rfl))
      ·have h5:¬ ((c::r).length:Int)<=4:=h5
       exact qAF _ rfl rfl (qAN (by rw [decide_eq_false (show ¬ (c::r).length<=4 by omega)];rfl))
theorem qSa (k:Int) (t:List UInt8) (ht:t.length<=9223372036854775807):Pure cx 78 [i64 k, .str t] (·=.ret [.bool (qAk k t)]):=by
 refine qAB Tryz.func78 rfl rfl rfl ?_
 refine And.intro (fun h1=>?_) (fun h1=>?_)
 ·have h1:k=1:=h1
  subst h1
  refine(qHt t ht).eq rfl ?_
  exact qAF _ rfl rfl rfl
 ·have h1:¬ k=1:=h1
  refine And.intro (fun h2=>?_) (fun h2=>?_)
  ·have h2:k=2:=h2
   subst h2
   refine rKeys_c.eq rfl ?_
   refine(qMB keysL (by decide) t).eq rfl ?_
   exact qAF _ rfl rfl rfl
  ·have h2:¬ k=2:=h2
   refine And.intro (fun h3=>?_) (fun h3=>?_)
   ·have h3:k=3:=h3
    subst h3
    refine(qQL t ht).eq rfl ?_
    exact qAF _ rfl rfl rfl
   ·have h3:¬ k=3:=h3
    refine And.intro (fun h4=>?_) (fun h4=>?_)
    ·have h4:k=4:=h4
     subst h4
     refine rMarks_c.eq rfl ?_
     refine(qMB marksL (by decide) t).eq rfl ?_
     exact qAF _ rfl rfl rfl
    ·have h4:¬ k=4:=h4
     exact qAF _ rfl rfl (qAN (by simp [qAk,h1,h2,h3,h4]))
theorem qNd (s:List UInt8) (hs:s.length<=8000) (k:Nat) (hk:k<=s.length) (a b:UInt8):Pure cx 120 [.str s,i64 k, .str [a,b]] (·=.ret [.bool (List.isPrefixOf [a,b] (s.drop k))]):=by
 refine qAB Tryz.func120 rfl rfl rfl ?_
 refine⟨(k:Int)+2,w6z,?_⟩
 refine And.intro (fun h1=>?_) (fun h1=>?_)
 ·have h1:(k:Int)+2<=(s.length:Nat):=h1
  refine⟨(k:Int)+2,w6z,?_⟩
  refine⟨⟨by omega,by omega,by omega⟩,?_⟩
  have e:sub s (some (k:Int)) (some ((k:Int)+2))=(s.drop k).take 2:=by
   show(s.drop ((k:Int)).toNat).take (((k:Int)+2).toNat - ((k:Int)).toNat)=_
   rw [show((k:Int)+2).toNat - ((k:Int)).toNat=2 by omega]
   rfl
  refine And.intro (fun h2=>?_) (fun h2=>?_)
  ·have h2:sub s (some (k:Int)) (some ((k:Int)+2))=[a,b]:=h2
   rw [e] at h2
   refine qAF _ rfl rfl (qAN ?_)
   rw [eq_comm,List.isPrefixOf_iff_prefix]
   exact⟨(s.drop k).drop 2,by rw [<- h2,List.take_append_drop]⟩
  ·have h2:¬ sub s (some (k:Int)) (some ((k:Int)+2))=[a,b]:=h2
   rw [e] at h2
   refine qAF _ rfl rfl (qAN ?_)
   rw [eq_comm,Bool.eq_false_iff]
   intro h
   rw [List.isPrefixOf_iff_prefix] at h
   obtain⟨r,hr⟩:=h
   exact h2 (by rw [<- hr];rfl)
 ·have h1:¬ (k:Int)+2<=(s.length:Nat):=h1
  refine qAF _ rfl rfl (qAN ?_)
  rw [eq_comm,Bool.eq_false_iff]
  intro h
  have:=(qCI h).resolve_right (by simp)
  simp at this
  omega
theorem qNe (s:List UInt8) (hs:s.length<=8000) (k:Nat) (hk:k<=s.length):Pure cx 76 [.str s,i64 k] (·=.ret [i64 (at_ s k).1,i64 (at_ s k).2]):=by
 refine qAB Tryz.func76 rfl rfl rfl ?_
 refine⟨Nat,fun j=>[(6, .p (i64 (at_ s j).1)),(7, .p (i64 (at_ s j).2)),(8, .p (i64 j)),(0,vS s),(1, .p (i64 k))],fun _=>⟨0,[]⟩,fun j=>j<=k,fun j=>k - j,?_,?_⟩
 ·exact⟨0,by omega,qCA rfl ⟨rfl,rfl,rfl,rfl,rfl,trivial⟩ trivial rfl⟩
 ·intro j hj
  have hle:=qVT s j
  refine And.intro (fun h1=>?_) (fun h1=>?_)
  ·have hlt:j<s.length:=by have h1:(j:Int)<(k:Int):=h1;omega
   have hk2:j<k:=by have h1:(j:Int)<(k:Int):=h1;omega
   refine⟨((at_ s j).2:Int)+1,w6z,?_⟩
   refine⟨_,⟨by omega,s[j],List.getElem?_eq_getElem hlt,rfl⟩,?_⟩
   have ha:=qRi hlt
   refine And.intro (fun h2=>?_) (fun h2=>?_)
   ·have h2:((s[j].toNat:Nat):Int)=10:=h2
    refine⟨((at_ s j).1:Int)+1,w6z,?_⟩
    refine⟨(j:Int)+1,w6z,j+1,hk2,?_,?_⟩
    ·have e:at_ s (j+1)=((at_ s j).1+1,1):=by rw [ha,adv,if_pos (by omega)]
     show Ent _ _ _ _ _ _ (sets (fun _=>.junk) [(6, .p (i64 (at_ s (j+1)).1)),(7, .p (i64 (at_ s (j+1)).2)),(8, .p (i64 ((j+1:Nat):Int))),(0,vS s),(1, .p (i64 k))]) _ _
     rw [e]
     exact qCA rfl ⟨rfl,rfl,rfl,rfl,rfl,trivial⟩ trivial rfl
    ·show k - (j+1)<k - j
     omega
   ·have h2:¬ ((s[j].toNat:Nat):Int)=10:=h2
    refine⟨(j:Int)+1,w6z,j+1,hk2,?_,?_⟩
    ·have e:at_ s (j+1)=((at_ s j).1,(at_ s j).2+1):=by rw [ha,adv,if_neg (by omega)]
     show Ent _ _ _ _ _ _ (sets (fun _=>.junk) [(6, .p (i64 (at_ s (j+1)).1)),(7, .p (i64 (at_ s (j+1)).2)),(8, .p (i64 ((j+1:Nat):Int))),(0,vS s),(1, .p (i64 k))]) _ _
     rw [e]
     exact qCA rfl ⟨rfl,rfl,rfl,rfl,rfl,trivial⟩ trivial rfl
    ·show k - (j+1)<k - j
     omega
  ·have:j=k:=by have h1:¬ (j:Int)<(k:Int):=h1;omega
   subst this
   exact qEC _ _ rfl rfl rfl rfl
def qRc (k:Nat):Option Nat->Int
 | some n=>((k+2+n:Nat):Int)
 | none=>-1
theorem qQN (s:List UInt8) (hs:s.length<=8000) (k f:Nat) (hk2:k+2<=s.length) (hf:s.length - (k+2)<=f) :
  Pure cx 121 [.str s,i64 k] (fun r=>r=.ret [i64 (qRc k (qBU f 1 (s.drop (k+2))))]/\∀ n,qBU f 1 (s.drop (k+2))=some n->k+2+n<=s.length):=by
 refine qAB Tryz.func121 rfl rfl rfl ?_
 refine⟨(k:Int)+2,w6z,?_⟩
 refine⟨Nat × Nat × Nat,fun x=>[(0,vS s),(5, .p (i64 x.2.1)),(6, .p (i64 x.1))],fun _=>⟨0,[]⟩,
  fun x=>x.1<=s.length/\k+2<=x.1/\x.2.1<=x.1/\((x.2.1=0/\qBU f 1 (s.drop (k+2))=some (x.1 - (k+2)))∨(1<=x.2.1/\s.length - x.1<=x.2.2/\qBU f 1 (s.drop (k+2))=(qBU x.2.2 x.2.1 (s.drop x.1)).map (·+(x.1 - (k+2))))),fun x=>2 * (s.length - x.1)+(if x.2.1=0 then 0 else 1),?_,?_⟩
 ·exact⟨(k+2,1,f),⟨hk2,by simp,by simp, .inr ⟨by simp,hf,by simp⟩⟩,qCA rfl ⟨rfl,rfl,rfl,trivial⟩ trivial rfl⟩
 ·rintro⟨i,d,f'⟩ ⟨g1,g2,g3,hx⟩
  simp only [] at g1 g2 g3 hx
  refine And.intro (fun h0=>?_) (fun h0=>?_)
  ·have h0:(0:Int)<(d:Int):=h0
   obtain⟨q1,q2,hc⟩:=hx.resolve_left (by omega)
   refine And.intro (fun h1=>?_) (fun h1=>?_)
   ·have h1:((s.length:Nat):Int)<=(i:Int):=h1
    have hn:qBU f 1 (s.drop (k+2))=none:=by
     rw [hc,show i=s.length by omega,List.drop_length]
     cases f' <;> rfl
    rw [hn]
    exact qAF _ rfl rfl ⟨rfl,by intro n h;cases h⟩
   ·have h1:¬ ((s.length:Nat):Int)<=(i:Int):=h1
    have hlt:i<s.length:=by omega
    obtain⟨c,r,hr⟩:∃ c r,s.drop i=c::r:=⟨_,_,List.drop_eq_getElem_cons hlt⟩
    obtain⟨f'',rfl⟩:∃ n,f'=n+1:=⟨f' - 1,by omega⟩
    have hT:=qNd s hs i g1 40 42
    by_cases hb:List.isPrefixOf [40,42] (s.drop i)=true
    ·rw [hb] at hT
     refine hT.eq rfl ?_
     have hk3:i+2<=s.length:=(qCI hb).resolve_right (by simp)
     refine⟨(d:Int)+1,w6z,?_⟩
     refine⟨(i:Int)+2,w6z,?_⟩
     refine⟨(i+2,d+1,f''),⟨hk3,by simp only [];omega,by simp only [];omega, .inr ⟨by simp,by simp only [];omega,?_⟩⟩,qCA rfl ⟨rfl,rfl,rfl,trivial⟩ trivial rfl,?_⟩
     ·rw [hc,hr,qBU,<- hr,if_pos hb,List.drop_drop,Option.map_map]
      congr 1
      funext n
      simp only [Function.comp]
      omega
     ·simp only []
      split <;> split <;> omega
    ·rw [Bool.not_eq_true] at hb
     rw [hb] at hT
     refine hT.eq rfl ?_
     have hT2:=qNd s hs i g1 42 41
     by_cases hb2:List.isPrefixOf [42,41] (s.drop i)=true
     ·rw [hb2] at hT2
      refine hT2.eq rfl ?_
      have hk3:i+2<=s.length:=(qCI hb2).resolve_right (by simp)
      refine⟨((d - 1:Nat):Int),by rw [show((d - 1:Nat):Int)=(d:Int) - 1 by omega];exact w6z,?_⟩
      refine⟨(i:Int)+2,w6z,?_⟩
      refine⟨(i+2,d - 1,f''),⟨hk3,by simp only [];omega,by simp only [];omega,?_⟩,qCA rfl ⟨rfl,rfl,rfl,trivial⟩ trivial rfl,?_⟩
      ·simp only []
       by_cases hd:d=1
       ·refine .inl ⟨by omega,?_⟩
        rw [hc,hr,qBU,<- hr,if_neg (by rw [hb];simp),if_pos hb2,if_pos hd]
        simp only [Option.map_some]
        congr 1
        omega
       ·refine .inr ⟨by omega,by omega,?_⟩
        rw [hc,hr,qBU,<- hr,if_neg (by rw [hb];simp),if_pos hb2,if_neg hd,List.drop_drop,Option.map_map]
        congr 1
        funext n
        simp only [Function.comp]
        omega
      ·simp only []
       split <;> split <;> omega
     ·rw [Bool.not_eq_true] at hb2
      rw [hb2] at hT2
      refine hT2.eq rfl ?_
      refine⟨(i:Int)+1,w6z,?_⟩
      refine⟨(i+1,d,f''),⟨by simp only [];omega,by simp only [];omega,by simp only [];omega, .inr ⟨by simp only [];omega,by simp only [];omega,?_⟩⟩,qCA rfl ⟨rfl,rfl,rfl,trivial⟩ trivial rfl,?_⟩
      ·rw [hc,hr,qBU,<- hr,if_neg (by rw [hb];simp),if_neg (by rw [hb2];simp),List.drop_drop,Option.map_map]
       congr 1
       funext n
       simp only [Function.comp]
       omega
      ·simp only []
       split <;> omega
  ·have h0:¬ (0:Int)<(d:Int):=h0
   rcases hx with ⟨-,hx⟩ | ⟨q1,-⟩
   ·rw [hx]
    refine qAF (i64 i) rfl rfl ⟨?_,by intro n h;injection h with h;omega⟩
    show PEnd.ret [i64 i]=.ret [i64 ((k+2+(i - (k+2)):Nat):Int)]
    rw [show k+2+(i - (k+2))=i by omega]
   ·omega
theorem qEm:∀ (f d:Nat) (r:List UInt8) (n:Nat),qBU f d r=some n->n<=r.length
 | 0,_,_,_,h=>by simp [qBU] at h
 | f+1,d,[],n,h=>by simp [qBU] at h
 | f+1,d,c::r,n,h=>by
  rw [qBU] at h
  split at h
  ·rename_i hp
   rw [List.isPrefixOf_iff_prefix] at hp
   have:=hp.length_le
   simp only [Option.map_eq_some_iff] at h
   obtain⟨m,hm,rfl⟩:=h
   have:=qEm f _ _ _ hm
   simp at *
   omega
  ·split at h
   ·rename_i hp
    rw [List.isPrefixOf_iff_prefix] at hp
    have:=hp.length_le
    split at h
    ·injection h with h
     simp at *
     omega
    ·simp only [Option.map_eq_some_iff] at h
     obtain⟨m,hm,rfl⟩:=h
     have:=qEm f _ _ _ hm
     simp at *
     omega
   ·simp only [Option.map_eq_some_iff] at h
    obtain⟨m,hm,rfl⟩:=h
    have:=qEm f _ _ _ hm
    simp at *
    omega
theorem qQM (s:List UInt8) (hs:s.length<=8000) (k f:Nat) (hk2:k+2<=s.length) (hf:s.length - (k+2)<=f) :
  Pure cx 121 [.str s,i64 k] (·=.ret [i64 (qRc k (qBU f 1 (s.drop (k+2))))]):=
 (qQN s hs k f hk2 hf).mono fun _ h=>h.1
def qXX (k:Nat):Nat ⊕ Nat->List PV
 | .inl n=>[i64 ((k+n:Nat):Int), .bool true]
 | .inr n=>[i64 ((k+n:Nat):Int), .bool false]
theorem qUa (s:List UInt8) (hs:s.length<=8000) (k f:Nat) (hk:k<=s.length) (hf:s.length - k<=f) :
  Pure cx 75 [.str s,i64 k] (·=.ret (qXX k (qBK f (s.drop k)))):=by
 refine qAB Tryz.func75 rfl rfl rfl ?_
 refine⟨Nat × Nat,fun x=>[(0,vS s),(1, .p (i64 x.1))],fun _=>⟨0,[]⟩,
  fun x=>k<=x.1/\x.1<=s.length/\s.length - x.1<=x.2/\qBK f (s.drop k)=shift (x.1 - k) (qBK x.2 (s.drop x.1)),fun x=>s.length - x.1,?_,?_⟩
 ·exact⟨(k,f),⟨by simp,hk,hf,by simp [qIq]⟩,qCA rfl ⟨rfl,rfl,trivial⟩ trivial rfl⟩
 ·rintro⟨k',f'⟩ ⟨g1,g2,g3,hc⟩
  simp only [] at g1 g2 g3 hc
  refine And.intro (fun h1=>?_) (fun h1=>?_)
  ·have hlt:k'<s.length:=by have h1:(k':Int)<(s.length:Int):=h1;omega
   have hr:s.drop k'=s[k']::s.drop (k'+1):=List.drop_eq_getElem_cons hlt
   obtain⟨f'',rfl⟩:∃ n,f'=n+1:=⟨f' - 1,by omega⟩
   refine⟨_,⟨by omega,s[k'],List.getElem?_eq_getElem hlt,rfl⟩,?_⟩
   have one:(s[k'].toNat=32∨s[k'].toNat=10)->qBK f (s.drop k)=shift (k'+1 - k) (qBK f'' (s.drop (k'+1))):=by
    intro h
    rw [hc,hr,qBK,if_pos h,qCY]
    congr 1
    omega
   refine And.intro (fun h2=>?_) (fun h2=>?_)
   ·have h2:((s[k'].toNat:Nat):Int)=32:=h2
    refine⟨(k':Int)+1,w6z,?_⟩
    exact⟨(k'+1,f''),⟨by simp only [];omega,by simp only [];omega,by simp only [];omega,one (by omega)⟩,qCA rfl ⟨rfl,rfl,trivial⟩ trivial rfl,by simp only [];omega⟩
   ·have h2:¬ ((s[k'].toNat:Nat):Int)=32:=h2
    refine⟨_,⟨by omega,s[k'],List.getElem?_eq_getElem hlt,rfl⟩,?_⟩
    refine And.intro (fun h3=>?_) (fun h3=>?_)
    ·have h3:((s[k'].toNat:Nat):Int)=10:=h3
     refine⟨(k':Int)+1,w6z,?_⟩
     exact⟨(k'+1,f''),⟨by simp only [];omega,by simp only [];omega,by simp only [];omega,one (by omega)⟩,qCA rfl ⟨rfl,rfl,trivial⟩ trivial rfl,by simp only [];omega⟩
    ·have h3:¬ ((s[k'].toNat:Nat):Int)=10:=h3
     have hno:¬ (s[k'].toNat=32∨s[k'].toNat=10):=by omega
     have hB:=qNd s hs k' g2 45 45
     by_cases hb:List.isPrefixOf [45,45] (s.drop k')=true
     ·rw [hb] at hB
      refine hB.eq rfl ?_
      have hsp:=qV3 hb
      have hle:=qCf qE7 (s.drop k')
      rw [List.length_drop] at hle
      refine⟨Nat,fun j=>[(0,vS s),(1, .p (i64 j))],fun _=>⟨0,[]⟩,fun j=>k'<=j/\j<=s.length/\qAL qE7 (s.drop k')=(j - k')+qAL qE7 (s.drop j),fun j=>s.length - j,?_,?_⟩
      ·exact⟨k',⟨by omega,g2,by omega⟩,qCA rfl ⟨rfl,rfl,trivial⟩ trivial rfl⟩
      ·rintro j ⟨j1,j2,j3⟩
       have fin:qAL qE7 (s.drop j)=0->∃ x:Nat × Nat,(k<=x.1/\x.1<=s.length/\s.length - x.1<=x.2/\qBK f (s.drop k)=shift (x.1 - k) (qBK x.2 (s.drop x.1)))/\x.1=j/\s.length - x.1<s.length - k':=by
        intro h0
        have ej:qAL qE7 (s.drop k')=j - k':=by omega
        refine⟨(j,f''),⟨by simp only [];omega,by simp only [];omega,by simp only [];omega,?_⟩,rfl,by simp only [];omega⟩
        rw [hc]
        conv=>lhs;rw [hr,qBK,if_neg hno,<- hr,if_pos hb]
        rw [qCY,List.drop_drop,ej,show k'+(j - k')=j by omega]
        congr 1
        omega
       refine And.intro (fun m1=>?_) (fun m1=>?_)
       ·have hjl:j<s.length:=by have m1:(j:Int)<(s.length:Int):=m1;omega
        have hrj:s.drop j=s[j]::s.drop (j+1):=List.drop_eq_getElem_cons hjl
        refine⟨_,⟨by omega,s[j],List.getElem?_eq_getElem hjl,rfl⟩,?_⟩
        refine And.intro (fun m2=>?_) (fun m2=>?_)
        ·have m2:((s[j].toNat:Nat):Int)=10:=m2
         obtain⟨⟨x1,x2⟩,hx,rfl,hxm⟩:=fin (by rw [hrj,qAL,if_neg (by simp [qE7];omega)])
         exact⟨(x1,x2),hx,qCA rfl ⟨rfl,rfl,trivial⟩ trivial rfl,hxm⟩
        ·have m2:¬ ((s[j].toNat:Nat):Int)=10:=m2
         clear fin
         refine⟨(j:Int)+1,w6z,?_⟩
         refine⟨j+1,⟨by omega,by omega,?_⟩,qCA rfl ⟨rfl,rfl,trivial⟩ trivial rfl,?_⟩
         ·rw [j3,hrj,qAL,if_pos (by simp [qE7];omega)]
          omega
         ·show s.length - (j+1)<s.length - j
          omega
       ·have ej:j=s.length:=by have m1:¬ (j:Int)<(s.length:Int):=m1;omega
        obtain⟨⟨x1,x2⟩,hx,rfl,hxm⟩:=fin (by rw [ej,List.drop_length];rfl)
        exact⟨(x1,x2),hx,qCA rfl ⟨rfl,rfl,trivial⟩ trivial rfl,hxm⟩
     ·rw [Bool.not_eq_true] at hb
      rw [hb] at hB
      refine hB.eq rfl ?_
      have hB2:=qNd s hs k' g2 40 42
      by_cases hb2:List.isPrefixOf [40,42] (s.drop k')=true
      ·rw [hb2] at hB2
       refine hB2.eq rfl ?_
       have hk2:k'+2<=s.length:=(qCI hb2).resolve_right (by simp)
       have hcm:=qQM s hs k' f'' hk2 (by omega)
       refine Or.elim (Option.eq_none_or_eq_some (qBU f'' 1 (s.drop (k'+2)))) (fun hcl=>?_) (fun hn=>Exists.elim hn (fun n hcl=>?_))
       ·rw [hcl] at hcm
        refine hcm.eq rfl ?_
        have e:qBK f (s.drop k)=.inr (k' - k):=by
         rw [hc,hr,qBK,if_neg hno,<- hr,if_neg (by rw [hb];simp),if_pos hb2,List.drop_drop,hcl]
         simp [shift]
        have e2:k+(k' - k)=k':=by omega
        refine And.intro (fun m1=>?_) (fun m1=>?_)
        ·refine qEC (i64 k') (.bool false) rfl rfl rfl ?_
         rw [e]
         show PEnd.ret [i64 k', .bool false]=.ret [i64 ((k+(k' - k):Nat):Int), .bool false]
         rw [e2]
        ·have m1:¬ (-1:Int)<0:=m1
         omega
       ·rw [hcl] at hcm
        refine hcm.eq rfl ?_
        have hln:=qEm _ _ _ _ hcl
        rw [List.length_drop] at hln
        refine And.intro (fun m1=>?_) (fun m1=>?_)
        ·have m1:((k'+2+n:Nat):Int)<0:=m1
         omega
        ·refine⟨(k'+2+n,f''),⟨by simp only [];omega,by simp only [];omega,by simp only [];omega,?_⟩,qCA rfl ⟨rfl,rfl,trivial⟩ trivial rfl,by simp only [];omega⟩
         rw [hc,hr,qBK,if_neg hno,<- hr,if_neg (by rw [hb];simp),if_pos hb2,List.drop_drop,hcl]
         simp only []
         rw [qCY,List.drop_drop,show k'+(2+n)=k'+2+n by omega]
         congr 1
         omega
      ·rw [Bool.not_eq_true] at hb2
       rw [hb2] at hB2
       refine hB2.eq rfl ?_
       have e:qBK f (s.drop k)=.inl (k' - k):=by
        rw [hc,hr,qBK,if_neg hno,<- hr,if_neg (by rw [hb];simp),if_neg (by rw [hb2];simp)]
        simp [shift]
       refine qEC (i64 k') (.bool true) rfl rfl rfl ?_
       rw [e]
       show PEnd.ret [i64 k', .bool true]=.ret [i64 ((k+(k' - k):Nat):Int), .bool true]
       rw [show k+(k' - k)=k' by omega]
  ·have hk':k'=s.length:=by have h1:¬ (k':Int)<(s.length:Int):=h1;omega
   have e:qBK f (s.drop k)=.inl (k' - k):=by
    rw [hc,hk',List.drop_length]
    cases f' <;> simp [qBK,shift]
   refine qEC (i64 k') (.bool true) rfl rfl rfl ?_
   rw [e]
   show PEnd.ret [i64 k', .bool true]=.ret [i64 ((k+(k' - k):Nat):Int), .bool true]
   rw [show k+(k' - k)=k' by omega]
theorem qFE (_g:UInt8->Bool) (s:List UInt8) (k:Nat) (h:k<s.length):sub s (some (k:Int)) (some ((k:Int)+1))=[s[k]]:=by
 show(s.drop ((k:Int)).toNat).take (((k:Int)+1).toNat - ((k:Int)).toNat)=_
 rw [show((k:Int)+1).toNat - ((k:Int)).toNat=1 by omega]
 show(s.drop k).take 1=_
 rw [List.drop_eq_getElem_cons h]
 rfl
theorem qDO (s:List UInt8) (k m:Nat):sub s (some (k:Int)) (some ((k+m:Nat):Int))=(s.drop k).take m:=by
 show(s.drop ((k:Int)).toNat).take (((k+m:Nat):Int).toNat - ((k:Int)).toNat)=_
 rw [show((k+m:Nat):Int).toNat - ((k:Int)).toNat=m by omega]
 rfl
theorem qSM (c:UInt8):runN [c]=qAS c:=by
 cases h:qAS c <;> simp [runN,qAL,h]
theorem qWF (s:List UInt8) (hs:s.length<=8000) (k:Nat) (hk:k<s.length) :
  Pure cx 77 [.str s,i64 k] (·=.ret [i64 (qBN (s.drop k)).1, .str (qBN (s.drop k)).2]):=by
 refine qAB Tryz.func77 rfl rfl rfl ?_
 have hlen:(s.drop k).length=s.length - k:=List.length_drop
 refine⟨Nat,fun j=>[(0,vS s),(1, .p (i64 k)),(6, .p (i64 ((k+j:Nat):Int)))],fun _=>⟨0,[]⟩,fun j=>k+j<=s.length/\qAL qAS (s.drop k)=j+qAL qAS (s.drop (k+j)),fun j=>s.length - j,?_,?_⟩
 ·exact⟨0,⟨by omega,by simp⟩,qCA rfl ⟨rfl,rfl,rfl,trivial⟩ trivial rfl⟩
 ·rintro j ⟨j1,j2⟩
  refine And.intro (fun h1=>?_) (fun h1=>?_)
  ·have h1:((k+j:Nat):Int)<((s.length:Nat):Int):=h1
   have hlt:k+j<s.length:=by omega
   refine⟨((k+j:Nat):Int)+1,w6z,?_⟩
   refine⟨⟨by omega,by omega,by omega⟩,?_⟩
   have hR:=qTe (sub s (some ((k+j:Nat):Int)) (some (((k+j:Nat):Int)+1))) (by rw [qFE qAS s (k+j) hlt];simp)
   have hrn:runN (sub s (some ((k+j:Nat):Int)) (some (((k+j:Nat):Int)+1)))=qAS s[k+j]:=by rw [qFE qAS s (k+j) hlt,qSM]
   rw [hrn] at hR
   have hc:s.drop (k+j)=s[k+j]::s.drop (k+j+1):=List.drop_eq_getElem_cons hlt
   by_cases ha:qAS s[k+j]=true
   ·rw [ha] at hR
    refine hR.eq rfl ?_
    refine⟨((k+j:Nat):Int)+1,w6z,j+1,⟨by omega,?_⟩,qCA rfl ⟨rfl,rfl,rfl,trivial⟩ trivial rfl,?_⟩
    ·rw [j2,hc,qAL,if_pos ha]
     show j+(qAL qAS (s.drop (k+j+1))+1)=j+1+qAL qAS (s.drop (k+(j+1)))
     rw [show k+(j+1)=k+j+1 by omega]
     omega
    ·show s.length - (j+1)<s.length - j
     omega
   ·rw [Bool.not_eq_true] at ha
    rw [ha] at hR
    refine hR.eq rfl ?_
    have hz:qAL qAS (s.drop (k+j))=0:=by rw [hc,qAL,if_neg (by rw [ha];simp)]
    have hsp:qAL qAS (s.drop k)=j:=by omega
    refine And.intro (fun h2=>?_) (fun h2=>?_)
    ·have h2:(k:Int)<((k+j:Nat):Int):=h2
     have hpos:0<qAL qAS (s.drop k):=by omega
     refine⟨⟨by omega,by omega,by omega⟩,?_⟩
     have e:=qDO s k j
     have htl:(sub s (some (k:Int)) (some ((k+j:Nat):Int))).length=j:=by rw [e,List.length_take];omega
     refine rKeys_c.eq rfl ?_
     have hK:=qMB keysL (by decide) (sub s (some (k:Int)) (some ((k+j:Nat):Int)))
     by_cases hkey:inL keysL (sub s (some (k:Int)) (some ((k+j:Nat):Int)))=true
     ·rw [hkey] at hK
      refine hK.eq rfl ?_
      refine qEC (i64 2) (.str (sub s (some (k:Int)) (some ((k+j:Nat):Int)))) rfl rfl rfl ?_
      rw [e] at hkey ⊢
      rw [show qBN (s.drop k)=(2,(s.drop k).take j) by rw [qBN,if_pos hpos,hsp,if_pos hkey]]
     ·rw [Bool.not_eq_true] at hkey
      rw [hkey] at hK
      refine hK.eq rfl ?_
      obtain⟨c,r,hcr⟩:∃ c r,sub s (some (k:Int)) (some ((k+j:Nat):Int))=c::r:=by
       cases ht:sub s (some (k:Int)) (some ((k+j:Nat):Int)) with
       | nil=>rw [ht] at htl;simp at htl;omega
       | cons c r=>exact⟨c,r,rfl⟩
      refine⟨_,⟨by omega,c,by show(sub s (some (k:Int)) (some ((k+j:Nat):Int)))[0]?=_;rw [hcr];rfl,rfl⟩,?_⟩
      have hD:=qHP c
      have hh:((s.drop k).take j).headD 0=c:=by rw [<- e,hcr];rfl
      by_cases hd:qBf c=true
      ·rw [hd] at hD
       refine hD.eq rfl ?_
       refine qEC (i64 3) (.str (sub s (some (k:Int)) (some ((k+j:Nat):Int)))) rfl rfl rfl ?_
       rw [e] at hkey ⊢
       rw [show qBN (s.drop k)=(3,(s.drop k).take j) by rw [qBN,if_pos hpos,hsp,if_neg (by rw [hkey];simp),if_pos (by rw [hh];exact hd)]]
      ·rw [Bool.not_eq_true] at hd
       rw [hd] at hD
       refine hD.eq rfl ?_
       refine qEC (i64 1) (.str (sub s (some (k:Int)) (some ((k+j:Nat):Int)))) rfl rfl rfl ?_
       rw [e] at hkey ⊢
       rw [show qBN (s.drop k)=(1,(s.drop k).take j) by rw [qBN,if_pos hpos,hsp,if_neg (by rw [hkey];simp),if_neg (by rw [hh,hd];simp)]]
    ·have h2:¬ (k:Int)<((k+j:Nat):Int):=h2
     have hpos:¬ 0<qAL qAS (s.drop k):=by omega
     refine VDraw.seq rfl ?_
     refine⟨((k+2:Nat):Int),by rw [show((k+2:Nat):Int)=(k:Int)+2 by omega];exact w6z,?_⟩
     refine And.intro (fun h3=>?_) (fun h3=>?_)
     ·have h3:((k+2:Nat):Int)<=((s.length:Nat):Int):=h3
      refine⟨((k+2:Nat):Int),by rw [show((k+2:Nat):Int)=(k:Int)+2 by omega];exact w6z,?_⟩
      refine⟨⟨by omega,by omega,by omega⟩,?_⟩
      refine rMarks_c.eq rfl ?_
      have e:=qDO s k 2
      have hM:=qMB marksL (by decide) (sub s (some (k:Int)) (some ((k+2:Nat):Int)))
      by_cases hm:inL marksL (sub s (some (k:Int)) (some ((k+2:Nat):Int)))=true
      ·rw [hm] at hM
       refine hM.eq rfl ?_
       refine VDraw.seq rfl ?_
       refine⟨((k+2:Nat):Int),by rw [show((k+2:Nat):Int)=(k:Int)+2 by omega];exact w6z,?_⟩
       refine⟨⟨by omega,by omega,by omega⟩,?_⟩
       refine qEC (i64 4) (.str (sub s (some (k:Int)) (some ((k+2:Nat):Int)))) rfl rfl rfl ?_
       rw [e] at hm ⊢
       rw [show qBN (s.drop k)=(4,(s.drop k).take 2) by rw [qBN,if_neg hpos,if_pos (by rw [hm,decide_eq_true (by omega)];rfl)]]
      ·rw [Bool.not_eq_true] at hm
       rw [hm] at hM
       refine hM.eq rfl ?_
       refine VDraw.seq rfl ?_
       refine⟨((k+1:Nat):Int),by rw [show((k+1:Nat):Int)=(k:Int)+1 by omega];exact w6z,?_⟩
       refine⟨⟨by omega,by omega,by omega⟩,?_⟩
       refine qEC (i64 4) (.str (sub s (some (k:Int)) (some ((k+1:Nat):Int)))) rfl rfl rfl ?_
       rw [e] at hm
       rw [qDO,show qBN (s.drop k)=(4,(s.drop k).take 1) by rw [qBN,if_neg hpos,if_neg (by rw [hm];simp)]]
     ·have h3:¬ ((k+2:Nat):Int)<=((s.length:Nat):Int):=h3
      refine VDraw.seq rfl ?_
      refine⟨((k+1:Nat):Int),by rw [show((k+1:Nat):Int)=(k:Int)+1 by omega];exact w6z,?_⟩
      refine⟨⟨by omega,by omega,by omega⟩,?_⟩
      refine qEC (i64 4) (.str (sub s (some (k:Int)) (some ((k+1:Nat):Int)))) rfl rfl rfl ?_
      rw [qDO,show qBN (s.drop k)=(4,(s.drop k).take 1) by rw [qBN,if_neg hpos,if_neg (by rw [decide_eq_false (by omega)];simp)]]
  ·have h1:¬ ((k+j:Nat):Int)<((s.length:Nat):Int):=h1
   have hz:qAL qAS (s.drop (k+j))=0:=by rw [show k+j=s.length by omega,List.drop_length];rfl
   have hsp:qAL qAS (s.drop k)=j:=by omega
   refine And.intro (fun h2=>?_) (fun h2=>?_)
   ·have h2:(k:Int)<((k+j:Nat):Int):=h2
    have hpos:0<qAL qAS (s.drop k):=by omega
    refine⟨⟨by omega,by omega,by omega⟩,?_⟩
    have e:=qDO s k j
    have htl:(sub s (some (k:Int)) (some ((k+j:Nat):Int))).length=j:=by rw [e,List.length_take];omega
    refine rKeys_c.eq rfl ?_
    have hK:=qMB keysL (by decide) (sub s (some (k:Int)) (some ((k+j:Nat):Int)))
    by_cases hkey:inL keysL (sub s (some (k:Int)) (some ((k+j:Nat):Int)))=true
    ·rw [hkey] at hK
     refine hK.eq rfl ?_
     refine qEC (i64 2) (.str (sub s (some (k:Int)) (some ((k+j:Nat):Int)))) rfl rfl rfl ?_
     rw [e] at hkey ⊢
     rw [show qBN (s.drop k)=(2,(s.drop k).take j) by rw [qBN,if_pos hpos,hsp,if_pos hkey]]
    ·rw [Bool.not_eq_true] at hkey
     rw [hkey] at hK
     refine hK.eq rfl ?_
     obtain⟨c,r,hcr⟩:∃ c r,sub s (some (k:Int)) (some ((k+j:Nat):Int))=c::r:=by
      cases ht:sub s (some (k:Int)) (some ((k+j:Nat):Int)) with
      | nil=>rw [ht] at htl;simp at htl;omega
      | cons c r=>exact⟨c,r,rfl⟩
     refine⟨_,⟨by omega,c,by show(sub s (some (k:Int)) (some ((k+j:Nat):Int)))[0]?=_;rw [hcr];rfl,rfl⟩,?_⟩
     have hD:=qHP c
     have hh:((s.drop k).take j).headD 0=c:=by rw [<- e,hcr];rfl
     by_cases hd:qBf c=true
     ·rw [hd] at hD
      refine hD.eq rfl ?_
      refine qEC (i64 3) (.str (sub s (some (k:Int)) (some ((k+j:Nat):Int)))) rfl rfl rfl ?_
      rw [e] at hkey ⊢
      rw [show qBN (s.drop k)=(3,(s.drop k).take j) by rw [qBN,if_pos hpos,hsp,if_neg (by rw [hkey];simp),if_pos (by rw [hh];exact hd)]]
     ·rw [Bool.not_eq_true] at hd
      rw [hd] at hD
      refine hD.eq rfl ?_
      refine qEC (i64 1) (.str (sub s (some (k:Int)) (some ((k+j:Nat):Int)))) rfl rfl rfl ?_
      rw [e] at hkey ⊢
      rw [show qBN (s.drop k)=(1,(s.drop k).take j) by rw [qBN,if_pos hpos,hsp,if_neg (by rw [hkey];simp),if_neg (by rw [hh,hd];simp)]]
   ·have h2:¬ (k:Int)<((k+j:Nat):Int):=h2
    have hpos:¬ 0<qAL qAS (s.drop k):=by omega
    refine VDraw.seq rfl ?_
    refine⟨((k+2:Nat):Int),by rw [show((k+2:Nat):Int)=(k:Int)+2 by omega];exact w6z,?_⟩
    refine And.intro (fun h3=>?_) (fun h3=>?_)
    ·have h3:((k+2:Nat):Int)<=((s.length:Nat):Int):=h3
     refine⟨((k+2:Nat):Int),by rw [show((k+2:Nat):Int)=(k:Int)+2 by omega];exact w6z,?_⟩
     refine⟨⟨by omega,by omega,by omega⟩,?_⟩
     refine rMarks_c.eq rfl ?_
     have e:=qDO s k 2
     have hM:=qMB marksL (by decide) (sub s (some (k:Int)) (some ((k+2:Nat):Int)))
     by_cases hm:inL marksL (sub s (some (k:Int)) (some ((k+2:Nat):Int)))=true
     ·rw [hm] at hM
      refine hM.eq rfl ?_
      refine VDraw.seq rfl ?_
      refine⟨((k+2:Nat):Int),by rw [show((k+2:Nat):Int)=(k:Int)+2 by omega];exact w6z,?_⟩
      refine⟨⟨by omega,by omega,by omega⟩,?_⟩
      refine qEC (i64 4) (.str (sub s (some (k:Int)) (some ((k+2:Nat):Int)))) rfl rfl rfl ?_
      rw [e] at hm ⊢
      rw [show qBN (s.drop k)=(4,(s.drop k).take 2) by rw [qBN,if_neg hpos,if_pos (by rw [hm,decide_eq_true (by omega)];rfl)]]
     ·rw [Bool.not_eq_true] at hm
      rw [hm] at hM
      refine hM.eq rfl ?_
      refine VDraw.seq rfl ?_
      refine⟨((k+1:Nat):Int),by rw [show((k+1:Nat):Int)=(k:Int)+1 by omega];exact w6z,?_⟩
      refine⟨⟨by omega,by omega,by omega⟩,?_⟩
      refine qEC (i64 4) (.str (sub s (some (k:Int)) (some ((k+1:Nat):Int)))) rfl rfl rfl ?_
      rw [e] at hm
      rw [qDO,show qBN (s.drop k)=(4,(s.drop k).take 1) by rw [qBN,if_neg hpos,if_neg (by rw [hm];simp)]]
    ·have h3:¬ ((k+2:Nat):Int)<=((s.length:Nat):Int):=h3
     refine VDraw.seq rfl ?_
     refine⟨((k+1:Nat):Int),by rw [show((k+1:Nat):Int)=(k:Int)+1 by omega];exact w6z,?_⟩
     refine⟨⟨by omega,by omega,by omega⟩,?_⟩
     refine qEC (i64 4) (.str (sub s (some (k:Int)) (some ((k+1:Nat):Int)))) rfl rfl rfl ?_
     rw [qDO,show qBN (s.drop k)=(4,(s.drop k).take 1) by rw [qBN,if_neg hpos,if_neg (by rw [decide_eq_false (by omega)];simp)]]
theorem qFu:∀ (f:Nat) (r:List UInt8) (n:Nat),(qBK f r=.inl n∨qBK f r=.inr n)->n<=r.length
 | 0,r,n,h=>by simp [qBK] at h;omega
 | f+1,[],n,h=>by simp [qBK] at h;omega
 | f+1,c::r,n,h=>by
  have sh:∀ (m:Nat) (x:Nat ⊕ Nat),(shift m x=.inl n∨shift m x=.inr n)->∃ n',(x=.inl n'∨x=.inr n')/\n=n'+m:=by
   intro m x h
   cases x with
   | inl y=>simp [shift] at h;exact⟨y, .inl rfl,h.symm⟩
   | inr y=>simp [shift] at h;exact⟨y, .inr rfl,h.symm⟩
  rw [qBK] at h
  split at h
  ·obtain⟨n',h',rfl⟩:=sh _ _ h
   have:=qFu f _ _ h'
   simp at *
   omega
  ·split at h
   ·obtain⟨n',h',rfl⟩:=sh _ _ h
    have:=qFu f _ _ h'
    have h2:=qCf qE7 (c::r)
    rw [List.length_drop] at this
    omega
   ·split at h
    ·split at h
     ·simp at h
      omega
     ·rename_i hcl
      obtain⟨n',h',rfl⟩:=sh _ _ h
      have h1:=qEm _ _ _ _ hcl
      have:=qFu f _ _ h'
      rename_i hp _ _
      rw [List.isPrefixOf_iff_prefix] at hp
      have h3:=hp.length_le
      rw [List.length_drop] at this h1
      simp only [List.length_cons,List.length_nil] at *
      omega
    ·simp at h
     omega
theorem qQK (s:List UInt8):Pure cx 47 [.str s] (·=.ret (qCl s)):=by
 refine qAB Tryz.func47 rfl rfl rfl ?_
 refine And.intro (fun h1=>?_) (fun h1=>?_)
 ·have h1:(8000:Int)<s.length:=h1
  have e:qCl s=[.lsts 4 [],i64 0,i64 0,i64 3]:=by rw [qCl,if_pos (by omega)]
  exact qKQ (.lsts 4 []) (i64 0) (i64 0) (i64 3) rfl (.inr (.inr ⟨4,rfl⟩)) rfl rfl rfl (congrArg PEnd.ret e.symm)
 ·have hs:s.length<=8000:=by have h1:¬ (8000:Int)<s.length:=h1;omega
  have hno:¬ 8000<s.length:=by omega
  refine⟨Nat × Nat × List Wd,fun x=>[(0,vS s),(6, .sl 0 4 0 x.2.2.length),(7, .p (i64 x.1))],fun x=>⟨1,[(0,rdA x.2.2)]⟩,
   fun x=>x.1<=s.length/\s.length - x.1<=x.2.1/\x.2.2.length<=1500/\qDd s=qDe (x.2.1+1) s x.1 x.2.2,fun x=>s.length - x.1,?_,?_⟩
  ·refine⟨(0,s.length,[]),⟨by simp,by simp,by simp,rfl⟩,?_⟩
   exact qAC [] [] [(0,4)] rfl (sk) (sk) rfl
  ·rintro⟨k,f,acc⟩ ⟨g1,g2,g3,g4⟩
   simp only [] at g1 g2 g3 g4
   have hS:=qUa s hs k s.length g1 (by omega)
   rw [qDe] at g4
   refine Or.elim (qXW (qBK s.length (s.drop k))) (fun hn=>Exists.elim hn fun n hsk=>?_) (fun hn=>Exists.elim hn fun n hsk=>?_)
   ·have hle:=qFu _ _ _ (.inl hsk)
    rw [List.length_drop] at hle
    rw [hsk] at hS
    simp only [hsk] at g4
    refine hS.eq rfl ?_
    refine(qNe s hs (k+n) (by omega)).eq rfl ?_
    have hat:=qVT s (k+n)
    refine And.intro (fun h2=>?_) (fun h2=>?_)
    ·have h2:((k+n:Nat):Int)=((s.length:Nat):Int):=h2
     have e:qCl s=[.lsts 4 (acc.map Wd.cells),i64 0,i64 0,i64 0]:=by rw [qCl,if_neg hno,g4,qFT,if_pos (by omega)]
     refine qKQ (.lsts 4 (acc.map Wd.cells)) (i64 0) (i64 0) (i64 0) rfl ?_ rfl rfl rfl (congrArg PEnd.ret e.symm)
     exact⟨_,rfl,by simp,by rw [List.drop_zero,List.take_of_length_le (by simp)]⟩
    ·have h2:¬ ((k+n:Nat):Int)=((s.length:Nat):Int):=h2
     have hlt:k+n<s.length:=by omega
     have hne:s.drop (k+n) ≠ []:=by intro e;have:=congrArg List.length e;rw [List.length_drop] at this;simp only [List.length_nil] at this;omega
     have hpos:=one_pos hne
     have htl:(qBN (s.drop (k+n))).2.length<=s.length - (k+n):=by
      have:=qCf qAS (s.drop (k+n))
      have h4:(s.drop (k+n)).length=s.length - (k+n):=List.length_drop
      unfold qBN
      split
      ·split
       ·simp;omega
       ·split <;> simp <;> omega
      ·split <;> simp <;> omega
     rw [qFT,if_neg (by omega)] at g4
     refine(qWF s hs (k+n) hlt).eq rfl ?_
     have hR:=qSa (qBN (s.drop (k+n))).1 (qBN (s.drop (k+n))).2 (by omega)
     by_cases hr:qAk (qBN (s.drop (k+n))).1 (qBN (s.drop (k+n))).2=true
     ·rw [hr] at hR
      refine hR.eq rfl ?_
      simp only [hr] at g4
      refine And.intro (fun h3=>?_) (fun h3=>?_)
      ·have h3:((acc.length:Nat):Int)=1500:=h3
       rw [if_pos (by omega)] at g4
       have e:qCl s=[.lsts 4 [],i64 (at_ s (k+n)).1,i64 (at_ s (k+n)).2,i64 3]:=by rw [qCl,if_neg hno,g4]
       exact qKQ (.lsts 4 []) (i64 (at_ s (k+n)).1) (i64 (at_ s (k+n)).2) (i64 3) rfl (.inr (.inr ⟨4,rfl⟩)) rfl rfl rfl (congrArg PEnd.ret e.symm)
      ·have h3:¬ ((acc.length:Nat):Int)=1500:=h3
       rw [if_neg (by omega)] at g4
       refine⟨by show 0+1<=1;omega,[Wd.cells ⟨(qBN (s.drop (k+n))).1,(qBN (s.drop (k+n))).2,(at_ s (k+n)).1,(at_ s (k+n)).2⟩],rfl,?_⟩
       refine⟨by show 0+acc.length<=(acc.map Wd.cells).length;simp,acc.map Wd.cells,?_,?_⟩
       ·show acc.map Wd.cells=((acc.map Wd.cells).drop 0).take acc.length
        rw [List.drop_zero,List.take_of_length_le (by simp)]
       refine⟨by show(acc.length+1) * 40<=140737488355328;omega,(acc++[(⟨(qBN (s.drop (k+n))).1,(qBN (s.drop (k+n))).2,(at_ s (k+n)).1,(at_ s (k+n)).2⟩:Wd)]).map Wd.cells,by simp,?_⟩
       refine⟨((k+n+(qBN (s.drop (k+n))).2.length:Nat):Int),by rw [show((k+n+(qBN (s.drop (k+n))).2.length:Nat):Int)=((k+n:Nat):Int)+((qBN (s.drop (k+n))).2.length:Nat) by omega];exact w6z,?_⟩
       obtain⟨f',rfl⟩:∃ n,f=n+1:=⟨f - 1,by omega⟩
       refine⟨(k+n+(qBN (s.drop (k+n))).2.length,f',acc++[⟨(qBN (s.drop (k+n))).1,(qBN (s.drop (k+n))).2,(at_ s (k+n)).1,(at_ s (k+n)).2⟩]),⟨by simp only [];omega,by simp only [];omega,by simp;omega,g4⟩,?_,by simp only [];omega⟩
       have hw0:∀ w:Wd,AV.sl 3 4 0 (acc.length+1)=AV.sl 3 4 0 (acc++[w]).length:=fun w=>by rw [List.length_append];rfl
       exact qAC [] [(0,3)] [] rfl ⟨rfl,hw0 _,rfl,trivial⟩ ⟨⟨_,rfl,rfl,rfl,rfl⟩,trivial⟩ rfl
     ·rw [Bool.not_eq_true] at hr
      rw [hr] at hR
      refine hR.eq rfl ?_
      simp only [hr] at g4
      have e:qCl s=[.lsts 4 [],i64 (at_ s (k+n)).1,i64 (at_ s (k+n)).2,i64 370]:=by rw [qCl,if_neg hno,g4]
      exact qKQ (.lsts 4 []) (i64 (at_ s (k+n)).1) (i64 (at_ s (k+n)).2) (i64 370) rfl (.inr (.inr ⟨4,rfl⟩)) rfl rfl rfl (congrArg PEnd.ret e.symm)
   ·have hle:=qFu _ _ _ (.inr hsk)
    rw [List.length_drop] at hle
    rw [hsk] at hS
    simp only [hsk] at g4
    refine hS.eq rfl ?_
    refine(qNe s hs (k+n) (by omega)).eq rfl ?_
    have e:qCl s=[.lsts 4 [],i64 (at_ s (k+n)).1,i64 (at_ s (k+n)).2,i64 370]:=by rw [qCl,if_neg hno,g4]
    exact qKQ (.lsts 4 []) (i64 (at_ s (k+n)).1) (i64 (at_ s (k+n)).2) (i64 370) rfl (.inr (.inr ⟨4,rfl⟩)) rfl rfl rfl (congrArg PEnd.ret e.symm)
end Go.Proofs.YtohfoaplnjcihaaGreatDoor
namespace Go.Proofs.YtohfoaplnjcihaaGreatDoor
open Go Y
set_option maxRecDepth 100000
set_option maxHeartbeats 4000000
abbrev qCN:List UInt8:=[103,114,97,105,110]
abbrev qCM:List UInt8:=[112,108,97,116,101]
abbrev qAl:List UInt8:=[110,111,100,101]
abbrev qBM:List UInt8:=[99,104,111,111,115,101]
abbrev qBu:List UInt8:=[103,97,105,110]
abbrev qAg:List UInt8:=[102,114,111,109]
abbrev qBt:List UInt8:=[115,101,101,105,110,103]
abbrev qCK:List UInt8:=[101,108,115,101]
abbrev qDj:List UInt8:=[97,110,100]
abbrev tOr:List UInt8:=[111,114]
abbrev qHF:List UInt8:=[110,111,116]
abbrev tIn:List UInt8:=[105,110]
abbrev qHN:List UInt8:=[97,108,108]
abbrev qB0:List UInt8:=[99,111,117,110,116]
abbrev qAq:List UInt8:=[58]
abbrev qAY:List UInt8:=[59]
abbrev qAv:List UInt8:=[44]
abbrev tLP:List UInt8:=[40]
abbrev tRP:List UInt8:=[41]
abbrev tLB:List UInt8:=[91]
abbrev tRB:List UInt8:=[93]
abbrev tLC:List UInt8:=[123]
abbrev tRC:List UInt8:=[125]
abbrev tEq:List UInt8:=[61]
abbrev tLt:List UInt8:=[60]
abbrev qEU:List UInt8:=[43]
abbrev qAu:List UInt8:=[45]
abbrev tNe:List UInt8:=[47,61]
abbrev tLe:List UInt8:=[60,61]
abbrev qX3:TypeId:=72
abbrev qM2:TypeId:=37
abbrev qFA:TypeId:=89
abbrev qIf:TypeId:=80
abbrev qR4:TypeId:=33
abbrev qVZ:TypeId:=3
abbrev qX4:TypeId:=9
structure Rf where
 name:List UInt8
 mode:Int
 plate:List UInt8
 n:Int
deriving DecidableEq
inductive Cd where
 | mk (op n rel val:Int) (ref:Rf) (set:List Int) (args:List Cd)
structure Cs where
 cond:Cd
 nums:List Int
structure De where
 kind:Int
 n:Int
 name:List UInt8
 plate:List UInt8
 refs:List Rf
 cases:List Cs
abbrev ints (l:List Int):PV:=.lst (l.map i64)
abbrev strs (l:List (List UInt8)):PV:=.lst (l.map .str)
abbrev Rf.cells (r:Rf):List PV:=[.str r.name,i64 r.mode, .str r.plate,i64 r.n]
abbrev Rf.pv (r:Rf):PV:=.agg r.cells
abbrev qBw (l:List Rf):PV:=.lsts 4 (l.map Rf.cells)
mutual
def Cd.cells:Cd->List PV
 | .mk op n rel val r set args=>[i64 op,i64 n,i64 rel,i64 val, .str r.name,i64 r.mode, .str r.plate,i64 r.n,ints set, .lsts 10 (qBV args)]
def qBV:List Cd->List (List PV)
 | []=>[]
 | c::r=>c.cells::qBV r
end
theorem qBr:∀ l:List Cd,qBV l=l.map Cd.cells
 | []=>rfl
 | c::r=>by rw [qBV,qBr r];rfl
abbrev Cd.pv (c:Cd):PV:=.agg c.cells
abbrev cds (l:List Cd):PV:=.lsts 10 (l.map Cd.cells)
def Cs.cells (c:Cs):List PV:=c.cond.cells++[ints c.nums]
abbrev Cs.pv (c:Cs):PV:=.agg c.cells
abbrev css (l:List Cs):PV:=.lsts 11 (l.map Cs.cells)
def De.cells (d:De):List PV:=[i64 d.kind,i64 d.n, .str d.name, .str d.plate,qBw d.refs,css d.cases]
abbrev De.pv (d:De):PV:=.agg d.cells
abbrev des (l:List De):PV:=.lsts 6 (l.map De.cells)
abbrev qCT (l:List De):PV:=.agg [des l]
def rf0:Rf:=⟨[],0,[],0⟩
def cd0:Cd:=.mk 0 0 0 0 rf0 [] []
def wd0:Wd:=⟨0,[],0,0⟩
def wat (ws:List Wd) (q:Nat):Wd:=ws.getD q wd0
abbrev txt (ws:List Wd) (q:Nat):List UInt8:=(wat ws q).text
abbrev knd (ws:List Wd) (q:Nat):Int:=(wat ws q).kind
theorem qGO {ws:List Wd} {q:Nat} (h:ws.length<=q):wat ws q=wd0:=by
 rw [wat,List.getD_eq_getElem?_getD,List.getElem?_eq_none h];rfl
structure GoodW (ws:List Wd):Prop where
 right:∀ w∈ws,qAk w.kind w.text=true
 len:ws.length<=1500
theorem GoodW.at {ws:List Wd} (h:GoodW ws) {q:Nat} (hq:q<ws.length):qAk (knd ws q) (txt ws q)=true:=
 h.right _ (by rw [wat,List.getD_eq_getElem?_getD,List.getElem?_eq_getElem hq];exact List.getElem_mem hq)
theorem qAi {ws:List Wd} {q:Nat} (h:txt ws q ≠ []):q<ws.length:=by
 rcases Nat.lt_or_ge q ws.length with h1 | h1
 ·exact h1
 ·exact absurd (by rw [txt,qGO h1];rfl) h
theorem qF8 {ws:List Wd} {q:Nat} (h:knd ws q ≠ 0):q<ws.length:=by
 rcases Nat.lt_or_ge q ws.length with h1 | h1
 ·exact h1
 ·exact absurd (by rw [knd,qGO h1];rfl) h
def qJh (t:List UInt8):Int:=t.foldl (fun n b=>10 * n+((b.toNat:Int) - 48)) 0
abbrev Rd (α:Type):=Sum Nat (α × Nat)
def Rd.then {α β:Type} (r:Rd α) (k:α->Nat->Rd β):Rd β:=match r with
 | .inl e=>.inl e
 | .inr (a,p)=>k a p
section
variable (ws:List Wd)
def qBz (s:List UInt8) (q:Nat):Rd Unit:=if txt ws q=s then .inr ((),q+1) else .inl q
def qAw:List (List UInt8)->Nat->Rd Unit
 | [],q=>.inr ((),q)
 | s::r,q=>(qBz ws s q).then fun _ q=>qAw r q
def qCs (q:Nat):Rd (List UInt8):=if knd ws q=1 then .inr (txt ws q,q+1) else .inl q
def qCw (q:Nat):Rd Int:=if knd ws q=3 then .inr (qJh (txt ws q),q+1) else .inl q
def qCa (nm:List UInt8) (mode:Int) (pl:List UInt8) (n:Int) (q:Nat):Rd Rf:=(qBz ws tRB q).then fun _ q=>.inr (⟨nm,mode,pl,n⟩,q)
def qIw (q : Nat) : Rd Rf := (qCs ws q).then fun nm q =>
  if txt ws q = tLB then
    (if txt ws (q + 1) = qHN then qCa ws nm 3 [] 0 (q + 2)
     else if knd ws (q + 1) = 3 then (qCw ws (q + 1)).then fun n q => qCa ws nm 2 [] n q
     else (qCs ws (q + 1)).then fun pl q => if txt ws q = qEU then (qCw ws (q + 1)).then fun n q => qCa ws nm 1 pl n q else qCa ws nm 1 pl 0 q)
  else .inr (⟨nm, 0, [], 0⟩, q)
def qDf {α:Type} (rd:Nat->Rd α):Nat->List α->Nat->Rd (List α)
 | 0,_,q=>.inl q
 | f+1,acc,q=>if txt ws q=qAv then(rd (q+1)).then fun a q=>qDf rd f (acc++[a]) q else .inr (acc,q)
def qFZ {α:Type} (rd:Nat->Rd α) (F:Nat) (q:Nat):Rd (List α):=(rd q).then fun a q=>qDf ws rd F [a] q
def qE6 (F:Nat) (key:List UInt8) (q:Nat):Rd (List Rf):=if txt ws q=key then qFZ ws (qIw ws) F (q+1) else .inr ([],q)
def qJx (q:Nat):Rd Int:=
 if txt ws q=tEq then .inr (1,q+1) else if txt ws q=tNe then .inr (2,q+1) else if txt ws q=tLt then .inr (3,q+1) else if txt ws q=tLe then .inr (4,q+1) else .inl q
def qH9:List Int->Int->List Int
 | [],n=>[n]
 | x::l,n=>if n<x then n::x::l else if x=n then x::l else x::qH9 l n
def qPQ (l:List Int):List Int:=l.foldl qH9 []
def qJM (q:Nat):Rd Int:=if txt ws q=qAu then(qCw ws (q+1)).then fun n q=>.inr (-n,q) else qCw ws q
def qD9:Nat->List Int->Nat->Rd (List Int)
 | 0,_,q=>.inl q
 | f+1,acc,q=>if txt ws q=qAu∨knd ws q=3 then(qJM ws q).then fun n q=>qD9 f (acc++[n]) q else .inr (acc,q)
def qD3 (F:Nat) (q:Nat):Rd (List Int):=(qJM ws q).then fun n q=>qD9 ws F [n] q
mutual
def qDJ:Nat->Nat->Rd Cd
 | 0,q=>.inl q
 | F+1,q=>(qC0 F q).then fun c q=>orR F c q
def orR:Nat->Cd->Nat->Rd Cd
 | 0,_,q=>.inl q
 | F+1,c,q=>if txt ws q=tOr then(qC0 F (q+1)).then fun d q=>orR F (.mk 9 0 0 0 rf0 [] [c,d]) q else .inr (c,q)
def qC0:Nat->Nat->Rd Cd
 | 0,q=>.inl q
 | F+1,q=>(qHT F q).then fun c q=>qLp F c q
def qLp:Nat->Cd->Nat->Rd Cd
 | 0,_,q=>.inl q
 | F+1,c,q=>if txt ws q=qDj then(qHT F (q+1)).then fun d q=>qLp F (.mk 8 0 0 0 rf0 [] [c,d]) q else .inr (c,q)
def qHT:Nat->Nat->Rd Cd
 | 0,q=>.inl q
 | F+1,q=>if txt ws q=qHF then(qHT F (q+1)).then fun c q=>.inr (.mk 7 0 0 0 rf0 [] [c],q) else qET F q
def qET:Nat->Nat->Rd Cd
 | 0,q=>.inl q
 | F+1,q=>
  if txt ws q=tLP then(qDJ F (q+1)).then fun c q=>(qBz ws tRP q).then fun _ q=>.inr (c,q)
  else if txt ws q=qB0 then(qBz ws tLP (q+1)).then fun _ q=>(qCs ws q).then fun nm q=>(qAw ws [tLB,qHN,tRB,tEq] q).then fun _ q=>(qCw ws q).then fun v q=>
   (qBz ws tRP q).then fun _ q=>(qJx ws q).then fun r q=>(qCw ws q).then fun n q=>.inr (.mk 6 n r v ⟨nm,3,[],0⟩ [] [],q)
  else(qIw ws q).then fun r q=>if txt ws q=tIn then(qBz ws tLC (q+1)).then fun _ q=>(qFZ ws (qCw ws) F q).then fun l q=>(qBz ws tRC q).then fun _ q=>.inr (.mk 5 0 0 0 r (qPQ l) [],q)
   else(qJx ws q).then fun o q=>(qCw ws q).then fun n q=>.inr (.mk o n 0 0 r [] [],q)
end
def qGV (F:Nat) (acc:List Cs) (q:Nat):Rd (List Cs):=(qBz ws qAq q).then fun _ q=>(qD3 ws F q).then fun l q=>(qBz ws tRC q).then fun _ q=>.inr (acc++[⟨cd0,l⟩],q)
def qDV (F:Nat):Nat->List Cs->Nat->Rd (List Cs)
 | 0,_,q=>.inl q
 | f+1,acc,q=>if txt ws q=qCK then qGV ws F acc (q+1)
  else(qDJ ws F q).then fun c q=>(qBz ws qAq q).then fun _ q=>(qD3 ws F q).then fun l q=>(qBz ws qAY q).then fun _ q=>qDV F f (acc++[⟨c,l⟩]) q
def qGU (F:Nat) (q:Nat):Rd (List Cs):=(qBz ws tLC q).then fun _ q=>qDV ws F F [] q
def qGB (q:Nat):Rd De:=(qCw ws q).then fun n q=>.inr (⟨1,n,[],[],[],[]⟩,q)
def qF1 (q:Nat):Rd De:=(qCs ws q).then fun nm q=>(qBz ws tEq q).then fun _ q=>(qCw ws q).then fun n q=>.inr (⟨2,n,nm,[],[],[]⟩,q)
def qCD (F:Nat) (nm pl:List UInt8) (q:Nat):Rd De:=(qBz ws qAq q).then fun _ q=>(qCw ws q).then fun n q=>(qE6 ws F qAg q).then fun l q=>(qBz ws tEq q).then fun _ q=>(qGU ws F q).then fun cs q=>.inr (⟨3,n,nm,pl,l,cs⟩,q)
def qKB (F:Nat) (q:Nat):Rd De:=(qCs ws q).then fun nm q=>
 if txt ws q=tLB then(qCs ws (q+1)).then fun pl q=>(qBz ws tRB q).then fun _ q=>qCD ws F nm pl q else qCD ws F nm [] q
def qEF (F:Nat) (q:Nat):Rd De:=(qCs ws q).then fun nm q=>(qBz ws qAq q).then fun _ q=>(qCw ws q).then fun n q=>(qE6 ws F qBt q).then fun l q=>.inr (⟨4,n,nm,[],l,[]⟩,q)
def qKJ (F:Nat) (q:Nat):Rd De:=(qE6 ws F qAg q).then fun l q=>(qBz ws tEq q).then fun _ q=>(qGU ws F q).then fun cs q=>.inr (⟨5,0,[],[],l,cs⟩,q)
def qCL (F:Nat) (q:Nat):Rd De:=
 if txt ws q=qCN then qGB ws (q+1) else if txt ws q=qCM then qF1 ws (q+1) else if txt ws q=qAl then qKB ws F (q+1)
 else if txt ws q=qBM then qEF ws F (q+1) else if txt ws q=qBu then qKJ ws F (q+1) else .inl q
def qDL (F:Nat):Nat->List De->Nat->Rd (List De)
 | 0,_,q=>.inl q
 | f+1,acc,q=>if q<ws.length then(qCL ws F q).then fun d q=>(qBz ws qAY q).then fun _ q=>qDL F f (acc++[d]) q else .inr (acc,q)
end
theorem qIm {α β γ:Type} (r:Rd α) (k:α->Nat->Rd β) (m:β->Nat->Rd γ):(r.then k).then m=r.then fun a q=>(k a q).then m:=by
 cases r <;> rfl
end Go.Proofs.YtohfoaplnjcihaaGreatDoor
namespace Go.Proofs.YtohfoaplnjcihaaGreatDoor
open Go Y
set_option maxRecDepth 100000
set_option maxHeartbeats 4000000
theorem qEO {α β:Type} {f:α->β} {l:List α} {k:Nat} (d:α) (h:k<l.length):(l.map f)[k]?=some (f (l.getD k d)):=by
 rw [List.getElem?_map,List.getD_eq_getElem?_getD,List.getElem?_eq_getElem h];rfl
theorem qEW {l:List Int} {k:Nat} (h:k<l.length):(l.map i64)[k]?=some (i64 (l.getD k 0)):=qEO 0 h
theorem qXV {l:List (List UInt8)} {k:Nat} (h:k<l.length):(l.map PV.str)[k]?=some (.str (l.getD k [])):=qEO [] h
theorem qCi {ws:List Wd} {k:Nat} (h:k<ws.length):(ws.map Wd.cells)[k]?=some (wat ws k).cells:=qEO wd0 h
theorem qAX {α:Type} {l:List α} {k:Nat} (d:α) (h:k<l.length):l.take (k+1)=l.take k++[l.getD k d]:=by
 rw [List.take_add_one,List.getD_eq_getElem?_getD,List.getElem?_eq_getElem h];rfl
theorem qAJ {α:Type} {l:List α} {k:Nat} (d:α) (h:k<l.length):l.getD k d∈l:=by
 rw [List.getD_eq_getElem?_getD,List.getElem?_eq_getElem h];exact List.getElem_mem h
theorem qBa {α:Type} {l:List α} {k:Nat} (h:l.length<=k):l.take k=l:=List.take_of_length_le h
theorem qAK {α:Type} (l:List α) (x:α):(l++[x]).length=l.length+1:=by simp
theorem qE9 {α:Type} {l:List α} {k:Nat} (d:α) (h:k<l.length):l.drop k=l.getD k d::l.drop (k+1):=by
 rw [List.drop_eq_getElem_cons h,List.getD_eq_getElem?_getD,List.getElem?_eq_getElem h];rfl
def psO (ws:List Wd) (q:Nat):AObj:=⟨126,false, .bx [.p (.lsts 4 (ws.map Wd.cells)), .p (i64 q)]⟩
abbrev psH (ws:List Wd) (q:Nat):Hp:=⟨1,[(0,psO ws q)]⟩
def qWo (ws:List Wd) (q:Nat):AV:=.p (.iface qX3 (.agg (wat ws q).cells))
abbrev qAZ (ws:List Wd) (q:Nat):AE:=.panicked [⟨qWo ws q,false⟩]
theorem qNG (ws:List Wd) (q:Nat) (hl:ws.length<=1500) (hq:q<=ws.length):HoldsG cx 93 [.ptr 0 0 0] (psH ws q) fun e H'=>e=.returned (.p (.str (txt ws q)))/\H'=psH ws q:=by
 refine qA3 Tryz.func93 rfl rfl rfl ?_
 have hl':(ws.map Wd.cells).length=ws.length:=List.length_map ..
 refine VDraw.seq rfl ?_
 refine QAD (fun h1=>?_) (fun h1=>?_)
 ·have h1:(q:Int)<((ws.map Wd.cells).length:Nat):=h1
  rw [hl'] at h1
  refine VDraw.seq rfl ?_
  refine⟨_,⟨by omega,(wat ws q).cells,qCi (by omega),rfl⟩,?_⟩
  exact⟨rfl,rfl⟩
 ·have h1:¬ (q:Int)<((ws.map Wd.cells).length:Nat):=h1
  rw [hl'] at h1
  exact⟨by rw [txt,qGO (by omega)];rfl,rfl⟩
theorem qN1 (ws:List Wd) (q:Nat) (hl:ws.length<=1500) (hq:q<=ws.length):HoldsG cx 166 [.ptr 0 0 0] (psH ws q) fun e H'=>e=.returned (.p (i64 (knd ws q)))/\H'=psH ws q:=by
 refine qA3 Tryz.func166 rfl rfl rfl ?_
 have hl':(ws.map Wd.cells).length=ws.length:=List.length_map ..
 refine VDraw.seq rfl ?_
 refine QAD (fun h1=>?_) (fun h1=>?_)
 ·have h1:(q:Int)<((ws.map Wd.cells).length:Nat):=h1
  rw [hl'] at h1
  refine VDraw.seq rfl ?_
  refine⟨_,⟨by omega,(wat ws q).cells,qCi (by omega),rfl⟩,?_⟩
  exact⟨rfl,rfl⟩
 ·have h1:¬ (q:Int)<((ws.map Wd.cells).length:Nat):=h1
  rw [hl'] at h1
  exact⟨by rw [knd,qGO (by omega)];rfl,rfl⟩
theorem qLO (ws:List Wd) (q:Nat) (hl:ws.length<=1500) (hq:q<=ws.length):HoldsG cx 94 [.ptr 0 0 0] (psH ws q) fun e H'=>e=qAZ ws q/\H'=psH ws q:=by
 refine qA3 Tryz.func94 rfl rfl rfl ?_
 have hl':(ws.map Wd.cells).length=ws.length:=List.length_map ..
 refine VDraw.seq rfl ?_
 refine QAD (fun h1=>?_) (fun h1=>?_)
 ·have h1:(q:Int)<((ws.map Wd.cells).length:Nat):=h1
  rw [hl'] at h1
  refine VDraw.seq rfl ?_
  refine⟨_,⟨by omega,(wat ws q).cells,qCi (by omega),rfl⟩,?_⟩
  exact⟨rfl,rfl⟩
 ·have h1:¬ (q:Int)<((ws.map Wd.cells).length:Nat):=h1
  rw [hl'] at h1
  exact⟨by rw [qAZ,qWo,qGO (by omega)];rfl,rfl⟩
def skQ (ws:List Wd) (q:Nat) (s:List UInt8) (e:AE) (H':Hp):Prop:=(txt ws q=s->e=.returned (vB true)/\H'=psH ws (q+1))/\(¬ txt ws q=s->e=.returned (vB false)/\H'=psH ws q)
theorem qA8 (ws:List Wd) (q:Nat) (s:List UInt8) (hl:ws.length<=1500) (hq:q<=ws.length):HoldsG cx 133 [.ptr 0 0 0, .p (.str s)] (psH ws q) (skQ ws q s):=by
 refine qA3 Tryz.func133 rfl rfl rfl ?_
 refine(qNG ws q hl hq).holds.mono fun e H' h=>?_
 obtain⟨rfl,rfl⟩:=h
 refine QAD (fun h1=>?_) (fun h1=>?_)
 ·have h1:txt ws q=s:=h1
  refine⟨_,w6z,?_⟩
  exact⟨fun _=>⟨rfl,rfl⟩,fun h=>absurd h1 h⟩
 ·have h1:¬ txt ws q=s:=h1
  exact⟨fun h=>absurd h h1,fun _=>⟨rfl,rfl⟩⟩
theorem qKY (ws:List Wd) (q:Nat) (hl:ws.length<=1500) (hq:q<=ws.length):HoldsG cx 168 [.ptr 0 0 0] (psH ws q) (skQ ws q qAv):=by
 refine qA3 Tryz.func168 rfl rfl rfl ?_
 refine(qA8 ws q qAv hl hq).holds.mono fun e H' h=>?_
 by_cases h1:txt ws q=qAv
 ·obtain⟨rfl,rfl⟩:=h.1 h1
  exact⟨fun _=>⟨rfl,rfl⟩,fun h=>absurd h1 h⟩
 ·obtain⟨rfl,rfl⟩:=h.2 h1
  exact⟨fun h=>absurd h h1,fun _=>⟨rfl,rfl⟩⟩
def rdQ {α:Type} (ws:List Wd) (r:Rd α) (val:α->AV) (e:AE) (H':Hp):Prop:=match r with
 | .inl p=>e=qAZ ws p/\H'=⟨1,[]⟩
 | .inr (a,q)=>q<=ws.length/\e=.returned (val a)/\H'=psH ws q
theorem qH2 (ws:List Wd) (q:Nat) (hl:ws.length<=1500) (hq:q<=ws.length):HoldsG cx 132 [.ptr 0 0 0] (psH ws q) (rdQ ws (qCs ws q) fun t=>.p (.str t)):=by
 refine qAA Tryz.func132 rfl rfl rfl ?_
 have hl':(ws.map Wd.cells).length=ws.length:=List.length_map ..
 refine(qN1 ws q hl hq).holds.mono fun e H' h=>?_
 obtain⟨rfl,rfl⟩:=h
 refine QAD (fun h1=>?_) (fun h1=>?_)
 ·have h1:knd ws q=1:=h1
  have hlt:q<ws.length:=qF8 (by rw [h1];decide)
  refine⟨_,w6z,?_⟩
  refine VDraw.seq rfl ?_
  refine⟨(q:Int),by rw [show(q:Int)+1 - 1=(q:Int) by omega];exact w6z,?_⟩
  refine⟨_,⟨by omega,(wat ws q).cells,qCi hlt,rfl⟩,?_⟩
  exact⟨[],[],[], .returned (.p (.str (txt ws q))),psH ws (q+1),rfl,sk,sk,by rw [qCs,if_pos h1];exact⟨hlt,rfl,rfl⟩⟩
 ·have h1:¬ knd ws q=1:=h1
  refine(qLO ws q hl hq).holds.mono fun e H' h=>?_
  obtain⟨rfl,rfl⟩:=h
  exact⟨[],[],[],qAZ ws q,⟨1,[]⟩,rfl,⟨_,rfl,_,_,rfl,rfl,rfl⟩,trivial,by rw [(show qCs ws q=.inl q by rw [qCs,if_neg h1])];exact⟨rfl,rfl⟩⟩
theorem decode_at {s:List UInt8} {i:Nat} (h:i<s.length) (hb:(s.getD i 0).toNat<128):Utf8.decode ⟨⟨s⟩⟩ i=((s.getD i 0).toNat,1):=by
 have e:(ByteArray.get! ⟨⟨s⟩⟩ (i+0))=s.getD i 0:=by
  rw [Nat.add_zero,List.getD_eq_getElem?_getD]
  show(⟨s⟩:Array UInt8)[i]! = _
  rw [getElem!_def,List.getElem?_toArray,List.getElem?_eq_getElem h];rfl
 unfold Utf8.decode
 simp only [e]
 rw [if_pos hb]
theorem qFn (t:List UInt8) (b:UInt8):qJh (t++[b])=10 * qJh t+((b.toNat:Int) - 48):=by rw [qJh,qJh,List.foldl_append];rfl
theorem qFm {t:List UInt8} (h:∀ b∈t,48<=b.toNat/\b.toNat<=57):∀ k,k<=t.length->0<=qJh (t.take k)/\qJh (t.take k)<10 ^ k
 | 0,_=>by rw [List.take_zero];exact⟨Int.le_refl 0,by decide⟩
 | k+1,hk=>by
  have ih:=qFm h k (by omega)
  have hb:=h _ (qAJ 0 (show k<t.length by omega))
  rw [qAX 0 (by omega),qFn,Int.pow_succ]
  omega
theorem qMF {t:List UInt8} (h:qIY t=true):t.length<=4/\∀ b∈t,48<=b.toNat/\b.toNat<=57:=by
 unfold qIY at h
 simp only [Bool.and_eq_true,decide_eq_true_eq] at h
 obtain⟨⟨⟨h1,h2⟩,h3⟩,h4⟩:=h
 refine⟨h2,?_⟩
 have key:∀ l:List UInt8,qAL qBf l=l.length->∀ b∈l,48<=b.toNat/\b.toNat<=57:=by
  intro l
  induction l with
  | nil=>intro _ b hb;simp at hb
  | cons c r ih=>
   intro he b hb
   simp only [qAL] at he
   split at he
   ·rename_i hc
    simp only [qBf,Bool.and_eq_true,decide_eq_true_eq] at hc
    rcases List.mem_cons.1 hb with rfl | hb
    ·exact hc
    ·exact ih (by simpa using he) b hb
   ·simp at he
 exact key t h3
theorem qQd {ws:List Wd} (hg:GoodW ws) {q:Nat} (h:knd ws q=3):qIY (txt ws q)=true:=by
 have:=hg.at (qF8 (by rw [h];decide))
 rw [h] at this
 exact this
theorem wrap_i32 {n:Int} (h0:-2147483648<=n) (h1:n<=2147483647):n=IntKind.i32.wrap n:=by
 simp [IntKind.wrap,IntKind.bits,IntKind.signed]
 omega
theorem qBx (ws:List Wd) (q:Nat) (hg:GoodW ws) (hq:q<=ws.length):HoldsG cx 131 [.ptr 0 0 0] (psH ws q) (rdQ ws (qCw ws q) fun n=>.p (i64 n)):=by
 refine qAA Tryz.func131 rfl rfl rfl ?_
 have hl:=hg.len
 refine(qN1 ws q hl hq).holds.mono fun e H' h=>?_
 obtain⟨rfl,rfl⟩:=h
 refine QAD (fun h1=>?_) (fun h1=>?_)
 rotate_left
 ·have h1:¬ knd ws q=3:=h1
  refine(qLO ws q hl hq).holds.mono fun e H' h=>?_
  obtain⟨rfl,rfl⟩:=h
  exact⟨[],[],[],qAZ ws q,⟨1,[]⟩,rfl,⟨_,rfl,_,_,rfl,rfl,rfl⟩,trivial,by rw [(show qCw ws q=.inl q by rw [qCw,if_neg h1])];exact⟨rfl,rfl⟩⟩
 have h1:knd ws q=3:=h1
 have hlt:q<ws.length:=qF8 (by rw [h1];decide)
 obtain⟨ht4,hdg⟩:=qMF (qQd hg h1)
 obtain⟨t,ht⟩:∃ t,t=txt ws q:=⟨_,rfl⟩
 rw [<- ht] at ht4 hdg
 refine(qNG ws q hl hq).holds.mono fun e H' h=>?_
 obtain⟨rfl,rfl⟩:=h
 refine⟨Nat,fun k=>[(0, .ptr 0 0 0),(3, .p (i64 (qJh (t.take k)))),(19, .ptr 1 0 0)],fun k=>⟨2,[(1,⟨qX4,false, .it t k⟩),(0,psO ws q)]⟩,fun k=>k<=t.length,fun k=>t.length - k,?_,?_⟩
 ·exact⟨0,Nat.zero_le _,qAC [] [] [] rfl ⟨⟨rfl,rfl⟩,rfl,⟨rfl,rfl⟩,trivial⟩ ⟨⟨_,rfl,rfl,rfl,congrArg (fun t=>Cn.it t 0) ht.symm⟩,⟨_,rfl,rfl,rfl,_,rfl,_,_,rfl,rfl,_,_,rfl,rfl,rfl⟩,trivial⟩ rfl⟩
 intro k hk
 refine And.intro (fun h2=>?_) (fun h2=>?_)
 ·have hke:k=t.length:=by omega
  subst hke
  refine⟨_,w6z,?_⟩
  exact⟨[],[],[], .returned (.p (i64 (qJh t))),psH ws (q+1),rfl,⟨_,rfl,by rw [qBa (Nat.le_refl _)];rfl⟩,sk,by rw [qCw,if_pos h1,<- ht];exact⟨hlt,rfl,rfl⟩⟩
 ·obtain⟨b,hb⟩:∃ b,b=t.getD k 0:=⟨_,rfl⟩
  have hbd:=hdg b (by rw [hb];exact qAJ 0 h2)
  have hv:=qFm hdg k hk
  have hp:(10:Int) ^ k<=10 ^ 4:=by
   rcases (show k=0∨k=1∨k=2∨k=3∨k=4 by omega) with rfl | rfl | rfl | rfl | rfl <;> decide
  have hp4:(10:Int) ^ 4=10000:=by decide
  refine⟨b.toNat,1,by rw [decode_at h2 (by rw [<- hb];omega),<- hb],?_⟩
  refine⟨10 * qJh (t.take k),w6z,?_⟩
  refine⟨(b.toNat:Int) - 48,wrap_i32 (by omega) (by omega),?_⟩
  refine⟨(b.toNat:Int) - 48,w6z,?_⟩
  refine⟨qJh (t.take (k+1)),by rw [qAX 0 h2,<- hb,qFn];exact w6z,?_⟩
  exact⟨k+1,h2,qAC [] [] [] rfl ⟨⟨rfl,rfl⟩,rfl,⟨rfl,rfl⟩,trivial⟩ ⟨⟨_,rfl,rfl,rfl,rfl⟩,⟨_,rfl,rfl,rfl,_,rfl,_,_,rfl,rfl,_,_,rfl,rfl,rfl⟩,trivial⟩ rfl,by show t.length - (k+1)<t.length - k;omega⟩
theorem qAm (ws:List Wd) (q0:Nat) (l:List (List UInt8)) (hl:ws.length<=1500) (hq:q0<=ws.length) (hn:∀ s∈l,s ≠ []) (hw:l.length<=1000) :
  HoldsG cx 95 [.ptr 0 0 0, .p (strs l)] (psH ws q0) (rdQ ws (qAw ws l q0) fun _=>und):=by
 refine qAA Tryz.func95 rfl rfl rfl ?_
 refine⟨Nat × Nat,fun x=>[(0, .ptr 0 0 0),(6, .p (strs l)),(7, .p (i64 l.length)),(8, .p (i64 x.1))],fun x=>psH ws x.2,fun x=>x.1<=l.length/\x.2<=ws.length/\qAw ws (l.drop x.1) x.2=qAw ws l q0,fun x=>l.length - x.1,?_,?_⟩
 ·exact⟨(0,q0),⟨by simp,hq,rfl⟩,qAC [] [] [] rfl ⟨⟨rfl,rfl⟩,rfl,congrArg (fun n:Nat=>i64 n) (List.length_map ..).symm,rfl,trivial⟩ (sk) rfl⟩
 rintro⟨k,q⟩ ⟨k1,k2,k3⟩
 simp only [] at k1 k2 k3
 refine QAD (fun h1=>?_) (fun h1=>?_)
 ·have h1:(k:Int)<(l.length:Nat):=h1
  have hk:k<l.length:=by omega
  obtain⟨s,hs⟩:∃ s,s=l.getD k []:=⟨_,rfl⟩
  rw [qE9 [] hk,<- hs,qAw,qBz] at k3
  refine⟨_,⟨by omega, .str s,by rw [hs];exact qXV hk,rfl⟩,?_⟩
  by_cases h2:txt ws q=s
  ·rw [if_pos h2] at k3
   have hlt:q<ws.length:=qAi (by rw [h2,hs];exact hn _ (qAJ [] hk))
   refine(qA8 ws q s hl k2).holds.mono fun e H' hq=>?_
   obtain⟨rfl,rfl⟩:=hq.1 h2
   refine⟨_,w6z,?_⟩
   exact⟨(k+1,q+1),⟨by simp only [];omega,hlt,k3⟩,qAC [] [] [] rfl (sk) (sk) rfl,by show l.length - (k+1)<l.length - k;omega⟩
  ·rw [if_neg h2] at k3
   refine(qA8 ws q s hl k2).holds.mono fun e H' hq=>?_
   obtain⟨rfl,rfl⟩:=hq.2 h2
   refine(qLO ws q hl k2).holds.mono fun e H' hq=>?_
   obtain⟨rfl,rfl⟩:=hq
   exact⟨[],[],[],qAZ ws q,⟨1,[]⟩,rfl,⟨_,rfl,_,_,rfl,rfl,rfl⟩,trivial,by rw [k3.symm];exact⟨rfl,rfl⟩⟩
 ·have h1:¬ (k:Int)<(l.length:Nat):=h1
  rw [show l.drop k=[] from List.drop_eq_nil_of_le (by omega),qAw] at k3
  exact⟨[],[],[], .returned und,psH ws q,rfl,sk,sk,by rw [<- k3];exact⟨k2,rfl,rfl⟩⟩
theorem qAG {α β:Type} (a:α) (q:Nat) (k:α->Nat->Rd β):Rd.then (.inr (a,q)) k=k a q:=rfl
theorem qBE (ws:List Wd) (s:List UInt8) (q:Nat):qAw ws [s] q=qBz ws s q:=by
 rw [qAw]
 cases h:qBz ws s q with
 | inl e=>rfl
 | inr x=>rfl
def rO (r:Rf):AObj:=⟨qR4,false, .bx (r.cells.map .p)⟩
def sO (l:List (List UInt8)):AObj:=⟨qX4,true, .pu (l.map .str)⟩
theorem qWC (ws:List Wd) (q0:Nat) (hg:GoodW ws) (hq0:q0<=ws.length):HoldsG cx 170 [.ptr 0 0 0] (psH ws q0) (rdQ ws (qIw ws q0) fun r=>.p r.pv):=by
 generalize hR:qIw ws q0=R
 rw [qIw] at hR
 refine qAA Tryz.func170 rfl rfl rfl ?_
 have hl:=hg.len
 refine(qH2 ws q0 hl hq0).holds.useT [] [] rfl (sk) (sk) fun e0 H0 hq=>?_
 rcases h1:qCs ws q0 with p | ⟨nm,q1⟩
 ·rw [h1] at hq hR
  obtain⟨rfl,rfl⟩:=hq
  refine⟨rfl,_,_,rfl,rfl,?_⟩
  exact⟨[],[],[],qAZ ws p,⟨1,[]⟩,rfl,⟨_,rfl,_,_,rfl,rfl,rfl⟩,trivial,by rw [<- hR];exact⟨rfl,rfl⟩⟩
 rw [h1] at hq hR
 obtain⟨q1l,rfl,rfl⟩:=hq
 refine⟨rfl,_,⟨2,(0,psO ws q1)::[(1,rO rf0)]⟩,rfl,rfl,?_⟩
 simp only [qAG] at hR
 by_cases c1:txt ws q1=tLB
 rotate_left
 ·refine(qA8 ws q1 tLB hl q1l).holds.useT [] [] rfl (sk) (sk) fun e0 H0 hq=>?_
  obtain⟨rfl,rfl⟩:=hq.2 c1
  refine⟨rfl,_,⟨3,(0,psO ws q1)::[(2,rO ⟨nm,0,[],0⟩),(1,rO rf0)]⟩,rfl,rfl,?_⟩
  rw [if_neg c1] at hR
  exact⟨[],[],[], .returned (.p (⟨nm,0,[],0⟩:Rf).pv),psH ws q1,rfl,sk,sk,by rw [<- hR];exact⟨q1l,rfl,rfl⟩⟩
 have q2l:q1+1<=ws.length:=qAi (by rw [c1];decide)
 refine(qA8 ws q1 tLB hl q1l).holds.useT [] [] rfl (sk) (sk) fun e0 H0 hq=>?_
 obtain⟨rfl,rfl⟩:=hq.1 c1
 refine⟨rfl,_,⟨3,(0,psO ws (q1+1))::[(2,rO ⟨nm,0,[],0⟩),(1,rO rf0)]⟩,rfl,rfl,?_⟩
 rw [if_pos c1] at hR
 by_cases c2:txt ws (q1+1)=qHN
 ·rw [if_pos c2] at hR
  have q2l':q1+2<=ws.length:=qAi (by rw [c2];decide)
  refine(qA8 ws (q1+1) qHN hl q2l).holds.useT [] [] rfl (sk) (sk) fun e0 H0 hq=>?_
  obtain⟨rfl,rfl⟩:=hq.1 c2
  refine⟨rfl,_,⟨3,(0,psO ws (q1+2))::[(2,rO ⟨nm,0,[],0⟩),(1,rO rf0)]⟩,rfl,rfl,?_⟩
  rw [qCa,<- qBE] at hR
  refine(qAm ws (q1+2) [tRB] hl q2l' (by simp) (by simp)).holds.useT [3] [] rfl (sk) ⟨_,_,rfl,⟨rfl,rfl⟩,_,_,rfl,⟨_,rfl,by decide,rfl⟩,rfl⟩ fun e0 H0 hq=>?_
  rcases hm:qAw ws [tRB] (q1+2) with p | ⟨u,q9⟩
  ·rw [hm] at hq hR
   obtain⟨rfl,rfl⟩:=hq
   refine⟨rfl,_,_,rfl,rfl,?_⟩
   exact⟨[],[],[],qAZ ws p,⟨1,[]⟩,rfl,⟨_,rfl,_,_,rfl,rfl,rfl⟩,trivial,by rw [<- hR];exact⟨rfl,rfl⟩⟩
  rw [hm] at hq hR
  obtain⟨q9l,rfl,rfl⟩:=hq
  refine⟨rfl,_,⟨4,(0,psO ws q9)::[(3,sO [tRB]),(2,rO ⟨nm,3,[],0⟩),(1,rO rf0)]⟩,rfl,rfl,?_⟩
  simp only [qAG] at hR
  exact⟨[],[],[], .returned (.p (⟨nm,3,[],0⟩:Rf).pv),psH ws q9,rfl,sk,sk,by rw [<- hR];exact⟨q9l,rfl,rfl⟩⟩
 rw [if_neg c2] at hR
 refine(qA8 ws (q1+1) qHN hl q2l).holds.useT [] [] rfl (sk) (sk) fun e0 H0 hq=>?_
 obtain⟨rfl,rfl⟩:=hq.2 c2
 refine⟨rfl,_,⟨3,(0,psO ws (q1+1))::[(2,rO ⟨nm,0,[],0⟩),(1,rO rf0)]⟩,rfl,rfl,?_⟩
 refine(qN1 ws (q1+1) hl q2l).holds.useT [] [] rfl (sk) (sk) fun e0 H0 hq=>?_
 obtain⟨rfl,rfl⟩:=hq
 refine⟨rfl,_,⟨3,(0,psO ws (q1+1))::[(2,rO ⟨nm,0,[],0⟩),(1,rO rf0)]⟩,rfl,rfl,?_⟩
 refine QAD (fun c3=>?_) (fun c3=>?_)
 ·have c3:knd ws (q1+1)=3:=c3
  rw [if_pos c3] at hR
  refine(qBx ws (q1+1) hg q2l).holds.useT [] [] rfl (sk) (sk) fun e0 H0 hq=>?_
  rcases h4:qCw ws (q1+1) with p | ⟨n,q4⟩
  ·rw [h4] at hq hR
   obtain⟨rfl,rfl⟩:=hq
   refine⟨rfl,_,_,rfl,rfl,?_⟩
   exact⟨[],[],[],qAZ ws p,⟨1,[]⟩,rfl,⟨_,rfl,_,_,rfl,rfl,rfl⟩,trivial,by rw [<- hR];exact⟨rfl,rfl⟩⟩
  rw [h4] at hq hR
  obtain⟨q4l,rfl,rfl⟩:=hq
  refine⟨rfl,_,⟨3,(0,psO ws q4)::[(2,rO ⟨nm,2,[],0⟩),(1,rO rf0)]⟩,rfl,rfl,?_⟩
  simp only [qAG] at hR
  rw [qCa,<- qBE] at hR
  refine(qAm ws q4 [tRB] hl q4l (by simp) (by simp)).holds.useT [3] [] rfl (sk) ⟨_,_,rfl,⟨rfl,rfl⟩,_,_,rfl,⟨_,rfl,by decide,rfl⟩,rfl⟩ fun e0 H0 hq=>?_
  rcases hm:qAw ws [tRB] q4 with p | ⟨u,q9⟩
  ·rw [hm] at hq hR
   obtain⟨rfl,rfl⟩:=hq
   refine⟨rfl,_,_,rfl,rfl,?_⟩
   exact⟨[],[],[],qAZ ws p,⟨1,[]⟩,rfl,⟨_,rfl,_,_,rfl,rfl,rfl⟩,trivial,by rw [<- hR];exact⟨rfl,rfl⟩⟩
  rw [hm] at hq hR
  obtain⟨q9l,rfl,rfl⟩:=hq
  refine⟨rfl,_,⟨4,(0,psO ws q9)::[(3,sO [tRB]),(2,rO ⟨nm,2,[],n⟩),(1,rO rf0)]⟩,rfl,rfl,?_⟩
  simp only [qAG] at hR
  exact⟨[],[],[], .returned (.p (⟨nm,2,[],n⟩:Rf).pv),psH ws q9,rfl,sk,sk,by rw [<- hR];exact⟨q9l,rfl,rfl⟩⟩
 have c3:¬ knd ws (q1+1)=3:=c3
 rw [if_neg c3] at hR
 refine(qH2 ws (q1+1) hl q2l).holds.useT [] [] rfl (sk) (sk) fun e0 H0 hq=>?_
 rcases h5:qCs ws (q1+1) with p | ⟨pl,q5⟩
 ·rw [h5] at hq hR
  obtain⟨rfl,rfl⟩:=hq
  refine⟨rfl,_,_,rfl,rfl,?_⟩
  exact⟨[],[],[],qAZ ws p,⟨1,[]⟩,rfl,⟨_,rfl,_,_,rfl,rfl,rfl⟩,trivial,by rw [<- hR];exact⟨rfl,rfl⟩⟩
 rw [h5] at hq hR
 obtain⟨q5l,rfl,rfl⟩:=hq
 refine⟨rfl,_,⟨3,(0,psO ws q5)::[(2,rO ⟨nm,1,[],0⟩),(1,rO rf0)]⟩,rfl,rfl,?_⟩
 simp only [qAG] at hR
 by_cases c6:txt ws q5=qEU
 ·rw [if_pos c6] at hR
  have q6l:q5+1<=ws.length:=qAi (by rw [c6];decide)
  refine(qA8 ws q5 qEU hl q5l).holds.useT [] [] rfl (sk) (sk) fun e0 H0 hq=>?_
  obtain⟨rfl,rfl⟩:=hq.1 c6
  refine⟨rfl,_,⟨3,(0,psO ws (q5+1))::[(2,rO ⟨nm,1,pl,0⟩),(1,rO rf0)]⟩,rfl,rfl,?_⟩
  refine(qBx ws (q5+1) hg q6l).holds.useT [] [] rfl (sk) (sk) fun e0 H0 hq=>?_
  rcases h7:qCw ws (q5+1) with p | ⟨n,q7⟩
  ·rw [h7] at hq hR
   obtain⟨rfl,rfl⟩:=hq
   refine⟨rfl,_,_,rfl,rfl,?_⟩
   exact⟨[],[],[],qAZ ws p,⟨1,[]⟩,rfl,⟨_,rfl,_,_,rfl,rfl,rfl⟩,trivial,by rw [<- hR];exact⟨rfl,rfl⟩⟩
  rw [h7] at hq hR
  obtain⟨q7l,rfl,rfl⟩:=hq
  refine⟨rfl,_,⟨3,(0,psO ws q7)::[(2,rO ⟨nm,1,pl,0⟩),(1,rO rf0)]⟩,rfl,rfl,?_⟩
  simp only [qAG] at hR
  rw [qCa,<- qBE] at hR
  refine(qAm ws q7 [tRB] hl q7l (by simp) (by simp)).holds.useT [3] [] rfl (sk) ⟨_,_,rfl,⟨rfl,rfl⟩,_,_,rfl,⟨_,rfl,by decide,rfl⟩,rfl⟩ fun e0 H0 hq=>?_
  rcases hm:qAw ws [tRB] q7 with p | ⟨u,q9⟩
  ·rw [hm] at hq hR
   obtain⟨rfl,rfl⟩:=hq
   refine⟨rfl,_,_,rfl,rfl,?_⟩
   exact⟨[],[],[],qAZ ws p,⟨1,[]⟩,rfl,⟨_,rfl,_,_,rfl,rfl,rfl⟩,trivial,by rw [<- hR];exact⟨rfl,rfl⟩⟩
  rw [hm] at hq hR
  obtain⟨q9l,rfl,rfl⟩:=hq
  refine⟨rfl,_,⟨4,(0,psO ws q9)::[(3,sO [tRB]),(2,rO ⟨nm,1,pl,n⟩),(1,rO rf0)]⟩,rfl,rfl,?_⟩
  simp only [qAG] at hR
  exact⟨[],[],[], .returned (.p (⟨nm,1,pl,n⟩:Rf).pv),psH ws q9,rfl,sk,sk,by rw [<- hR];exact⟨q9l,rfl,rfl⟩⟩
 ·rw [if_neg c6] at hR
  refine(qA8 ws q5 qEU hl q5l).holds.useT [] [] rfl (sk) (sk) fun e0 H0 hq=>?_
  obtain⟨rfl,rfl⟩:=hq.2 c6
  refine⟨rfl,_,⟨3,(0,psO ws q5)::[(2,rO ⟨nm,1,pl,0⟩),(1,rO rf0)]⟩,rfl,rfl,?_⟩
  rw [qCa,<- qBE] at hR
  refine(qAm ws q5 [tRB] hl q5l (by simp) (by simp)).holds.useT [3] [] rfl (sk) ⟨_,_,rfl,⟨rfl,rfl⟩,_,_,rfl,⟨_,rfl,by decide,rfl⟩,rfl⟩ fun e0 H0 hq=>?_
  rcases hm:qAw ws [tRB] q5 with p | ⟨u,q9⟩
  ·rw [hm] at hq hR
   obtain⟨rfl,rfl⟩:=hq
   refine⟨rfl,_,_,rfl,rfl,?_⟩
   exact⟨[],[],[],qAZ ws p,⟨1,[]⟩,rfl,⟨_,rfl,_,_,rfl,rfl,rfl⟩,trivial,by rw [<- hR];exact⟨rfl,rfl⟩⟩
  rw [hm] at hq hR
  obtain⟨q9l,rfl,rfl⟩:=hq
  refine⟨rfl,_,⟨4,(0,psO ws q9)::[(3,sO [tRB]),(2,rO ⟨nm,1,pl,0⟩),(1,rO rf0)]⟩,rfl,rfl,?_⟩
  simp only [qAG] at hR
  exact⟨[],[],[], .returned (.p (⟨nm,1,pl,0⟩:Rf).pv),psH ws q9,rfl,sk,sk,by rw [<- hR];exact⟨q9l,rfl,rfl⟩⟩
def LI {α:Type} (R:Rd α) (go:Nat->Rd α) (m:Nat):Prop:=∃ f,m<f/\R=go f
theorem LI.is {α:Type} {R x:Rd α} {go:Nat->Rd α} {m:Nat} (h:LI R go m) (hgo:∀ f,go (f+1)=x):R=x:=by
 obtain⟨f,hf,rfl⟩:=h
 obtain⟨f,rfl⟩:∃ g,f=g+1:=⟨f - 1,by omega⟩
 exact hgo f
theorem LI.nxt {α:Type} {R:Rd α} {go go':Nat->Rd α} {m m':Nat} (h:LI R go m) (hgo:∀ f,go (f+1)=go' f) (hm:m'<m):LI R go' m':=by
 obtain⟨f,hf,rfl⟩:=h
 obtain⟨f,rfl⟩:∃ g,f=g+1:=⟨f - 1,by omega⟩
 exact⟨f,by omega,hgo f⟩
theorem qFX {ws:List Wd} {q q':Nat} {t:List UInt8} (h:qCs ws q=.inr (t,q')):q<q':=by
 rw [qCs] at h
 split at h
 ·injection h with h;injection h with h1 h2;omega
 ·cases h
theorem qCW {ws:List Wd} {q q':Nat} {n:Int} (h:qCw ws q=.inr (n,q')):q<q':=by
 rw [qCw] at h
 split at h
 ·injection h with h;injection h with h1 h2;omega
 ·cases h
theorem qAr {ws:List Wd} {s:List UInt8} {q q':Nat} {u:Unit} (h:qBz ws s q=.inr (u,q')):q<q':=by
 rw [qBz] at h
 split at h
 ·injection h with h;injection h with h1 h2;omega
 ·cases h
theorem then_ok {α β:Type} {r:Rd α} {k:α->Nat->Rd β} {b:β} {q:Nat} (h:r.then k=.inr (b,q)):∃ a p,r=.inr (a,p)/\k a p=.inr (b,q):=by
 cases r with
 | inl e=>cases h
 | inr x=>exact⟨x.1,x.2,rfl,h⟩
theorem qJl {ws:List Wd} {nm pl:List UInt8} {m n:Int} {q q':Nat} {r:Rf} (h:qCa ws nm m pl n q=.inr (r,q')):q<q':=by
 obtain⟨u,p,h1,h2⟩:=then_ok h
 have:=qAr h1
 injection h2 with h2;injection h2 with h3 h4;omega
theorem qG6 {ws:List Wd} {q q':Nat} {r:Rf} (h:qIw ws q=.inr (r,q')):q<q':=by
 rw [qIw] at h
 obtain⟨nm,q1,h1,h⟩:=then_ok h
 have:=qFX h1
 try simp only [] at h
 split at h
 ·split at h
  ·have:=qJl h;omega
  ·split at h
   ·obtain⟨n,q2,h2,h⟩:=then_ok h
    have:=qCW h2
    have:=qJl h;omega
   ·obtain⟨pl,q2,h2,h⟩:=then_ok h
    have:=qFX h2
    try simp only [] at h
    split at h
    ·obtain⟨n,q3,h3,h⟩:=then_ok h
     have:=qCW h3
     have:=qJl h;omega
    ·have:=qJl h;omega
 ·injection h with h;injection h with h3 h4;omega
def bxO:AObj:=⟨122,false, .bx [.ptr 0 0 0]⟩
abbrev pbH (ws:List Wd) (q:Nat):Hp:=⟨2,[(0,psO ws q),(1,bxO)]⟩
def qTc {α:Type} (ws:List Wd) (r:Rd α) (val:α->AV) (e:AE) (H':Hp):Prop:=match r with
 | .inl p=>e=qAZ ws p/\H'=⟨2,[]⟩
 | .inr (a,q)=>q<=ws.length/\e=.returned (val a)/\H'=pbH ws q
theorem qQE (ws:List Wd) (q0:Nat) (hg:GoodW ws) (hq0:q0<=ws.length):HoldsG cx 169 [.ptr 1 0 0] (pbH ws q0) (qTc ws (qIw ws q0) fun r=>.p r.pv):=by
 generalize hR:qIw ws q0=R
 refine qAA Tryz.func169 rfl rfl rfl ?_
 have hl:=hg.len
 have hc:=qWC ws q0 hg hq0
 rw [hR] at hc
 refine hc.holds.useT [] [] rfl (sk) (sk) fun e0 H0 hq=>?_
 rcases R with p | ⟨r,q1⟩
 ·obtain⟨rfl,rfl⟩:=hq
  refine⟨rfl,_,_,rfl,rfl,?_⟩
  exact⟨[],[],[],qAZ ws p,⟨2,[]⟩,rfl,⟨_,rfl,_,_,rfl,rfl,rfl⟩,trivial,rfl,rfl⟩
 obtain⟨q1l,rfl,rfl⟩:=hq
 refine⟨rfl,_,⟨3,(0,psO ws q1)::[(2,rO rf0),(1,bxO)]⟩,rfl,rfl,?_⟩
 exact⟨[],[],[], .returned (.p r.pv),pbH ws q1,rfl,sk,sk,q1l,rfl,rfl⟩
def qKy (l:List Rf):AObj:=⟨qR4,false, .pus (l.map Rf.cells)⟩
def cmF:AV:=.fn (.func 168) [.ptr 0 0 0] []
def rfF:AV:=.fn (.func 169) [] [.ptr 1 0 0]
theorem qQu (ws:List Wd) (F q0:Nat) (hF:ws.length<F) (hg:GoodW ws) (hq0:q0<=ws.length):HoldsG cx 167 [cmF,rfF] (pbH ws q0) (qTc ws (qFZ ws (qIw ws) F q0) fun l=>.p (qBw l)):=by
 generalize hR:qFZ ws (qIw ws) F q0=R
 rw [qFZ] at hR
 refine qAA Tryz.func167 rfl rfl rfl ?_
 have hl:=hg.len
 refine(qQE ws q0 hg hq0).holds.useT [] [] rfl (sk) (sk) fun e0 H0 hq=>?_
 rcases h1:qIw ws q0 with p | ⟨r0,q1⟩
 ·rw [h1] at hq hR
  obtain⟨rfl,rfl⟩:=hq
  refine⟨rfl,_,_,rfl,rfl,?_⟩
  exact⟨[],[],[],qAZ ws p,⟨2,[]⟩,rfl,⟨_,rfl,_,_,rfl,rfl,rfl⟩,trivial,by rw [<- hR];exact⟨rfl,rfl⟩⟩
 rw [h1] at hq hR
 obtain⟨q1l,rfl,rfl⟩:=hq
 refine⟨rfl,_,pbH ws q1,rfl,rfl,?_⟩
 simp only [qAG] at hR
 refine⟨List Rf × Nat,fun x=>[(0,cmF),(1,rfF),(5, .sl 2 4 0 x.1.length)],fun x=>⟨3,[(2,qKy x.1),(0,psO ws x.2),(1,bxO)]⟩,fun x=>x.2<=ws.length/\x.1.length<=x.2/\LI R (fun f=>qDf ws (qIw ws) f x.1 x.2) (ws.length - x.2),fun x=>ws.length - x.2,?_,?_⟩
 ·exact⟨([r0],q1),⟨q1l,by simp only [List.length_singleton];have:=qG6 h1;omega,⟨F,by omega,hR.symm⟩⟩,qAC [] [] [] rfl ⟨⟨rfl,_,_,rfl,⟨_,_,rfl,⟨rfl,rfl⟩,rfl⟩,rfl⟩,⟨rfl,_,_,rfl,rfl,⟨_,_,rfl,⟨rfl,rfl⟩,rfl⟩⟩,rfl,trivial⟩ (sk) rfl⟩
 rintro⟨acc,q⟩ ⟨k1,k2,k3⟩
 simp only [] at k1 k2 k3
 by_cases c1:txt ws q=qAv
 ·have ql:q+1<=ws.length:=qAi (by rw [c1];decide)
  refine(qKY ws q hl k1).holds.useT [] [] rfl (sk) (sk) fun e0 H0 hq=>?_
  obtain⟨rfl,rfl⟩:=hq.1 c1
  refine⟨rfl,_,⟨3,(0,psO ws (q+1))::[(2,qKy acc),(1,bxO)]⟩,rfl,rfl,?_⟩
  refine(qQE ws (q+1) hg ql).holds.useT [] [] rfl (sk) (sk) fun e0 H0 hq=>?_
  rcases h2:qIw ws (q+1) with p | ⟨r,q2⟩
  ·rw [h2] at hq
   obtain⟨rfl,rfl⟩:=hq
   refine⟨rfl,_,_,rfl,rfl,?_⟩
   have hR:=k3.is (x:=.inl p) fun f=>by rw [qDf,if_pos c1,h2];rfl
   exact⟨[],[],[],qAZ ws p,⟨2,[]⟩,rfl,⟨_,rfl,_,_,rfl,rfl,rfl⟩,trivial,by rw [hR];exact⟨rfl,rfl⟩⟩
  rw [h2] at hq
  obtain⟨q2l,rfl,rfl⟩:=hq
  have hlt:=qG6 h2
  refine⟨rfl,_,⟨3,(0,psO ws q2)::(1,bxO)::[(2,qKy acc)]⟩,rfl,rfl,?_⟩
  refine⟨by show 0+1<=1;omega,[r.cells],rfl,?_⟩
  refine⟨by show 0+acc.length<=(acc.map Rf.cells).length;simp,acc.map Rf.cells,qAD (by simp),by show(acc.length+1) * 48<=140737488355328;omega,(acc++[r]).map Rf.cells,by simp,?_⟩
  exact⟨(acc++[r],q2),⟨q2l,by simp only [qAK];omega,k3.nxt (fun f=>by rw [qDf,if_pos c1,h2];rfl) (by omega)⟩,qAC [] [(2,4)] [] rfl ⟨⟨rfl,_,_,rfl,⟨_,_,rfl,⟨rfl,rfl⟩,rfl⟩,rfl⟩,⟨rfl,_,_,rfl,rfl,⟨_,_,rfl,⟨rfl,rfl⟩,rfl⟩⟩,congrArg (fun k:Nat=>AV.sl 4 4 0 k) (qAK acc r).symm,trivial⟩ (sk) rfl,by show ws.length - q2<ws.length - q;omega⟩
 ·refine(qKY ws q hl k1).holds.useT [] [] rfl (sk) (sk) fun e0 H0 hq=>?_
  obtain⟨rfl,rfl⟩:=hq.2 c1
  refine⟨rfl,_,⟨3,(0,psO ws q)::[(2,qKy acc),(1,bxO)]⟩,rfl,rfl,?_⟩
  have hR:=k3.is (x:=.inr (acc,q)) fun f=>by rw [qDf,if_neg c1]
  exact⟨[2],[],[], .returned (.p (qBw acc)),pbH ws q,rfl,⟨_,rfl,⟨_,rfl,by show 0+acc.length<=(acc.map Rf.cells).length;simp,qAD (by simp)⟩⟩,sk,by rw [hR];exact⟨k1,rfl,rfl⟩⟩
theorem qQf {ws:List Wd} (hg:GoodW ws) {q q':Nat} {n:Int} (h:qCw ws q=.inr (n,q')):0<=n/\n<=9999:=by
 rw [qCw] at h
 split at h
 ·rename_i hk
  injection h with h;injection h with h1 h2
  obtain⟨h4,hd⟩:=qMF (qQd hg hk)
  have hv:=qFm hd _ (Nat.le_refl _)
  rw [qBa (Nat.le_refl _),h1] at hv
  have hp:(10:Int) ^ (txt ws q).length<=10 ^ 4:=by
   rcases (show(txt ws q).length=0∨(txt ws q).length=1∨(txt ws q).length=2∨(txt ws q).length=3∨(txt ws q).length=4 by omega) with e | e | e | e | e <;> rw [e] <;> decide
  have hp4:(10:Int) ^ 4=10000:=by decide
  omega
 ·cases h
theorem qNa (ws:List Wd) (F q0:Nat) (key:List UInt8) (hk:key ≠ []) (hF:ws.length<F) (hg:GoodW ws) (hq0:q0<=ws.length):HoldsG cx 134 [.ptr 0 0 0, .p (.str key)] (psH ws q0) (rdQ ws (qE6 ws F key q0) fun l=>.p (qBw l)):=by
 generalize hR:qE6 ws F key q0=R
 rw [qE6] at hR
 refine qAA Tryz.func134 rfl rfl rfl ?_
 have hl:=hg.len
 by_cases c1:txt ws q0=key
 rotate_left
 ·rw [if_neg c1] at hR
  refine(qA8 ws q0 key hl hq0).holds.useT [] [] rfl (sk) (sk) fun e0 H0 hq=>?_
  obtain⟨rfl,rfl⟩:=hq.2 c1
  refine⟨rfl,_,⟨2,(0,psO ws q0)::[(1,bxO)]⟩,rfl,rfl,?_⟩
  exact⟨[],[],[], .returned (.p (qBw [])),psH ws q0,rfl,⟨_,rfl, .inr (.inr ⟨4,rfl⟩)⟩,sk,by rw [<- hR];exact⟨hq0,rfl,rfl⟩⟩
 rw [if_pos c1] at hR
 have q1l:q0+1<=ws.length:=qAi (by rw [c1];exact hk)
 refine(qA8 ws q0 key hl hq0).holds.useT [] [] rfl (sk) (sk) fun e0 H0 hq=>?_
 obtain⟨rfl,rfl⟩:=hq.1 c1
 refine⟨rfl,_,⟨2,(0,psO ws (q0+1))::[(1,bxO)]⟩,rfl,rfl,?_⟩
 have hc:=qQu ws F (q0+1) hF hg q1l
 rw [hR] at hc
 refine hc.holds.useT [] [] rfl (sk) ⟨_,_,rfl,⟨rfl,_,_,rfl,⟨_,_,rfl,⟨rfl,rfl⟩,rfl⟩,rfl⟩,_,_,rfl,⟨rfl,_,_,rfl,rfl,⟨_,_,rfl,⟨rfl,rfl⟩,rfl⟩⟩,rfl⟩ fun e0 H0 hq=>?_
 rcases R with p | ⟨l,q2⟩
 ·obtain⟨rfl,rfl⟩:=hq
  refine⟨rfl,_,_,rfl,rfl,?_⟩
  exact⟨[],[],[],qAZ ws p,⟨1,[]⟩,rfl,⟨_,rfl,_,_,rfl,rfl,rfl⟩,trivial,rfl,rfl⟩
 obtain⟨q2l,rfl,rfl⟩:=hq
 refine⟨rfl,_,⟨2,[(0,psO ws q2),(1,bxO)]⟩,rfl,rfl,?_⟩
 exact⟨[],[],[], .returned (.p (qBw l)),psH ws q2,rfl,sk,sk,q2l,rfl,rfl⟩
theorem qIv (ws:List Wd) (q0:Nat) (hl:ws.length<=1500) (hq0:q0<=ws.length):HoldsG cx 206 [.ptr 0 0 0] (psH ws q0) (rdQ ws (qJx ws q0) fun n=>.p (i64 n)):=by
 generalize hR:qJx ws q0=R
 rw [qJx] at hR
 refine qAA Tryz.func206 rfl rfl rfl ?_
 by_cases c1:txt ws q0=tEq
 ·have q1l:q0<ws.length:=qAi (by rw [c1];decide)
  rw [if_pos c1] at hR
  refine(qA8 ws q0 tEq hl hq0).holds.useT [] [] rfl (sk) (sk) fun e0 H0 hq=>?_
  obtain⟨rfl,rfl⟩:=hq.1 c1
  refine⟨rfl,_,⟨1,(0,psO ws (q0+1))::[]⟩,rfl,rfl,?_⟩
  exact⟨[],[],[], .returned (.p (i64 1)),psH ws (q0+1),rfl,sk,sk,by rw [<- hR];exact⟨by omega,rfl,rfl⟩⟩
 rw [if_neg c1] at hR
 refine(qA8 ws q0 tEq hl hq0).holds.useT [] [] rfl (sk) (sk) fun e0 H0 hq=>?_
 obtain⟨rfl,rfl⟩:=hq.2 c1
 refine⟨rfl,_,⟨1,(0,psO ws q0)::[]⟩,rfl,rfl,?_⟩
 by_cases c2:txt ws q0=tNe
 ·have q1l:q0<ws.length:=qAi (by rw [c2];decide)
  rw [if_pos c2] at hR
  refine(qA8 ws q0 tNe hl hq0).holds.useT [] [] rfl (sk) (sk) fun e0 H0 hq=>?_
  obtain⟨rfl,rfl⟩:=hq.1 c2
  refine⟨rfl,_,⟨1,(0,psO ws (q0+1))::[]⟩,rfl,rfl,?_⟩
  exact⟨[],[],[], .returned (.p (i64 2)),psH ws (q0+1),rfl,sk,sk,by rw [<- hR];exact⟨by omega,rfl,rfl⟩⟩
 rw [if_neg c2] at hR
 refine(qA8 ws q0 tNe hl hq0).holds.useT [] [] rfl (sk) (sk) fun e0 H0 hq=>?_
 obtain⟨rfl,rfl⟩:=hq.2 c2
 refine⟨rfl,_,⟨1,(0,psO ws q0)::[]⟩,rfl,rfl,?_⟩
 by_cases c3:txt ws q0=tLt
 ·have q1l:q0<ws.length:=qAi (by rw [c3];decide)
  rw [if_pos c3] at hR
  refine(qA8 ws q0 tLt hl hq0).holds.useT [] [] rfl (sk) (sk) fun e0 H0 hq=>?_
  obtain⟨rfl,rfl⟩:=hq.1 c3
  refine⟨rfl,_,⟨1,(0,psO ws (q0+1))::[]⟩,rfl,rfl,?_⟩
  exact⟨[],[],[], .returned (.p (i64 3)),psH ws (q0+1),rfl,sk,sk,by rw [<- hR];exact⟨by omega,rfl,rfl⟩⟩
 rw [if_neg c3] at hR
 refine(qA8 ws q0 tLt hl hq0).holds.useT [] [] rfl (sk) (sk) fun e0 H0 hq=>?_
 obtain⟨rfl,rfl⟩:=hq.2 c3
 refine⟨rfl,_,⟨1,(0,psO ws q0)::[]⟩,rfl,rfl,?_⟩
 by_cases c4:txt ws q0=tLe
 ·have q1l:q0<ws.length:=qAi (by rw [c4];decide)
  rw [if_pos c4] at hR
  refine(qA8 ws q0 tLe hl hq0).holds.useT [] [] rfl (sk) (sk) fun e0 H0 hq=>?_
  obtain⟨rfl,rfl⟩:=hq.1 c4
  refine⟨rfl,_,⟨1,(0,psO ws (q0+1))::[]⟩,rfl,rfl,?_⟩
  exact⟨[],[],[], .returned (.p (i64 4)),psH ws (q0+1),rfl,sk,sk,by rw [<- hR];exact⟨by omega,rfl,rfl⟩⟩
 rw [if_neg c4] at hR
 refine(qA8 ws q0 tLe hl hq0).holds.useT [] [] rfl (sk) (sk) fun e0 H0 hq=>?_
 obtain⟨rfl,rfl⟩:=hq.2 c4
 refine⟨rfl,_,⟨1,(0,psO ws q0)::[]⟩,rfl,rfl,?_⟩
 refine(qLO ws q0 hl hq0).holds.useT [] [] rfl (sk) (sk) fun e0 H0 hq=>?_
 obtain⟨rfl,rfl⟩:=hq
 refine⟨rfl,_,⟨1,(0,psO ws q0)::[]⟩,rfl,rfl,?_⟩
 exact⟨[],[],[],qAZ ws q0,⟨1,[]⟩,rfl,⟨_,rfl,_,_,rfl,rfl,rfl⟩,trivial,by rw [<- hR];exact⟨rfl,rfl⟩⟩
def moQ (ws:List Wd) (q:Nat) (e:AE) (H':Hp):Prop:=((txt ws q=qAu∨knd ws q=3)->e=.returned (vB true)/\H'=pbH ws q)/\(¬ (txt ws q=qAu∨knd ws q=3)->e=.returned (vB false)/\H'=pbH ws q)
theorem qI9 (ws:List Wd) (q0:Nat) (hl:ws.length<=1500) (hq0:q0<=ws.length):HoldsG cx 191 [.ptr 1 0 0] (pbH ws q0) (moQ ws q0):=by
 refine qAA Tryz.func191 rfl rfl rfl ?_
 refine(qNG ws q0 hl hq0).holds.useT [] [] rfl (sk) (sk) fun e0 H0 hq=>?_
 obtain⟨rfl,rfl⟩:=hq
 refine⟨rfl,_,⟨2,(0,psO ws q0)::[(1,bxO)]⟩,rfl,rfl,?_⟩
 refine QAD (fun c1=>?_) (fun c1=>?_)
 ·have c1:txt ws q0=qAu:=c1
  exact⟨[],[],[], .returned (vB true),pbH ws q0,rfl,sk,sk,fun _=>⟨rfl,rfl⟩,fun h=>absurd (.inl c1) h⟩
 have c1:¬ txt ws q0=qAu:=c1
 refine(qN1 ws q0 hl hq0).holds.useT [] [] rfl (sk) (sk) fun e0 H0 hq=>?_
 obtain⟨rfl,rfl⟩:=hq
 refine⟨rfl,_,⟨2,(0,psO ws q0)::[(1,bxO)]⟩,rfl,rfl,?_⟩
 refine QAD (fun c2=>?_) (fun c2=>?_)
 ·have c2:knd ws q0=3:=c2
  exact⟨[],[],[], .returned (vB true),pbH ws q0,rfl,sk,sk,fun _=>⟨rfl,rfl⟩,fun h=>absurd (.inr c2) h⟩
 have c2:¬ knd ws q0=3:=c2
 exact⟨[],[],[], .returned (vB false),pbH ws q0,rfl,sk,sk,fun h=>absurd h (not_or.2 ⟨c1,c2⟩),fun _=>⟨rfl,rfl⟩⟩
theorem qI8 (ws:List Wd) (q0:Nat) (hg:GoodW ws) (hq0:q0<=ws.length):HoldsG cx 193 [.ptr 1 0 0] (pbH ws q0) (qTc ws (qJM ws q0) fun n=>.p (i64 n)):=by
 generalize hR:qJM ws q0=R
 rw [qJM] at hR
 have hl:=hg.len
 refine qAA Tryz.func193 rfl rfl rfl ?_
 by_cases c1:txt ws q0=qAu
 ·have q1l:q0+1<=ws.length:=qAi (by rw [c1];decide)
  rw [if_pos c1] at hR
  refine(qA8 ws q0 qAu hl hq0).holds.useT [] [] rfl (sk) (sk) fun e0 H0 hq=>?_
  obtain⟨rfl,rfl⟩:=hq.1 c1
  refine⟨rfl,_,⟨2,(0,psO ws (q0+1))::[(1,bxO)]⟩,rfl,rfl,?_⟩
  refine(qBx ws (q0+1) hg q1l).holds.useT [] [] rfl (sk) (sk) fun e0 H0 hq=>?_
  rcases h1:qCw ws (q0+1) with p | ⟨n,q2⟩
  ·rw [h1] at hq hR
   obtain⟨rfl,rfl⟩:=hq
   refine⟨rfl,_,_,rfl,rfl,?_⟩
   exact⟨[],[],[],qAZ ws p,⟨2,[]⟩,rfl,⟨_,rfl,_,_,rfl,rfl,rfl⟩,trivial,by rw [<- hR];exact⟨rfl,rfl⟩⟩
  have hb:=qQf hg h1
  rw [h1] at hq hR
  obtain⟨q2l,rfl,rfl⟩:=hq
  refine⟨rfl,_,⟨2,(0,psO ws q2)::[(1,bxO)]⟩,rfl,rfl,?_⟩
  refine⟨-n,by show _=IntKind.i64.wrap (0 - n);rw [Int.zero_sub];exact w6z,?_⟩
  exact⟨[],[],[], .returned (.p (i64 (-n))),pbH ws q2,rfl,sk,sk,by rw [<- hR];exact⟨q2l,rfl,rfl⟩⟩
 rw [if_neg c1] at hR
 refine(qA8 ws q0 qAu hl hq0).holds.useT [] [] rfl (sk) (sk) fun e0 H0 hq=>?_
 obtain⟨rfl,rfl⟩:=hq.2 c1
 refine⟨rfl,_,⟨2,(0,psO ws q0)::[(1,bxO)]⟩,rfl,rfl,?_⟩
 refine(qBx ws q0 hg hq0).holds.useT [] [] rfl (sk) (sk) fun e0 H0 hq=>?_
 rw [hR] at hq
 rcases R with p | ⟨n,q2⟩
 ·obtain⟨rfl,rfl⟩:=hq
  refine⟨rfl,_,_,rfl,rfl,?_⟩
  exact⟨[],[],[],qAZ ws p,⟨2,[]⟩,rfl,⟨_,rfl,_,_,rfl,rfl,rfl⟩,trivial,rfl,rfl⟩
 obtain⟨q2l,rfl,rfl⟩:=hq
 refine⟨rfl,_,⟨2,(0,psO ws q2)::[(1,bxO)]⟩,rfl,rfl,?_⟩
 exact⟨[],[],[], .returned (.p (i64 n)),pbH ws q2,rfl,sk,sk,q2l,rfl,rfl⟩
theorem int_lt {ws:List Wd} {q q':Nat} {n:Int} (h:qJM ws q=.inr (n,q')):q<q':=by
 rw [qJM] at h
 split at h
 ·obtain⟨m,q2,h2,h⟩:=then_ok h
  have:=qCW h2
  injection h with h;injection h with h3 h4;omega
 ·exact qCW h
def iO (l:List Int):AObj:=⟨qVZ,false, .pu (l.map i64)⟩
def nmF:AV:=.fn (.func 191) [] [.ptr 1 0 0]
def nrF:AV:=.fn (.func 193) [] [.ptr 1 0 0]
def nbF:AV:=.fn (.func 131) [.ptr 0 0 0] []
theorem qO3 (ws:List Wd) (F q0:Nat) (hF:ws.length<F) (hg:GoodW ws) (hq0:q0<=ws.length):HoldsG cx 192 [nmF,nrF] (pbH ws q0) (qTc ws (qD3 ws F q0) fun l=>.p (ints l)):=by
 generalize hR:qD3 ws F q0=R
 rw [qD3] at hR
 refine qAA Tryz.func192 rfl rfl rfl ?_
 have hl:=hg.len
 refine(qI8 ws q0 hg hq0).holds.useT [] [] rfl (sk) (sk) fun e0 H0 hq=>?_
 rcases h1:qJM ws q0 with p | ⟨n0,q1⟩
 ·rw [h1] at hq hR
  obtain⟨rfl,rfl⟩:=hq
  refine⟨rfl,_,_,rfl,rfl,?_⟩
  exact⟨[],[],[],qAZ ws p,⟨2,[]⟩,rfl,⟨_,rfl,_,_,rfl,rfl,rfl⟩,trivial,by rw [<- hR];exact⟨rfl,rfl⟩⟩
 rw [h1] at hq hR
 obtain⟨q1l,rfl,rfl⟩:=hq
 refine⟨rfl,_,pbH ws q1,rfl,rfl,?_⟩
 simp only [qAG] at hR
 refine⟨List Int × Nat,fun x=>[(0,nmF),(1,nrF),(5, .sl 2 1 0 x.1.length)],fun x=>⟨3,[(2,iO x.1),(0,psO ws x.2),(1,bxO)]⟩,fun x=>x.2<=ws.length/\x.1.length<=x.2/\LI R (fun f=>qD9 ws f x.1 x.2) (ws.length - x.2),fun x=>ws.length - x.2,?_,?_⟩
 ·exact⟨([n0],q1),⟨q1l,by simp only [List.length_singleton];have:=int_lt h1;omega,⟨F,by omega,hR.symm⟩⟩,qAC [] [] [] rfl ⟨⟨rfl,_,_,rfl,rfl,⟨_,_,rfl,⟨rfl,rfl⟩,rfl⟩⟩,⟨rfl,_,_,rfl,rfl,⟨_,_,rfl,⟨rfl,rfl⟩,rfl⟩⟩,rfl,trivial⟩ (sk) rfl⟩
 rintro⟨acc,q⟩ ⟨k1,k2,k3⟩
 simp only [] at k1 k2 k3
 by_cases c1:txt ws q=qAu∨knd ws q=3
 ·have ql:q<=ws.length:=k1
  refine(qI9 ws q hl k1).holds.useT [] [] rfl (sk) (sk) fun e0 H0 hq=>?_
  obtain⟨rfl,rfl⟩:=hq.1 c1
  refine⟨rfl,_,⟨3,[(0,psO ws q),(1,bxO),(2,iO acc)]⟩,rfl,rfl,?_⟩
  refine(qI8 ws q hg ql).holds.useT [] [] rfl (sk) (sk) fun e0 H0 hq=>?_
  rcases h2:qJM ws q with p | ⟨n,q2⟩
  ·rw [h2] at hq
   obtain⟨rfl,rfl⟩:=hq
   refine⟨rfl,_,_,rfl,rfl,?_⟩
   have hR:=k3.is (x:=.inl p) fun f=>by rw [qD9,if_pos c1,h2];rfl
   exact⟨[],[],[],qAZ ws p,⟨2,[]⟩,rfl,⟨_,rfl,_,_,rfl,rfl,rfl⟩,trivial,by rw [hR];exact⟨rfl,rfl⟩⟩
  rw [h2] at hq
  obtain⟨q2l,rfl,rfl⟩:=hq
  have hlt:=int_lt h2
  refine⟨rfl,_,⟨3,(0,psO ws q2)::(1,bxO)::[(2,iO acc)]⟩,rfl,rfl,?_⟩
  refine⟨by show 0+1<=1;omega,[i64 n],rfl,?_⟩
  refine⟨by show 0+acc.length<=(acc.map i64).length;simp,acc.map i64,qAD (by simp),by show(acc.length+1) * 8<=140737488355328;omega,(acc++[n]).map i64,by simp,?_⟩
  exact⟨(acc++[n],q2),⟨q2l,by simp only [qAK];omega,k3.nxt (fun f=>by rw [qD9,if_pos c1,h2];rfl) (by omega)⟩,qAC [] [(2,4)] [] rfl ⟨⟨rfl,_,_,rfl,rfl,⟨_,_,rfl,⟨rfl,rfl⟩,rfl⟩⟩,⟨rfl,_,_,rfl,rfl,⟨_,_,rfl,⟨rfl,rfl⟩,rfl⟩⟩,congrArg (fun k:Nat=>AV.sl 4 1 0 k) (qAK acc n).symm,trivial⟩ (sk) rfl,by show ws.length - q2<ws.length - q;omega⟩
 ·refine(qI9 ws q hl k1).holds.useT [] [] rfl (sk) (sk) fun e0 H0 hq=>?_
  obtain⟨rfl,rfl⟩:=hq.2 c1
  refine⟨rfl,_,⟨3,[(0,psO ws q),(1,bxO),(2,iO acc)]⟩,rfl,rfl,?_⟩
  have hR:=k3.is (x:=.inr (acc,q)) fun f=>by rw [qD9,if_neg c1]
  exact⟨[2],[],[], .returned (.p (ints acc)),pbH ws q,rfl,⟨_,rfl,⟨_,rfl,by show 0+acc.length<=(acc.map i64).length;simp,qAD (by simp)⟩⟩,sk,by rw [hR];exact⟨k1,rfl,rfl⟩⟩
def qYQ (ws:List Wd) (r:Rd (List Int)) (e:AE) (H':Hp):Prop:=match r with
 | .inl p=>e=qAZ ws p/\H'=⟨1,[]⟩
 | .inr (l,q)=>(q<=ws.length/\l.length<=q)/\e=.returned (.sl 1 1 0 l.length)/\H'=⟨2,[(1,iO l),(0,psO ws q)]⟩
theorem qMP (ws:List Wd) (F q0:Nat) (hF:ws.length - q0<F) (hg:GoodW ws) (hq0:q0<=ws.length):HoldsG cx 192 [cmF,nbF] (psH ws q0) (qYQ ws (qFZ ws (qCw ws) F q0)):=by
 generalize hR:qFZ ws (qCw ws) F q0=R
 rw [qFZ] at hR
 refine qAA Tryz.func192 rfl rfl rfl ?_
 have hl:=hg.len
 refine(qBx ws q0 hg hq0).holds.useT [] [] rfl (sk) (sk) fun e0 H0 hq=>?_
 rcases h1:qCw ws q0 with p | ⟨n0,q1⟩
 ·rw [h1] at hq hR
  obtain⟨rfl,rfl⟩:=hq
  refine⟨rfl,_,_,rfl,rfl,?_⟩
  exact⟨[],[],[],qAZ ws p,⟨1,[]⟩,rfl,⟨_,rfl,_,_,rfl,rfl,rfl⟩,trivial,by rw [<- hR];exact⟨rfl,rfl⟩⟩
 rw [h1] at hq hR
 obtain⟨q1l,rfl,rfl⟩:=hq
 refine⟨rfl,_,psH ws q1,rfl,rfl,?_⟩
 simp only [qAG] at hR
 refine⟨List Int × Nat,fun x=>[(0,cmF),(1,nbF),(5, .sl 1 1 0 x.1.length)],fun x=>⟨2,[(1,iO x.1),(0,psO ws x.2)]⟩,fun x=>x.2<=ws.length/\x.1.length<=x.2/\LI R (fun f=>qDf ws (qCw ws) f x.1 x.2) (ws.length - x.2),fun x=>ws.length - x.2,?_,?_⟩
 ·exact⟨([n0],q1),⟨q1l,by simp only [List.length_singleton];have:=qCW h1;omega,⟨F,by show ws.length - q1<F;have:=qCW h1;omega,hR.symm⟩⟩,qAC [] [] [] rfl ⟨⟨rfl,_,_,rfl,⟨_,_,rfl,⟨rfl,rfl⟩,rfl⟩,rfl⟩,⟨rfl,_,_,rfl,⟨_,_,rfl,⟨rfl,rfl⟩,rfl⟩,rfl⟩,rfl,trivial⟩ (sk) rfl⟩
 rintro⟨acc,q⟩ ⟨k1,k2,k3⟩
 simp only [] at k1 k2 k3
 by_cases c1:txt ws q=qAv
 ·have ql:q+1<=ws.length:=qAi (by rw [c1];decide)
  refine(qKY ws q hl k1).holds.useT [] [] rfl (sk) (sk) fun e0 H0 hq=>?_
  obtain⟨rfl,rfl⟩:=hq.1 c1
  refine⟨rfl,_,⟨2,(0,psO ws (q+1))::[(1,iO acc)]⟩,rfl,rfl,?_⟩
  refine(qBx ws (q+1) hg ql).holds.useT [] [] rfl (sk) (sk) fun e0 H0 hq=>?_
  rcases h2:qCw ws (q+1) with p | ⟨n,q2⟩
  ·rw [h2] at hq
   obtain⟨rfl,rfl⟩:=hq
   refine⟨rfl,_,_,rfl,rfl,?_⟩
   have hR:=k3.is (x:=.inl p) fun f=>by rw [qDf,if_pos c1,h2];rfl
   exact⟨[],[],[],qAZ ws p,⟨1,[]⟩,rfl,⟨_,rfl,_,_,rfl,rfl,rfl⟩,trivial,by rw [hR];exact⟨rfl,rfl⟩⟩
  rw [h2] at hq
  obtain⟨q2l,rfl,rfl⟩:=hq
  have hlt:=qCW h2
  refine⟨rfl,_,⟨2,(0,psO ws q2)::[(1,iO acc)]⟩,rfl,rfl,?_⟩
  refine⟨by show 0+1<=1;omega,[i64 n],rfl,?_⟩
  refine⟨by show 0+acc.length<=(acc.map i64).length;simp,acc.map i64,qAD (by simp),by show(acc.length+1) * 8<=140737488355328;omega,(acc++[n]).map i64,by simp,?_⟩
  exact⟨(acc++[n],q2),⟨q2l,by simp only [qAK];omega,k3.nxt (fun f=>by rw [qDf,if_pos c1,h2];rfl) (by omega)⟩,qAC [] [(1,3)] [] rfl ⟨⟨rfl,_,_,rfl,⟨_,_,rfl,⟨rfl,rfl⟩,rfl⟩,rfl⟩,⟨rfl,_,_,rfl,⟨_,_,rfl,⟨rfl,rfl⟩,rfl⟩,rfl⟩,congrArg (fun k:Nat=>AV.sl 3 1 0 k) (qAK acc n).symm,trivial⟩ (sk) rfl,by show ws.length - q2<ws.length - q;omega⟩
 ·refine(qKY ws q hl k1).holds.useT [] [] rfl (sk) (sk) fun e0 H0 hq=>?_
  obtain⟨rfl,rfl⟩:=hq.2 c1
  refine⟨rfl,_,⟨2,(0,psO ws q)::[(1,iO acc)]⟩,rfl,rfl,?_⟩
  have hR:=k3.is (x:=.inr (acc,q)) fun f=>by rw [qDf,if_neg c1]
  exact⟨[],[],[], .returned (.sl 1 1 0 acc.length),⟨2,[(1,iO acc),(0,psO ws q)]⟩,rfl,⟨_,rfl,rfl⟩,sk,by rw [hR];exact⟨⟨k1,k2⟩,rfl,rfl⟩⟩
theorem qK4 (ws:List Wd) (F q0:Nat) (hF:ws.length<F) (hg:GoodW ws) (hq0:q0<=ws.length):HoldsG cx 172 [.ptr 0 0 0] (psH ws q0) (rdQ ws (qD3 ws F q0) fun l=>.p (ints l)):=by
 have hc:=qO3 ws F q0 hF hg hq0
 generalize qD3 ws F q0=R at hc ⊢
 refine qAA Tryz.func172 rfl rfl rfl ?_
 refine hc.holds.useT [] [] rfl (sk) ⟨_,_,rfl,⟨rfl,_,_,rfl,rfl,⟨_,_,rfl,⟨rfl,rfl⟩,rfl⟩⟩,_,_,rfl,⟨rfl,_,_,rfl,rfl,⟨_,_,rfl,⟨rfl,rfl⟩,rfl⟩⟩,rfl⟩ fun e0 H0 hq=>?_
 rcases R with p | ⟨l,q2⟩
 ·obtain⟨rfl,rfl⟩:=hq
  refine⟨rfl,_,_,rfl,rfl,?_⟩
  exact⟨[],[],[],qAZ ws p,⟨1,[]⟩,rfl,⟨_,rfl,_,_,rfl,rfl,rfl⟩,trivial,rfl,rfl⟩
 obtain⟨q2l,rfl,rfl⟩:=hq
 refine⟨rfl,_,⟨2,[(0,psO ws q2),(1,bxO)]⟩,rfl,rfl,?_⟩
 exact⟨[],[],[], .returned (.p (ints l)),psH ws q2,rfl,sk,sk,q2l,rfl,rfl⟩
theorem qFt {α:Type} {P:List α->Prop} (h0:P []) (h1:∀ l x,P l->P (l++[x])) (l:List α):P l:=by
 rw [<- List.reverse_reverse l]
 induction l.reverse with
 | nil=>exact h0
 | cons x r ih=>rw [List.reverse_cons];exact h1 _ x ih
def qIU (acc:List Int) (x:Int):List Int:=if acc.getLast?=some x then acc else acc++[x]
def qE2 (l:List Int):List Int:=l.foldl qIU []
theorem qGE (l:List Int) (x:Int):qE2 (l++[x])=qIU (qE2 l) x:=by rw [qE2,qE2,List.foldl_append];rfl
theorem qPq (acc:List Int) (x:Int):(qIU acc x).getLast?=some x:=by
 unfold qIU
 split
 ·assumption
 ·rw [List.getLast?_append];rfl
theorem qSE (acc:List Int) (x y:Int):y∈qIU acc x ↔ y∈acc∨y=x:=by
 unfold qIU
 split
 ·rename_i h
  constructor
  ·exact .inl
  ·rintro (h1 | rfl)
   ·exact h1
   ·exact List.mem_of_getLast? h
 ·rw [List.mem_append,List.mem_singleton]
theorem qOG:∀ l:List Int,l ≠ []->(qE2 l).getLast?=l.getLast?:=by
 refine qFt (fun h=>absurd rfl h) fun l x _ _=>?_
 rw [qGE,qPq,List.getLast?_append];rfl
theorem qMo (l:List Int) (y:Int):y∈qE2 l ↔ y∈l:=by
 refine qFt (P:=fun l=>y∈qE2 l ↔ y∈l) Iff.rfl (fun l x ih=>?_) l
 rw [qGE,qSE,ih,List.mem_append,List.mem_singleton]
def Inc (l:List Int):Prop:=l.Pairwise (· < ·)
theorem qSr {l:List Int} {x:Int} (h:Inc l) (hx:∀ y∈l,y<x):Inc (l++[x]):=by
 rw [Inc,List.pairwise_append]
 exact⟨h,List.pairwise_singleton _ _,fun a ha b hb=>by rw [List.mem_singleton.1 hb];exact hx a ha⟩
theorem qSs:∀ {l:List Int},Inc l->∀ {z:Int},l.getLast?=some z->∀ y∈l,y<=z:=by
 intro l
 refine qFt (P:=fun l=>Inc l->∀ {z:Int},l.getLast?=some z->∀ y∈l,y<=z) (fun _ z _ y hy=>by simp at hy) (fun l x _ h z hz y hy=>?_) l
 rw [List.getLast?_append] at hz
 have hz:x=z:=by simpa using hz
 subst hz
 rw [Inc,List.pairwise_append] at h
 rcases List.mem_append.1 hy with hy | hy
 ·have:=h.2.2 y hy x (List.mem_singleton.2 rfl)
  exact Int.le_of_lt this
 ·rw [List.mem_singleton.1 hy];exact Int.le_refl _
theorem qVO (l:List Int):l.Pairwise (·<=·)->Inc (qE2 l):=by
 refine qFt (P:=fun l=>l.Pairwise (·<=·)->Inc (qE2 l)) (fun _=>List.Pairwise.nil) (fun l x ih h=>?_) l
 rw [List.pairwise_append] at h
 have ih:=ih h.1
 rw [qGE]
 unfold qIU
 split
 ·exact ih
 ·rename_i hne
  refine qSr ih fun y hy=>?_
  have hyl:=(qMo l y).1 hy
  have hyx:=h.2.2 y hyl x (List.mem_singleton.2 rfl)
  rcases Int.lt_or_eq_of_le hyx with h1 | h1
  ·exact h1
  ·exfalso
   have hl:l ≠ []:=fun e=>by rw [e] at hyl;simp at hyl
   obtain⟨z,hz⟩:∃ z,(qE2 l).getLast?=some z:=by
    rw [qOG l hl]
    exact⟨_,List.getLast?_eq_some_getLast hl⟩
   have h2:=qSs ih hz y hy
   have hzl:z∈l:=(qMo l z).1 (List.mem_of_getLast? hz)
   have h3:=h.2.2 z hzl x (List.mem_singleton.2 rfl)
   exact hne (by rw [hz];congr 1;omega)
theorem qQ8 (l:List Int) (n y:Int):y∈qH9 l n ↔ y=n∨y∈l:=by
 induction l with
 | nil=>simp [qH9]
 | cons x l ih=>
  rw [qH9]
  split
  ·simp
  ·split
   ·rename_i h;subst h;simp
   ·rw [List.mem_cons,ih,List.mem_cons]
    constructor
    ·rintro (h | h | h) <;> simp [h]
    ·rintro (h | h | h) <;> simp [h]
theorem qRA (l:List Int) (n:Int) (h:Inc l):Inc (qH9 l n):=by
 induction l with
 | nil=>exact List.pairwise_singleton _ _
 | cons x l ih=>
  rw [Inc,List.pairwise_cons] at h
  rw [qH9]
  split
  ·rename_i hn
   rw [Inc,List.pairwise_cons]
   refine⟨fun y hy=>?_,List.pairwise_cons.2 h⟩
   rcases List.mem_cons.1 hy with rfl | hy
   ·exact hn
   ·have:=h.1 y hy;omega
  ·split
   ·exact List.pairwise_cons.2 h
   ·rw [Inc,List.pairwise_cons]
    refine⟨fun y hy=>?_,ih h.2⟩
    rcases (qQ8 l n y).1 hy with rfl | hy
    ·omega
    ·exact h.1 y hy
theorem qJr:∀ (l acc:List Int),Inc acc->Inc (l.foldl qH9 acc)/\∀ y,y∈l.foldl qH9 acc ↔ y∈acc∨y∈l
 | [],acc,h=>⟨h,fun y=>by simp⟩
 | x::l,acc,h=>by
  obtain⟨h1,h2⟩:=qJr l (qH9 acc x) (qRA acc x h)
  refine⟨h1,fun y=>?_⟩
  rw [List.foldl_cons,h2,qQ8,List.mem_cons]
  constructor
  ·rintro ((h | h) | h) <;> simp [h]
  ·rintro (h | h | h) <;> simp [h]
theorem qMa:∀ {a b:List Int},Inc a->Inc b->(∀ y,y∈a ↔ y∈b)->a=b
 | [],[],_,_,_=>rfl
 | [],y::b,_,_,h=>by have:=(h y).2 (by simp);simp at this
 | x::a,[],_,_,h=>by have:=(h x).1 (by simp);simp at this
 | x::a,y::b,ha,hb,h=>by
  rw [Inc,List.pairwise_cons] at ha hb
  have hxy:x=y:=by
   have h1:=(h x).1 (by simp)
   have h2:=(h y).2 (by simp)
   rcases List.mem_cons.1 h1 with h1 | h1
   ·exact h1
   ·rcases List.mem_cons.1 h2 with h2 | h2
    ·exact h2.symm
    ·have:=hb.1 x h1
     have:=ha.1 y h2
     omega
  subst hxy
  have:a=b:=qMa ha.2 hb.2 fun z=>by
   constructor
   ·intro hz
    have h1:=(h z).1 (by simp [hz])
    rcases List.mem_cons.1 h1 with rfl | h1
    ·exact absurd (ha.1 z hz) (Int.lt_irrefl z)
    ·exact h1
   ·intro hz
    have h1:=(h z).2 (by simp [hz])
    rcases List.mem_cons.1 h1 with rfl | h1
    ·exact absurd (hb.1 z hz) (Int.lt_irrefl z)
    ·exact h1
  rw [this]
theorem qOc {l s:List Int} (hp:s.Perm l) (hs:s.Pairwise (·<=·)):qE2 s=qPQ l:=by
 have h1:=qJr l [] List.Pairwise.nil
 refine qMa (qVO s hs) h1.1 fun y=>?_
 rw [qMo,qPQ,h1.2,hp.mem_iff]
 simp
theorem qSF (acc:List Int) (x:Int):(qIU acc x).length<=acc.length+1:=by
 unfold qIU
 split <;> simp
theorem qRb (l:List Int):(qE2 l).length<=l.length:=by
 refine qFt (P:=fun l=>(qE2 l).length<=l.length) (Nat.le_refl _) (fun l x ih=>?_) l
 rw [qGE]
 have:=qSF (qE2 l) x
 simp only [List.length_append,List.length_singleton];omega
end Go.Proofs.YtohfoaplnjcihaaGreatDoor
namespace Go.Proofs
open Go.Shelf
def Tryz.lays189_ren:Go.Shelf.Ren:=⟨fun | 189=>207 | 125=>212 | 257=>211 | 128=>222 | 129=>198 | 294=>213 | 295=>214 | 296=>215 | 297=>216 | 298=>217 | 299=>218 | 216=>219 | 300=>220 | 301=>221 | 328=>223 | 329=>224 | 330=>225 | 331=>226 | 332=>227 | 215=>228 | 343=>229 | n=>n,fun | 28=>34 | 3=>3 | 46=>144 | 0=>0 | 51=>187 | 53=>190 | 4=>4 | 183=>257 | 182=>256 | 131=>166 | 5=>5 | 9=>9 | 218=>263 | 222=>205 | 228=>268 | 229=>168 | n=>n,fun | n=>n⟩
theorem Tryz.lays189:Go.Proofs.Lays.n189 Tryz.prog Tryz.lays189_ren:={
 mixed:=by kernel_rfl
 f125:=Tryz.func212.trans (congrArg some (by kernel_rfl))
 f128:=Tryz.func222.trans (congrArg some (by kernel_rfl))
 f129:=Tryz.func198.trans (congrArg some (by kernel_rfl))
 f189:=Tryz.func207.trans (congrArg some (by kernel_rfl))
 f215:=Tryz.func228.trans (congrArg some (by kernel_rfl))
 f216:=Tryz.func219.trans (congrArg some (by kernel_rfl))
 f257:=Tryz.func211.trans (congrArg some (by kernel_rfl))
 f294:=Tryz.func213.trans (congrArg some (by kernel_rfl))
 f295:=Tryz.func214.trans (congrArg some (by kernel_rfl))
 f296:=Tryz.func215.trans (congrArg some (by kernel_rfl))
 f297:=Tryz.func216.trans (congrArg some (by kernel_rfl))
 f298:=Tryz.func217.trans (congrArg some (by kernel_rfl))
 f299:=Tryz.func218.trans (congrArg some (by kernel_rfl))
 f300:=Tryz.func220.trans (congrArg some (by kernel_rfl))
 f301:=Tryz.func221.trans (congrArg some (by kernel_rfl))
 f328:=Tryz.func223.trans (congrArg some (by kernel_rfl))
 f329:=Tryz.func224.trans (congrArg some (by kernel_rfl))
 f330:=Tryz.func225.trans (congrArg some (by kernel_rfl))
 f331:=Tryz.func226.trans (congrArg some (by kernel_rfl))
 f332:=Tryz.func227.trans (congrArg some (by kernel_rfl))
 f343:=Tryz.func229.trans (congrArg some (by kernel_rfl))
 t0:=Tryz.underlying0
 a0:=Tryz.isAgg0
 z0:=Tryz.sizeOf0
 v0:=Tryz.zeroValue0
 t3:=Tryz.underlying3
 a3:=Tryz.isAgg3
 z3:=Tryz.sizeOf3
 v3:=Tryz.zeroValue3
 t4:=Tryz.underlying4
 a4:=Tryz.isAgg4
 z4:=Tryz.sizeOf4
 v4:=Tryz.zeroValue4
 t5:=Tryz.underlying5
 a5:=Tryz.isAgg5
 z5:=Tryz.sizeOf5
 v5:=Tryz.zeroValue5
 t9:=Tryz.underlying9
 a9:=Tryz.isAgg9
 z9:=Tryz.sizeOf9
 v9:=Tryz.zeroValue9
 t28:=Tryz.underlying34
 a28:=Tryz.isAgg34
 z28:=Tryz.sizeOf34
 v28:=Tryz.zeroValue34
 t46:=Tryz.underlying144
 a46:=Tryz.isAgg144
 z46:=Tryz.sizeOf144
 v46:=Tryz.zeroValue144
 t51:=Tryz.underlying187
 a51:=Tryz.isAgg187
 z51:=Tryz.sizeOf187
 v51:=Tryz.zeroValue187
 t53:=Tryz.underlying190
 a53:=Tryz.isAgg190
 z53:=Tryz.sizeOf190
 v53:=Tryz.zeroValue190
 t131:=Tryz.underlying166
 a131:=Tryz.isAgg166
 z131:=Tryz.sizeOf166
 v131:=Tryz.zeroValue166
 t182:=Tryz.underlying256
 a182:=Tryz.isAgg256
 z182:=Tryz.sizeOf256
 v182:=Tryz.zeroValue256
 t183:=Tryz.underlying257
 a183:=Tryz.isAgg257
 z183:=Tryz.sizeOf257
 v183:=Tryz.zeroValue257
 t218:=Tryz.underlying263
 a218:=Tryz.isAgg263
 z218:=Tryz.sizeOf263
 v218:=Tryz.zeroValue263
 t222:=Tryz.underlying205
 a222:=Tryz.isAgg205
 z222:=Tryz.sizeOf205
 v222:=Tryz.zeroValue205
 t228:=Tryz.underlying268
 a228:=Tryz.isAgg268
 z228:=Tryz.sizeOf268
 v228:=Tryz.zeroValue268
 t229:=Tryz.underlying168
 a229:=Tryz.isAgg168
 z229:=Tryz.sizeOf168
 v229:=Tryz.zeroValue168 }
open Go.Sort Go.RowKit in
theorem Tryz.slices_Sort_int (blk off cap:Nat) (zs:List Int) (w:World) (hH:Holds (Value.int .i64) w blk off zs.toArray) (hblk:blk<w.heap.size) (hsz:zs.length<4611686018427387904) :
  Calls Tryz.prog 207 #[.slice (some ⟨blk,off,none⟩) zs.length cap] w fun e w'=>
   e=.returned (.tuple #[])/\∃ n os,w'=grow (putRow (Value.int .i64) (Sort.ahead w n) blk off (zs.mergeSort fun x y=>decide (x<=y)).toArray) os:=Any.slices_Sort_int Tryz.lays189 blk off cap zs w hH hblk hsz
def Tryz.laysNm220_ren:Go.Shelf.Ren:=⟨fun | 20=>208 | n=>n,fun | 22=>34 | 3=>3 | 4=>4 | 0=>0 | n=>n,fun | n=>n⟩
theorem Tryz.laysNm220:Go.Proofs.Lays2.n20 Tryz.prog Tryz.laysNm220_ren:={
 mixed:=by kernel_rfl
 f20:=Tryz.func208.trans (congrArg some (by kernel_rfl))
 t0:=Tryz.underlying0
 a0:=Tryz.isAgg0
 z0:=Tryz.sizeOf0
 v0:=Tryz.zeroValue0
 t3:=Tryz.underlying3
 a3:=Tryz.isAgg3
 z3:=Tryz.sizeOf3
 v3:=Tryz.zeroValue3
 t4:=Tryz.underlying4
 a4:=Tryz.isAgg4
 z4:=Tryz.sizeOf4
 v4:=Tryz.zeroValue4
 t22:=Tryz.underlying34
 a22:=Tryz.isAgg34
 z22:=Tryz.sizeOf34
 v22:=Tryz.zeroValue34
 i3:=by kernel_rfl }
open Go.RowKit Go.Lib Go.Sort in
theorem Tryz.slices_Compact_int (blk off cap:Nat) (zs:List Int) (w:World) (hH:Holds (Value.int .i64) w blk off zs.toArray) (hsz:zs.length<=9223372036854775807) (hcap:zs.length<=cap) :
  Calls Tryz.prog 208 #[.slice (some ⟨blk,off,none⟩) zs.length cap] w fun e w'=>e=.returned (.slice (some ⟨blk,off,none⟩) (Lib.compact zs).length cap)/\∃ q,w'=putRow (Value.int .i64) (Sort.ahead w q) blk off (Lib.compact zs++List.replicate (zs.length - (Lib.compact zs).length) 0).toArray:=Any.slices_Compact_int Tryz.laysNm220 blk off cap zs w hH hsz hcap
open Go.RowKit Go.Lib Go.Sort in
theorem Tryz.slices_Compact_int_empty (a:Option Addr) (cap:Nat) (w:World) :
  Calls Tryz.prog 208 #[.slice a 0 cap] w fun e w'=>e=.returned (.slice a 0 cap)/\w'=w:=Any.slices_Compact_int_empty Tryz.laysNm220 a cap w
open Go.RowKit Go.Sort in
theorem Tryz.slices_Sort_int_none (p:Option Addr) (cap:Nat) (w:World) :
  Calls Tryz.prog 207 #[.slice p 0 cap] w fun e w'=>e=.returned (.tuple #[])/\w'=w:=Any.slices_Sort_int_none Tryz.lays189 p cap w
end Go.Proofs
namespace Go.Proofs.YtohfoaplnjcihaaGreatDoor
open Go Y
set_option maxRecDepth 100000
set_option maxHeartbeats 4000000
theorem qIN {l:List Int} {k:Nat} (h:k<l.length):l.toArray[k]! = l.getD k 0:=by
 rw [getElem!_pos l.toArray k (by simpa using h),List.getD_eq_getElem?_getD,List.getElem?_eq_getElem h];rfl
theorem qQ4 {l:List Int} {m:Nat} (h:m<l.length):(l.take (m+1)).getLast?=some (l.getD m 0):=by
 rw [qAX 0 h,List.getLast?_append];rfl
theorem qPb (zs:List Int):∀ m,m<=zs.length->Lib.compactUpTo zs.toArray m=qE2 (zs.take m)
 | 0,_=>rfl
 | m+1,h=>by
  rw [Lib.compactUpTo_succ,qPb zs m (by omega),qAX 0 (by omega),qGE,qIN (by omega)]
  cases m with
  | zero=>rfl
  | succ m=>
   have hl:(qE2 (zs.take (m+1))).getLast?=some (zs.getD m 0):=by
    rw [qOG _ (fun e=>by have:=congrArg List.length e;simp at this;rw [this] at h;simp at h),qQ4 (by omega)]
   unfold qIU
   rw [hl]
   by_cases e:zs.getD m 0=zs.getD (m+1) 0
   ·have hk:Lib.keeps zs.toArray (m+1)=false:=Lib.keeps_neg (by omega) (by rw [Nat.add_sub_cancel,qIN (by omega),qIN (by omega)];exact e.symm)
    simp only [hk,Bool.false_eq_true,if_false,List.append_nil]
    rw [if_pos (by rw [e])]
   ·have hk:Lib.keeps zs.toArray (m+1)=true:=Lib.keeps_pos (by rw [Nat.add_sub_cancel,qIN (by omega),qIN (by omega)];exact fun h=>e h.symm)
    simp only [hk,if_true]
    rw [if_neg (fun h=>e (Option.some.inj h))]
theorem qPI (zs:List Int):Lib.compact zs=qE2 zs:=by
 rw [Lib.compact,qPb zs _ (Nat.le_refl _),List.take_length]
theorem qMS {Γ:Gm} {H:Hp} {w w':World} (h:R cx Γ H w) (e1:w'.os=w.os) (e2:w'.tape=w.tape) (e3:w'.output=w.output) (e4:w.heap.size<=w'.heap.size) (e5:∀ k,k<w.heap.size->w'.heap[k]?=w.heap[k]?):Later cx H.next Γ H w Γ H w':=by
 have hlt:∀ {b:Nat} {x:Obj},w.heap[b]?=some x->b<w.heap.size:=fun hx=>(Array.getElem?_eq_some_iff.1 hx).1
 refine⟨⟨h.glob,h.fresh,fun b arr hf=>?_,fun n o hn=>?_,h.own,h.apart⟩,Ext.refl _ _,Nat.le_refl _,⟨e1,e2,e3,e4,fun k hk _=>e5 k hk,fun k hk=>.inr hk,Fzn.le_refl _,fun k a hk=>.inl hk⟩⟩
 ·obtain⟨t,z,e⟩:=h.fzok b arr hf
  exact⟨t,z,by rw [e5 b (hlt e)];exact e⟩
 ·obtain⟨q,h1,h2⟩:=h.objs n o hn
  exact⟨q,h1,h2.ext (Gm.le_refl _) fun hl=>e5 _ (h2.blk_lt hl)⟩
theorem qM9 {fz:Fzn}:∀ {l:List Int} {us:List Value},VPL fz (l.map i64) us->us=l.map (Value.int .i64)
 | [],us,h=>by simpa [VPL] using h
 | x::l,us,h=>by
  simp only [List.map_cons,VPL] at h
  obtain⟨u,us',rfl,h1,h2⟩:=h
  simp only [VP] at h1
  rw [h1,qM9 h2];rfl
theorem qN3 {fz:Fzn}:∀ l:List Int,VPL fz (l.map i64) (l.map (Value.int .i64))
 | []=>by simp [VPL]
 | x::l=>by simp only [List.map_cons,VPL];exact⟨_,_,rfl,by simp only [VP],qN3 l⟩
theorem qSe {ys:List Int} {us rest:List Value} (h:us.length=ys.length):Sort.putCells (Value.int .i64) 0 ys.toArray ⟨us++rest⟩=⟨ys.map (Value.int .i64)++rest⟩:=by
 apply Array.ext
 ·simp [Sort.putCells,h]
 ·intro i h1 h2
  have hi:i<(us++rest).length:=by simpa [Sort.putCells] using h1
  simp only [Sort.putCells,Array.getElem_mapIdx,List.getElem_toArray]
  by_cases hk:i<ys.length
  ·rw [if_pos ⟨Nat.zero_le _,by simpa using hk⟩,List.getElem_append_left (by simpa using hk),List.getElem_map,Nat.sub_zero,getElem!_pos ys.toArray i (by simpa using hk)];rfl
  ·rw [if_neg (by simp;omega),List.getElem_append_right (by omega),List.getElem_append_right (by simp;omega)]
   simp [h]
structure RowW (xs:List Int) (Γ:Gm) (w:World) (q:Pl) where
 us:List Value
 rest:List Value
 z:Nat × Nat
 cells:w.heap[q.blk]?=some (.cells ⟨us++rest⟩ qVZ z)
 free:qX8 z (us++rest).length
 sz:qDB cx.P qVZ=some q.s
 pos:0<q.s
 len:(us++rest).length=q.tc * q.s
 vals:us=xs.map (Value.int .i64)
 one:q.s=1
theorem row_of {xs:List Int} {Γ:Gm} {w:World} {q:Pl} (hR:R cx Γ ⟨1,[(0,iO xs)]⟩ w) (hq1:Γ.nm 0=some q) (hnl:q.nl=false):∃ _:RowW xs Γ w q,q.blk<w.heap.size:=by
 obtain⟨q',hq',hob⟩:=hR.objs 0 (iO xs) rfl
 rw [hq1] at hq'
 injection hq' with hq'
 subst hq'
 rcases (qAO rfl).1 hob with ⟨h,_⟩ | ⟨_,us,rest,z,g1,g2,g3,g4,g5,g6,g7,g8,g9⟩
 ·rw [hnl] at h;cases h
 exact⟨⟨us,rest,z,g1,g2,g3,g4,g5,qM9 (qBL.1 g6),g8⟩,hob.blk_lt hnl⟩
theorem RowW.holds {xs:List Int} {Γ:Gm} {w:World} {q:Pl} (r:RowW xs Γ w q):Sort.Holds (Value.int .i64) w q.blk 0 xs.toArray:=by
 intro j hj
 have hj:j<xs.length:=by simpa using hj
 have hul:r.us.length=xs.length:=by rw [r.vals,List.length_map]
 have hx:(r.us++r.rest)[0+j]?=some (.int .i64 xs.toArray[j]!):=by
  rw [Nat.zero_add,List.getElem?_append_left (by omega),r.vals,List.getElem?_map,List.getElem?_eq_getElem hj,getElem!_pos xs.toArray j (by simpa using hj)];rfl
 refine⟨?_,?_⟩
 ·show(match w.heap[q.blk]? with | some (.cells c _ _)=>(if (none:Option Nat).isSome then none else c[0+j]?) | _=>none)=_
  rw [r.cells]
  show(List.toArray (r.us++r.rest))[0+j]?=_
  rw [List.getElem?_toArray];exact hx
 ·show(match w.heap[q.blk]? with | some (.cells _ _ (lo,hi))=>decide (lo<=0+j) && decide (0+j<hi) | _=>false)=false
  rw [r.cells]
  show(decide (r.z.1<=0+j) && decide (0+j<r.z.2))=false
  have hlen:j<(r.us++r.rest).length:=by rw [List.length_append];omega
  rw [Bool.and_eq_false_iff,decide_eq_false_iff_not,decide_eq_false_iff_not]
  rcases r.free with g2 | g2 <;> omega
theorem RowW.later {xs ys:List Int} {Γ:Gm} {w:World} {q:Pl} (r:RowW xs Γ w q) (hR:R cx Γ ⟨1,[(0,iO xs)]⟩ w) (hq1:Γ.nm 0=some q) (hnl:q.nl=false) (hlt:q.blk<w.heap.size) (hl:ys.length=xs.length) (n:Nat) (os:Array Obj) :
  Later cx 1 Γ ⟨1,[(0,iO xs)]⟩ w Γ ⟨1,[(0,iO ys)]⟩ (Sort.grow (Sort.putRow (Value.int .i64) (Sort.ahead w n) q.blk 0 ys.toArray) os):=by
 have hsz:r.us.length=ys.length:=by rw [r.vals,List.length_map,hl]
 have hput:=qSe (rest:=r.rest) hsz
 have hob':ObjR cx.P Γ (qBH w q.blk (.cells ⟨ys.map (Value.int .i64)++r.rest⟩ qVZ r.z)) q (iO ys):=by
  have hlen:(ys.map (Value.int .i64)++r.rest).length=(r.us++r.rest).length:=by rw [List.length_append,List.length_append,hsz,List.length_map]
  exact(qAO rfl).2 (.inr ⟨hnl,_,r.rest,r.z,qBk r.cells,by rw [hlen];exact r.free,r.sz,r.pos,by rw [hlen];exact r.len,qBL.2 (qN3 ys),fun u hu=>by obtain⟨x,_,rfl⟩:=List.mem_map.1 hu;rfl,r.one,fun h=>nomatch h⟩)
 have L1:=hR.repl (n:=0) (o:=iO xs) (o':=iO ys) rfl rfl hq1 hnl rfl hob'
 refine L1.trans (qMS L1.1 rfl rfl rfl ?_ fun k hk=>?_)
 ·show(qBH w q.blk _).heap.size<=_
  simp [qBH,Sort.grow,Sort.putRow,Sort.mapBlock,Sort.ahead]
 ·have hk:k<w.heap.size:=by simpa [qBH] using hk
  show((w.heap.modify q.blk (Sort.onCells (Sort.putCells (Value.int .i64) 0 ys.toArray)))++os)[k]?=(w.heap.setIfInBounds q.blk _)[k]?
  rw [Array.getElem?_append_left (by simpa using hk),Array.getElem?_modify,Array.getElem?_setIfInBounds]
  by_cases e:q.blk=k
  ·subst e
   rw [if_pos rfl,if_pos rfl,if_pos hlt,r.cells]
   show some (Obj.cells (Sort.putCells (Value.int .i64) 0 ys.toArray ⟨r.us++r.rest⟩) qVZ r.z)=_
   rw [hput]
  ·rw [if_neg e,if_neg e]
theorem qV5 {xs:List Int} {Γ:Gm} {v:Value} (h:VR Γ (.sl 0 1 0 xs.length) v) (h0:xs ≠ []):∃ q,Γ.nm 0=some q/\q.nl=false/\xs.length<=q.tc/\v=.slice (some ⟨q.blk,0,none⟩) xs.length q.tc:=by
 simp only [VR] at h
 obtain⟨q,h1,h2,h3⟩:=h
 have hp:0<xs.length:=List.length_pos_iff.2 h0
 rcases h3 with ⟨_,_,h,_⟩ | ⟨hnl,htc,o,rfl,ho⟩
 ·omega
 ·have ho:o=0:=by rcases ho with h | h <;> omega
  subst ho
  exact⟨q,h1,hnl,by omega,by rw [Nat.sub_zero]⟩
theorem qTQ {Γ:Gm} {v:Value} (h:VR Γ (.sl 0 1 0 0) v):∃ p c,v=.slice p 0 c:=by
 simp only [VR] at h
 obtain⟨q,h1,h2,h3⟩:=h
 rcases h3 with ⟨_,_,_,rfl⟩ | ⟨_,_,o,rfl,_⟩
 ·exact⟨_,_,rfl⟩
 ·exact⟨_,_,rfl⟩
theorem qV4 (xs:List Int) (hs:xs.length<=100000):HoldsG cx 207 [.sl 0 1 0 xs.length] ⟨1,[(0,iO xs)]⟩ fun e H'=>∃ ys:List Int,ys.Perm xs/\ys.Pairwise (·<=·)/\e=.returned und/\H'=⟨1,[(0,iO ys)]⟩:=by
 intro Γ w args' hR hA
 simp only [VRL] at hA
 obtain⟨a,as',rfl,hq,rfl⟩:=hA
 refine⟨rfl,?_⟩
 by_cases h0:xs=[]
 ·subst h0
  obtain⟨p,c,rfl⟩:=qTQ hq
  refine(Tryz.slices_Sort_int_none p c w).mono ?_
  rintro e w' ⟨rfl,rfl⟩
  exact⟨.returned und,_,Γ,⟨[], .refl _,List.Pairwise.nil,rfl,rfl⟩,⟨_,rfl,by simp [VR,VRL]⟩,Later.refl hR _ (Nat.le_refl _)⟩
 obtain⟨q,hq1,hnl,htc,rfl⟩:=qV5 hq h0
 obtain⟨r,hlt⟩:=row_of hR hq1 hnl
 refine(Tryz.slices_Sort_int q.blk 0 q.tc xs w r.holds hlt (by omega)).mono ?_
 rintro e w' ⟨rfl,n,os,rfl⟩
 have hperm:=List.mergeSort_perm xs fun x y=>decide (x<=y)
 refine⟨.returned und,_,Γ,⟨_,hperm,?_,rfl,rfl⟩,⟨_,rfl,by simp [VR,VRL]⟩,r.later hR hq1 hnl hlt hperm.length_eq n os⟩
 have:=List.pairwise_mergeSort (le:=fun x y:Int=>decide (x<=y)) (fun a b c h1 h2=>by simp at *;omega) (fun a b=>by simp;omega) xs
 exact this.imp fun h=>by simpa using h
theorem qRY (xs:List Int) (hs:xs.length<=100000):HoldsG cx 208 [.sl 0 1 0 xs.length] ⟨1,[(0,iO xs)]⟩ fun e H'=>e=.returned (.sl 0 1 0 (qE2 xs).length)/\H'=⟨1,[(0,iO (qE2 xs++List.replicate (xs.length - (qE2 xs).length) 0))]⟩:=by
 intro Γ w args' hR hA
 simp only [VRL] at hA
 obtain⟨a,as',rfl,hq,rfl⟩:=hA
 refine⟨rfl,?_⟩
 by_cases h0:xs=[]
 ·subst h0
  have hq':=hq
  obtain⟨p,c,rfl⟩:=qTQ hq
  refine(Tryz.slices_Compact_int_empty p c w).mono ?_
  rintro e w' ⟨rfl,rfl⟩
  exact⟨.returned (.sl 0 1 0 0),_,Γ,⟨rfl,rfl⟩,⟨_,rfl,hq'⟩,Later.refl hR _ (Nat.le_refl _)⟩
 have hq':=hq
 obtain⟨q,hq1,hnl,htc,rfl⟩:=qV5 hq h0
 obtain⟨r,hlt⟩:=row_of hR hq1 hnl
 refine(Tryz.slices_Compact_int q.blk 0 q.tc xs w r.holds (by omega) htc).mono ?_
 rintro e w' ⟨rfl,n,rfl⟩
 rw [qPI]
 have hcl:=qRb xs
 have hL:=r.later (ys:=qE2 xs++List.replicate (xs.length - (qE2 xs).length) 0) hR hq1 hnl hlt (by rw [List.length_append,List.length_replicate];omega) n #[]
 rw [Sort.grow_empty] at hL
 refine⟨.returned (.sl 0 1 0 (qE2 xs).length),_,Γ,⟨rfl,rfl⟩,⟨_,rfl,?_⟩,hL⟩
 simp only [VR]
 exact⟨q,hq1,r.one, .inr ⟨hnl,by omega,0,by rw [Nat.sub_zero], .inl (by omega)⟩⟩
def qYR (ws:List Wd) (r:Rd Cd) (e:AE) (H':Hp):Prop:=match r with
 | .inl p=>e=qAZ ws p/\H'=⟨1,[]⟩
 | .inr (c,q)=>q<=ws.length/\(∃ y,e=.returned (.p y)/\NilD y c.pv)/\H'=psH ws q
abbrev cdQ (ws:List Wd) (r:Rd Cd):AE->Hp->Prop:=rdQ ws r fun c=>.p c.pv
theorem qSX {ws:List Wd} {g:FuncId} {args:List AV} {H:Hp} {r:Rd Cd} (h:HoldsG cx g args H (qYR ws r)):HoldsG cx g args H (cdQ ws r):=
 h.weak fun e H' hq=>by
  rcases r with p | ⟨c,q⟩
  ·obtain⟨rfl,rfl⟩:=hq
   exact⟨_,rfl,rfl,rfl⟩
  ·obtain⟨h1,⟨y,rfl,h2⟩,rfl⟩:=hq
   exact⟨.returned (.p c.pv),⟨_,rfl,by simp only [NilA];exact⟨_,rfl,h2⟩⟩,h1,rfl,rfl⟩
theorem qNq (o n r v:Int) (rf:Rf) (st:List Int):NilD (.agg [i64 o,i64 n,i64 r,i64 v, .str rf.name,i64 rf.mode, .str rf.plate,i64 rf.n,ints st, .nils]) (Cd.mk o n r v rf st []).pv:=by
 show NilD _ (.agg [i64 o,i64 n,i64 r,i64 v, .str rf.name,i64 rf.mode, .str rf.plate,i64 rf.n,ints st, .lsts 10 []])
 simp only [NilD,NilDL]
 exact⟨_,rfl,_,_,rfl,rfl,_,_,rfl,rfl,_,_,rfl,rfl,_,_,rfl,rfl,_,_,rfl,rfl,_,_,rfl,rfl,_,_,rfl,rfl,_,_,rfl,rfl,_,_,rfl,⟨_,rfl,NilDL.refl _⟩,_,_,rfl, .inr (.inr ⟨10,rfl⟩),rfl⟩
theorem qAn (o n r v:Int) (rf:Rf):NilD (.agg [i64 o,i64 n,i64 r,i64 v, .str rf.name,i64 rf.mode, .str rf.plate,i64 rf.n, .nils, .nils]) (Cd.mk o n r v rf [] []).pv:=by
 show NilD _ (.agg [i64 o,i64 n,i64 r,i64 v, .str rf.name,i64 rf.mode, .str rf.plate,i64 rf.n, .lst [], .lsts 10 []])
 simp only [NilD,NilDL]
 exact⟨_,rfl,_,_,rfl,rfl,_,_,rfl,rfl,_,_,rfl,rfl,_,_,rfl,rfl,_,_,rfl,rfl,_,_,rfl,rfl,_,_,rfl,rfl,_,_,rfl,rfl,_,_,rfl, .inr (.inl rfl),_,_,rfl, .inr (.inr ⟨10,rfl⟩),rfl⟩
def cO (cs:List AV):AObj:=⟨qM2,false, .bx cs⟩
abbrev zc:AObj:=cO [.p (i64 0), .p (i64 0), .p (i64 0), .p (i64 0), .p (.str []), .p (i64 0), .p (.str []), .p (i64 0), .p .nils, .p .nils]
abbrev lfS (rf:Rf) (k:Nat):AObj:=cO [.p (i64 5), .p (i64 0), .p (i64 0), .p (i64 0), .p (.str rf.name), .p (i64 rf.mode), .p (.str rf.plate), .p (i64 rf.n), .sl 4 1 0 k, .p .nils]
abbrev lf (o n r v:Int) (rf:Rf):AObj:=cO [.p (i64 o), .p (i64 n), .p (i64 r), .p (i64 v), .p (.str rf.name), .p (i64 rf.mode), .p (.str rf.plate), .p (i64 rf.n), .p .nils, .p .nils]
abbrev qOV (ws:List Wd) (F:Nat) (q:Nat):Prop:=HoldsG cx 171 [.ptr 0 0 0] (psH ws q) (cdQ ws (qDJ ws F q))
theorem qV2 (ws:List Wd) (F q0:Nat) (hg:GoodW ws) (hq0:q0<=ws.length) (hF:4 * (ws.length - q0)+1<=F+1) (hC:∀ q,q<=ws.length->4 * (ws.length - q)+4<=F->qOV ws F q) :
  HoldsG cx 202 [.ptr 0 0 0] (psH ws q0) (cdQ ws (qET ws (F+1) q0)):=by
 refine qSX ?_
 generalize hR:qET ws (F+1) q0=R
 rw [qET] at hR
 refine qAA Tryz.func202 rfl rfl rfl ?_
 have hl:=hg.len
 by_cases c1:txt ws q0=tLP
 ·have q1l:q0+1<=ws.length:=qAi (by rw [c1];decide)
  rw [if_pos c1] at hR
  refine(qA8 ws q0 tLP hl hq0).holds.useT [] [] rfl (sk) (sk) fun e0 H0 hq=>?_
  obtain⟨rfl,rfl⟩:=hq.1 c1
  refine⟨rfl,_,⟨2,(0,psO ws (q0+1))::[(1,zc)]⟩,rfl,rfl,?_⟩
  refine(hC (q0+1) q1l (by omega)).holds.useT [] [] rfl (sk) (sk) fun e0 H0 hq=>?_
  rcases h1:qDJ ws F (q0+1) with p | ⟨⟨o,n,rl,vl,rf,st,ar⟩,q2⟩
  ·rw [h1] at hq hR
   obtain⟨rfl,rfl⟩:=hq
   refine⟨rfl,_,_,rfl,rfl,?_⟩
   exact⟨[],[],[],qAZ ws p,⟨1,[]⟩,rfl,⟨_,rfl,_,_,rfl,rfl,rfl⟩,trivial,by rw [<- hR];exact⟨rfl,rfl⟩⟩
  rw [h1] at hq hR
  obtain⟨q2l,rfl,rfl⟩:=hq
  refine⟨rfl,_,⟨2,(0,psO ws q2)::[(1,zc)]⟩,rfl,rfl,?_⟩
  simp only [qAG] at hR
  rw [<- qBE] at hR
  refine(qAm ws q2 [tRP] hl q2l (by simp) (by simp)).holds.useT [3] [] rfl (sk) ⟨_,_,rfl,⟨rfl,rfl⟩,_,_,rfl,⟨_,rfl,by decide,rfl⟩,rfl⟩ fun e0 H0 hq=>?_
  rcases h2:qAw ws [tRP] q2 with p | ⟨u,q3⟩
  ·rw [h2] at hq hR
   obtain⟨rfl,rfl⟩:=hq
   refine⟨rfl,_,_,rfl,rfl,?_⟩
   exact⟨[],[],[],qAZ ws p,⟨1,[]⟩,rfl,⟨_,rfl,_,_,rfl,rfl,rfl⟩,trivial,by rw [<- hR];exact⟨rfl,rfl⟩⟩
  rw [h2] at hq hR
  obtain⟨q3l,rfl,rfl⟩:=hq
  refine⟨rfl,_,⟨4,(0,psO ws q3)::[(3,sO [tRP]),(2,cO ((Cd.mk o n rl vl rf st ar).cells.map .p)),(1,zc)]⟩,rfl,rfl,?_⟩
  simp only [qAG] at hR
  exact⟨[],[],[], .returned (.p (Cd.mk o n rl vl rf st ar).pv),psH ws q3,rfl,sk,sk,by rw [<- hR];exact⟨q3l,⟨_,rfl,NilD.refl _⟩,rfl⟩⟩
 rw [if_neg c1] at hR
 refine(qA8 ws q0 tLP hl hq0).holds.useT [] [] rfl (sk) (sk) fun e0 H0 hq=>?_
 obtain⟨rfl,rfl⟩:=hq.2 c1
 refine⟨rfl,_,⟨2,(0,psO ws q0)::[(1,zc)]⟩,rfl,rfl,?_⟩
 by_cases c2:txt ws q0=qB0
 ·have q1l:q0+1<=ws.length:=qAi (by rw [c2];decide)
  rw [if_pos c2] at hR
  obtain⟨q1,hq1⟩:∃ q1,q1=q0+1:=⟨_,rfl⟩
  have q1l:q1<=ws.length:=by omega
  rw [<- hq1] at hR
  refine(qA8 ws q0 qB0 hl hq0).holds.useT [] [] rfl (sk) (sk) fun e0 H0 hq=>?_
  obtain⟨rfl,rfl⟩:=hq.1 c2
  refine⟨rfl,_,⟨2,(0,psO ws (q0+1))::[(1,zc)]⟩,rfl,rfl,?_⟩
  rw [<- hq1]
  rw [<- qBE] at hR
  refine(qAm ws q1 [tLP] hl q1l (by simp) (by simp)).holds.useT [2] [] rfl (sk) ⟨_,_,rfl,⟨rfl,rfl⟩,_,_,rfl,⟨_,rfl,by decide,rfl⟩,rfl⟩ fun e0 H0 hq=>?_
  rcases h1:qAw ws [tLP] q1 with p | ⟨u1,q2⟩
  ·rw [h1] at hq hR
   obtain⟨rfl,rfl⟩:=hq
   refine⟨rfl,_,_,rfl,rfl,?_⟩
   exact⟨[],[],[],qAZ ws p,⟨1,[]⟩,rfl,⟨_,rfl,_,_,rfl,rfl,rfl⟩,trivial,by rw [<- hR];exact⟨rfl,rfl⟩⟩
  rw [h1] at hq hR
  obtain⟨q2l,rfl,rfl⟩:=hq
  refine⟨rfl,_,⟨3,(0,psO ws q2)::[(2,sO [tLP]),(1,zc)]⟩,rfl,rfl,?_⟩
  simp only [qAG] at hR
  refine(qH2 ws q2 hl q2l).holds.useT [] [] rfl (sk) (sk) fun e0 H0 hq=>?_
  rcases h2:qCs ws q2 with p | ⟨nm,q3⟩
  ·rw [h2] at hq hR
   obtain⟨rfl,rfl⟩:=hq
   refine⟨rfl,_,_,rfl,rfl,?_⟩
   exact⟨[],[],[],qAZ ws p,⟨1,[]⟩,rfl,⟨_,rfl,_,_,rfl,rfl,rfl⟩,trivial,by rw [<- hR];exact⟨rfl,rfl⟩⟩
  rw [h2] at hq hR
  obtain⟨q3l,rfl,rfl⟩:=hq
  refine⟨rfl,_,⟨3,(0,psO ws q3)::[(2,sO [tLP]),(1,zc)]⟩,rfl,rfl,?_⟩
  simp only [qAG] at hR
  refine(qAm ws q3 [tLB,qHN,tRB,tEq] hl q3l (by simp) (by simp)).holds.useT [4] [] rfl (sk) ⟨_,_,rfl,⟨rfl,rfl⟩,_,_,rfl,⟨_,rfl,by decide,rfl⟩,rfl⟩ fun e0 H0 hq=>?_
  rcases h3:qAw ws [tLB,qHN,tRB,tEq] q3 with p | ⟨u3,q4⟩
  ·rw [h3] at hq hR
   obtain⟨rfl,rfl⟩:=hq
   refine⟨rfl,_,_,rfl,rfl,?_⟩
   exact⟨[],[],[],qAZ ws p,⟨1,[]⟩,rfl,⟨_,rfl,_,_,rfl,rfl,rfl⟩,trivial,by rw [<- hR];exact⟨rfl,rfl⟩⟩
  rw [h3] at hq hR
  obtain⟨q4l,rfl,rfl⟩:=hq
  refine⟨rfl,_,⟨5,(0,psO ws q4)::[(4,sO [tLB,qHN,tRB,tEq]),(3,lf 6 0 0 0 ⟨nm,3,[],0⟩),(2,sO [tLP]),(1,zc)]⟩,rfl,rfl,?_⟩
  simp only [qAG] at hR
  refine(qBx ws q4 hg q4l).holds.useT [] [] rfl (sk) (sk) fun e0 H0 hq=>?_
  rcases h4:qCw ws q4 with p | ⟨v,q5⟩
  ·rw [h4] at hq hR
   obtain⟨rfl,rfl⟩:=hq
   refine⟨rfl,_,_,rfl,rfl,?_⟩
   exact⟨[],[],[],qAZ ws p,⟨1,[]⟩,rfl,⟨_,rfl,_,_,rfl,rfl,rfl⟩,trivial,by rw [<- hR];exact⟨rfl,rfl⟩⟩
  rw [h4] at hq hR
  obtain⟨q5l,rfl,rfl⟩:=hq
  refine⟨rfl,_,⟨5,(0,psO ws q5)::[(4,sO [tLB,qHN,tRB,tEq]),(3,lf 6 0 0 0 ⟨nm,3,[],0⟩),(2,sO [tLP]),(1,zc)]⟩,rfl,rfl,?_⟩
  simp only [qAG] at hR
  rw [<- qBE] at hR
  refine(qAm ws q5 [tRP] hl q5l (by simp) (by simp)).holds.useT [5] [] rfl (sk) ⟨_,_,rfl,⟨rfl,rfl⟩,_,_,rfl,⟨_,rfl,by decide,rfl⟩,rfl⟩ fun e0 H0 hq=>?_
  rcases h5:qAw ws [tRP] q5 with p | ⟨u5,q6⟩
  ·rw [h5] at hq hR
   obtain⟨rfl,rfl⟩:=hq
   refine⟨rfl,_,_,rfl,rfl,?_⟩
   exact⟨[],[],[],qAZ ws p,⟨1,[]⟩,rfl,⟨_,rfl,_,_,rfl,rfl,rfl⟩,trivial,by rw [<- hR];exact⟨rfl,rfl⟩⟩
  rw [h5] at hq hR
  obtain⟨q6l,rfl,rfl⟩:=hq
  refine⟨rfl,_,⟨6,(0,psO ws q6)::[(5,sO [tRP]),(4,sO [tLB,qHN,tRB,tEq]),(3,lf 6 0 0 v ⟨nm,3,[],0⟩),(2,sO [tLP]),(1,zc)]⟩,rfl,rfl,?_⟩
  simp only [qAG] at hR
  refine(qIv ws q6 hl q6l).holds.useT [] [] rfl (sk) (sk) fun e0 H0 hq=>?_
  rcases h6:qJx ws q6 with p | ⟨r,q7⟩
  ·rw [h6] at hq hR
   obtain⟨rfl,rfl⟩:=hq
   refine⟨rfl,_,_,rfl,rfl,?_⟩
   exact⟨[],[],[],qAZ ws p,⟨1,[]⟩,rfl,⟨_,rfl,_,_,rfl,rfl,rfl⟩,trivial,by rw [<- hR];exact⟨rfl,rfl⟩⟩
  rw [h6] at hq hR
  obtain⟨q7l,rfl,rfl⟩:=hq
  refine⟨rfl,_,⟨6,(0,psO ws q7)::[(5,sO [tRP]),(4,sO [tLB,qHN,tRB,tEq]),(3,lf 6 0 0 v ⟨nm,3,[],0⟩),(2,sO [tLP]),(1,zc)]⟩,rfl,rfl,?_⟩
  simp only [qAG] at hR
  refine(qBx ws q7 hg q7l).holds.useT [] [] rfl (sk) (sk) fun e0 H0 hq=>?_
  rcases h7:qCw ws q7 with p | ⟨n,q8⟩
  ·rw [h7] at hq hR
   obtain⟨rfl,rfl⟩:=hq
   refine⟨rfl,_,_,rfl,rfl,?_⟩
   exact⟨[],[],[],qAZ ws p,⟨1,[]⟩,rfl,⟨_,rfl,_,_,rfl,rfl,rfl⟩,trivial,by rw [<- hR];exact⟨rfl,rfl⟩⟩
  rw [h7] at hq hR
  obtain⟨q8l,rfl,rfl⟩:=hq
  refine⟨rfl,_,⟨6,(0,psO ws q8)::[(5,sO [tRP]),(4,sO [tLB,qHN,tRB,tEq]),(3,lf 6 0 r v ⟨nm,3,[],0⟩),(2,sO [tLP]),(1,zc)]⟩,rfl,rfl,?_⟩
  simp only [qAG] at hR
  exact⟨[],[],[], .returned (.p (.agg [i64 6,i64 n,i64 r,i64 v, .str nm,i64 3, .str [],i64 0, .nils, .nils])),psH ws q8,rfl,sk,sk,by rw [<- hR];exact⟨q8l,⟨_,rfl,qAn 6 n r v ⟨nm,3,[],0⟩⟩,rfl⟩⟩
 rw [if_neg c2] at hR
 refine(qA8 ws q0 qB0 hl hq0).holds.useT [] [] rfl (sk) (sk) fun e0 H0 hq=>?_
 obtain⟨rfl,rfl⟩:=hq.2 c2
 refine⟨rfl,_,⟨2,(0,psO ws q0)::[(1,zc)]⟩,rfl,rfl,?_⟩
 refine(qWC ws q0 hg hq0).holds.useT [] [] rfl (sk) (sk) fun e0 H0 hq=>?_
 rcases h1:qIw ws q0 with p | ⟨rf,q1⟩
 ·rw [h1] at hq hR
  obtain⟨rfl,rfl⟩:=hq
  refine⟨rfl,_,_,rfl,rfl,?_⟩
  exact⟨[],[],[],qAZ ws p,⟨1,[]⟩,rfl,⟨_,rfl,_,_,rfl,rfl,rfl⟩,trivial,by rw [<- hR];exact⟨rfl,rfl⟩⟩
 rw [h1] at hq hR
 obtain⟨q1l,rfl,rfl⟩:=hq
 refine⟨rfl,_,⟨2,(0,psO ws q1)::[(1,zc)]⟩,rfl,rfl,?_⟩
 simp only [qAG] at hR
 by_cases c3:txt ws q1=tIn
 rotate_left
 ·rw [if_neg c3] at hR
  refine(qA8 ws q1 tIn hl q1l).holds.useT [] [] rfl (sk) (sk) fun e0 H0 hq=>?_
  obtain⟨rfl,rfl⟩:=hq.2 c3
  refine⟨rfl,_,⟨3,(0,psO ws q1)::[(2,lf 0 0 0 0 rf),(1,zc)]⟩,rfl,rfl,?_⟩
  refine(qIv ws q1 hl q1l).holds.useT [] [] rfl (sk) (sk) fun e0 H0 hq=>?_
  rcases h2:qJx ws q1 with p | ⟨o,q2⟩
  ·rw [h2] at hq hR
   obtain⟨rfl,rfl⟩:=hq
   refine⟨rfl,_,_,rfl,rfl,?_⟩
   exact⟨[],[],[],qAZ ws p,⟨1,[]⟩,rfl,⟨_,rfl,_,_,rfl,rfl,rfl⟩,trivial,by rw [<- hR];exact⟨rfl,rfl⟩⟩
  rw [h2] at hq hR
  obtain⟨q2l,rfl,rfl⟩:=hq
  refine⟨rfl,_,⟨3,(0,psO ws q2)::[(2,lf 0 0 0 0 rf),(1,zc)]⟩,rfl,rfl,?_⟩
  simp only [qAG] at hR
  refine(qBx ws q2 hg q2l).holds.useT [] [] rfl (sk) (sk) fun e0 H0 hq=>?_
  rcases h3:qCw ws q2 with p | ⟨n,q3⟩
  ·rw [h3] at hq hR
   obtain⟨rfl,rfl⟩:=hq
   refine⟨rfl,_,_,rfl,rfl,?_⟩
   exact⟨[],[],[],qAZ ws p,⟨1,[]⟩,rfl,⟨_,rfl,_,_,rfl,rfl,rfl⟩,trivial,by rw [<- hR];exact⟨rfl,rfl⟩⟩
  rw [h3] at hq hR
  obtain⟨q3l,rfl,rfl⟩:=hq
  refine⟨rfl,_,⟨3,(0,psO ws q3)::[(2,lf o 0 0 0 rf),(1,zc)]⟩,rfl,rfl,?_⟩
  simp only [qAG] at hR
  exact⟨[],[],[], .returned (.p (.agg [i64 o,i64 n,i64 0,i64 0, .str rf.name,i64 rf.mode, .str rf.plate,i64 rf.n, .nils, .nils])),psH ws q3,rfl,sk,sk,by rw [<- hR];exact⟨q3l,⟨_,rfl,qAn o n 0 0 rf⟩,rfl⟩⟩
 have q2l:q1+1<=ws.length:=qAi (by rw [c3];decide)
 rw [if_pos c3] at hR
 refine(qA8 ws q1 tIn hl q1l).holds.useT [] [] rfl (sk) (sk) fun e0 H0 hq=>?_
 obtain⟨rfl,rfl⟩:=hq.1 c3
 refine⟨rfl,_,⟨3,(0,psO ws (q1+1))::[(2,lf 0 0 0 0 rf),(1,zc)]⟩,rfl,rfl,?_⟩
 obtain⟨q2,hq2⟩:∃ q2,q2=q1+1:=⟨_,rfl⟩
 rw [<- hq2] at hR q2l
 rw [<- hq2]
 rw [<- qBE] at hR
 refine(qAm ws q2 [tLC] hl q2l (by simp) (by simp)).holds.useT [3] [] rfl (sk) ⟨_,_,rfl,⟨rfl,rfl⟩,_,_,rfl,⟨_,rfl,by decide,rfl⟩,rfl⟩ fun e0 H0 hq=>?_
 rcases h2:qAw ws [tLC] q2 with p | ⟨u2,q3⟩
 ·rw [h2] at hq hR
  obtain⟨rfl,rfl⟩:=hq
  refine⟨rfl,_,_,rfl,rfl,?_⟩
  exact⟨[],[],[],qAZ ws p,⟨1,[]⟩,rfl,⟨_,rfl,_,_,rfl,rfl,rfl⟩,trivial,by rw [<- hR];exact⟨rfl,rfl⟩⟩
 rw [h2] at hq hR
 obtain⟨q3l,rfl,rfl⟩:=hq
 refine⟨rfl,_,⟨4,(0,psO ws q3)::[(3,sO [tLC]),(2,lf 5 0 0 0 rf),(1,zc)]⟩,rfl,rfl,?_⟩
 simp only [qAG] at hR
 have hlt:=qG6 h1
 have hm2:=qAr (ws:=ws) (s:=tLC) (q:=q2) (q':=q3) (u:=u2) (by rw [<- qBE];exact h2)
 refine(qMP ws F q3 (by omega) hg q3l).holds.useT [] [] rfl (sk) ⟨_,_,rfl,⟨rfl,_,_,rfl,⟨_,_,rfl,⟨rfl,rfl⟩,rfl⟩,rfl⟩,_,_,rfl,⟨rfl,_,_,rfl,⟨_,_,rfl,⟨rfl,rfl⟩,rfl⟩,rfl⟩,rfl⟩ fun e0 H0 hq=>?_
 rcases h3:qFZ ws (qCw ws) F q3 with p | ⟨l,q4⟩
 ·rw [h3] at hq hR
  obtain⟨rfl,rfl⟩:=hq
  refine⟨rfl,_,_,rfl,rfl,?_⟩
  exact⟨[],[],[],qAZ ws p,⟨1,[]⟩,rfl,⟨_,rfl,_,_,rfl,rfl,rfl⟩,trivial,by rw [<- hR];exact⟨rfl,rfl⟩⟩
 rw [h3] at hq hR
 obtain⟨⟨q4l,hll⟩,rfl,rfl⟩:=hq
 refine⟨rfl,_,⟨5,[(4,iO l),(0,psO ws q4),(3,sO [tLC]),(2,lf 5 0 0 0 rf),(1,zc)]⟩,rfl,rfl,?_⟩
 simp only [qAG] at hR
 rw [<- qBE] at hR
 refine(qAm ws q4 [tRC] hl q4l (by simp) (by simp)).holds.useT [5] [] rfl (sk) ⟨_,_,rfl,⟨rfl,rfl⟩,_,_,rfl,⟨_,rfl,by decide,rfl⟩,rfl⟩ fun e0 H0 hq=>?_
 rcases h4:qAw ws [tRC] q4 with p | ⟨u4,q5⟩
 ·rw [h4] at hq hR
  obtain⟨rfl,rfl⟩:=hq
  refine⟨rfl,_,_,rfl,rfl,?_⟩
  exact⟨[],[],[],qAZ ws p,⟨1,[]⟩,rfl,⟨_,rfl,_,_,rfl,rfl,rfl⟩,trivial,by rw [<- hR];exact⟨rfl,rfl⟩⟩
 rw [h4] at hq hR
 obtain⟨q5l,rfl,rfl⟩:=hq
 refine⟨rfl,_,⟨6,(0,psO ws q5)::[(5,sO [tRC]),(4,iO l),(3,sO [tLC]),(2,lfS rf l.length),(1,zc)]⟩,rfl,rfl,?_⟩
 simp only [qAG] at hR
 refine(qV4 l (by omega)).holds.useT [] [(0,4)] rfl (sk) (sk) fun e0 H0 hq=>?_
 obtain⟨ys,hp,hs,rfl,rfl⟩:=hq
 have hlen:=hp.length_eq
 refine⟨rfl,_,⟨6,[(4,iO ys),(0,psO ws q5),(5,sO [tRC]),(3,sO [tLC]),(2,lfS rf l.length),(1,zc)]⟩,rfl,rfl,?_⟩
 have hCp:=qRY ys (by omega)
 rw [hlen] at hCp
 have hcl:=qRb ys
 refine hCp.holds.useT [] [(0,4)] rfl (sk) (sk) fun e0 H0 hq=>?_
 obtain⟨rfl,rfl⟩:=hq
 refine⟨rfl,_,⟨6,[(4,iO (qE2 ys++List.replicate (l.length - (qE2 ys).length) 0)),(0,psO ws q5),(5,sO [tRC]),(3,sO [tLC]),(2,lfS rf l.length),(1,zc)]⟩,rfl,rfl,?_⟩
 rw [<- qOc hp hs] at hR
 refine⟨[4],[],[], .returned (.p (Cd.mk 5 0 0 0 rf (qE2 ys) []).pv),psH ws q5,rfl,⟨_,rfl,?_⟩,sk,by rw [<- hR];exact⟨q5l,⟨_,rfl,NilD.refl _⟩,rfl⟩⟩
 refine⟨_,rfl,_,_,rfl,rfl,_,_,rfl,rfl,_,_,rfl,rfl,_,_,rfl,rfl,_,_,rfl,rfl,_,_,rfl,rfl,_,_,rfl,rfl,_,_,rfl,rfl,_,_,rfl,⟨(qE2 ys).map i64,rfl,by show 0+(qE2 ys).length<=((qE2 ys++List.replicate (l.length - (qE2 ys).length) 0).map i64).length;simp,?_⟩,_,_,rfl, .inr (.inr ⟨10,rfl⟩),rfl⟩
 show(qE2 ys).map i64=(((qE2 ys++List.replicate (l.length - (qE2 ys).length) 0).map i64).drop 0).take (qE2 ys).length
 rw [List.drop_zero,List.map_append,List.take_left' (List.length_map ..)]
theorem qTa {ws:List Wd} {q q':Nat} {n:Int} (h:qJx ws q=.inr (n,q')):q<q':=by
 rw [qJx] at h
 split at h
 ·injection h with h;injection h with h1 h2;omega
 ·split at h
  ·injection h with h;injection h with h1 h2;omega
  ·split at h
   ·injection h with h;injection h with h1 h2;omega
   ·split at h
    ·injection h with h;injection h with h1 h2;omega
    ·cases h
theorem qQn {α:Type} {ws:List Wd} {rd:Nat->Rd α} (hrd:∀ q a q',rd q=.inr (a,q')->q<q'):∀ (f:Nat) {acc l:List α} {q q':Nat},qDf ws rd f acc q=.inr (l,q')->q<=q'
 | 0,_,_,_,_,h=>by cases h
 | f+1,acc,l,q,q',h=>by
  rw [qDf] at h
  split at h
  ·obtain⟨a,q1,h1,h⟩:=then_ok h
   have:=hrd _ _ _ h1
   have:=qQn hrd f h
   omega
  ·injection h with h;injection h with h1 h2;omega
theorem qQt {α:Type} {ws:List Wd} {rd:Nat->Rd α} (hrd:∀ q a q',rd q=.inr (a,q')->q<q') {F q q':Nat} {l:List α} (h:qFZ ws rd F q=.inr (l,q')):q<q':=by
 rw [qFZ] at h
 obtain⟨a,q1,h1,h⟩:=then_ok h
 have:=hrd _ _ _ h1
 have:=qQn hrd F h
 omega
structure CLt (ws:List Wd) (F:Nat):Prop where
 cond:∀ {q c q'},qDJ ws F q=.inr (c,q')->q<q'
 orr:∀ {d q c q'},orR ws F d q=.inr (c,q')->q<=q'
 conj:∀ {q c q'},qC0 ws F q=.inr (c,q')->q<q'
 andr:∀ {d q c q'},qLp ws F d q=.inr (c,q')->q<=q'
 neg:∀ {q c q'},qHT ws F q=.inr (c,q')->q<q'
 test:∀ {q c q'},qET ws F q=.inr (c,q')->q<q'
theorem qXS (ws:List Wd):∀ F,CLt ws F
 | 0=>by
  constructor
  ·intro q c q' h;rw [qDJ] at h;cases h
  ·intro d q c q' h;rw [orR] at h;cases h
  ·intro q c q' h;rw [qC0] at h;cases h
  ·intro d q c q' h;rw [qLp] at h;cases h
  ·intro q c q' h;rw [qHT] at h;cases h
  ·intro q c q' h;rw [qET] at h;cases h
 | F+1=>by
  have ih:=qXS ws F
  constructor
  ·intro q c q' h
   rw [qDJ] at h
   obtain⟨a,p,h1,h⟩:=then_ok h
   have:=ih.conj h1
   have:=ih.orr h
   omega
  ·intro d q c q' h
   rw [orR] at h
   split at h
   ·obtain⟨a,p,h1,h⟩:=then_ok h
    have:=ih.conj h1
    have:=ih.orr h
    omega
   ·injection h with h;injection h with h1 h2;omega
  ·intro q c q' h
   rw [qC0] at h
   obtain⟨a,p,h1,h⟩:=then_ok h
   have:=ih.neg h1
   have:=ih.andr h
   omega
  ·intro d q c q' h
   rw [qLp] at h
   split at h
   ·obtain⟨a,p,h1,h⟩:=then_ok h
    have:=ih.neg h1
    have:=ih.andr h
    omega
   ·injection h with h;injection h with h1 h2;omega
  ·intro q c q' h
   rw [qHT] at h
   split at h
   ·obtain⟨a,p,h1,h⟩:=then_ok h
    have:=ih.neg h1
    injection h with h;injection h with h1 h2;omega
   ·exact ih.test h
  ·intro q c q' h
   rw [qET] at h
   split at h
   ·obtain⟨a,p,h1,h⟩:=then_ok h
    have:=ih.cond h1
    obtain⟨u,p2,h2,h⟩:=then_ok h
    have:=qAr h2
    injection h with h;injection h with h1 h2;omega
   ·split at h
    ·obtain⟨u,p1,h1,h⟩:=then_ok h
     have:=qAr h1
     obtain⟨nm,p2,h2,h⟩:=then_ok h
     have:=qFX h2
     obtain⟨u3,p3,h3,h⟩:=then_ok h
     obtain⟨v,p4,h4,h⟩:=then_ok h
     have:=qCW h4
     obtain⟨u5,p5,h5,h⟩:=then_ok h
     have:=qAr h5
     obtain⟨r,p6,h6,h⟩:=then_ok h
     have:=qTa h6
     obtain⟨n,p7,h7,h⟩:=then_ok h
     have:=qCW h7
     have h3':p2<=p3:=by
      rw [qAw] at h3
      obtain⟨_,a1,g1,h3⟩:=then_ok h3
      rw [qAw] at h3
      obtain⟨_,a2,g2,h3⟩:=then_ok h3
      rw [qAw] at h3
      obtain⟨_,a3,g3,h3⟩:=then_ok h3
      rw [qAw] at h3
      obtain⟨_,a4,g4,h3⟩:=then_ok h3
      have:=qAr g1
      have:=qAr g2
      have:=qAr g3
      have:=qAr g4
      injection h3 with h3;injection h3 with h3 h3';omega
     injection h with h;injection h with h1 h2;omega
    ·obtain⟨r,p1,h1,h⟩:=then_ok h
     have:=qG6 h1
     try simp only [] at h
     split at h
     ·obtain⟨u,p2,h2,h⟩:=then_ok h
      have:=qAr h2
      obtain⟨l,p3,h3,h⟩:=then_ok h
      have:=qQt (fun q a q' h=>qCW h) h3
      obtain⟨u4,p4,h4,h⟩:=then_ok h
      have:=qAr h4
      injection h with h;injection h with h1 h2;omega
     ·obtain⟨o,p2,h2,h⟩:=then_ok h
      have:=qTa h2
      obtain⟨n,p3,h3,h⟩:=then_ok h
      have:=qCW h3
      injection h with h;injection h with h1 h2;omega
theorem qNt {ws:List Wd} (F:Nat) {q q':Nat} {c:Cd} (h:qHT ws F q=.inr (c,q')):q<q':=(qXS ws F).neg h
theorem qKW {ws:List Wd} (F:Nat) {q q':Nat} {c:Cd} (h:qC0 ws F q=.inr (c,q')):q<q':=(qXS ws F).conj h
def ngF:AV:=.fn (.func 190) [.ptr 0 0 0] []
def cjF:AV:=.fn (.func 189) [] [.ptr 1 0 0]
theorem qX1 (ws:List Wd) (F q0:Nat) (hg:GoodW ws) (hq0:q0<=ws.length) (hF:4 * (ws.length - q0)+3<=F+1) (hC:∀ q,q<=ws.length->∀ f,f<=F->4 * (ws.length - q)+2<=f->HoldsG cx 190 [.ptr 0 0 0] (psH ws q) (cdQ ws (qHT ws f q))) :
  HoldsG cx 188 [.ptr 0 0 0, .p (.str qDj), .p (i64 8),ngF] (psH ws q0) (rdQ ws (qC0 ws (F+1) q0) fun c=>.p c.pv):=by
 generalize hR:qC0 ws (F+1) q0=R
 rw [qC0] at hR
 refine qAA Tryz.func188 rfl rfl rfl ?_
 have hl:=hg.len
 refine(hC q0 hq0 F (Nat.le_refl _) (by omega)).holds.useT [] [] rfl (sk) (sk) fun e0 H0 hq=>?_
 rcases h1:qHT ws F q0 with p | ⟨⟨o,n,rl,vl,rf,st,ar⟩,q1⟩
 ·rw [h1] at hq hR
  obtain⟨rfl,rfl⟩:=hq
  refine⟨rfl,_,_,rfl,rfl,?_⟩
  exact⟨[],[],[],qAZ ws p,⟨1,[]⟩,rfl,⟨_,rfl,_,_,rfl,rfl,rfl⟩,trivial,by rw [<- hR];exact⟨rfl,rfl⟩⟩
 rw [h1] at hq hR
 obtain⟨q1l,rfl,rfl⟩:=hq
 have hlt:=qNt F h1
 refine⟨rfl,_,⟨2,(0,psO ws q1)::[(1,zc)]⟩,rfl,rfl,?_⟩
 simp only [qAG] at hR
 refine⟨Cd × Nat,fun x=>[(0, .ptr 0 0 0),(1, .p (.str qDj)),(2, .p (i64 8)),(3,ngF),(8, .ptr 1 0 0),(9, .ptr 2 0 0)],fun x=>⟨3,[(2,cO (x.1.cells.map .p)),(0,psO ws x.2),(1,zc)]⟩,fun x=>x.2<=ws.length/\∃ f,f<=F/\4 * (ws.length - x.2)+2<=f/\R=qLp ws f x.1 x.2,fun x=>ws.length - x.2,?_,?_⟩
 ·exact⟨(.mk o n rl vl rf st ar,q1),⟨q1l,F,Nat.le_refl _,by simp only [];omega,hR.symm⟩,qAC [] [] [] rfl ⟨⟨rfl,rfl⟩,rfl,rfl,⟨rfl,_,_,rfl,⟨_,_,rfl,⟨rfl,rfl⟩,rfl⟩,rfl⟩,⟨rfl,rfl⟩,⟨rfl,rfl⟩,trivial⟩ (sk) rfl⟩
 rintro⟨⟨o,n,rl,vl,rf,st,ar⟩,q⟩ ⟨k1,f,k0,k2,k3⟩
 simp only [] at k1 k0 k2 k3
 obtain⟨f,rfl⟩:∃ g,f=g+1:=⟨f - 1,by omega⟩
 rw [qLp] at k3
 by_cases c1:txt ws q=qDj
 ·have ql:q+1<=ws.length:=qAi (by rw [c1];decide)
  rw [if_pos c1] at k3
  refine(qA8 ws q qDj hl k1).holds.useT [] [] rfl (sk) (sk) fun e0 H0 hq=>?_
  obtain⟨rfl,rfl⟩:=hq.1 c1
  refine⟨rfl,_,⟨3,(0,psO ws (q+1))::[(2,cO ((Cd.mk o n rl vl rf st ar).cells.map .p)),(1,zc)]⟩,rfl,rfl,?_⟩
  refine VDraw.seq rfl ?_
  refine(hC (q+1) ql f (by omega) (by omega)).holds.useT [] [] rfl (sk) (sk) fun e0 H0 hq=>?_
  rcases h2:qHT ws f (q+1) with p | ⟨⟨o',n',rl',vl',rf',st',ar'⟩,q2⟩
  ·rw [h2] at hq k3
   obtain⟨rfl,rfl⟩:=hq
   refine⟨rfl,_,_,rfl,rfl,?_⟩
   exact⟨[],[],[],qAZ ws p,⟨1,[]⟩,rfl,⟨_,rfl,_,_,rfl,rfl,rfl⟩,trivial,by rw [k3];exact⟨rfl,rfl⟩⟩
  rw [h2] at hq k3
  obtain⟨q2l,rfl,rfl⟩:=hq
  have hlt2:=qNt f h2
  refine⟨rfl,_,⟨3,(0,psO ws q2)::[(2,cO ((Cd.mk o n rl vl rf st ar).cells.map .p)),(1,zc)]⟩,rfl,rfl,?_⟩
  refine⟨sk,?_⟩
  exact⟨(.mk 8 0 0 0 rf0 [] [.mk o n rl vl rf st ar, .mk o' n' rl' vl' rf' st' ar'],q2),⟨q2l,f,by omega,by simp only [];omega,k3⟩,qAC [3] [] [] rfl ⟨⟨rfl,rfl⟩,rfl,rfl,⟨rfl,_,_,rfl,⟨_,_,rfl,⟨rfl,rfl⟩,rfl⟩,rfl⟩,⟨rfl,rfl⟩,⟨rfl,rfl⟩,trivial⟩
   ⟨⟨_,rfl,rfl,rfl,_,rfl,_,_,rfl,rfl,_,_,rfl,rfl,_,_,rfl,rfl,_,_,rfl,rfl,_,_,rfl,rfl,_,_,rfl,rfl,_,_,rfl,rfl,_,_,rfl,rfl,_,_,rfl, .inr (.inl rfl),_,_,rfl,⟨_,rfl,by show 0+2<=2;omega,rfl⟩,rfl⟩,sk⟩ rfl,by show ws.length - q2<ws.length - q;omega⟩
 ·rw [if_neg c1] at k3
  refine(qA8 ws q qDj hl k1).holds.useT [] [] rfl (sk) (sk) fun e0 H0 hq=>?_
  obtain⟨rfl,rfl⟩:=hq.2 c1
  refine⟨rfl,_,⟨3,(0,psO ws q)::[(2,cO ((Cd.mk o n rl vl rf st ar).cells.map .p)),(1,zc)]⟩,rfl,rfl,?_⟩
  exact⟨[],[],[], .returned (.p (Cd.mk o n rl vl rf st ar).pv),psH ws q,rfl,sk,sk,by rw [k3];exact⟨k1,rfl,rfl⟩⟩
theorem qYa (ws:List Wd) (F q0:Nat) (hg:GoodW ws) (hq0:q0<=ws.length) (hF:4 * (ws.length - q0)+4<=F+1) (hC:∀ q,q<=ws.length->∀ f,f<=F->4 * (ws.length - q)+3<=f->HoldsG cx 189 [.ptr 1 0 0] (pbH ws q) (qTc ws (qC0 ws f q) fun c=>.p c.pv)) :
  HoldsG cx 188 [.ptr 0 0 0, .p (.str tOr), .p (i64 9),cjF] (pbH ws q0) (qTc ws (qDJ ws (F+1) q0) fun c=>.p c.pv):=by
 generalize hR:qDJ ws (F+1) q0=R
 rw [qDJ] at hR
 refine qAA Tryz.func188 rfl rfl rfl ?_
 have hl:=hg.len
 refine(hC q0 hq0 F (Nat.le_refl _) (by omega)).holds.useT [] [] rfl (sk) (sk) fun e0 H0 hq=>?_
 rcases h1:qC0 ws F q0 with p | ⟨⟨o,n,rl,vl,rf,st,ar⟩,q1⟩
 ·rw [h1] at hq hR
  obtain⟨rfl,rfl⟩:=hq
  refine⟨rfl,_,_,rfl,rfl,?_⟩
  exact⟨[],[],[],qAZ ws p,⟨2,[]⟩,rfl,⟨_,rfl,_,_,rfl,rfl,rfl⟩,trivial,by rw [<- hR];exact⟨rfl,rfl⟩⟩
 rw [h1] at hq hR
 obtain⟨q1l,rfl,rfl⟩:=hq
 have hlt:=qKW F h1
 refine⟨rfl,_,⟨3,(0,psO ws q1)::[(1,bxO),(2,zc)]⟩,rfl,rfl,?_⟩
 simp only [qAG] at hR
 refine⟨Cd × Nat,fun x=>[(0, .ptr 0 0 0),(1, .p (.str tOr)),(2, .p (i64 9)),(3,cjF),(8, .ptr 2 0 0),(9, .ptr 3 0 0)],fun x=>⟨4,[(3,cO (x.1.cells.map .p)),(0,psO ws x.2),(1,bxO),(2,zc)]⟩,fun x=>x.2<=ws.length/\∃ f,f<=F/\4 * (ws.length - x.2)+3<=f/\R=orR ws f x.1 x.2,fun x=>ws.length - x.2,?_,?_⟩
 ·exact⟨(.mk o n rl vl rf st ar,q1),⟨q1l,F,Nat.le_refl _,by simp only [];omega,hR.symm⟩,qAC [] [] [] rfl ⟨⟨rfl,rfl⟩,rfl,rfl,⟨rfl,_,_,rfl,rfl,⟨_,_,rfl,⟨rfl,rfl⟩,rfl⟩⟩,⟨rfl,rfl⟩,⟨rfl,rfl⟩,trivial⟩ (sk) rfl⟩
 rintro⟨⟨o,n,rl,vl,rf,st,ar⟩,q⟩ ⟨k1,f,k0,k2,k3⟩
 simp only [] at k1 k0 k2 k3
 obtain⟨f,rfl⟩:∃ g,f=g+1:=⟨f - 1,by omega⟩
 rw [orR] at k3
 by_cases c1:txt ws q=tOr
 ·have ql:q+1<=ws.length:=qAi (by rw [c1];decide)
  rw [if_pos c1] at k3
  refine(qA8 ws q tOr hl k1).holds.useT [] [] rfl (sk) (sk) fun e0 H0 hq=>?_
  obtain⟨rfl,rfl⟩:=hq.1 c1
  refine⟨rfl,_,⟨4,(0,psO ws (q+1))::[(3,cO ((Cd.mk o n rl vl rf st ar).cells.map .p)),(1,bxO),(2,zc)]⟩,rfl,rfl,?_⟩
  refine VDraw.seq rfl ?_
  refine(hC (q+1) ql f (by omega) (by omega)).holds.useT [] [] rfl (sk) (sk) fun e0 H0 hq=>?_
  rcases h2:qC0 ws f (q+1) with p | ⟨⟨o',n',rl',vl',rf',st',ar'⟩,q2⟩
  ·rw [h2] at hq k3
   obtain⟨rfl,rfl⟩:=hq
   refine⟨rfl,_,_,rfl,rfl,?_⟩
   exact⟨[],[],[],qAZ ws p,⟨2,[]⟩,rfl,⟨_,rfl,_,_,rfl,rfl,rfl⟩,trivial,by rw [k3];exact⟨rfl,rfl⟩⟩
  rw [h2] at hq k3
  obtain⟨q2l,rfl,rfl⟩:=hq
  have hlt2:=qKW f h2
  refine⟨rfl,_,⟨4,(0,psO ws q2)::[(1,bxO),(3,cO ((Cd.mk o n rl vl rf st ar).cells.map .p)),(2,zc)]⟩,rfl,rfl,?_⟩
  refine⟨sk,?_⟩
  exact⟨(.mk 9 0 0 0 rf0 [] [.mk o n rl vl rf st ar, .mk o' n' rl' vl' rf' st' ar'],q2),⟨q2l,f,by omega,by simp only [];omega,k3⟩,qAC [4] [] [] rfl ⟨⟨rfl,rfl⟩,rfl,rfl,⟨rfl,_,_,rfl,rfl,⟨_,_,rfl,⟨rfl,rfl⟩,rfl⟩⟩,⟨rfl,rfl⟩,⟨rfl,rfl⟩,trivial⟩
   ⟨⟨_,rfl,rfl,rfl,_,rfl,_,_,rfl,rfl,_,_,rfl,rfl,_,_,rfl,rfl,_,_,rfl,rfl,_,_,rfl,rfl,_,_,rfl,rfl,_,_,rfl,rfl,_,_,rfl,rfl,_,_,rfl, .inr (.inl rfl),_,_,rfl,⟨_,rfl,by show 0+2<=2;omega,rfl⟩,rfl⟩,sk⟩ rfl,by show ws.length - q2<ws.length - q;omega⟩
 ·rw [if_neg c1] at k3
  refine(qA8 ws q tOr hl k1).holds.useT [] [] rfl (sk) (sk) fun e0 H0 hq=>?_
  obtain⟨rfl,rfl⟩:=hq.2 c1
  refine⟨rfl,_,⟨4,(0,psO ws q)::[(3,cO ((Cd.mk o n rl vl rf st ar).cells.map .p)),(1,bxO),(2,zc)]⟩,rfl,rfl,?_⟩
  exact⟨[],[],[], .returned (.p (Cd.mk o n rl vl rf st ar).pv),pbH ws q,rfl,sk,sk,by rw [k3];exact⟨k1,rfl,rfl⟩⟩
structure CAll (ws:List Wd) (f:Nat):Prop where
 cond:∀ q,q<=ws.length->4 * (ws.length - q)+4<=f->qOV ws f q
 conj:∀ q,q<=ws.length->4 * (ws.length - q)+3<=f->HoldsG cx 189 [.ptr 1 0 0] (pbH ws q) (qTc ws (qC0 ws f q) fun c=>.p c.pv)
 neg:∀ q,q<=ws.length->4 * (ws.length - q)+2<=f->HoldsG cx 190 [.ptr 0 0 0] (psH ws q) (cdQ ws (qHT ws f q))
 test:∀ q,q<=ws.length->4 * (ws.length - q)+1<=f->HoldsG cx 202 [.ptr 0 0 0] (psH ws q) (cdQ ws (qET ws f q))
theorem qXg (ws:List Wd) (F q0:Nat) (hg:GoodW ws) (hq0:q0<=ws.length) (hF:4 * (ws.length - q0)+2<=F+1) (ih:CAll ws F) :
  HoldsG cx 190 [.ptr 0 0 0] (psH ws q0) (cdQ ws (qHT ws (F+1) q0)):=by
 generalize hR:qHT ws (F+1) q0=R
 rw [qHT] at hR
 refine qAA Tryz.func190 rfl rfl rfl ?_
 have hl:=hg.len
 by_cases c1:txt ws q0=qHF
 ·have q1l:q0+1<=ws.length:=qAi (by rw [c1];decide)
  rw [if_pos c1] at hR
  refine(qA8 ws q0 qHF hl hq0).holds.useT [] [] rfl (sk) (sk) fun e0 H0 hq=>?_
  obtain⟨rfl,rfl⟩:=hq.1 c1
  refine⟨rfl,_,⟨2,(0,psO ws (q0+1))::[(1,zc)]⟩,rfl,rfl,?_⟩
  refine(ih.neg (q0+1) q1l (by omega)).holds.useT [] [] rfl (sk) (sk) fun e0 H0 hq=>?_
  rcases h1:qHT ws F (q0+1) with p | ⟨⟨o,n,rl,vl,rf,st,ar⟩,q2⟩
  ·rw [h1] at hq hR
   obtain⟨rfl,rfl⟩:=hq
   refine⟨rfl,_,_,rfl,rfl,?_⟩
   exact⟨[],[],[],qAZ ws p,⟨1,[]⟩,rfl,⟨_,rfl,_,_,rfl,rfl,rfl⟩,trivial,by rw [<- hR];exact⟨rfl,rfl⟩⟩
  rw [h1] at hq hR
  obtain⟨q2l,rfl,rfl⟩:=hq
  refine⟨rfl,_,⟨2,(0,psO ws q2)::[(1,zc)]⟩,rfl,rfl,?_⟩
  simp only [qAG] at hR
  exact⟨[2],[],[], .returned (.p (Cd.mk 7 0 0 0 rf0 [] [.mk o n rl vl rf st ar]).pv),psH ws q2,rfl,⟨_,rfl,⟨_,rfl,_,_,rfl,rfl,_,_,rfl,rfl,_,_,rfl,rfl,_,_,rfl,rfl,_,_,rfl,rfl,_,_,rfl,rfl,_,_,rfl,rfl,_,_,rfl,rfl,_,_,rfl, .inr (.inl rfl),_,_,rfl,⟨_,rfl,by show 0+1<=1;omega,rfl⟩,rfl⟩⟩,sk,by rw [<- hR];exact⟨q2l,rfl,rfl⟩⟩
 rw [if_neg c1] at hR
 refine(qA8 ws q0 qHF hl hq0).holds.useT [] [] rfl (sk) (sk) fun e0 H0 hq=>?_
 obtain⟨rfl,rfl⟩:=hq.2 c1
 refine⟨rfl,_,⟨2,(0,psO ws q0)::[(1,zc)]⟩,rfl,rfl,?_⟩
 have hc:=ih.test q0 hq0 (by omega)
 rw [hR] at hc
 refine hc.holds.useT [] [] rfl (sk) (sk) fun e0 H0 hq=>?_
 rcases R with p | ⟨⟨o,n,rl,vl,rf,st,ar⟩,q2⟩
 ·obtain⟨rfl,rfl⟩:=hq
  refine⟨rfl,_,_,rfl,rfl,?_⟩
  exact⟨[],[],[],qAZ ws p,⟨1,[]⟩,rfl,⟨_,rfl,_,_,rfl,rfl,rfl⟩,trivial,rfl,rfl⟩
 obtain⟨q2l,rfl,rfl⟩:=hq
 refine⟨rfl,_,⟨2,(0,psO ws q2)::[(1,zc)]⟩,rfl,rfl,?_⟩
 exact⟨[],[],[], .returned (.p (Cd.mk o n rl vl rf st ar).pv),psH ws q2,rfl,sk,sk,q2l,rfl,rfl⟩
theorem qWx (ws:List Wd) (F q0:Nat) (hg:GoodW ws) (hq0:q0<=ws.length) (hF:4 * (ws.length - q0)+3<=F+1) (ih:∀ f,f<=F->CAll ws f) :
  HoldsG cx 189 [.ptr 1 0 0] (pbH ws q0) (qTc ws (qC0 ws (F+1) q0) fun c=>.p c.pv):=by
 have hc:=qX1 ws F q0 hg hq0 hF fun q hq f hf hb=>(ih f hf).neg q hq hb
 generalize qC0 ws (F+1) q0=R at hc ⊢
 refine qAA Tryz.func189 rfl rfl rfl ?_
 refine hc.holds.useT [] [] rfl (sk) ⟨_,_,rfl,⟨rfl,rfl⟩,_,_,rfl,rfl,_,_,rfl,rfl,_,_,rfl,⟨rfl,_,_,rfl,⟨_,_,rfl,⟨rfl,rfl⟩,rfl⟩,rfl⟩,rfl⟩ fun e0 H0 hq=>?_
 rcases R with p | ⟨⟨o,n,rl,vl,rf,st,ar⟩,q2⟩
 ·obtain⟨rfl,rfl⟩:=hq
  refine⟨rfl,_,_,rfl,rfl,?_⟩
  exact⟨[],[],[],qAZ ws p,⟨2,[]⟩,rfl,⟨_,rfl,_,_,rfl,rfl,rfl⟩,trivial,rfl,rfl⟩
 obtain⟨q2l,rfl,rfl⟩:=hq
 refine⟨rfl,_,⟨3,(0,psO ws q2)::[(2,zc),(1,bxO)]⟩,rfl,rfl,?_⟩
 exact⟨[],[],[], .returned (.p (Cd.mk o n rl vl rf st ar).pv),pbH ws q2,rfl,sk,sk,q2l,rfl,rfl⟩
theorem qWy (ws:List Wd) (F q0:Nat) (hg:GoodW ws) (hq0:q0<=ws.length) (hF:4 * (ws.length - q0)+4<=F+1) (ih:∀ f,f<=F->CAll ws f):qOV ws (F+1) q0:=by
 have hc:=qYa ws F q0 hg hq0 hF fun q hq f hf hb=>(ih f hf).conj q hq hb
 show HoldsG cx _ _ _ (rdQ ws (qDJ ws (F+1) q0) fun c=>.p c.pv)
 generalize qDJ ws (F+1) q0=R at hc ⊢
 refine qAA Tryz.func171 rfl rfl rfl ?_
 refine hc.holds.useT [] [] rfl (sk) ⟨_,_,rfl,⟨rfl,rfl⟩,_,_,rfl,rfl,_,_,rfl,rfl,_,_,rfl,⟨rfl,_,_,rfl,rfl,⟨_,_,rfl,⟨rfl,rfl⟩,rfl⟩⟩,rfl⟩ fun e0 H0 hq=>?_
 rcases R with p | ⟨⟨o,n,rl,vl,rf,st,ar⟩,q2⟩
 ·obtain⟨rfl,rfl⟩:=hq
  refine⟨rfl,_,_,rfl,rfl,?_⟩
  exact⟨[],[],[],qAZ ws p,⟨1,[]⟩,rfl,⟨_,rfl,_,_,rfl,rfl,rfl⟩,trivial,rfl,rfl⟩
 obtain⟨q2l,rfl,rfl⟩:=hq
 refine⟨rfl,_,⟨3,(0,psO ws q2)::[(1,bxO),(2,zc)]⟩,rfl,rfl,?_⟩
 exact⟨[],[],[], .returned (.p (Cd.mk o n rl vl rf st ar).pv),psH ws q2,rfl,sk,sk,q2l,rfl,rfl⟩
theorem qW3 (ws:List Wd) (hg:GoodW ws):∀ F f,f<=F->CAll ws f
 | 0,f,hf=>by
  have:f=0:=by omega
  subst this
  exact⟨fun q _ h=>absurd h (by omega),fun q _ h=>absurd h (by omega),fun q _ h=>absurd h (by omega),fun q _ h=>absurd h (by omega)⟩
 | F+1,f,hf=>by
  have ih:=qW3 ws hg F
  by_cases h:f<=F
  ·exact ih f h
  have:f=F+1:=by omega
  subst this
  exact⟨fun q hq hb=>qWy ws F q hg hq hb ih,fun q hq hb=>qWx ws F q hg hq hb ih,fun q hq hb=>qXg ws F q hg hq hb (ih F (Nat.le_refl _)),fun q hq hb=>qV2 ws F q hg hq hb fun q hq hb=>(ih F (Nat.le_refl _)).cond q hq hb⟩
theorem qMm (ws:List Wd) (F q:Nat) (hg:GoodW ws) (hq:q<=ws.length) (hF:4 * (ws.length - q)+4<=F):qOV ws F q:=(qW3 ws hg F F (Nat.le_refl _)).cond q hq hF
def qYS {α:Type} (ws:List Wd) (r:Rd α) (val:α->PV) (e:AE) (H':Hp):Prop:=match r with
 | .inl p=>e=qAZ ws p/\H'=⟨1,[]⟩
 | .inr (a,q)=>q<=ws.length/\(∃ y,e=.returned (.p y)/\NilD y (val a))/\H'=psH ws q
theorem qEv {α:Type} {ws:List Wd} {g:FuncId} {args:List AV} {H:Hp} {r:Rd α} {val:α->PV} (h:HoldsG cx g args H (qYS ws r val)):HoldsG cx g args H (rdQ ws r fun a=>.p (val a)):=
 h.weak fun e H' hq=>by
  rcases r with p | ⟨c,q⟩
  ·obtain⟨rfl,rfl⟩:=hq
   exact⟨_,rfl,rfl,rfl⟩
  ·obtain⟨h1,⟨y,rfl,h2⟩,rfl⟩:=hq
   exact⟨.returned (.p (val c)),⟨_,rfl,by simp only [NilA];exact⟨_,rfl,h2⟩⟩,h1,rfl,rfl⟩
theorem qQ5 {ws:List Wd}:∀ (f:Nat) {acc l:List Int} {q q':Nat},qD9 ws f acc q=.inr (l,q')->q<=q'
 | 0,_,_,_,_,h=>by cases h
 | f+1,acc,l,q,q',h=>by
  rw [qD9] at h
  split at h
  ·obtain⟨a,q1,h1,h⟩:=then_ok h
   have:=int_lt h1
   have:=qQ5 f h
   omega
  ·injection h with h;injection h with h1 h2;omega
theorem qKA {ws:List Wd} {F q q':Nat} {l:List Int} (h:qD3 ws F q=.inr (l,q')):q<q':=by
 rw [qD3] at h
 obtain⟨a,q1,h1,h⟩:=then_ok h
 have:=int_lt h1
 have:=qQ5 F h
 omega
theorem qQe {ws:List Wd} {q q':Nat} {n:Int} (h:qCw ws q=.inr (n,q')):q'<=ws.length:=by
 rw [qCw] at h
 split at h
 ·rename_i hk
  have:=qF8 (ws:=ws) (q:=q) (by rw [hk];decide)
  injection h with h;injection h with h1 h2;omega
 ·cases h
theorem qQ7 {ws:List Wd} {q q':Nat} {n:Int} (h:qJM ws q=.inr (n,q')):q'<=ws.length:=by
 rw [qJM] at h
 split at h
 ·obtain⟨m,q2,h2,h⟩:=then_ok h
  have:=qQe h2
  injection h with h;injection h with h3 h4;omega
 ·exact qQe h
theorem qN5 {ws:List Wd}:∀ (f:Nat) {acc l:List Int} {q q':Nat},q<=ws.length->qD9 ws f acc q=.inr (l,q')->q'<=ws.length
 | 0,_,_,_,_,_,h=>by cases h
 | f+1,acc,l,q,q',hq,h=>by
  rw [qD9] at h
  split at h
  ·obtain⟨a,q1,h1,h⟩:=then_ok h
   exact qN5 f (qQ7 h1) h
  ·injection h with h;injection h with h1 h2;omega
theorem qSj {ws:List Wd} {F q q':Nat} {l:List Int} (h:qD3 ws F q=.inr (l,q')):q'<=ws.length:=by
 rw [qD3] at h
 obtain⟨a,q1,h1,h⟩:=then_ok h
 exact qN5 F (qQ7 h1) h
theorem qMn {ws:List Wd} (F:Nat) {q q':Nat} {c:Cd} (h:qDJ ws F q=.inr (c,q')):q<q':=(qXS ws F).cond h
def csO (l:List Cs):AObj:=⟨qFA,false, .pus (l.map Cs.cells)⟩
abbrev qJS (l:List Int):List PV:=[i64 0,i64 0,i64 0,i64 0, .str [],i64 0, .str [],i64 0, .nils, .nils,ints l]
theorem qUl (l:List Int):NilDL (qJS l) (Cs.cells ⟨cd0,l⟩):=by
 show NilDL _ [i64 0,i64 0,i64 0,i64 0, .str [],i64 0, .str [],i64 0, .lst [], .lsts 10 [],ints l]
 simp only [NilDL,NilD]
 exact⟨_,_,rfl,rfl,_,_,rfl,rfl,_,_,rfl,rfl,_,_,rfl,rfl,_,_,rfl,rfl,_,_,rfl,rfl,_,_,rfl,rfl,_,_,rfl,rfl,_,_,rfl, .inr (.inl rfl),_,_,rfl, .inr (.inr ⟨10,rfl⟩),_,_,rfl,⟨_,rfl,NilDL.refl _⟩,rfl⟩
theorem qJE {y z:List PV} (h:NilDL y z):∀ xs:List (List PV),NilDLL (xs++[y]) (xs++[z])
 | []=>by
  show NilDLL [y] [z]
  simp only [NilDLL]
  exact⟨_,_,rfl,h,rfl⟩
 | x::xs=>by
  show NilDLL (x::(xs++[y])) (x::(xs++[z]))
  simp only [NilDLL]
  exact⟨_,_,rfl,NilDL.refl x,qJE h xs⟩
theorem qMJ (acc:List Cs) (l:List Int):NilD (.lsts 11 (acc.map Cs.cells++[qJS l])) (css (acc++[⟨cd0,l⟩])):=by
 show NilD _ (.lsts 11 ((acc++[(⟨cd0,l⟩:Cs)]).map Cs.cells))
 rw [List.map_append]
 simp only [NilD]
 exact⟨_,rfl,qJE (qUl l) _⟩
theorem qP4 (ws:List Wd) (F q0:Nat) (hF:4 * ws.length+8<=F) (hg:GoodW ws) (hq0:q0<=ws.length):HoldsG cx 135 [.ptr 0 0 0] (psH ws q0) (rdQ ws (qGU ws F q0) fun l=>.p (css l)):=by
 refine qEv ?_
 generalize hR:qGU ws F q0=R
 rw [qGU] at hR
 refine qAA Tryz.func135 rfl rfl rfl ?_
 have hl:=hg.len
 rw [<- qBE] at hR
 refine(qAm ws q0 [tLC] hl hq0 (by simp) (by simp)).holds.useT [1] [] rfl (sk) ⟨_,_,rfl,⟨rfl,rfl⟩,_,_,rfl,⟨_,rfl,by decide,rfl⟩,rfl⟩ fun e0 H0 hq=>?_
 rcases h1:qAw ws [tLC] q0 with p | ⟨u1,q1⟩
 ·rw [h1] at hq hR
  obtain⟨rfl,rfl⟩:=hq
  refine⟨rfl,_,_,rfl,rfl,?_⟩
  exact⟨[],[],[],qAZ ws p,⟨1,[]⟩,rfl,⟨_,rfl,_,_,rfl,rfl,rfl⟩,trivial,by rw [<- hR];exact⟨rfl,rfl⟩⟩
 rw [h1] at hq hR
 obtain⟨q1l,rfl,rfl⟩:=hq
 refine⟨rfl,_,⟨2,(0,psO ws q1)::[(1,sO [tLC])]⟩,rfl,rfl,?_⟩
 simp only [qAG] at hR
 refine⟨List Cs × Nat,fun x=>[(0, .ptr 0 0 0),(3, .sl 1 11 0 x.1.length)],fun x=>⟨2,[(1,csO x.1),(0,psO ws x.2)]⟩,fun x=>x.2<=ws.length/\x.1.length<=x.2/\LI R (fun f=>qDV ws F f x.1 x.2) (ws.length - x.2),fun x=>ws.length - x.2,?_,?_⟩
 ·exact⟨([],q1),⟨q1l,by simp,⟨F,by simp only [];omega,hR.symm⟩⟩,qAC [] [] [(1,11)] rfl (sk) (sk) rfl⟩
 rintro⟨acc,q⟩ ⟨k1,k2,k3⟩
 simp only [] at k1 k2 k3
 by_cases c1:txt ws q=qCK
 ·have ql:q+1<=ws.length:=qAi (by rw [c1];decide)
  have hR:qGV ws F acc (q+1)=R:=(k3.is fun f=>by rw [qDV,if_pos c1]).symm
  clear k3
  rw [qGV] at hR
  refine(qA8 ws q qCK hl k1).holds.useT [] [] rfl (sk) (sk) fun e0 H0 hq=>?_
  obtain⟨rfl,rfl⟩:=hq.1 c1
  refine⟨rfl,_,⟨2,(0,psO ws (q+1))::[(1,csO acc)]⟩,rfl,rfl,?_⟩
  rw [<- qBE] at hR
  refine(qAm ws (q+1) [qAq] hl ql (by simp) (by simp)).holds.useT [2] [] rfl (sk) ⟨_,_,rfl,⟨rfl,rfl⟩,_,_,rfl,⟨_,rfl,by decide,rfl⟩,rfl⟩ fun e0 H0 hq=>?_
  rcases h2:qAw ws [qAq] (q+1) with p | ⟨u2,q2⟩
  ·rw [h2] at hq hR
   obtain⟨rfl,rfl⟩:=hq
   refine⟨rfl,_,_,rfl,rfl,?_⟩
   exact⟨[],[],[],qAZ ws p,⟨1,[]⟩,rfl,⟨_,rfl,_,_,rfl,rfl,rfl⟩,trivial,by rw [<- hR];exact⟨rfl,rfl⟩⟩
  rw [h2] at hq hR
  obtain⟨q2l,rfl,rfl⟩:=hq
  refine⟨rfl,_,⟨3,(0,psO ws q2)::[(2,sO [qAq]),(1,csO acc)]⟩,rfl,rfl,?_⟩
  simp only [qAG] at hR
  refine(qK4 ws F q2 (by omega) hg q2l).holds.useT [] [] rfl (sk) (sk) fun e0 H0 hq=>?_
  rcases h3:qD3 ws F q2 with p | ⟨l,q3⟩
  ·rw [h3] at hq hR
   obtain⟨rfl,rfl⟩:=hq
   refine⟨rfl,_,_,rfl,rfl,?_⟩
   exact⟨[],[],[],qAZ ws p,⟨1,[]⟩,rfl,⟨_,rfl,_,_,rfl,rfl,rfl⟩,trivial,by rw [<- hR];exact⟨rfl,rfl⟩⟩
  rw [h3] at hq hR
  obtain⟨q3l,rfl,rfl⟩:=hq
  refine⟨rfl,_,⟨3,(0,psO ws q3)::[(2,sO [qAq]),(1,csO acc)]⟩,rfl,rfl,?_⟩
  simp only [qAG] at hR
  refine⟨by show 0+1<=1;omega,[qJS l],rfl,?_⟩
  refine⟨by show 0+acc.length<=(acc.map Cs.cells).length;simp,acc.map Cs.cells,qAD (by simp),by show(acc.length+1) * 152<=140737488355328;omega,acc.map Cs.cells++[qJS l],rfl,?_⟩
  rw [<- qBE] at hR
  refine(qAm ws q3 [tRC] hl q3l (by simp) (by simp)).holds.useT [5] [] rfl (sk) ⟨_,_,rfl,⟨rfl,rfl⟩,_,_,rfl,⟨_,rfl,by decide,rfl⟩,rfl⟩ fun e0 H0 hq=>?_
  rcases h4:qAw ws [tRC] q3 with p | ⟨u4,q4⟩
  ·rw [h4] at hq hR
   obtain⟨rfl,rfl⟩:=hq
   refine⟨rfl,_,_,rfl,rfl,?_⟩
   exact⟨[],[],[],qAZ ws p,⟨1,[]⟩,rfl,⟨_,rfl,_,_,rfl,rfl,rfl⟩,trivial,by rw [<- hR];exact⟨rfl,rfl⟩⟩
  rw [h4] at hq hR
  obtain⟨q4l,rfl,rfl⟩:=hq
  refine⟨rfl,_,⟨6,(0,psO ws q4)::[(5,sO [tRC]),(4,⟨qFA,false, .pus (acc.map Cs.cells++[qJS l])⟩),(3,⟨qFA,false, .pus [qJS l]⟩),(2,sO [qAq])]⟩,rfl,rfl,?_⟩
  simp only [qAG] at hR
  exact⟨[4],[],[], .returned (.p (.lsts 11 (acc.map Cs.cells++[qJS l]))),psH ws q4,rfl,⟨_,rfl,⟨_,rfl,by show 0+(acc.length+1)<=(acc.map Cs.cells++[qJS l]).length;simp,qAD (by simp)⟩⟩,sk,by rw [<- hR];exact⟨q4l,⟨_,rfl,qMJ acc l⟩,rfl⟩⟩
 ·obtain⟨f,hf,k3⟩:=k3
  obtain⟨f,rfl⟩:∃ g,f=g+1:=⟨f - 1,by omega⟩
  simp only [] at k3
  rw [qDV,if_neg c1] at k3
  have hR:=k3.symm
  clear k3
  refine(qA8 ws q qCK hl k1).holds.useT [] [] rfl (sk) (sk) fun e0 H0 hq=>?_
  obtain⟨rfl,rfl⟩:=hq.2 c1
  refine⟨rfl,_,⟨2,(0,psO ws q)::[(1,csO acc)]⟩,rfl,rfl,?_⟩
  refine(qMm ws F q hg k1 (by omega)).holds.useT [] [] rfl (sk) (sk) fun e0 H0 hq=>?_
  rcases h1:qDJ ws F q with p | ⟨⟨o,n,rl,vl,rf,st,ar⟩,q1⟩
  ·rw [h1] at hq hR
   obtain⟨rfl,rfl⟩:=hq
   refine⟨rfl,_,_,rfl,rfl,?_⟩
   exact⟨[],[],[],qAZ ws p,⟨1,[]⟩,rfl,⟨_,rfl,_,_,rfl,rfl,rfl⟩,trivial,by rw [<- hR];exact⟨rfl,rfl⟩⟩
  have hlt1:=qMn F h1
  rw [h1] at hq hR
  obtain⟨q1l,rfl,rfl⟩:=hq
  refine⟨rfl,_,⟨2,(0,psO ws q1)::[(1,csO acc)]⟩,rfl,rfl,?_⟩
  simp only [qAG] at hR
  rw [<- qBE] at hR
  refine(qAm ws q1 [qAq] hl q1l (by simp) (by simp)).holds.useT [3] [] rfl (sk) ⟨_,_,rfl,⟨rfl,rfl⟩,_,_,rfl,⟨_,rfl,by decide,rfl⟩,rfl⟩ fun e0 H0 hq=>?_
  rcases h2:qAw ws [qAq] q1 with p | ⟨u2,q2⟩
  ·rw [h2] at hq hR
   obtain⟨rfl,rfl⟩:=hq
   refine⟨rfl,_,_,rfl,rfl,?_⟩
   exact⟨[],[],[],qAZ ws p,⟨1,[]⟩,rfl,⟨_,rfl,_,_,rfl,rfl,rfl⟩,trivial,by rw [<- hR];exact⟨rfl,rfl⟩⟩
  rw [h2] at hq hR
  obtain⟨q2l,rfl,rfl⟩:=hq
  refine⟨rfl,_,⟨4,(0,psO ws q2)::[(3,sO [qAq]),(2,cO ((Cd.mk o n rl vl rf st ar).cells.map .p)),(1,csO acc)]⟩,rfl,rfl,?_⟩
  simp only [qAG] at hR
  have hlt2:=qAr (ws:=ws) (s:=qAq) (q:=q1) (q':=q2) (u:=u2) (by rw [<- qBE];exact h2)
  have hN:=qK4 ws F q2 (by omega) hg q2l
  rcases h3:qD3 ws F q2 with p | ⟨l,q3⟩
  ·rw [h3] at hN hR
   refine VDraw.seq rfl ?_
   refine hN.holds.useT [] [] rfl (sk) (sk) fun e0 H0 hq=>?_
   obtain⟨rfl,rfl⟩:=hq
   refine⟨rfl,_,_,rfl,rfl,?_⟩
   exact⟨[],[],[],qAZ ws p,⟨1,[]⟩,rfl,⟨_,rfl,_,_,rfl,rfl,rfl⟩,trivial,by rw [<- hR];exact⟨rfl,rfl⟩⟩
  have hlt3:=qKA h3
  rw [h3] at hN hR
  simp only [qAG] at hR
  obtain⟨x,hx⟩:∃ x:Cs,x=⟨.mk o n rl vl rf st ar,l⟩:=⟨_,rfl⟩
  have hq3l:=qSj h3
  refine VDraw.seqTo [(0, .ptr 0 0 0),(3, .sl 1 11 0 (acc.length+1))] ⟨2,[(1,csO (acc++[x])),(0,psO ws q3)]⟩ rfl ?_ ?_
  ·refine hN.holds.useT [] [] rfl (sk) (sk) fun e0 H0 hq=>?_
   obtain⟨q3l,rfl,rfl⟩:=hq
   refine⟨rfl,_,⟨4,(0,psO ws q3)::[(3,sO [qAq]),(2,cO ((Cd.mk o n rl vl rf st ar).cells.map .p)),(1,csO acc)]⟩,rfl,rfl,?_⟩
   refine⟨sk,?_⟩
   refine⟨by show 0+1<=1;omega,[x.cells],by rw [hx];rfl,?_⟩
   refine⟨by show 0+acc.length<=(acc.map Cs.cells).length;simp,acc.map Cs.cells,qAD (by simp),by show(acc.length+1) * 152<=140737488355328;omega,(acc++[x]).map Cs.cells,by simp,?_⟩
   exact qAC [] [(1,5)] [] rfl (sk) (sk) rfl
  rw [<- qBE] at hR
  refine(qAm ws q3 [qAY] hl hq3l (by simp) (by simp)).holds.useT [2] [] rfl (sk) ⟨_,_,rfl,⟨rfl,rfl⟩,_,_,rfl,⟨_,rfl,by decide,rfl⟩,rfl⟩ fun e0 H0 hq=>?_
  rcases h4:qAw ws [qAY] q3 with p | ⟨u4,q4⟩
  ·rw [h4] at hq hR
   obtain⟨rfl,rfl⟩:=hq
   refine⟨rfl,_,_,rfl,rfl,?_⟩
   exact⟨[],[],[],qAZ ws p,⟨1,[]⟩,rfl,⟨_,rfl,_,_,rfl,rfl,rfl⟩,trivial,by rw [<- hR];exact⟨rfl,rfl⟩⟩
  rw [h4] at hq hR
  obtain⟨q4l,rfl,rfl⟩:=hq
  refine⟨rfl,_,⟨3,(0,psO ws q4)::[(2,sO [qAY]),(1,csO (acc++[x]))]⟩,rfl,rfl,?_⟩
  simp only [qAG] at hR
  have hlt4:=qAr (ws:=ws) (s:=qAY) (q:=q3) (q':=q4) (u:=u4) (by rw [<- qBE];exact h4)
  exact⟨(acc++[x],q4),⟨q4l,by simp only [qAK];omega,⟨f,by simp only [];omega,by rw [<- hR,hx]⟩⟩,qAC [] [] [] rfl ⟨⟨rfl,rfl⟩,congrArg (fun k:Nat=>AV.sl 1 11 0 k) (qAK acc x).symm,trivial⟩ (sk) rfl,by show ws.length - q4<ws.length - q;omega⟩
def dO (k n:Int) (nm pl:List UInt8) (fr cs:PV):AObj:=⟨qIf,false, .bx [.p (i64 k), .p (i64 n), .p (.str nm), .p (.str pl), .p fr, .p cs]⟩
abbrev zd:AObj:=dO 0 0 [] [] .nils .nils
theorem qJD {k n:Int} {nm pl:List UInt8} {fr cs:PV} {l:List Rf} {c:List Cs} (hf:NilD fr (qBw l)) (hc:NilD cs (css c)):NilD (.agg [i64 k,i64 n, .str nm, .str pl,fr,cs]) (De.pv ⟨k,n,nm,pl,l,c⟩):=by
 show NilD _ (.agg [i64 k,i64 n, .str nm, .str pl,qBw l,css c])
 simp only [NilD,NilDL]
 exact⟨_,rfl,_,_,rfl,rfl,_,_,rfl,rfl,_,_,rfl,rfl,_,_,rfl,rfl,_,_,rfl,hf,_,_,rfl,hc,rfl⟩
theorem qWU:NilD .nils (qBw []):=by simp only [NilD];exact .inr (.inr ⟨4,rfl⟩)
theorem qQj:NilD .nils (css []):=by simp only [NilD];exact .inr (.inr ⟨11,rfl⟩)
def qR0 (ws:List Wd) (g:FuncId) (rd:Nat->Rd De):Prop:=∀ q,q<=ws.length->HoldsG cx g [.ptr 0 0 0] (psH ws q) (rdQ ws (rd q) fun d=>.p d.pv)
theorem qU1 (ws:List Wd) (F:Nat) (_hF:4 * ws.length+8<=F) (hg:GoodW ws):qR0 ws 88 (qGB ws):=by
 intro q0 q0l
 refine qEv ?_
 generalize hR:qGB ws q0=R
 rw [qGB] at hR
 refine qAA Tryz.func88 rfl rfl rfl ?_
 have hl:=hg.len
 refine(qBx ws q0 hg q0l).holds.useT [] [] rfl (sk) (sk) fun e0 H0 hq=>?_
 rcases h1:qCw ws q0 with p | ⟨n,q1⟩
 ·rw [h1] at hq hR
  obtain⟨rfl,rfl⟩:=hq
  refine⟨rfl,_,_,rfl,rfl,?_⟩
  exact⟨[],[],[],qAZ ws p,⟨1,[]⟩,rfl,⟨_,rfl,_,_,rfl,rfl,rfl⟩,trivial,by rw [<- hR];exact⟨rfl,rfl⟩⟩
 rw [h1] at hq hR
 obtain⟨q1l,rfl,rfl⟩:=hq
 refine⟨rfl,_,⟨2,(0,psO ws q1)::[(1,zd)]⟩,rfl,rfl,?_⟩
 simp only [qAG] at hR
 exact⟨[],[],[], .returned (.p (.agg [i64 1,i64 n, .str [], .str [], .nils, .nils])),psH ws q1,rfl,sk,sk,by rw [<- hR];exact⟨q1l,⟨_,rfl,qJD qWU qQj⟩,rfl⟩⟩
theorem qUd (ws:List Wd) (F:Nat) (_hF:4 * ws.length+8<=F) (hg:GoodW ws):qR0 ws 89 (qF1 ws):=by
 intro q0 q0l
 refine qEv ?_
 generalize hR:qF1 ws q0=R
 rw [qF1] at hR
 refine qAA Tryz.func89 rfl rfl rfl ?_
 have hl:=hg.len
 refine(qH2 ws q0 hl q0l).holds.useT [] [] rfl (sk) (sk) fun e0 H0 hq=>?_
 rcases h1:qCs ws q0 with p | ⟨nm,q1⟩
 ·rw [h1] at hq hR
  obtain⟨rfl,rfl⟩:=hq
  refine⟨rfl,_,_,rfl,rfl,?_⟩
  exact⟨[],[],[],qAZ ws p,⟨1,[]⟩,rfl,⟨_,rfl,_,_,rfl,rfl,rfl⟩,trivial,by rw [<- hR];exact⟨rfl,rfl⟩⟩
 rw [h1] at hq hR
 obtain⟨q1l,rfl,rfl⟩:=hq
 refine⟨rfl,_,⟨2,(0,psO ws q1)::[(1,zd)]⟩,rfl,rfl,?_⟩
 simp only [qAG] at hR
 rw [<- qBE] at hR
 refine(qAm ws q1 [tEq] hl q1l (by simp) (by simp)).holds.useT [3] [] rfl (sk) ⟨_,_,rfl,⟨rfl,rfl⟩,_,_,rfl,⟨_,rfl,by decide,rfl⟩,rfl⟩ fun e0 H0 hq=>?_
 rcases h2:qAw ws [tEq] q1 with p | ⟨u2,q2⟩
 ·rw [h2] at hq hR
  obtain⟨rfl,rfl⟩:=hq
  refine⟨rfl,_,_,rfl,rfl,?_⟩
  exact⟨[],[],[],qAZ ws p,⟨1,[]⟩,rfl,⟨_,rfl,_,_,rfl,rfl,rfl⟩,trivial,by rw [<- hR];exact⟨rfl,rfl⟩⟩
 rw [h2] at hq hR
 obtain⟨q2l,rfl,rfl⟩:=hq
 refine⟨rfl,_,⟨4,(0,psO ws q2)::[(3,sO [tEq]),(2,dO 2 0 nm [] .nils .nils),(1,zd)]⟩,rfl,rfl,?_⟩
 simp only [qAG] at hR
 refine(qBx ws q2 hg q2l).holds.useT [] [] rfl (sk) (sk) fun e0 H0 hq=>?_
 rcases h3:qCw ws q2 with p | ⟨n,q3⟩
 ·rw [h3] at hq hR
  obtain⟨rfl,rfl⟩:=hq
  refine⟨rfl,_,_,rfl,rfl,?_⟩
  exact⟨[],[],[],qAZ ws p,⟨1,[]⟩,rfl,⟨_,rfl,_,_,rfl,rfl,rfl⟩,trivial,by rw [<- hR];exact⟨rfl,rfl⟩⟩
 rw [h3] at hq hR
 obtain⟨q3l,rfl,rfl⟩:=hq
 refine⟨rfl,_,⟨4,(0,psO ws q3)::[(3,sO [tEq]),(2,dO 2 0 nm [] .nils .nils),(1,zd)]⟩,rfl,rfl,?_⟩
 simp only [qAG] at hR
 exact⟨[],[],[], .returned (.p (.agg [i64 2,i64 n, .str nm, .str [], .nils, .nils])),psH ws q3,rfl,sk,sk,by rw [<- hR];exact⟨q3l,⟨_,rfl,qJD qWU qQj⟩,rfl⟩⟩
theorem qS6 (ws:List Wd) (F:Nat) (hF:4 * ws.length+8<=F) (hg:GoodW ws):qR0 ws 91 (qEF ws F):=by
 intro q0 q0l
 refine qEv ?_
 generalize hR:qEF ws F q0=R
 rw [qEF] at hR
 refine qAA Tryz.func91 rfl rfl rfl ?_
 have hl:=hg.len
 refine(qH2 ws q0 hl q0l).holds.useT [] [] rfl (sk) (sk) fun e0 H0 hq=>?_
 rcases h1:qCs ws q0 with p | ⟨nm,q1⟩
 ·rw [h1] at hq hR
  obtain⟨rfl,rfl⟩:=hq
  refine⟨rfl,_,_,rfl,rfl,?_⟩
  exact⟨[],[],[],qAZ ws p,⟨1,[]⟩,rfl,⟨_,rfl,_,_,rfl,rfl,rfl⟩,trivial,by rw [<- hR];exact⟨rfl,rfl⟩⟩
 rw [h1] at hq hR
 obtain⟨q1l,rfl,rfl⟩:=hq
 refine⟨rfl,_,⟨2,(0,psO ws q1)::[(1,zd)]⟩,rfl,rfl,?_⟩
 simp only [qAG] at hR
 rw [<- qBE] at hR
 refine(qAm ws q1 [qAq] hl q1l (by simp) (by simp)).holds.useT [3] [] rfl (sk) ⟨_,_,rfl,⟨rfl,rfl⟩,_,_,rfl,⟨_,rfl,by decide,rfl⟩,rfl⟩ fun e0 H0 hq=>?_
 rcases h2:qAw ws [qAq] q1 with p | ⟨u2,q2⟩
 ·rw [h2] at hq hR
  obtain⟨rfl,rfl⟩:=hq
  refine⟨rfl,_,_,rfl,rfl,?_⟩
  exact⟨[],[],[],qAZ ws p,⟨1,[]⟩,rfl,⟨_,rfl,_,_,rfl,rfl,rfl⟩,trivial,by rw [<- hR];exact⟨rfl,rfl⟩⟩
 rw [h2] at hq hR
 obtain⟨q2l,rfl,rfl⟩:=hq
 refine⟨rfl,_,⟨4,(0,psO ws q2)::[(3,sO [qAq]),(2,dO 4 0 nm [] .nils .nils),(1,zd)]⟩,rfl,rfl,?_⟩
 simp only [qAG] at hR
 refine(qBx ws q2 hg q2l).holds.useT [] [] rfl (sk) (sk) fun e0 H0 hq=>?_
 rcases h3:qCw ws q2 with p | ⟨n,q3⟩
 ·rw [h3] at hq hR
  obtain⟨rfl,rfl⟩:=hq
  refine⟨rfl,_,_,rfl,rfl,?_⟩
  exact⟨[],[],[],qAZ ws p,⟨1,[]⟩,rfl,⟨_,rfl,_,_,rfl,rfl,rfl⟩,trivial,by rw [<- hR];exact⟨rfl,rfl⟩⟩
 rw [h3] at hq hR
 obtain⟨q3l,rfl,rfl⟩:=hq
 refine⟨rfl,_,⟨4,(0,psO ws q3)::[(3,sO [qAq]),(2,dO 4 0 nm [] .nils .nils),(1,zd)]⟩,rfl,rfl,?_⟩
 simp only [qAG] at hR
 refine(qNa ws F q3 qBt (by decide) (by omega) hg q3l).holds.useT [] [] rfl (sk) (sk) fun e0 H0 hq=>?_
 rcases h4:qE6 ws F qBt q3 with p | ⟨l,q4⟩
 ·rw [h4] at hq hR
  obtain⟨rfl,rfl⟩:=hq
  refine⟨rfl,_,_,rfl,rfl,?_⟩
  exact⟨[],[],[],qAZ ws p,⟨1,[]⟩,rfl,⟨_,rfl,_,_,rfl,rfl,rfl⟩,trivial,by rw [<- hR];exact⟨rfl,rfl⟩⟩
 rw [h4] at hq hR
 obtain⟨q4l,rfl,rfl⟩:=hq
 refine⟨rfl,_,⟨4,(0,psO ws q4)::[(3,sO [qAq]),(2,dO 4 n nm [] .nils .nils),(1,zd)]⟩,rfl,rfl,?_⟩
 simp only [qAG] at hR
 exact⟨[],[],[], .returned (.p (.agg [i64 4,i64 n, .str nm, .str [],qBw l, .nils])),psH ws q4,rfl,sk,sk,by rw [<- hR];exact⟨q4l,⟨_,rfl,qJD (NilD.refl _) qQj⟩,rfl⟩⟩
theorem qWn (ws:List Wd) (F:Nat) (hF:4 * ws.length+8<=F) (hg:GoodW ws):qR0 ws 92 (qKJ ws F):=by
 intro q0 q0l
 refine qEv ?_
 generalize hR:qKJ ws F q0=R
 rw [qKJ] at hR
 refine qAA Tryz.func92 rfl rfl rfl ?_
 have hl:=hg.len
 refine(qNa ws F q0 qAg (by decide) (by omega) hg q0l).holds.useT [] [] rfl (sk) (sk) fun e0 H0 hq=>?_
 rcases h1:qE6 ws F qAg q0 with p | ⟨l,q1⟩
 ·rw [h1] at hq hR
  obtain⟨rfl,rfl⟩:=hq
  refine⟨rfl,_,_,rfl,rfl,?_⟩
  exact⟨[],[],[],qAZ ws p,⟨1,[]⟩,rfl,⟨_,rfl,_,_,rfl,rfl,rfl⟩,trivial,by rw [<- hR];exact⟨rfl,rfl⟩⟩
 rw [h1] at hq hR
 obtain⟨q1l,rfl,rfl⟩:=hq
 refine⟨rfl,_,⟨2,(0,psO ws q1)::[(1,zd)]⟩,rfl,rfl,?_⟩
 simp only [qAG] at hR
 rw [<- qBE] at hR
 refine(qAm ws q1 [tEq] hl q1l (by simp) (by simp)).holds.useT [3] [] rfl (sk) ⟨_,_,rfl,⟨rfl,rfl⟩,_,_,rfl,⟨_,rfl,by decide,rfl⟩,rfl⟩ fun e0 H0 hq=>?_
 rcases h2:qAw ws [tEq] q1 with p | ⟨u2,q2⟩
 ·rw [h2] at hq hR
  obtain⟨rfl,rfl⟩:=hq
  refine⟨rfl,_,_,rfl,rfl,?_⟩
  exact⟨[],[],[],qAZ ws p,⟨1,[]⟩,rfl,⟨_,rfl,_,_,rfl,rfl,rfl⟩,trivial,by rw [<- hR];exact⟨rfl,rfl⟩⟩
 rw [h2] at hq hR
 obtain⟨q2l,rfl,rfl⟩:=hq
 refine⟨rfl,_,⟨4,(0,psO ws q2)::[(3,sO [tEq]),(2,dO 5 0 [] [] (qBw l) .nils),(1,zd)]⟩,rfl,rfl,?_⟩
 simp only [qAG] at hR
 refine(qP4 ws F q2 hF hg q2l).holds.useT [] [] rfl (sk) (sk) fun e0 H0 hq=>?_
 rcases h3:qGU ws F q2 with p | ⟨cs,q3⟩
 ·rw [h3] at hq hR
  obtain⟨rfl,rfl⟩:=hq
  refine⟨rfl,_,_,rfl,rfl,?_⟩
  exact⟨[],[],[],qAZ ws p,⟨1,[]⟩,rfl,⟨_,rfl,_,_,rfl,rfl,rfl⟩,trivial,by rw [<- hR];exact⟨rfl,rfl⟩⟩
 rw [h3] at hq hR
 obtain⟨q3l,rfl,rfl⟩:=hq
 refine⟨rfl,_,⟨4,(0,psO ws q3)::[(3,sO [tEq]),(2,dO 5 0 [] [] (qBw l) .nils),(1,zd)]⟩,rfl,rfl,?_⟩
 simp only [qAG] at hR
 exact⟨[],[],[], .returned (.p (.agg [i64 5,i64 0, .str [], .str [],qBw l,css cs])),psH ws q3,rfl,sk,sk,by rw [<- hR];exact⟨q3l,⟨_,rfl,qJD (NilD.refl _) (NilD.refl _)⟩,rfl⟩⟩
theorem qWS (ws:List Wd) (F:Nat) (hF:4 * ws.length+8<=F) (hg:GoodW ws):qR0 ws 90 (qKB ws F):=by
 intro q0 q0l
 refine qEv ?_
 generalize hR:qKB ws F q0=R
 rw [qKB] at hR
 refine qAA Tryz.func90 rfl rfl rfl ?_
 have hl:=hg.len
 refine(qH2 ws q0 hl q0l).holds.useT [] [] rfl (sk) (sk) fun e0 H0 hq=>?_
 rcases h1:qCs ws q0 with p | ⟨nm,q1⟩
 ·rw [h1] at hq hR
  obtain⟨rfl,rfl⟩:=hq
  refine⟨rfl,_,_,rfl,rfl,?_⟩
  exact⟨[],[],[],qAZ ws p,⟨1,[]⟩,rfl,⟨_,rfl,_,_,rfl,rfl,rfl⟩,trivial,by rw [<- hR];exact⟨rfl,rfl⟩⟩
 rw [h1] at hq hR
 obtain⟨q1l,rfl,rfl⟩:=hq
 refine⟨rfl,_,⟨2,(0,psO ws q1)::[(1,zd)]⟩,rfl,rfl,?_⟩
 simp only [qAG] at hR
 by_cases c1:txt ws q1=tLB
 rotate_left
 ·rw [if_neg c1] at hR
  refine(qA8 ws q1 tLB hl q1l).holds.useT [] [] rfl (sk) (sk) fun e0 H0 hq=>?_
  obtain⟨rfl,rfl⟩:=hq.2 c1
  refine⟨rfl,_,⟨3,(0,psO ws q1)::[(2,dO 3 0 nm [] .nils .nils),(1,zd)]⟩,rfl,rfl,?_⟩
  rw [qCD] at hR
  rw [<- qBE] at hR
  refine(qAm ws q1 [qAq] hl q1l (by simp) (by simp)).holds.useT [3] [] rfl (sk) ⟨_,_,rfl,⟨rfl,rfl⟩,_,_,rfl,⟨_,rfl,by decide,rfl⟩,rfl⟩ fun e0 H0 hq=>?_
  rcases h5:qAw ws [qAq] q1 with p | ⟨u5,q5⟩
  ·rw [h5] at hq hR
   obtain⟨rfl,rfl⟩:=hq
   refine⟨rfl,_,_,rfl,rfl,?_⟩
   exact⟨[],[],[],qAZ ws p,⟨1,[]⟩,rfl,⟨_,rfl,_,_,rfl,rfl,rfl⟩,trivial,by rw [<- hR];exact⟨rfl,rfl⟩⟩
  rw [h5] at hq hR
  obtain⟨q5l,rfl,rfl⟩:=hq
  refine⟨rfl,_,⟨4,(0,psO ws q5)::[(3,sO [qAq]),(2,dO 3 0 nm [] .nils .nils),(1,zd)]⟩,rfl,rfl,?_⟩
  simp only [qAG] at hR
  refine(qBx ws q5 hg q5l).holds.useT [] [] rfl (sk) (sk) fun e0 H0 hq=>?_
  rcases h6:qCw ws q5 with p | ⟨n,q6⟩
  ·rw [h6] at hq hR
   obtain⟨rfl,rfl⟩:=hq
   refine⟨rfl,_,_,rfl,rfl,?_⟩
   exact⟨[],[],[],qAZ ws p,⟨1,[]⟩,rfl,⟨_,rfl,_,_,rfl,rfl,rfl⟩,trivial,by rw [<- hR];exact⟨rfl,rfl⟩⟩
  rw [h6] at hq hR
  obtain⟨q6l,rfl,rfl⟩:=hq
  refine⟨rfl,_,⟨4,(0,psO ws q6)::[(3,sO [qAq]),(2,dO 3 0 nm [] .nils .nils),(1,zd)]⟩,rfl,rfl,?_⟩
  simp only [qAG] at hR
  refine(qNa ws F q6 qAg (by decide) (by omega) hg q6l).holds.useT [] [] rfl (sk) (sk) fun e0 H0 hq=>?_
  rcases h7:qE6 ws F qAg q6 with p | ⟨l,q7⟩
  ·rw [h7] at hq hR
   obtain⟨rfl,rfl⟩:=hq
   refine⟨rfl,_,_,rfl,rfl,?_⟩
   exact⟨[],[],[],qAZ ws p,⟨1,[]⟩,rfl,⟨_,rfl,_,_,rfl,rfl,rfl⟩,trivial,by rw [<- hR];exact⟨rfl,rfl⟩⟩
  rw [h7] at hq hR
  obtain⟨q7l,rfl,rfl⟩:=hq
  refine⟨rfl,_,⟨4,(0,psO ws q7)::[(3,sO [qAq]),(2,dO 3 n nm [] .nils .nils),(1,zd)]⟩,rfl,rfl,?_⟩
  simp only [qAG] at hR
  rw [<- qBE] at hR
  refine(qAm ws q7 [tEq] hl q7l (by simp) (by simp)).holds.useT [4] [] rfl (sk) ⟨_,_,rfl,⟨rfl,rfl⟩,_,_,rfl,⟨_,rfl,by decide,rfl⟩,rfl⟩ fun e0 H0 hq=>?_
  rcases h8:qAw ws [tEq] q7 with p | ⟨u8,q8⟩
  ·rw [h8] at hq hR
   obtain⟨rfl,rfl⟩:=hq
   refine⟨rfl,_,_,rfl,rfl,?_⟩
   exact⟨[],[],[],qAZ ws p,⟨1,[]⟩,rfl,⟨_,rfl,_,_,rfl,rfl,rfl⟩,trivial,by rw [<- hR];exact⟨rfl,rfl⟩⟩
  rw [h8] at hq hR
  obtain⟨q8l,rfl,rfl⟩:=hq
  refine⟨rfl,_,⟨5,(0,psO ws q8)::[(4,sO [tEq]),(3,sO [qAq]),(2,dO 3 n nm [] (qBw l) .nils),(1,zd)]⟩,rfl,rfl,?_⟩
  simp only [qAG] at hR
  refine(qP4 ws F q8 hF hg q8l).holds.useT [] [] rfl (sk) (sk) fun e0 H0 hq=>?_
  rcases h9:qGU ws F q8 with p | ⟨cs,q9⟩
  ·rw [h9] at hq hR
   obtain⟨rfl,rfl⟩:=hq
   refine⟨rfl,_,_,rfl,rfl,?_⟩
   exact⟨[],[],[],qAZ ws p,⟨1,[]⟩,rfl,⟨_,rfl,_,_,rfl,rfl,rfl⟩,trivial,by rw [<- hR];exact⟨rfl,rfl⟩⟩
  rw [h9] at hq hR
  obtain⟨q9l,rfl,rfl⟩:=hq
  refine⟨rfl,_,⟨5,(0,psO ws q9)::[(4,sO [tEq]),(3,sO [qAq]),(2,dO 3 n nm [] (qBw l) .nils),(1,zd)]⟩,rfl,rfl,?_⟩
  simp only [qAG] at hR
  exact⟨[],[],[], .returned (.p (.agg [i64 3,i64 n, .str nm, .str [],qBw l,css cs])),psH ws q9,rfl,sk,sk,by rw [<- hR];exact⟨q9l,⟨_,rfl,qJD (NilD.refl _) (NilD.refl _)⟩,rfl⟩⟩
 rw [if_pos c1] at hR
 have q2l:q1+1<=ws.length:=qAi (by rw [c1];decide)
 refine(qA8 ws q1 tLB hl q1l).holds.useT [] [] rfl (sk) (sk) fun e0 H0 hq=>?_
 obtain⟨rfl,rfl⟩:=hq.1 c1
 refine⟨rfl,_,⟨3,(0,psO ws (q1+1))::[(2,dO 3 0 nm [] .nils .nils),(1,zd)]⟩,rfl,rfl,?_⟩
 refine(qH2 ws (q1+1) hl q2l).holds.useT [] [] rfl (sk) (sk) fun e0 H0 hq=>?_
 rcases h3:qCs ws (q1+1) with p | ⟨pl,q3⟩
 ·rw [h3] at hq hR
  obtain⟨rfl,rfl⟩:=hq
  refine⟨rfl,_,_,rfl,rfl,?_⟩
  exact⟨[],[],[],qAZ ws p,⟨1,[]⟩,rfl,⟨_,rfl,_,_,rfl,rfl,rfl⟩,trivial,by rw [<- hR];exact⟨rfl,rfl⟩⟩
 rw [h3] at hq hR
 obtain⟨q3l,rfl,rfl⟩:=hq
 refine⟨rfl,_,⟨3,(0,psO ws q3)::[(2,dO 3 0 nm [] .nils .nils),(1,zd)]⟩,rfl,rfl,?_⟩
 simp only [qAG] at hR
 rw [<- qBE] at hR
 refine(qAm ws q3 [tRB] hl q3l (by simp) (by simp)).holds.useT [3] [] rfl (sk) ⟨_,_,rfl,⟨rfl,rfl⟩,_,_,rfl,⟨_,rfl,by decide,rfl⟩,rfl⟩ fun e0 H0 hq=>?_
 rcases h4:qAw ws [tRB] q3 with p | ⟨u4,q4⟩
 ·rw [h4] at hq hR
  obtain⟨rfl,rfl⟩:=hq
  refine⟨rfl,_,_,rfl,rfl,?_⟩
  exact⟨[],[],[],qAZ ws p,⟨1,[]⟩,rfl,⟨_,rfl,_,_,rfl,rfl,rfl⟩,trivial,by rw [<- hR];exact⟨rfl,rfl⟩⟩
 rw [h4] at hq hR
 obtain⟨q4l,rfl,rfl⟩:=hq
 refine⟨rfl,_,⟨4,(0,psO ws q4)::[(3,sO [tRB]),(2,dO 3 0 nm pl .nils .nils),(1,zd)]⟩,rfl,rfl,?_⟩
 simp only [qAG] at hR
 rw [qCD] at hR
 rw [<- qBE] at hR
 refine(qAm ws q4 [qAq] hl q4l (by simp) (by simp)).holds.useT [4] [] rfl (sk) ⟨_,_,rfl,⟨rfl,rfl⟩,_,_,rfl,⟨_,rfl,by decide,rfl⟩,rfl⟩ fun e0 H0 hq=>?_
 rcases h5:qAw ws [qAq] q4 with p | ⟨u5,q5⟩
 ·rw [h5] at hq hR
  obtain⟨rfl,rfl⟩:=hq
  refine⟨rfl,_,_,rfl,rfl,?_⟩
  exact⟨[],[],[],qAZ ws p,⟨1,[]⟩,rfl,⟨_,rfl,_,_,rfl,rfl,rfl⟩,trivial,by rw [<- hR];exact⟨rfl,rfl⟩⟩
 rw [h5] at hq hR
 obtain⟨q5l,rfl,rfl⟩:=hq
 refine⟨rfl,_,⟨5,(0,psO ws q5)::[(4,sO [qAq]),(3,sO [tRB]),(2,dO 3 0 nm pl .nils .nils),(1,zd)]⟩,rfl,rfl,?_⟩
 simp only [qAG] at hR
 refine(qBx ws q5 hg q5l).holds.useT [] [] rfl (sk) (sk) fun e0 H0 hq=>?_
 rcases h6:qCw ws q5 with p | ⟨n,q6⟩
 ·rw [h6] at hq hR
  obtain⟨rfl,rfl⟩:=hq
  refine⟨rfl,_,_,rfl,rfl,?_⟩
  exact⟨[],[],[],qAZ ws p,⟨1,[]⟩,rfl,⟨_,rfl,_,_,rfl,rfl,rfl⟩,trivial,by rw [<- hR];exact⟨rfl,rfl⟩⟩
 rw [h6] at hq hR
 obtain⟨q6l,rfl,rfl⟩:=hq
 refine⟨rfl,_,⟨5,(0,psO ws q6)::[(4,sO [qAq]),(3,sO [tRB]),(2,dO 3 0 nm pl .nils .nils),(1,zd)]⟩,rfl,rfl,?_⟩
 simp only [qAG] at hR
 refine(qNa ws F q6 qAg (by decide) (by omega) hg q6l).holds.useT [] [] rfl (sk) (sk) fun e0 H0 hq=>?_
 rcases h7:qE6 ws F qAg q6 with p | ⟨l,q7⟩
 ·rw [h7] at hq hR
  obtain⟨rfl,rfl⟩:=hq
  refine⟨rfl,_,_,rfl,rfl,?_⟩
  exact⟨[],[],[],qAZ ws p,⟨1,[]⟩,rfl,⟨_,rfl,_,_,rfl,rfl,rfl⟩,trivial,by rw [<- hR];exact⟨rfl,rfl⟩⟩
 rw [h7] at hq hR
 obtain⟨q7l,rfl,rfl⟩:=hq
 refine⟨rfl,_,⟨5,(0,psO ws q7)::[(4,sO [qAq]),(3,sO [tRB]),(2,dO 3 n nm pl .nils .nils),(1,zd)]⟩,rfl,rfl,?_⟩
 simp only [qAG] at hR
 rw [<- qBE] at hR
 refine(qAm ws q7 [tEq] hl q7l (by simp) (by simp)).holds.useT [5] [] rfl (sk) ⟨_,_,rfl,⟨rfl,rfl⟩,_,_,rfl,⟨_,rfl,by decide,rfl⟩,rfl⟩ fun e0 H0 hq=>?_
 rcases h8:qAw ws [tEq] q7 with p | ⟨u8,q8⟩
 ·rw [h8] at hq hR
  obtain⟨rfl,rfl⟩:=hq
  refine⟨rfl,_,_,rfl,rfl,?_⟩
  exact⟨[],[],[],qAZ ws p,⟨1,[]⟩,rfl,⟨_,rfl,_,_,rfl,rfl,rfl⟩,trivial,by rw [<- hR];exact⟨rfl,rfl⟩⟩
 rw [h8] at hq hR
 obtain⟨q8l,rfl,rfl⟩:=hq
 refine⟨rfl,_,⟨6,(0,psO ws q8)::[(5,sO [tEq]),(4,sO [qAq]),(3,sO [tRB]),(2,dO 3 n nm pl (qBw l) .nils),(1,zd)]⟩,rfl,rfl,?_⟩
 simp only [qAG] at hR
 refine(qP4 ws F q8 hF hg q8l).holds.useT [] [] rfl (sk) (sk) fun e0 H0 hq=>?_
 rcases h9:qGU ws F q8 with p | ⟨cs,q9⟩
 ·rw [h9] at hq hR
  obtain⟨rfl,rfl⟩:=hq
  refine⟨rfl,_,_,rfl,rfl,?_⟩
  exact⟨[],[],[],qAZ ws p,⟨1,[]⟩,rfl,⟨_,rfl,_,_,rfl,rfl,rfl⟩,trivial,by rw [<- hR];exact⟨rfl,rfl⟩⟩
 rw [h9] at hq hR
 obtain⟨q9l,rfl,rfl⟩:=hq
 refine⟨rfl,_,⟨6,(0,psO ws q9)::[(5,sO [tEq]),(4,sO [qAq]),(3,sO [tRB]),(2,dO 3 n nm pl (qBw l) .nils),(1,zd)]⟩,rfl,rfl,?_⟩
 simp only [qAG] at hR
 exact⟨[],[],[], .returned (.p (.agg [i64 3,i64 n, .str nm, .str pl,qBw l,css cs])),psH ws q9,rfl,sk,sk,by rw [<- hR];exact⟨q9l,⟨_,rfl,qJD (NilD.refl _) (NilD.refl _)⟩,rfl⟩⟩
theorem qL6 {ws:List Wd} {F:Nat} {key:List UInt8} {q q':Nat} {l:List Rf} (h:qE6 ws F key q=.inr (l,q')):q<=q':=by
 rw [qE6] at h
 split at h
 ·have:=qQt (fun q a q' h=>qG6 h) h;omega
 ·injection h with h;injection h with h1 h2;omega
theorem qOI {ws:List Wd} {F:Nat}:∀ (f:Nat) {acc l:List Cs} {q q':Nat},qDV ws F f acc q=.inr (l,q')->q<q'
 | 0,_,_,_,_,h=>by cases h
 | f+1,acc,l,q,q',h=>by
  rw [qDV] at h
  split at h
  ·rw [qGV] at h
   obtain⟨u,q1,h1,h⟩:=then_ok h
   have:=qAr h1
   obtain⟨l1,q2,h2,h⟩:=then_ok h
   have:=qKA h2
   obtain⟨u3,q3,h3,h⟩:=then_ok h
   have:=qAr h3
   injection h with h;injection h with h1 h2;omega
  ·obtain⟨c,q1,h1,h⟩:=then_ok h
   have:=qMn F h1
   obtain⟨u2,q2,h2,h⟩:=then_ok h
   have:=qAr h2
   obtain⟨l3,q3,h3,h⟩:=then_ok h
   have:=qKA h3
   obtain⟨u4,q4,h4,h⟩:=then_ok h
   have:=qAr h4
   have:=qOI f h
   omega
theorem qP3 {ws:List Wd} {F q q':Nat} {l:List Cs} (h:qGU ws F q=.inr (l,q')):q<q':=by
 rw [qGU] at h
 obtain⟨u,q1,h1,h⟩:=then_ok h
 have:=qAr h1
 have:=qOI F h
 omega
theorem qNo {ws:List Wd} {F q q':Nat} {nm pl:List UInt8} {d:De} (h:qCD ws F nm pl q=.inr (d,q')):q<q':=by
 rw [qCD] at h
 obtain⟨u1,q1,h1,h⟩:=then_ok h
 have:=qAr h1
 obtain⟨n,q2,h2,h⟩:=then_ok h
 have:=qCW h2
 obtain⟨l,q3,h3,h⟩:=then_ok h
 have:=qL6 h3
 obtain⟨u4,q4,h4,h⟩:=then_ok h
 have:=qAr h4
 obtain⟨cs,q5,h5,h⟩:=then_ok h
 have:=qP3 h5
 injection h with h;injection h with h1 h2;omega
theorem qGp {ws:List Wd} {F q q':Nat} {d:De} (h:qCL ws F q=.inr (d,q')):q<q':=by
 rw [qCL] at h
 split at h
 ·rw [qGB] at h
  obtain⟨n,q1,h1,h⟩:=then_ok h
  have:=qCW h1
  injection h with h;injection h with h1 h2;omega
 split at h
 ·rw [qF1] at h
  obtain⟨nm,q1,h1,h⟩:=then_ok h
  have:=qFX h1
  obtain⟨u,q2,h2,h⟩:=then_ok h
  have:=qAr h2
  obtain⟨n,q3,h3,h⟩:=then_ok h
  have:=qCW h3
  injection h with h;injection h with h1 h2;omega
 split at h
 ·rw [qKB] at h
  obtain⟨nm,q1,h1,h⟩:=then_ok h
  have:=qFX h1
  try simp only [] at h
  split at h
  ·obtain⟨pl,q2,h2,h⟩:=then_ok h
   have:=qFX h2
   obtain⟨u,q3,h3,h⟩:=then_ok h
   have:=qAr h3
   have:=qNo h
   omega
  ·have:=qNo h
   omega
 split at h
 ·rw [qEF] at h
  obtain⟨nm,q1,h1,h⟩:=then_ok h
  have:=qFX h1
  obtain⟨u,q2,h2,h⟩:=then_ok h
  have:=qAr h2
  obtain⟨n,q3,h3,h⟩:=then_ok h
  have:=qCW h3
  obtain⟨l,q4,h4,h⟩:=then_ok h
  have:=qL6 h4
  injection h with h;injection h with h1 h2;omega
 split at h
 ·rw [qKJ] at h
  obtain⟨l,q1,h1,h⟩:=then_ok h
  have:=qL6 h1
  obtain⟨u,q2,h2,h⟩:=then_ok h
  have:=qAr h2
  obtain⟨cs,q3,h3,h⟩:=then_ok h
  have:=qP3 h3
  injection h with h;injection h with h1 h2;omega
 ·cases h
abbrev fnP (g:FuncId):PV:=.fn (.func g) [] []
def qUU:List (List UInt8 × PV):=[(qCN,fnP 88),(qCM,fnP 89),(qAl,fnP 90),(qBM,fnP 91),(qBu,fnP 92)]
def mpO:AObj:=⟨181,false, .ms qUU⟩
def srO (v:AV):AObj:=⟨24,false, .bx [v]⟩
def qMk (l:List De):AObj:=⟨qIf,false, .pus (l.map De.cells)⟩
def deO (d:De):AObj:=⟨qIf,false, .bx (d.cells.map .p)⟩
abbrev prH (ws:List Wd) (acc:List De) (q:Nat):Hp:=⟨5,[(4,qMk acc),(3,srO (.sl 4 6 0 acc.length)),(2,mpO),(1,srO (.p .nils)),(0,psO ws q)]⟩
theorem qUu {a:List UInt8} (h1:¬ a=qCN) (h2:¬ a=qCM) (h3:¬ a=qAl) (h4:¬ a=qBM) (h5:¬ a=qBu):qGn qUU a=none:=by
 simp only [qUU,qGn,decide_eq_false h1,decide_eq_false h2,decide_eq_false h3,decide_eq_false h4,decide_eq_false h5]
theorem qQR (ws:List Wd) (F q0:Nat) (hF:4 * ws.length+8<=F) (hg:GoodW ws) (hq0:q0<=ws.length):HoldsG cx 55 [.ptr 0 0 0] (psH ws q0) (rdQ ws (qDL ws F F [] q0) fun l=>.p (qCT l)):=by
 generalize hR:qDL ws F F [] q0=R
 refine qAA Tryz.func55 rfl rfl rfl ?_
 have hl:=hg.len
 have hl':(ws.map Wd.cells).length=ws.length:=List.length_map ..
 refine⟨_,rfl,_,rfl,_,rfl,_,rfl,_,rfl,?_⟩
 refine⟨List De × Nat,fun x=>[(0, .ptr 0 0 0),(2, .ptr 1 0 0),(3, .mp 2),(4, .ptr 3 0 0)],fun x=>prH ws x.1 x.2,fun x=>x.2<=ws.length/\x.1.length<=x.2/\LI R (fun f=>qDL ws F f x.1 x.2) (ws.length - x.2),fun x=>ws.length - x.2,?_,?_⟩
 ·exact⟨([],q0),⟨hq0,by simp,⟨F,by simp only [];omega,hR.symm⟩⟩,qAC [] [] [(4,6)] rfl (sk) (sk) rfl⟩
 rintro⟨acc,q⟩ ⟨k1,k2,k3⟩
 simp only [] at k1 k2 k3
 refine VDraw.seq rfl ?_
 obtain⟨f,hf,k3⟩:=k3
 obtain⟨f,rfl⟩:∃ g,f=g+1:=⟨f - 1,by omega⟩
 simp only [] at k3
 rw [qDL] at k3
 refine QAD (fun c0=>?_) (fun c0=>?_)
 rotate_left
 ·have c0:¬ (q:Int)<((ws.map Wd.cells).length:Nat):=c0
  rw [hl'] at c0
  rw [if_neg (by omega)] at k3
  exact⟨[4],[],[], .returned (.p (qCT acc)),psH ws q,rfl,⟨_,rfl,⟨_,rfl,_,_,rfl,⟨_,rfl,by show 0+acc.length<=(acc.map De.cells).length;simp,qAD (by simp)⟩,rfl⟩⟩,sk,by rw [k3];exact⟨k1,rfl,rfl⟩⟩
 have c0:(q:Int)<((ws.map Wd.cells).length:Nat):=c0
 rw [hl'] at c0
 rw [if_pos (by omega)] at k3
 have hR:=k3.symm
 clear k3
 refine(qNG ws q hl k1).holds.useT [] [] rfl (sk) (sk) fun e0 H0 hq=>?_
 obtain⟨rfl,rfl⟩:=hq
 refine⟨rfl,_,⟨5,(0,psO ws q)::[(4,qMk acc),(3,srO (.sl 4 6 0 acc.length)),(2,mpO),(1,srO (.p .nils))]⟩,rfl,rfl,?_⟩
 by_cases c:txt ws q=qCN
 ·have hdl:qCL ws F q=qGB ws (q+1):=by rw [qCL,if_pos c]
  rw [hdl] at hR
  have ql:q+1<=ws.length:=qAi (by rw [c];decide)
  have hR:((qGB ws) (q+1)).then _=R:=hR
  refine⟨_, .inl ⟨_,by rw [c];rfl,rfl⟩,?_⟩
  refine⟨_,w6z,?_⟩
  refine((qU1 ws F hF hg) (q+1) ql).holds.useT [] [] rfl (sk) (sk) fun e0 H0 hq=>?_
  rcases h1:(qGB ws) (q+1) with p | ⟨d,q2⟩
  ·rw [h1] at hq hR
   obtain⟨rfl,rfl⟩:=hq
   refine⟨rfl,_,_,rfl,rfl,?_⟩
   exact⟨[],[],[],qAZ ws p,⟨1,[]⟩,rfl,⟨_,rfl,_,_,rfl,rfl,rfl⟩,trivial,by rw [<- hR];exact⟨rfl,rfl⟩⟩
  rw [h1] at hq hR hdl
  have hlt:=qGp hdl
  obtain⟨q2l,rfl,rfl⟩:=hq
  refine⟨rfl,_,⟨5,(0,psO ws q2)::[(4,qMk acc),(3,srO (.sl 4 6 0 acc.length)),(2,mpO),(1,srO (.p .nils))]⟩,rfl,rfl,?_⟩
  simp only [qAG] at hR
  rw [<- qBE] at hR
  refine(qAm ws q2 [qAY] hl q2l (by simp) (by simp)).holds.useT [6] [] rfl (sk) ⟨_,_,rfl,⟨rfl,rfl⟩,_,_,rfl,⟨_,rfl,by decide,rfl⟩,rfl⟩ fun e0 H0 hq=>?_
  rcases h2:qAw ws [qAY] q2 with p | ⟨u2,q3⟩
  ·rw [h2] at hq hR
   obtain⟨rfl,rfl⟩:=hq
   refine⟨rfl,_,_,rfl,rfl,?_⟩
   exact⟨[],[],[],qAZ ws p,⟨1,[]⟩,rfl,⟨_,rfl,_,_,rfl,rfl,rfl⟩,trivial,by rw [<- hR];exact⟨rfl,rfl⟩⟩
  rw [h2] at hq hR
  obtain⟨q3l,rfl,rfl⟩:=hq
  refine⟨rfl,_,⟨7,(0,psO ws q3)::[(6,sO [qAY]),(5,deO d),(4,qMk acc),(3,srO (.sl 4 6 0 acc.length)),(2,mpO),(1,srO (.p .nils))]⟩,rfl,rfl,?_⟩
  simp only [qAG] at hR
  have hlt2:=qAr (ws:=ws) (s:=qAY) (q:=q2) (q':=q3) (u:=u2) (by rw [<- qBE];exact h2)
  refine⟨by show 0+1<=1;omega,[d.cells],rfl,?_⟩
  refine⟨by show 0+acc.length<=(acc.map De.cells).length;simp,acc.map De.cells,qAD (by simp),by show(acc.length+1) * 96<=140737488355328;omega,(acc++[d]).map De.cells,by simp,?_⟩
  exact⟨(acc++[d],q3),⟨q3l,by simp only [qAK];omega,⟨f,by simp only [];omega,hR.symm⟩⟩,qAC [] [(4,8)] [] rfl (sk) ⟨⟨_,rfl,rfl,rfl,rfl⟩,⟨_,rfl,rfl,rfl,_,rfl,_,_,rfl,congrArg (fun k:Nat=>AV.sl 8 6 0 k) (qAK acc d).symm,rfl⟩,sk⟩ rfl,by show ws.length - q3<ws.length - q;omega⟩
 have d1:=c
 clear c
 by_cases c:txt ws q=qCM
 ·have hdl:qCL ws F q=qF1 ws (q+1):=by rw [qCL,if_neg d1,if_pos c]
  rw [hdl] at hR
  have ql:q+1<=ws.length:=qAi (by rw [c];decide)
  have hR:((qF1 ws) (q+1)).then _=R:=hR
  refine⟨_, .inl ⟨_,by rw [c];rfl,rfl⟩,?_⟩
  refine⟨_,w6z,?_⟩
  refine((qUd ws F hF hg) (q+1) ql).holds.useT [] [] rfl (sk) (sk) fun e0 H0 hq=>?_
  rcases h1:(qF1 ws) (q+1) with p | ⟨d,q2⟩
  ·rw [h1] at hq hR
   obtain⟨rfl,rfl⟩:=hq
   refine⟨rfl,_,_,rfl,rfl,?_⟩
   exact⟨[],[],[],qAZ ws p,⟨1,[]⟩,rfl,⟨_,rfl,_,_,rfl,rfl,rfl⟩,trivial,by rw [<- hR];exact⟨rfl,rfl⟩⟩
  rw [h1] at hq hR hdl
  have hlt:=qGp hdl
  obtain⟨q2l,rfl,rfl⟩:=hq
  refine⟨rfl,_,⟨5,(0,psO ws q2)::[(4,qMk acc),(3,srO (.sl 4 6 0 acc.length)),(2,mpO),(1,srO (.p .nils))]⟩,rfl,rfl,?_⟩
  simp only [qAG] at hR
  rw [<- qBE] at hR
  refine(qAm ws q2 [qAY] hl q2l (by simp) (by simp)).holds.useT [6] [] rfl (sk) ⟨_,_,rfl,⟨rfl,rfl⟩,_,_,rfl,⟨_,rfl,by decide,rfl⟩,rfl⟩ fun e0 H0 hq=>?_
  rcases h2:qAw ws [qAY] q2 with p | ⟨u2,q3⟩
  ·rw [h2] at hq hR
   obtain⟨rfl,rfl⟩:=hq
   refine⟨rfl,_,_,rfl,rfl,?_⟩
   exact⟨[],[],[],qAZ ws p,⟨1,[]⟩,rfl,⟨_,rfl,_,_,rfl,rfl,rfl⟩,trivial,by rw [<- hR];exact⟨rfl,rfl⟩⟩
  rw [h2] at hq hR
  obtain⟨q3l,rfl,rfl⟩:=hq
  refine⟨rfl,_,⟨7,(0,psO ws q3)::[(6,sO [qAY]),(5,deO d),(4,qMk acc),(3,srO (.sl 4 6 0 acc.length)),(2,mpO),(1,srO (.p .nils))]⟩,rfl,rfl,?_⟩
  simp only [qAG] at hR
  have hlt2:=qAr (ws:=ws) (s:=qAY) (q:=q2) (q':=q3) (u:=u2) (by rw [<- qBE];exact h2)
  refine⟨by show 0+1<=1;omega,[d.cells],rfl,?_⟩
  refine⟨by show 0+acc.length<=(acc.map De.cells).length;simp,acc.map De.cells,qAD (by simp),by show(acc.length+1) * 96<=140737488355328;omega,(acc++[d]).map De.cells,by simp,?_⟩
  exact⟨(acc++[d],q3),⟨q3l,by simp only [qAK];omega,⟨f,by simp only [];omega,hR.symm⟩⟩,qAC [] [(4,8)] [] rfl (sk) ⟨⟨_,rfl,rfl,rfl,rfl⟩,⟨_,rfl,rfl,rfl,_,rfl,_,_,rfl,congrArg (fun k:Nat=>AV.sl 8 6 0 k) (qAK acc d).symm,rfl⟩,sk⟩ rfl,by show ws.length - q3<ws.length - q;omega⟩
 have d2:=c
 clear c
 by_cases c:txt ws q=qAl
 ·have hdl:qCL ws F q=qKB ws F (q+1):=by rw [qCL,if_neg d1,if_neg d2,if_pos c]
  rw [hdl] at hR
  have ql:q+1<=ws.length:=qAi (by rw [c];decide)
  have hR:((qKB ws F) (q+1)).then _=R:=hR
  refine⟨_, .inl ⟨_,by rw [c];rfl,rfl⟩,?_⟩
  refine⟨_,w6z,?_⟩
  refine((qWS ws F hF hg) (q+1) ql).holds.useT [] [] rfl (sk) (sk) fun e0 H0 hq=>?_
  rcases h1:(qKB ws F) (q+1) with p | ⟨d,q2⟩
  ·rw [h1] at hq hR
   obtain⟨rfl,rfl⟩:=hq
   refine⟨rfl,_,_,rfl,rfl,?_⟩
   exact⟨[],[],[],qAZ ws p,⟨1,[]⟩,rfl,⟨_,rfl,_,_,rfl,rfl,rfl⟩,trivial,by rw [<- hR];exact⟨rfl,rfl⟩⟩
  rw [h1] at hq hR hdl
  have hlt:=qGp hdl
  obtain⟨q2l,rfl,rfl⟩:=hq
  refine⟨rfl,_,⟨5,(0,psO ws q2)::[(4,qMk acc),(3,srO (.sl 4 6 0 acc.length)),(2,mpO),(1,srO (.p .nils))]⟩,rfl,rfl,?_⟩
  simp only [qAG] at hR
  rw [<- qBE] at hR
  refine(qAm ws q2 [qAY] hl q2l (by simp) (by simp)).holds.useT [6] [] rfl (sk) ⟨_,_,rfl,⟨rfl,rfl⟩,_,_,rfl,⟨_,rfl,by decide,rfl⟩,rfl⟩ fun e0 H0 hq=>?_
  rcases h2:qAw ws [qAY] q2 with p | ⟨u2,q3⟩
  ·rw [h2] at hq hR
   obtain⟨rfl,rfl⟩:=hq
   refine⟨rfl,_,_,rfl,rfl,?_⟩
   exact⟨[],[],[],qAZ ws p,⟨1,[]⟩,rfl,⟨_,rfl,_,_,rfl,rfl,rfl⟩,trivial,by rw [<- hR];exact⟨rfl,rfl⟩⟩
  rw [h2] at hq hR
  obtain⟨q3l,rfl,rfl⟩:=hq
  refine⟨rfl,_,⟨7,(0,psO ws q3)::[(6,sO [qAY]),(5,deO d),(4,qMk acc),(3,srO (.sl 4 6 0 acc.length)),(2,mpO),(1,srO (.p .nils))]⟩,rfl,rfl,?_⟩
  simp only [qAG] at hR
  have hlt2:=qAr (ws:=ws) (s:=qAY) (q:=q2) (q':=q3) (u:=u2) (by rw [<- qBE];exact h2)
  refine⟨by show 0+1<=1;omega,[d.cells],rfl,?_⟩
  refine⟨by show 0+acc.length<=(acc.map De.cells).length;simp,acc.map De.cells,qAD (by simp),by show(acc.length+1) * 96<=140737488355328;omega,(acc++[d]).map De.cells,by simp,?_⟩
  exact⟨(acc++[d],q3),⟨q3l,by simp only [qAK];omega,⟨f,by simp only [];omega,hR.symm⟩⟩,qAC [] [(4,8)] [] rfl (sk) ⟨⟨_,rfl,rfl,rfl,rfl⟩,⟨_,rfl,rfl,rfl,_,rfl,_,_,rfl,congrArg (fun k:Nat=>AV.sl 8 6 0 k) (qAK acc d).symm,rfl⟩,sk⟩ rfl,by show ws.length - q3<ws.length - q;omega⟩
 have d3:=c
 clear c
 by_cases c:txt ws q=qBM
 ·have hdl:qCL ws F q=qEF ws F (q+1):=by rw [qCL,if_neg d1,if_neg d2,if_neg d3,if_pos c]
  rw [hdl] at hR
  have ql:q+1<=ws.length:=qAi (by rw [c];decide)
  have hR:((qEF ws F) (q+1)).then _=R:=hR
  refine⟨_, .inl ⟨_,by rw [c];rfl,rfl⟩,?_⟩
  refine⟨_,w6z,?_⟩
  refine((qS6 ws F hF hg) (q+1) ql).holds.useT [] [] rfl (sk) (sk) fun e0 H0 hq=>?_
  rcases h1:(qEF ws F) (q+1) with p | ⟨d,q2⟩
  ·rw [h1] at hq hR
   obtain⟨rfl,rfl⟩:=hq
   refine⟨rfl,_,_,rfl,rfl,?_⟩
   exact⟨[],[],[],qAZ ws p,⟨1,[]⟩,rfl,⟨_,rfl,_,_,rfl,rfl,rfl⟩,trivial,by rw [<- hR];exact⟨rfl,rfl⟩⟩
  rw [h1] at hq hR hdl
  have hlt:=qGp hdl
  obtain⟨q2l,rfl,rfl⟩:=hq
  refine⟨rfl,_,⟨5,(0,psO ws q2)::[(4,qMk acc),(3,srO (.sl 4 6 0 acc.length)),(2,mpO),(1,srO (.p .nils))]⟩,rfl,rfl,?_⟩
  simp only [qAG] at hR
  rw [<- qBE] at hR
  refine(qAm ws q2 [qAY] hl q2l (by simp) (by simp)).holds.useT [6] [] rfl (sk) ⟨_,_,rfl,⟨rfl,rfl⟩,_,_,rfl,⟨_,rfl,by decide,rfl⟩,rfl⟩ fun e0 H0 hq=>?_
  rcases h2:qAw ws [qAY] q2 with p | ⟨u2,q3⟩
  ·rw [h2] at hq hR
   obtain⟨rfl,rfl⟩:=hq
   refine⟨rfl,_,_,rfl,rfl,?_⟩
   exact⟨[],[],[],qAZ ws p,⟨1,[]⟩,rfl,⟨_,rfl,_,_,rfl,rfl,rfl⟩,trivial,by rw [<- hR];exact⟨rfl,rfl⟩⟩
  rw [h2] at hq hR
  obtain⟨q3l,rfl,rfl⟩:=hq
  refine⟨rfl,_,⟨7,(0,psO ws q3)::[(6,sO [qAY]),(5,deO d),(4,qMk acc),(3,srO (.sl 4 6 0 acc.length)),(2,mpO),(1,srO (.p .nils))]⟩,rfl,rfl,?_⟩
  simp only [qAG] at hR
  have hlt2:=qAr (ws:=ws) (s:=qAY) (q:=q2) (q':=q3) (u:=u2) (by rw [<- qBE];exact h2)
  refine⟨by show 0+1<=1;omega,[d.cells],rfl,?_⟩
  refine⟨by show 0+acc.length<=(acc.map De.cells).length;simp,acc.map De.cells,qAD (by simp),by show(acc.length+1) * 96<=140737488355328;omega,(acc++[d]).map De.cells,by simp,?_⟩
  exact⟨(acc++[d],q3),⟨q3l,by simp only [qAK];omega,⟨f,by simp only [];omega,hR.symm⟩⟩,qAC [] [(4,8)] [] rfl (sk) ⟨⟨_,rfl,rfl,rfl,rfl⟩,⟨_,rfl,rfl,rfl,_,rfl,_,_,rfl,congrArg (fun k:Nat=>AV.sl 8 6 0 k) (qAK acc d).symm,rfl⟩,sk⟩ rfl,by show ws.length - q3<ws.length - q;omega⟩
 have d4:=c
 clear c
 by_cases c:txt ws q=qBu
 ·have hdl:qCL ws F q=qKJ ws F (q+1):=by rw [qCL,if_neg d1,if_neg d2,if_neg d3,if_neg d4,if_pos c]
  rw [hdl] at hR
  have ql:q+1<=ws.length:=qAi (by rw [c];decide)
  have hR:((qKJ ws F) (q+1)).then _=R:=hR
  refine⟨_, .inl ⟨_,by rw [c];rfl,rfl⟩,?_⟩
  refine⟨_,w6z,?_⟩
  refine((qWn ws F hF hg) (q+1) ql).holds.useT [] [] rfl (sk) (sk) fun e0 H0 hq=>?_
  rcases h1:(qKJ ws F) (q+1) with p | ⟨d,q2⟩
  ·rw [h1] at hq hR
   obtain⟨rfl,rfl⟩:=hq
   refine⟨rfl,_,_,rfl,rfl,?_⟩
   exact⟨[],[],[],qAZ ws p,⟨1,[]⟩,rfl,⟨_,rfl,_,_,rfl,rfl,rfl⟩,trivial,by rw [<- hR];exact⟨rfl,rfl⟩⟩
  rw [h1] at hq hR hdl
  have hlt:=qGp hdl
  obtain⟨q2l,rfl,rfl⟩:=hq
  refine⟨rfl,_,⟨5,(0,psO ws q2)::[(4,qMk acc),(3,srO (.sl 4 6 0 acc.length)),(2,mpO),(1,srO (.p .nils))]⟩,rfl,rfl,?_⟩
  simp only [qAG] at hR
  rw [<- qBE] at hR
  refine(qAm ws q2 [qAY] hl q2l (by simp) (by simp)).holds.useT [6] [] rfl (sk) ⟨_,_,rfl,⟨rfl,rfl⟩,_,_,rfl,⟨_,rfl,by decide,rfl⟩,rfl⟩ fun e0 H0 hq=>?_
  rcases h2:qAw ws [qAY] q2 with p | ⟨u2,q3⟩
  ·rw [h2] at hq hR
   obtain⟨rfl,rfl⟩:=hq
   refine⟨rfl,_,_,rfl,rfl,?_⟩
   exact⟨[],[],[],qAZ ws p,⟨1,[]⟩,rfl,⟨_,rfl,_,_,rfl,rfl,rfl⟩,trivial,by rw [<- hR];exact⟨rfl,rfl⟩⟩
  rw [h2] at hq hR
  obtain⟨q3l,rfl,rfl⟩:=hq
  refine⟨rfl,_,⟨7,(0,psO ws q3)::[(6,sO [qAY]),(5,deO d),(4,qMk acc),(3,srO (.sl 4 6 0 acc.length)),(2,mpO),(1,srO (.p .nils))]⟩,rfl,rfl,?_⟩
  simp only [qAG] at hR
  have hlt2:=qAr (ws:=ws) (s:=qAY) (q:=q2) (q':=q3) (u:=u2) (by rw [<- qBE];exact h2)
  refine⟨by show 0+1<=1;omega,[d.cells],rfl,?_⟩
  refine⟨by show 0+acc.length<=(acc.map De.cells).length;simp,acc.map De.cells,qAD (by simp),by show(acc.length+1) * 96<=140737488355328;omega,(acc++[d]).map De.cells,by simp,?_⟩
  exact⟨(acc++[d],q3),⟨q3l,by simp only [qAK];omega,⟨f,by simp only [];omega,hR.symm⟩⟩,qAC [] [(4,8)] [] rfl (sk) ⟨⟨_,rfl,rfl,rfl,rfl⟩,⟨_,rfl,rfl,rfl,_,rfl,_,_,rfl,congrArg (fun k:Nat=>AV.sl 8 6 0 k) (qAK acc d).symm,rfl⟩,sk⟩ rfl,by show ws.length - q3<ws.length - q;omega⟩
 have hdl:qCL ws F q=.inl q:=by rw [qCL,if_neg d1,if_neg d2,if_neg d3,if_neg d4,if_neg c]
 rw [hdl] at hR
 refine⟨_, .inr ⟨qUu d1 d2 d3 d4 c,rfl⟩,?_⟩
 refine(qLO ws q hl k1).holds.useT [] [] rfl (sk) (sk) fun e0 H0 hq=>?_
 obtain⟨rfl,rfl⟩:=hq
 refine⟨rfl,_,⟨5,(0,psO ws q)::[(4,qMk acc),(3,srO (.sl 4 6 0 acc.length)),(2,mpO),(1,srO (.p .nils))]⟩,rfl,rfl,?_⟩
 exact⟨[],[],[],qAZ ws q,⟨1,[]⟩,rfl,⟨_,rfl,_,_,rfl,rfl,rfl⟩,trivial,by rw [<- hR];exact⟨rfl,rfl⟩⟩
abbrev TB:TypeId:=106
def au:Bool->AV
 | true=>.ptr 0 0 0
 | false=>.p .nilp
theorem qOw {v:AV} {H:Hp} {Q:AE->Hp->Prop} (hQ:Q (.returned v) H):Holds cx 151 [v] H Q:=by
 intro Γ w args' hR hA
 simp only [VRL] at hA
 obtain⟨u,us,rfl,hu,rfl⟩:=hA
 refine .inr ⟨u,w,?_,_,_,Γ,hQ,⟨u,rfl,hu⟩,Later.refl hR _ (Nat.le_refl _)⟩
 show(callFunc 151 #[u]).run Tryz.prog w=_
 rw [run_callFunc_extern Tryz.func151 (by kernel_rfl) (by kernel_rfl) (by kernel_rfl) (e:=Extern.AbiNoEscape.same) (by kernel_rfl)]
 rfl
theorem qTN (xs:List UInt8):xs.map ub=((xs.map ub).drop 0).take xs.length:=by rw [List.drop_zero,List.take_of_length_le (by simp)]
def checkN (w:Wd):Bool:=decide (1<=w.line) && (decide (w.line<=8000) && (decide (1<=w.col) && (decide (w.col<=8000) && qAk w.kind w.text)))
def qHD (w:Wd):Int:=if checkN w then 0 else 370
theorem qVP (w:Wd) (ht:w.text.length<=9223372036854775807):Pure cx 126 [.agg w.cells] (·=.ret [i64 (qHD w)]):=by
 refine qAB Tryz.func126 rfl rfl rfl ?_
 have bad:checkN w=false->PEnd.ret [i64 370]=.ret [i64 (qHD w)]:=fun h=>by rw [qHD,h];rfl
 refine And.intro (fun h1=>?_) (fun h1=>?_)
 ·have h1:w.line<1:=h1
  exact qAF _ rfl rfl (bad (by simp [checkN];omega))
 ·have h1:¬ w.line<1:=h1
  refine And.intro (fun h2=>?_) (fun h2=>?_)
  ·have h2:8000<w.line:=h2
   exact qAF _ rfl rfl (bad (by simp [checkN];omega))
  ·have h2:¬ 8000<w.line:=h2
   refine And.intro (fun h3=>?_) (fun h3=>?_)
   ·have h3:w.col<1:=h3
    exact qAF _ rfl rfl (bad (by simp [checkN];omega))
   ·have h3:¬ w.col<1:=h3
    refine And.intro (fun h4=>?_) (fun h4=>?_)
    ·have h4:8000<w.col:=h4
     exact qAF _ rfl rfl (bad (by simp [checkN];omega))
    ·have h4:¬ 8000<w.col:=h4
     have hP:=qD1 w.kind w.text ht
     by_cases hr:qAk w.kind w.text=true
     ·rw [hr] at hP
      refine hP.eq rfl ?_
      refine qAF _ rfl rfl ?_
      rw [qHD,if_pos (by simp [checkN,hr];omega)]
     ·rw [Bool.not_eq_true] at hr
      rw [hr] at hP
      refine hP.eq rfl ?_
      exact qAF _ rfl rfl (bad (by simp [checkN,hr]))
def qBm (n:Int):Bool:=decide (0<=n) && decide (n<=9999)
def qBp (r:Rf):Bool:=qAo r.name && (if r.mode=0∨r.mode=3 then decide (r.plate=[]) && decide (r.n=0) else if r.mode=1 then qAo r.plate && qBm r.n else if r.mode=2 then decide (r.plate=[]) && qBm r.n else false)
def qPS (l:List Int):Nat->Nat->Bool
 | 0,_=>true
 | f+1,k=>qBm (l.getD k 0) && (decide (k=0) || decide (l.getD (k - 1) 0<l.getD k 0)) && qPS l f (k+1)
def qHO (l:List Int):Bool:=decide (1<=l.length) && decide (l.length<=8) && qPS l l.length 0
abbrev qKi (t:List UInt8):Prop:=t.length<=9223372036854775807
structure BigR (r:Rf):Prop where
 name:qKi r.name
 plate:qKi r.plate
theorem qHU (t:List UInt8) (ht:qKi t):Pure cx 81 [.str t] (·=.ret [.bool (qAo t)]):=by
 have hc:=qVP ⟨1,t,1,1⟩ ht
 refine qAB Tryz.func81 rfl rfl rfl ?_
 refine hc.eq rfl ?_
 have e:qHD ⟨1,t,1,1⟩=if qAo t then 0 else 370:=by
  simp [qHD,checkN,qAk]
 refine QAD (fun h1=>?_) (fun h1=>?_)
 ·have h1:qHD ⟨1,t,1,1⟩=0:=h1
  exact qAF _ rfl rfl (qAN (by cases hn:qAo t <;> simp_all))
 ·have h1:¬ qHD ⟨1,t,1,1⟩=0:=h1
  exact qAF _ rfl rfl (qAN (by cases hn:qAo t <;> simp_all))
theorem qEi (n:Int):Pure cx 79 [i64 n] (·=.ret [.bool (qBm n)]):=by
 refine qAB Tryz.func79 rfl rfl rfl ?_
 refine QAD (fun h1=>?_) (fun h1=>?_)
 ·have h1:(0:Int)<=n:=h1
  refine QAD (fun h2=>?_) (fun h2=>?_)
  ·have h2:n<=9999:=h2
   exact qAF _ rfl rfl (qAN (by simp [qBm,h1,h2]))
  ·have h2:¬ n<=9999:=h2
   exact qAF _ rfl rfl (qAN (by simp [qBm,h2]))
 ·have h1:¬ (0:Int)<=n:=h1
  exact qAF _ rfl rfl (qAN (by simp [qBm,h1]))
theorem qHp (r:Rf) (hr:BigR r):Pure cx 80 [r.pv] (·=.ret [.bool (qBp r)]):=by
 refine qAB Tryz.func80 rfl rfl rfl ?_
 have hN:=qHU r.name hr.name
 by_cases n1:qAo r.name=true
 rotate_left
 ·rw [Bool.not_eq_true] at n1
  rw [n1] at hN
  refine hN.eq rfl ?_
  exact qAF _ rfl rfl (qAN (by rw [qBp,n1];rfl))
 rw [n1] at hN
 refine hN.eq rfl ?_
 have hP:=qHU r.plate hr.plate
 have hA:=qEi r.n
 refine QAD (fun h1=>?_) (fun h1=>?_)
 ·have h1:r.mode=0:=h1
  refine QAD (fun h2=>?_) (fun h2=>?_)
  ·have h2:r.plate=[]:=h2
   refine QAD (fun h3=>?_) (fun h3=>?_)
   ·have h3:r.n=0:=h3
    exact qAF _ rfl rfl (qAN (by simp [qBp,n1,h1,h2,h3]))
   ·have h3:¬ r.n=0:=h3
    exact qAF _ rfl rfl (qAN (by simp [qBp,n1,h1,h2,h3]))
  ·have h2:¬ r.plate=[]:=h2
   exact qAF _ rfl rfl (qAN (by simp [qBp,n1,h1,h2]))
 have h1:¬ r.mode=0:=h1
 refine QAD (fun h4=>?_) (fun h4=>?_)
 ·have h4:r.mode=3:=h4
  refine QAD (fun h2=>?_) (fun h2=>?_)
  ·have h2:r.plate=[]:=h2
   refine QAD (fun h3=>?_) (fun h3=>?_)
   ·have h3:r.n=0:=h3
    exact qAF _ rfl rfl (qAN (by simp [qBp,n1,h4,h2,h3]))
   ·have h3:¬ r.n=0:=h3
    exact qAF _ rfl rfl (qAN (by simp [qBp,n1,h4,h2,h3]))
  ·have h2:¬ r.plate=[]:=h2
   exact qAF _ rfl rfl (qAN (by simp [qBp,n1,h4,h2]))
 have h4:¬ r.mode=3:=h4
 refine QAD (fun h5=>?_) (fun h5=>?_)
 ·have h5:r.mode=1:=h5
  by_cases n2:qAo r.plate=true
  ·rw [n2] at hP
   refine hP.eq rfl ?_
   refine hA.eq rfl ?_
   exact qAF _ rfl rfl (qAN (by simp [qBp,n1,n2,h5]))
  ·rw [Bool.not_eq_true] at n2
   rw [n2] at hP
   refine hP.eq rfl ?_
   exact qAF _ rfl rfl (qAN (by simp [qBp,n1,n2,h5]))
 have h5:¬ r.mode=1:=h5
 refine QAD (fun h6=>?_) (fun h6=>?_)
 ·have h6:r.mode=2:=h6
  refine QAD (fun h2=>?_) (fun h2=>?_)
  ·have h2:r.plate=[]:=h2
   refine hA.eq rfl ?_
   exact qAF _ rfl rfl (qAN (by simp [qBp,n1,h6,h2]))
  ·have h2:¬ r.plate=[]:=h2
   exact qAF _ rfl rfl (qAN (by simp [qBp,n1,h6,h2]))
 have h6:¬ r.mode=2:=h6
 exact qAF _ rfl rfl (qAN (by simp [qBp,h1,h4,h5,h6]))
theorem qXZ (l:List Int) (hl:l.length<=9223372036854775807):Pure cx 163 [ints l] (·=.ret [.bool (qHO l)]):=by
 refine qAB Tryz.func163 rfl rfl rfl ?_
 have hm:(l.map i64).length=l.length:=List.length_map ..
 refine QAD (fun h1=>?_) (fun h1=>?_)
 ·have h1:((l.map i64).length:Int)<1:=h1
  rw [hm] at h1
  exact qAF _ rfl rfl (qAN (by rw [qHO,decide_eq_false (by omega)];rfl))
 have h1:¬ ((l.map i64).length:Int)<1:=h1
 rw [hm] at h1
 refine QAD (fun h2=>?_) (fun h2=>?_)
 ·have h2:(8:Int)<((l.map i64).length:Nat):=h2
  rw [hm] at h2
  exact qAF _ rfl rfl (qAN (by rw [qHO,decide_eq_false (show ¬ l.length<=8 by omega),Bool.and_false];rfl))
 have h2:¬ (8:Int)<((l.map i64).length:Nat):=h2
 rw [hm] at h2
 have hB0:qHO l=qPS l (l.length - 0) 0:=by rw [qHO,decide_eq_true (show 1<=l.length by omega),decide_eq_true (show l.length<=8 by omega)];rfl
 refine⟨Nat,fun k=>[(0, .p (ints l)),(13, .p (ints l)),(14, .p (i64 l.length)),(15, .p (i64 k))],fun _=>⟨0,[]⟩,fun k=>k<=l.length/\qHO l=qPS l (l.length - k) k,fun k=>l.length - k,?_,?_⟩
 ·exact⟨0,⟨Nat.zero_le _,hB0⟩,qCA rfl ⟨rfl,rfl,congrArg (fun n:Nat=>i64 n) hm.symm,rfl,trivial⟩ trivial rfl⟩
 rintro k ⟨k1,k2⟩
 refine QAD (fun h3=>?_) (fun h3=>?_)
 rotate_left
 ·have h3:¬ (k:Int)<(l.length:Nat):=h3
  rw [show l.length - k=0 by omega,qPS] at k2
  exact qAF _ rfl rfl (qAN k2.symm)
 have h3:(k:Int)<(l.length:Nat):=h3
 have hk:k<l.length:=by omega
 obtain⟨f,hf⟩:∃ f,l.length - k=f+1:=⟨l.length - k - 1,by omega⟩
 rw [hf,qPS] at k2
 refine⟨_,⟨by omega,i64 (l.getD k 0),qEW hk,rfl⟩,?_⟩
 have hN:=qEi (l.getD k 0)
 by_cases n1:qBm (l.getD k 0)=true
 rotate_left
 ·rw [Bool.not_eq_true] at n1
  rw [n1] at hN k2
  refine hN.eq rfl ?_
  exact qAF _ rfl rfl (qAN (by rw [k2];simp))
 rw [n1] at hN k2
 refine hN.eq rfl ?_
 refine QAD (fun h4=>?_) (fun h4=>?_)
 ·have h4:(0:Int)<(k:Nat):=h4
  obtain⟨j,rfl⟩:∃ j,k=j+1:=⟨k - 1,by omega⟩
  refine⟨(j:Int),by rw [show((j+1:Nat):Int) - 1=(j:Int) by omega];exact w6z,?_⟩
  refine⟨_,⟨by omega,i64 (l.getD j 0),qEW (by omega),rfl⟩,?_⟩
  refine QAD (fun h5=>?_) (fun h5=>?_)
  ·have h5:l.getD (j+1) 0<=l.getD j 0:=h5
   exact qAF _ rfl rfl (qAN (by rw [k2,Nat.add_sub_cancel,decide_eq_false (show ¬ l.getD j 0<l.getD (j+1) 0 by omega),decide_eq_false (by omega)];rfl))
  ·have h5:¬ l.getD (j+1) 0<=l.getD j 0:=h5
   refine⟨_,w6z,?_⟩
   exact⟨j+1+1,⟨by omega,by rw [k2,Nat.add_sub_cancel,decide_eq_true (show l.getD j 0<l.getD (j+1) 0 by omega),Bool.or_true,show l.length - (j+1+1)=f by omega];rfl⟩,qCA rfl ⟨rfl,rfl,rfl,rfl,trivial⟩ trivial rfl,by show l.length - (j+1+1)<l.length - (j+1);omega⟩
 ·have h4:¬ (0:Int)<(k:Nat):=h4
  have hk0:k=0:=by omega
  subst hk0
  refine⟨_,w6z,?_⟩
  exact⟨0+1,⟨by omega,by rw [k2,show l.length - (0+1)=f by omega];rfl⟩,qCA rfl ⟨rfl,rfl,rfl,rfl,trivial⟩ trivial rfl,by show l.length - (0+1)<l.length - 0;omega⟩
def qA0 (n rel val:Int) (r:Rf) (st:List Int):Bool:=decide (n=0) && decide (rel=0) && decide (val=0) && decide (r=rf0) && decide (st=[])
def qAT (op n rel val:Int) (r:Rf) (st:List Int):Bool:=
 if op=1∨op=2∨op=3∨op=4 then qBp r && qBm n && decide (rel=0) && decide (val=0) && decide (st=[])
 else if op=5 then qBp r && decide (n=0) && decide (rel=0) && decide (val=0) && qHO st
 else if op=6 then qBp r && decide (r.mode=3) && qBm n && qBm val && decide (1<=rel) && decide (rel<=4) && decide (st=[]) else false
def qAc (op:Int):Nat:=if op=7 then 1 else if op=8∨op=9 then 2 else 0
def qAb (op n rel val:Int) (r:Rf) (st:List Int) (k:Nat):Bool:=if qAc op=0 then qAT op n rel val r st && decide (k=0) else decide (k=qAc op) && qA0 n rel val r st
def qAp:Nat->Cd->Nat->Option Nat
 | 0,_,_=>none
 | d+1, .mk op n rel val r st ar,left=>if left=0 then none else if qAb op n rel val r st ar.length=true then ar.foldlM (fun l c=>qAp d c l) (left - 1) else none
theorem qRG {f:Nat->Cd->Option Nat} (hf:∀ l c k,f l c=some k->k<=l):∀ (ar:List Cd) (l k:Nat),ar.foldlM f l=some k->k<=l
 | [],l,k,h=>by
  rw [List.foldlM_nil] at h
  injection h with h;omega
 | c::ar,l,k,h=>by
  rw [List.foldlM_cons] at h
  cases hc:f l c with
  | none=>rw [hc] at h;cases h
  | some m=>
   rw [hc] at h
   have:=qRG hf ar m k h
   have:=hf l c m hc
   omega
theorem qB4:∀ (d:Nat) (c:Cd) (left k:Nat),qAp d c left=some k->k<=left
 | 0,_,_,_,h=>by cases h
 | d+1, .mk op n rel val r st ar,left,k,h=>by
  rw [qAp] at h
  split at h
  ·cases h
  ·split at h
   ·have:=qRG (fun l c k h=>qB4 d c l k h) ar _ k h
    omega
   ·cases h
mutual
def qCq:Cd->Prop
 | .mk _ _ _ _ r st ar=>BigR r/\st.length<=9223372036854775807/\ar.length<=9223372036854775807/\qIg ar
def qIg:List Cd->Prop
 | []=>True
 | c::r=>qCq c/\qIg r
end
theorem qBS:∀ {l:List Cd} {c:Cd},qIg l->c∈l->qCq c
 | [],_,_,h=>by simp at h
 | x::l,c,h,hc=>by
  simp only [qIg] at h
  rcases List.mem_cons.1 hc with rfl | hc
  ·exact h.1
  ·exact qBS h.2 hc
theorem qQY (op n rel val:Int) (r:Rf) (st:List Int) (ar:List Cd) (_hs:st.length<=9223372036854775807):Pure cx 127 [(Cd.mk op n rel val r st ar).pv] (·=.ret [.bool (qA0 n rel val r st)]):=by
 refine qAB Tryz.func127 rfl rfl rfl ?_
 refine QAD (fun h1=>?_) (fun h1=>?_)
 rotate_left
 ·have h1:¬ n=0:=h1
  exact qAF _ rfl rfl (qAN (by rw [qA0,decide_eq_false h1];rfl))
 have h1:n=0:=h1
 refine QAD (fun h2=>?_) (fun h2=>?_)
 rotate_left
 ·have h2:¬ rel=0:=h2
  exact qAF _ rfl rfl (qAN (by rw [qA0,decide_eq_false h2,Bool.and_false];rfl))
 have h2:rel=0:=h2
 refine QAD (fun h3=>?_) (fun h3=>?_)
 rotate_left
 ·have h3:¬ val=0:=h3
  exact qAF _ rfl rfl (qAN (by rw [qA0,decide_eq_false h3,Bool.and_false];rfl))
 have h3:val=0:=h3
 refine⟨⟨by kernel_rfl,by kernel_rfl⟩,fun h4=>?_,fun h4=>?_⟩
 rotate_left
 ·have h4:¬ r=rf0:=fun e=>h4 (by rw [e];rfl)
  exact qAF _ rfl rfl (qAN (by rw [qA0,decide_eq_false h4,Bool.and_false];rfl))
 have h4:r=rf0:=by
  have h4:r.cells=rf0.cells:=by first | exact h4 | (injection h4)
  obtain⟨a,b,c,d⟩:=r
  simp only [Rf.cells,rf0,List.cons.injEq,PV.str.injEq,PV.int.injEq,true_and,and_true] at h4
  obtain⟨rfl,rfl,rfl,rfl⟩:=h4
  rfl
 refine QAD (fun h5=>?_) (fun h5=>?_)
 ·have h5:((st.map i64).length:Int)=0:=h5
  rw [List.length_map] at h5
  have:st=[]:=List.length_eq_zero_iff.1 (by omega)
  exact qAF _ rfl rfl (qAN (by rw [qA0,decide_eq_true h1,decide_eq_true h2,decide_eq_true h3,decide_eq_true h4,decide_eq_true this];rfl))
 ·have h5:¬ ((st.map i64).length:Int)=0:=h5
  rw [List.length_map] at h5
  exact qAF _ rfl rfl (qAN (by rw [qA0,decide_eq_false (show ¬ st=[] from fun e=>h5 (by rw [e];rfl)),Bool.and_false]))
end Go.Proofs.YtohfoaplnjcihaaGreatDoor
