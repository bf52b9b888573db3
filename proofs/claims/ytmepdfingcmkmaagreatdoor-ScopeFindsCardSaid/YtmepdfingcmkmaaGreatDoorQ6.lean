/- ScopeFinds: the row and the card. Issues,Check and Symbols return what the reference's do,for drafted programs,such with changes,mixed and arbitrary ones. Conditions: those of the card. -/
import Derived.Test.YtmepdfingcmkmaaGreatDoorRows
import Derived.Lay
import Derived.Test.YtmepdfingcmkmaaGreatDoorCards
import Derived.Test.YtmepdfingcmkmaaGreatDoorTie
import Derived.SevenTiedAt
import Derived.Test.YtmepdfingcmkmaaGreatDoorQ5
namespace Go.Proofs.YtmepdfingcmkmaaGreatDoor
open Go Y
set_option maxRecDepth 100000
set_option maxHeartbeats 40000000
structure Pt where
 kind:UInt8
 card:UInt8
 frm:UInt8
 modes:UInt8
 pl:Bool
 cases:List Pc
 x:UInt8
 y:UInt8
 z:UInt8
abbrev Pt.cells (p:Pt):List PV:=[u8 p.kind,u8 p.card,u8 p.frm,u8 p.modes, .bool p.pl, .lsts 7 (p.cases.map Pc.cells),u8 p.x,u8 p.y,u8 p.z]
structure Kn where
 nm:List UInt8
 card:Int
 pl:Bool
abbrev Kn.cells (k:Kn):List PV:=[.str k.nm,i64 k.card, .bool k.pl]
def kn0:Kn:=⟨[],0,false⟩
structure KnS (k:Kn):Prop where
 ok:qAk k.nm=true
 len:k.nm.length=1
 card:k.card=2∨k.card=3
structure RcS (rs:List Rf) (cs:List Int):Prop where
 refs:∀ r∈rs,RfS r
 nums:∀ c∈cs,c=2∨c=3
 eq:rs.length=cs.length
 len:rs.length<=2
theorem RcS.snoc {rs:List Rf} {cs:List Int} {r:Rf} {c:Int} (h:RcS rs cs) (hr:RfS r) (hc:c=2∨c=3) (hl:rs.length<2):RcS (rs++[r]) (cs++[c]):=by
 have h1:=h.eq
 refine⟨fun x hx=>?_,fun x hx=>?_,by rw [List.length_append,List.length_append];simp only [List.length_cons,List.length_nil];omega,by rw [List.length_append];simp only [List.length_cons,List.length_nil];omega⟩
 ·rcases List.mem_append.1 hx with hx | hx
  ·exact h.refs x hx
  ·rw [List.mem_singleton.1 hx];exact hr
 ·rcases List.mem_append.1 hx with hx | hx
  ·exact h.nums x hx
  ·rw [List.mem_singleton.1 hx];exact hc
def ptO (p:Pt):AObj:=⟨52,false, .bx (p.cells.map .p)⟩
def qOa (rs:List Rf):AObj:=⟨qQt,false, .pus (rs.map Rf.cells)⟩
theorem wrap_u64 {n:Int} (h0:0<=n) (h1:n<18446744073709551616):n=IntKind.u64.wrap n:=by
 show n=n % 18446744073709551616
 omega
def RfQ (e:AE) (H':Hp):Prop:=∃ rs cs,e=.returned (.tup [.sl 0 4 0 rs.length, .sl 1 1 0 cs.length])/\H'=⟨2,[(0,qOa rs),(1,iO cs)]⟩/\RcS rs cs
theorem qVB {l:List Kn} {k:Nat} (h:k<l.length):(l.map Kn.cells)[k]?=some (l.getD k kn0).cells:=qCw kn0 h
theorem qFs (v:Nat) (e:Int) (he:0<e) (hv:v<256):0<=(v:Int).fdiv e/\(v:Int).fdiv e<=255:=by
 have h1:=Int.fdiv_nonneg (Int.natCast_nonneg v) (Int.le_of_lt he)
 have h2:(v:Int).fdiv e<=v:=by
  rw [Int.fdiv_eq_ediv_of_nonneg _ (Int.le_of_lt he)]
  exact Int.ediv_le_self _ (Int.natCast_nonneg v)
 omega
theorem qEH (e:Nat):(0:Int)<2 ^ e:=Int.pow_pos (by decide)
theorem qB4 {n g:Int} (h:0<=n) (hg:0<g):0<=n.tmod g/\n.tmod g<g:=⟨Int.tmod_nonneg _ h,Int.tmod_lt_of_pos _ hg⟩
theorem qW5 {nm:List UInt8} (h:qAk nm=true) (hl:nm.length=1):RfS ⟨nm,0,[],0⟩:=⟨qRP h,hl,Nat.zero_le _,by show(0:Int)<=9;decide⟩
theorem qWg {nm:List UInt8} (h:qAk nm=true) (hl:nm.length=1):RfS ⟨nm,3,[],0⟩:=⟨qUm h,hl,Nat.zero_le _,by show(0:Int)<=9;decide⟩
theorem qW3 {nm:List UInt8} {n:Int} (h:qAk nm=true) (hl:nm.length=1) (hn:0<=n/\n<2):RfS ⟨nm,2,[],n⟩:=⟨qS9 h (qCv hn.1 (by omega)),hl,Nat.zero_le _,by show n<=9;omega⟩
theorem qW4 {nm:List UInt8} {n:Int} (h:qAk nm=true) (hl:nm.length=1) (hn:0<=n/\n<2):RfS ⟨nm,1,[112],n⟩:=⟨qTA h qPc (qCv hn.1 (by omega)),hl,Nat.le_refl _,by show n<=9;omega⟩
abbrev qXI:OT:=(.pure 0 (.pure 1 (.pure 2 (.pure 3 (.eff 4 [] (.pure 5 (.eff 6 [] .fin .nil)) .nil)))))
theorem qFh (p:Pt) (l:List Kn) (hl:∀ k∈l,KnS k) (h5:l.length<=5) (g:Bool) (sz:Int) (hs:sz=1∨sz=2):HoldsG cx 32 [.p (.agg p.cells), .p (.lsts 3 (l.map Kn.cells)),vB g, .p (i64 sz)] ⟨0,[]⟩ (RfQ):=by
 refine qAC Tryz.func32 rfl rfl rfl ?_
 have hl':(l.map Kn.cells).length=l.length:=List.length_map ..
 refine⟨Nat × List Rf × List Int,fun x=>[(1, .p (.lsts 3 (l.map Kn.cells))),(2,vB g),(3, .p (i64 sz)),(4, .ptr 0 0 0),(10, .sl 1 4 0 x.2.1.length),(11, .sl 2 1 0 x.2.2.length),(12, .p (i64 x.1))],fun x=>⟨3,[(2,iO x.2.2),(1,qOa x.2.1),(0,ptO p)]⟩,fun x=>x.1<=l.length/\RcS x.2.1 x.2.2,fun x=>l.length - x.1,?_,?_⟩
 ·exact⟨(0,[],[]),⟨Nat.zero_le _,⟨fun r hr=>(by cases hr),fun r hr=>(by cases hr),rfl,by decide⟩⟩,qAA [] [] [(1,4),(2,1)] rfl (sk) (sk) rfl⟩
 rintro⟨i,rs,cs⟩ ⟨k1,k2⟩
 simp only [] at k1 k2
 by_cases hi:i<l.length
 rotate_left
 ·refine And.intro (fun h=>absurd (show(i:Int)<((l.map Kn.cells).length:Nat) from h) (by rw [hl'];omega)) (fun _=>?_)
  exact⟨[],[(0,1),(1,2)],[], .returned (.tup [.sl 0 4 0 rs.length, .sl 1 1 0 cs.length]),⟨2,[(0,qOa rs),(1,iO cs)]⟩,rfl,sk,sk,rs,cs,rfl,rfl,k2⟩
 refine And.intro (fun _=>?_) (fun h=>absurd (show(i:Int)<((l.map Kn.cells).length:Nat) by rw [hl'];omega) h)
 by_cases h2:rs.length<2
 rotate_left
 ·refine And.intro (fun h=>absurd (show(rs.length:Int)<2 from h) (by omega)) (fun _=>?_)
  exact⟨[],[(0,1),(1,2)],[], .returned (.tup [.sl 0 4 0 rs.length, .sl 1 1 0 cs.length]),⟨2,[(0,qOa rs),(1,iO cs)]⟩,rfl,sk,sk,rs,cs,rfl,rfl,k2⟩
 refine And.intro (fun _=>?_) (fun h=>absurd (show(rs.length:Int)<2 by omega) h)
 have hcell:=qVB hi
 have hS:=hl _ (qAI kn0 hi)
 generalize l.getD i kn0=kn at hcell hS
 obtain⟨nm,card,b⟩:=kn
 have hm:=p.modes.toNat_lt
 have hf:=p.frm.toNat_lt
 cases b
 ·refine⟨(i:Int),wrap_u64 (by omega) (by omega),?_⟩
  refine⟨by omega,?_⟩
  have hs1:=qFs p.frm.toNat _ (qEH (min ((i:Int).toNat) (IntKind.u8.bits))) hf
  generalize (p.frm.toNat:Int).fdiv (2 ^ (min ((i:Int).toNat) (IntKind.u8.bits)))=sf at hs1 ⊢
  refine⟨by decide,?_⟩
  by_cases hz:sf.tmod 2=0
  ·refine And.intro (fun _=>?_) (fun h=>absurd hz h)
   refine⟨((i+1:Nat):Int),by rw [Int.natCast_add];exact w6z,?_⟩
   exact⟨(i+1,rs,cs),⟨by show i+1<=l.length;omega,k2⟩,qAA [] [] [] rfl (sk) (sk) rfl,by show l.length - (i+1)<l.length - i;omega⟩
  refine And.intro (fun h=>absurd h hz) (fun _=>?_)
  clear hz hs1
  refine⟨_,⟨by omega,(Kn.mk nm card _).cells,hcell,rfl⟩,?_⟩
  refine⟨((2 * i:Nat):Int),by show _=IntKind.i64.wrap (2 * (i:Int));rw [Int.natCast_mul];exact w6z,?_⟩
  refine⟨((2 * i:Nat):Int),wrap_u64 (by omega) (by omega),?_⟩
  refine⟨by omega,?_⟩
  have hs2:=qFs p.modes.toNat _ (qEH (min (((2 * i:Nat):Int).toNat) (IntKind.u8.bits))) hm
  generalize (p.modes.toNat:Int).fdiv (2 ^ (min (((2 * i:Nat):Int).toNat) (IntKind.u8.bits)))=sm at hs2 ⊢
  refine⟨sm,w6z,?_⟩
  refine⟨by decide,?_⟩
  have hs3:=qB4 hs2.1 (show(0:Int)<4 by decide)
  generalize sm.tmod 4=m at hs3 ⊢
  refine⟨_,⟨by omega,(Kn.mk nm card _).cells,hcell,rfl⟩,?_⟩
  refine⟨by show 0+1<=1;omega,[[.str nm,i64 0, .str [],i64 0]],rfl,?_⟩
  refine⟨by show 0+rs.length<=(rs.map Rf.cells).length;simp,rs.map Rf.cells,qAD (by simp),by show(rs.length+1) * 48<=140737488355328;omega,(rs++[Rf.mk nm 0 [] 0]).map Rf.cells,by simp,?_⟩
  refine⟨_,⟨by omega,(Kn.mk nm card _).cells,hcell,rfl⟩,?_⟩
  refine⟨by show 0+1<=1;omega,[i64 card],rfl,?_⟩
  refine⟨by show 0+cs.length<=(cs.map i64).length;simp,cs.map i64,qAD (by simp),by show(cs.length+1) * 8<=140737488355328;have:=k2.eq;omega,(cs++[card]).map i64,by simp,?_⟩
  refine⟨((i+1:Nat):Int),by rw [Int.natCast_add];exact w6z,?_⟩
  exact⟨(i+1,rs++[Rf.mk nm 0 [] 0],cs++[card]),⟨by show i+1<=l.length;omega,k2.snoc (qW5 hS.ok hS.len) hS.card h2⟩,qAA [] [(1,5),(2,7)] [] rfl ⟨rfl,rfl,rfl,⟨rfl,rfl⟩,congrArg (fun k:Nat=>AV.sl 5 4 0 k) (qAN rs _).symm,congrArg (fun k:Nat=>AV.sl 7 1 0 k) (qAN cs card).symm,rfl,trivial⟩ (sk) rfl,by show l.length - (i+1)<l.length - i;omega⟩
 cases g
 ·refine⟨(i:Int),wrap_u64 (by omega) (by omega),?_⟩
  refine⟨by omega,?_⟩
  have hs1:=qFs p.frm.toNat _ (qEH (min ((i:Int).toNat) (IntKind.u8.bits))) hf
  generalize (p.frm.toNat:Int).fdiv (2 ^ (min ((i:Int).toNat) (IntKind.u8.bits)))=sf at hs1 ⊢
  refine⟨by decide,?_⟩
  by_cases hz:sf.tmod 2=0
  ·refine And.intro (fun _=>?_) (fun h=>absurd hz h)
   refine⟨((i+1:Nat):Int),by rw [Int.natCast_add];exact w6z,?_⟩
   exact⟨(i+1,rs,cs),⟨by show i+1<=l.length;omega,k2⟩,qAA [] [] [] rfl (sk) (sk) rfl,by show l.length - (i+1)<l.length - i;omega⟩
  refine And.intro (fun h=>absurd h hz) (fun _=>?_)
  clear hz hs1
  refine⟨_,⟨by omega,(Kn.mk nm card _).cells,hcell,rfl⟩,?_⟩
  refine⟨((2 * i:Nat):Int),by show _=IntKind.i64.wrap (2 * (i:Int));rw [Int.natCast_mul];exact w6z,?_⟩
  refine⟨((2 * i:Nat):Int),wrap_u64 (by omega) (by omega),?_⟩
  refine⟨by omega,?_⟩
  have hs2:=qFs p.modes.toNat _ (qEH (min (((2 * i:Nat):Int).toNat) (IntKind.u8.bits))) hm
  generalize (p.modes.toNat:Int).fdiv (2 ^ (min (((2 * i:Nat):Int).toNat) (IntKind.u8.bits)))=sm at hs2 ⊢
  refine⟨sm,w6z,?_⟩
  refine⟨by decide,?_⟩
  have hs3:=qB4 hs2.1 (show(0:Int)<4 by decide)
  generalize sm.tmod 4=m at hs3 ⊢
  refine⟨_,⟨by omega,(Kn.mk nm card _).cells,hcell,rfl⟩,?_⟩
  refine And.intro (fun h3=>?_) (fun h3=>?_)
  ·refine⟨by show 0+1<=1;omega,[[.str nm,i64 3, .str [],i64 0]],rfl,?_⟩
   refine⟨by show 0+rs.length<=(rs.map Rf.cells).length;simp,rs.map Rf.cells,qAD (by simp),by show(rs.length+1) * 48<=140737488355328;omega,(rs++[Rf.mk nm 3 [] 0]).map Rf.cells,by simp,?_⟩
   refine⟨_,⟨by omega,(Kn.mk nm card _).cells,hcell,rfl⟩,?_⟩
   refine⟨by show 0+1<=1;omega,[i64 card],rfl,?_⟩
   refine⟨by show 0+cs.length<=(cs.map i64).length;simp,cs.map i64,qAD (by simp),by show(cs.length+1) * 8<=140737488355328;have:=k2.eq;omega,(cs++[card]).map i64,by simp,?_⟩
   refine⟨((i+1:Nat):Int),by rw [Int.natCast_add];exact w6z,?_⟩
   exact⟨(i+1,rs++[Rf.mk nm 3 [] 0],cs++[card]),⟨by show i+1<=l.length;omega,k2.snoc (qWg hS.ok hS.len) hS.card h2⟩,qAA [] [(1,5),(2,7)] [] rfl ⟨rfl,rfl,rfl,⟨rfl,rfl⟩,congrArg (fun k:Nat=>AV.sl 5 4 0 k) (qAN rs _).symm,congrArg (fun k:Nat=>AV.sl 7 1 0 k) (qAN cs card).symm,rfl,trivial⟩ (sk) rfl,by show l.length - (i+1)<l.length - i;omega⟩
  ·refine qAG qXI (by kernel_rfl) ?_
   refine⟨by show ¬ sz=0;omega,?_⟩
   have hn:=qB4 hs3.1 (show 0<sz by omega)
   generalize m.tmod sz=n at hn ⊢
   refine⟨by show 0+1<=1;omega,[[.str nm,i64 2, .str [],i64 n]],rfl,?_⟩
   refine⟨by show 0+rs.length<=(rs.map Rf.cells).length;simp,rs.map Rf.cells,qAD (by simp),by show(rs.length+1) * 48<=140737488355328;omega,(rs++[Rf.mk nm 2 [] n]).map Rf.cells,by simp,?_⟩
   refine⟨_,⟨by omega,(Kn.mk nm card _).cells,hcell,rfl⟩,?_⟩
   refine⟨by show 0+1<=1;omega,[i64 card],rfl,?_⟩
   refine⟨by show 0+cs.length<=(cs.map i64).length;simp,cs.map i64,qAD (by simp),by show(cs.length+1) * 8<=140737488355328;have:=k2.eq;omega,(cs++[card]).map i64,by simp,?_⟩
   refine⟨((i+1:Nat):Int),by rw [Int.natCast_add];exact w6z,?_⟩
   exact⟨(i+1,rs++[Rf.mk nm 2 [] n],cs++[card]),⟨by show i+1<=l.length;omega,k2.snoc (qW3 hS.ok hS.len ⟨hn.1,by omega⟩) hS.card h2⟩,qAA [] [(1,5),(2,7)] [] rfl ⟨rfl,rfl,rfl,⟨rfl,rfl⟩,congrArg (fun k:Nat=>AV.sl 5 4 0 k) (qAN rs _).symm,congrArg (fun k:Nat=>AV.sl 7 1 0 k) (qAN cs card).symm,rfl,trivial⟩ (sk) rfl,by show l.length - (i+1)<l.length - i;omega⟩
 ·refine⟨(i:Int),wrap_u64 (by omega) (by omega),?_⟩
  refine⟨by omega,?_⟩
  have hs1:=qFs p.frm.toNat _ (qEH (min ((i:Int).toNat) (IntKind.u8.bits))) hf
  generalize (p.frm.toNat:Int).fdiv (2 ^ (min ((i:Int).toNat) (IntKind.u8.bits)))=sf at hs1 ⊢
  refine⟨by decide,?_⟩
  by_cases hz:sf.tmod 2=0
  ·refine And.intro (fun _=>?_) (fun h=>absurd hz h)
   refine⟨((i+1:Nat):Int),by rw [Int.natCast_add];exact w6z,?_⟩
   exact⟨(i+1,rs,cs),⟨by show i+1<=l.length;omega,k2⟩,qAA [] [] [] rfl (sk) (sk) rfl,by show l.length - (i+1)<l.length - i;omega⟩
  refine And.intro (fun h=>absurd h hz) (fun _=>?_)
  clear hz hs1
  refine⟨_,⟨by omega,(Kn.mk nm card _).cells,hcell,rfl⟩,?_⟩
  refine⟨((2 * i:Nat):Int),by show _=IntKind.i64.wrap (2 * (i:Int));rw [Int.natCast_mul];exact w6z,?_⟩
  refine⟨((2 * i:Nat):Int),wrap_u64 (by omega) (by omega),?_⟩
  refine⟨by omega,?_⟩
  have hs2:=qFs p.modes.toNat _ (qEH (min (((2 * i:Nat):Int).toNat) (IntKind.u8.bits))) hm
  generalize (p.modes.toNat:Int).fdiv (2 ^ (min (((2 * i:Nat):Int).toNat) (IntKind.u8.bits)))=sm at hs2 ⊢
  refine⟨sm,w6z,?_⟩
  refine⟨by decide,?_⟩
  have hs3:=qB4 hs2.1 (show(0:Int)<4 by decide)
  generalize sm.tmod 4=m at hs3 ⊢
  refine⟨_,⟨by omega,(Kn.mk nm card _).cells,hcell,rfl⟩,?_⟩
  refine And.intro (fun h3=>?_) (fun h3=>?_)
  ·refine⟨by decide,?_⟩
   have hn:=qB4 hs3.1 (show(0:Int)<2 by decide)
   generalize m.tmod 2=n at hn ⊢
   refine⟨by show 0+1<=1;omega,[[.str nm,i64 1, .str [112],i64 n]],rfl,?_⟩
   refine⟨by show 0+rs.length<=(rs.map Rf.cells).length;simp,rs.map Rf.cells,qAD (by simp),by show(rs.length+1) * 48<=140737488355328;omega,(rs++[Rf.mk nm 1 [112] n]).map Rf.cells,by simp,?_⟩
   refine⟨_,⟨by omega,(Kn.mk nm card _).cells,hcell,rfl⟩,?_⟩
   refine⟨by show 0+1<=1;omega,[i64 card],rfl,?_⟩
   refine⟨by show 0+cs.length<=(cs.map i64).length;simp,cs.map i64,qAD (by simp),by show(cs.length+1) * 8<=140737488355328;have:=k2.eq;omega,(cs++[card]).map i64,by simp,?_⟩
   refine⟨((i+1:Nat):Int),by rw [Int.natCast_add];exact w6z,?_⟩
   exact⟨(i+1,rs++[Rf.mk nm 1 [112] n],cs++[card]),⟨by show i+1<=l.length;omega,k2.snoc (qW4 hS.ok hS.len hn) hS.card h2⟩,qAA [] [(1,5),(2,7)] [] rfl ⟨rfl,rfl,rfl,⟨rfl,rfl⟩,congrArg (fun k:Nat=>AV.sl 5 4 0 k) (qAN rs _).symm,congrArg (fun k:Nat=>AV.sl 7 1 0 k) (qAN cs card).symm,rfl,trivial⟩ (sk) rfl,by show l.length - (i+1)<l.length - i;omega⟩
  ·have h3:¬ m<3:=h3
   refine And.intro (fun h4=>?_) (fun h4=>absurd (show m=3 by omega) h4)
   refine⟨by show 0+1<=1;omega,[[.str nm,i64 3, .str [],i64 0]],rfl,?_⟩
   refine⟨by show 0+rs.length<=(rs.map Rf.cells).length;simp,rs.map Rf.cells,qAD (by simp),by show(rs.length+1) * 48<=140737488355328;omega,(rs++[Rf.mk nm 3 [] 0]).map Rf.cells,by simp,?_⟩
   refine⟨_,⟨by omega,(Kn.mk nm card _).cells,hcell,rfl⟩,?_⟩
   refine⟨by show 0+1<=1;omega,[i64 card],rfl,?_⟩
   refine⟨by show 0+cs.length<=(cs.map i64).length;simp,cs.map i64,qAD (by simp),by show(cs.length+1) * 8<=140737488355328;have:=k2.eq;omega,(cs++[card]).map i64,by simp,?_⟩
   refine⟨((i+1:Nat):Int),by rw [Int.natCast_add];exact w6z,?_⟩
   exact⟨(i+1,rs++[Rf.mk nm 3 [] 0],cs++[card]),⟨by show i+1<=l.length;omega,k2.snoc (qWg hS.ok hS.len) hS.card h2⟩,qAA [] [(1,5),(2,7)] [] rfl ⟨rfl,rfl,rfl,⟨rfl,rfl⟩,congrArg (fun k:Nat=>AV.sl 5 4 0 k) (qAN rs _).symm,congrArg (fun k:Nat=>AV.sl 7 1 0 k) (qAN cs card).symm,rfl,trivial⟩ (sk) rfl,by show l.length - (i+1)<l.length - i;omega⟩
abbrev qWm:OT:=(.pure 0 (.pure 1 (.pure 2 (.pure 3 (.pure 4 (.pure 5 (.pure 6 (.pure 7 (.pure 8 (.pure 9 (.pure 10 (.pure 11 (.pure 12 (.pure 13 (.pure 14 (.pure 15 (.pure 16 (.pure 17 (.eff 18 [15,11,10,8,3,1] (.eff 19 [] .fin .nil) .nil)))))))))))))))))))
abbrev qWl:OT:=(.pure 0 (.pure 1 (.pure 2 (.pure 3 (.pure 4 (.pure 5 (.pure 6 (.pure 7 (.pure 8 (.pure 9 (.pure 10 (.pure 11 (.pure 12 (.pure 13 (.pure 14 (.pure 15 (.pure 16 (.pure 17 (.pure 18 (.pure 19 (.pure 20 (.pure 21 (.pure 22 (.eff 23 [] .fin .nil))))))))))))))))))))))))
abbrev qWk:OT:=(.pure 0 (.pure 1 (.pure 2 (.pure 3 (.pure 4 (.pure 5 (.pure 6 (.eff 7 [3,2] (.pure 8 (.eff 9 [3,2] (.pure 10 (.eff 11 [] .fin .nil)) .nil)) .nil))))))))
abbrev qN7:OT:=(.pure 0 (.pure 1 (.pure 2 (.pure 3 (.pure 4 (.pure 5 (.pure 6 (.eff 7 [4,1] (.pure 8 (.eff 9 [4] (.pure 10 (.eff 11 [] .fin .nil)) .nil)) .nil))))))))
abbrev qN6:OT:=(.pure 0 (.pure 1 (.pure 2 (.pure 3 (.pure 4 (.pure 5 (.pure 6 (.pure 7 (.pure 8 (.eff 9 [5,3,1] (.eff 10 [3,1] (.pure 11 (.eff 12 [] .fin .nil)) .nil) .nil))))))))))
def LfQ (r:PEnd):Prop:=∃ (y:PV) (c:Cd),r=.ret [y]/\NilD y c.pv/\∀ d,CdS (d+1) c 1 18
def CdQ (r:PEnd):Prop:=∃ (y:PV) (c:Cd) (n:Nat),r=.ret [y]/\NilD y c.pv/\n<=3/\CdS 8 c n 43
structure RcA (rs:List Rf) (cs:List Int):Prop where
 ok:RcS rs cs
 pos:1<=rs.length
theorem qUb:∀ j,j<2->qGp (([0,1]:List Int).drop j)=true/\(([0,1]:List Int).drop j).length<=2/\∀ a∈([0,1]:List Int).drop j,a<=9:=by decide
theorem qSZ {l:List Int} {k:Nat} (h:k<l.length):(l.map i64)[k]?=some (i64 (l.getD k 0)):=qCw 0 h
theorem qFC (op:Int) {ys:List (List PV)} {l:List Cd} (h:NilDLL ys (qBG l)):NilD (.agg [i64 op,i64 0,i64 0,i64 0, .str [],i64 0, .str [],i64 0, .nils, .lsts 10 ys]) (Cd.mk op 0 0 0 rf0 [] l).pv:=by
 show NilD _ (.agg [i64 op,i64 0,i64 0,i64 0, .str [],i64 0, .str [],i64 0, .lst [], .lsts 10 (qBG l)])
 simp only [NilD,NilDL]
 exact⟨_,rfl,_,_,rfl,rfl,_,_,rfl,rfl,_,_,rfl,rfl,_,_,rfl,rfl,_,_,rfl,rfl,_,_,rfl,rfl,_,_,rfl,rfl,_,_,rfl,rfl,_,_,rfl, .inr (.inl rfl),_,_,rfl,⟨_,rfl,h⟩,rfl⟩
theorem qLj {a b:List PV} (h:NilD (.agg a) (.agg b)):NilDL a b:=by
 simp only [NilD] at h
 obtain⟨z,e,h⟩:=h
 injection e with e
 subst e
 exact h
theorem qLi {a:List PV} {c:Cd} (h:NilD (.agg a) c.pv):NilDLL [a] (qBG [c]):=by
 simp only [NilDLL,qBG]
 exact⟨_,_,rfl,qLj h,rfl⟩
theorem qFn {a b:List PV} {c d:Cd} (h:NilD (.agg a) c.pv) (h2:NilD (.agg b) d.pv):NilDLL [a,b] (qBG [c,d]):=by
 simp only [NilDLL,qBG]
 exact⟨_,_,rfl,qLj h,_,_,rfl,qLj h2,rfl⟩
theorem wrap_u8' {n:Nat} (h:n<256):(n:Int)=IntKind.u8.wrap (n:Int):=by
 show(n:Int)=(n:Int) % 256
 omega
theorem qFW (w:UInt8):((UInt8.ofNat (w.toNat+1)).toNat:Int)=IntKind.u8.wrap ((w.toNat:Int)+1):=by
 show((UInt8.ofNat (w.toNat+1)).toNat:Int)=((w.toNat:Int)+1) % 256
 rw [UInt8.toNat_ofNat']
 omega
theorem qFX (n:UInt8):((UInt8.ofNat (n.toNat / 2)).toNat:Int)=IntKind.u8.wrap ((n.toNat:Int).tdiv 2):=by
 have hn:=n.toNat_lt
 rw [show(n.toNat:Int).tdiv 2=((n.toNat / 2:Nat):Int) from rfl,<- wrap_u8' (by omega),UInt8.toNat_ofNat']
 omega
theorem qOO (p:Pc) (rs:List Rf) (cs:List Int) (h:RcA rs cs) (hm3:3<=p.m.toNat % 8):Pure cx 59 [.agg p.cells,qBy rs,ints cs] LfQ:=by
 refine qAB Tryz.func59 rfl rfl rfl ?_
 obtain⟨w,o,n,m,x,y,z⟩:=p
 simp only [] at hm3
 have hl':(rs.map Rf.cells).length=rs.length:=List.length_map ..
 have hpos:=h.pos
 have hk:(w.toNat:Int).tmod ((rs.map Rf.cells).length:Nat)=((w.toNat % rs.length:Nat):Int):=by rw [hl'];rfl
 have hkl:w.toNat % rs.length<rs.length:=Nat.mod_lt _ (by omega)
 generalize w.toNat % rs.length=k at hk hkl
 have hcell:=qC6 hkl
 have hkc:k<cs.length:=by have:=h.ok.eq;omega
 have qCq:=qSZ hkc
 have hrf:=h.ok.refs _ (qAI rf0 hkl)
 have hcd:=h.ok.nums _ (qAI 0 hkc)
 generalize rs.getD k rf0=rf at hcell hrf
 generalize cs.getD k 0=cd at qCq hcd
 obtain⟨nm,md,pl,rn⟩:=rf
 have hw:=w.toNat_lt
 have ho:=o.toNat_lt
 have hn:=n.toNat_lt
 have hm:=m.toNat_lt
 have eo:((o.toNat % 4:Nat):Int)=IntKind.i64.wrap ((o.toNat:Int).tmod 4):=by
  rw [show(o.toNat:Int).tmod 4=((o.toNat % 4:Nat):Int) from rfl];exact w6z
 have en:(n.toNat:Int)=IntKind.i64.wrap (n.toNat:Int):=w6z
 have hv0:=qB4 (Int.natCast_nonneg n.toNat) (show 0<cd by omega)
 have hv:=hv0
 have e8:(m.toNat:Int).tmod 8=((m.toNat % 8:Nat):Int):=rfl
 have f8:(o.toNat:Int).tmod 8=((o.toNat % 8:Nat):Int):=rfl
 have hok:=hrf.ok
 refine⟨(w.toNat:Int),w6z,?_⟩
 refine⟨by show ¬ (((rs.map Rf.cells).length:Nat):Int)=0;rw [hl'];omega,?_⟩
 generalize (w.toNat:Int).tmod ((rs.map Rf.cells).length:Nat)=kk at hk ⊢
 subst hk
 refine qAG qWm (by kernel_rfl) ?_
 refine⟨by decide,?_⟩
 refine⟨((o.toNat % 4:Nat):Int),eo,?_⟩
 refine⟨1+((o.toNat % 4:Nat):Int),w6z,?_⟩
 refine⟨_,⟨by omega,(⟨nm,md,pl,rn⟩:Rf).cells,hcell,rfl⟩,?_⟩
 refine⟨(n.toNat:Int),en,?_⟩
 refine⟨_,⟨by omega,i64 cd,qCq,rfl⟩,?_⟩
 refine⟨by show ¬ cd=0;omega,?_⟩
 generalize (n.toNat:Int).tmod cd=v at hv ⊢
 refine⟨⟨rfl,congrArg (fun z:Int=>AV.p (.int .i64 z)) en,rfl,rfl,congrArg (fun z:Int=>AV.p (.int .i64 z)) eo,rfl,trivial⟩,?_⟩
 refine⟨_,⟨by omega,(⟨nm,md,pl,rn⟩:Rf).cells,hcell,rfl⟩,?_⟩
 refine And.intro (fun h3=>?_) (fun h3=>?_)
 ·have h3:md=3:=h3
  refine qAG qWl (by kernel_rfl) ?_
  refine⟨_,⟨by omega,(⟨nm,md,pl,rn⟩:Rf).cells,hcell,rfl⟩,?_⟩
  refine⟨(n.toNat:Int),en,?_⟩
  refine⟨_,⟨by omega,i64 cd,qCq,rfl⟩,?_⟩
  refine⟨by show ¬ cd=0;omega,?_⟩
  clear hv
  have hv:=hv0
  generalize (n.toNat:Int).tmod cd=v at hv ⊢
  refine⟨by decide,?_⟩
  refine⟨((o.toNat % 4:Nat):Int),eo,?_⟩
  refine⟨1+((o.toNat % 4:Nat):Int),w6z,?_⟩
  refine⟨by decide,((n.toNat / 8:Nat):Int),wrap_u8' (by omega),?_⟩
  refine⟨((n.toNat / 8:Nat):Int),w6z,?_⟩
  refine⟨by decide,?_⟩
  have hq:=qB4 (Int.natCast_nonneg (n.toNat / 8)) (show(0:Int)<4 by decide)
  generalize ((n.toNat / 8:Nat):Int).tmod 4=q at hq ⊢
  have hC1:∀ d,CdS (d+1) (.mk 6 q (1+((o.toNat % 4:Nat):Int)) v ⟨nm,md,pl,rn⟩ [] []) 1 18:=CdS.leaf (by decide) (by decide) (by decide) (by rw [qAT,if_neg (by decide),if_neg (by decide),if_pos rfl,hok,decide_eq_true h3,qCv hq.1 (by omega),qCv hv.1 (by omega),decide_eq_true (by omega),decide_eq_true (by omega)];rfl) hrf (by omega) (by omega) ⟨by decide,fun a ha=>by cases ha⟩
  refine⟨by decide,?_⟩
  refine And.intro (fun h=>absurd (show(m.toNat:Int).tmod 8=0 from h) (by rw [e8];omega)) (fun _=>?_)
  refine And.intro (fun h=>absurd (show(m.toNat:Int).tmod 8=1 from h) (by rw [e8];omega)) (fun _=>?_)
  refine And.intro (fun h=>absurd (show(m.toNat:Int).tmod 8=2 from h) (by rw [e8];omega)) (fun _=>?_)
  refine qAF (.agg [i64 6,i64 q,i64 (1+((o.toNat % 4:Nat):Int)),i64 v, .str nm,i64 md, .str pl,i64 rn, .nils, .nils]) rfl rfl ?_
  exact⟨_, .mk 6 q (1+((o.toNat % 4:Nat):Int)) v ⟨nm,md,pl,rn⟩ [] [],rfl,qAq 6 q (1+((o.toNat % 4:Nat):Int)) v ⟨nm,md,pl,rn⟩,hC1⟩
 ·refine⟨by decide,?_⟩
  by_cases h6:5<o.toNat % 8
  rotate_left
  ·refine And.intro (fun h=>absurd (show(5:Int)<(o.toNat:Int).tmod 8 from h) (by rw [f8];omega)) (fun _=>?_)
   have hC2:∀ d,CdS (d+1) (.mk (1+((o.toNat % 4:Nat):Int)) v 0 0 ⟨nm,md,pl,rn⟩ [] []) 1 18:=CdS.leaf (by omega) (by omega) (by omega) (qHH (by omega) hok (qCv hv.1 (by omega))) hrf (by omega) (by decide) ⟨by decide,fun a ha=>by cases ha⟩
   refine⟨by decide,?_⟩
   refine And.intro (fun h=>absurd (show(m.toNat:Int).tmod 8=0 from h) (by rw [e8];omega)) (fun _=>?_)
   refine And.intro (fun h=>absurd (show(m.toNat:Int).tmod 8=1 from h) (by rw [e8];omega)) (fun _=>?_)
   refine And.intro (fun h=>absurd (show(m.toNat:Int).tmod 8=2 from h) (by rw [e8];omega)) (fun _=>?_)
   refine qAF (.agg [i64 (1+((o.toNat % 4:Nat):Int)),i64 v,i64 0,i64 0, .str nm,i64 md, .str pl,i64 rn, .nils, .nils]) rfl rfl ?_
   exact⟨_, .mk (1+((o.toNat % 4:Nat):Int)) v 0 0 ⟨nm,md,pl,rn⟩ [] [],rfl,qAq (1+((o.toNat % 4:Nat):Int)) v 0 0 ⟨nm,md,pl,rn⟩,hC2⟩
  refine And.intro (fun _=>?_) (fun h=>absurd (show(5:Int)<(o.toNat:Int).tmod 8 by rw [f8];omega) h)
  refine qAG qWk (by kernel_rfl) ?_
  refine⟨(n.toNat:Int),en,?_⟩
  refine⟨by decide,?_⟩
  have hj:(n.toNat:Int).tmod 2=((n.toNat % 2:Nat):Int):=rfl
  have hj2:n.toNat % 2<2:=Nat.mod_lt _ (by decide)
  generalize n.toNat % 2=j at hj hj2
  generalize (n.toNat:Int).tmod 2=jj at hj ⊢
  subst hj
  have s01:=qUb j hj2
  refine⟨by show(0:Int)<=((j:Nat):Int)/\((j:Nat):Int)<=2;omega,?_⟩
  refine⟨⟨congrArg (fun z:Int=>AV.p (.int .i64 z)) en,rfl,trivial⟩,?_⟩
  refine⟨⟨congrArg (fun z:Int=>AV.p (.int .i64 z)) en,rfl,trivial⟩,?_⟩
  have hC3:∀ d,CdS (d+1) (.mk 5 0 0 0 ⟨nm,md,pl,rn⟩ (([0,1]:List Int).drop j) []) 1 18:=CdS.leaf (by decide) (by decide) (by decide) (qM6 hok s01.1) hrf (by decide) (by decide) s01.2
  refine⟨by decide,?_⟩
  refine And.intro (fun h=>absurd (show(m.toNat:Int).tmod 8=0 from h) (by rw [e8];omega)) (fun _=>?_)
  refine And.intro (fun h=>absurd (show(m.toNat:Int).tmod 8=1 from h) (by rw [e8];omega)) (fun _=>?_)
  refine And.intro (fun h=>absurd (show(m.toNat:Int).tmod 8=2 from h) (by rw [e8];omega)) (fun _=>?_)
  refine qAF (.agg [i64 5,i64 0,i64 0,i64 0, .str nm,i64 md, .str pl,i64 rn, .lst ((([0,1]:List Int).map i64).drop j), .nils]) rfl rfl ?_
  exact⟨_, .mk 5 0 0 0 ⟨nm,md,pl,rn⟩ (([0,1]:List Int).drop j) [],rfl,qCg ⟨nm,md,pl,rn⟩ [0,1] j,hC3⟩
theorem qDN (p:Pc) (rs:List Rf) (cs:List Int) (h:RcA rs cs) (hm3:3<=p.m.toNat % 8):Pure cx 59 [.agg p.cells,qBy rs,ints cs] fun r=>∃ c:Cd,r=.ret [c.pv]/\∀ d,CdS (d+1) c 1 18:=
 (qOO p rs cs h hm3).weak fun r hr=>by
  obtain⟨y,c,rfl,h1,h2⟩:=hr
  exact⟨.ret [c.pv],⟨_,rfl,_,_,rfl,h1,rfl⟩,c,rfl,h2⟩
theorem qTp (p:Pc) (rs:List Rf) (cs:List Int) (h:RcA rs cs):Pure cx 59 [.agg p.cells,qBy rs,ints cs] CdQ:=by
 refine qAB Tryz.func59 rfl rfl rfl ?_
 obtain⟨w,o,n,m,x,y,z⟩:=p
 have hl':(rs.map Rf.cells).length=rs.length:=List.length_map ..
 have hpos:=h.pos
 have hk:(w.toNat:Int).tmod ((rs.map Rf.cells).length:Nat)=((w.toNat % rs.length:Nat):Int):=by rw [hl'];rfl
 have hkl:w.toNat % rs.length<rs.length:=Nat.mod_lt _ (by omega)
 generalize w.toNat % rs.length=k at hk hkl
 have hcell:=qC6 hkl
 have hkc:k<cs.length:=by have:=h.ok.eq;omega
 have qCq:=qSZ hkc
 have hrf:=h.ok.refs _ (qAI rf0 hkl)
 have hcd:=h.ok.nums _ (qAI 0 hkc)
 generalize rs.getD k rf0=rf at hcell hrf
 generalize cs.getD k 0=cd at qCq hcd
 obtain⟨nm,md,pl,rn⟩:=rf
 have hw:=w.toNat_lt
 have ho:=o.toNat_lt
 have hn:=n.toNat_lt
 have hm:=m.toNat_lt
 have eo:((o.toNat % 4:Nat):Int)=IntKind.i64.wrap ((o.toNat:Int).tmod 4):=by
  rw [show(o.toNat:Int).tmod 4=((o.toNat % 4:Nat):Int) from rfl];exact w6z
 have en:(n.toNat:Int)=IntKind.i64.wrap (n.toNat:Int):=w6z
 have hv0:=qB4 (Int.natCast_nonneg n.toNat) (show 0<cd by omega)
 have hv:=hv0
 have e8:(m.toNat:Int).tmod 8=((m.toNat % 8:Nat):Int):=rfl
 have f8:(o.toNat:Int).tmod 8=((o.toNat % 8:Nat):Int):=rfl
 have hok:=hrf.ok
 refine⟨(w.toNat:Int),w6z,?_⟩
 refine⟨by show ¬ (((rs.map Rf.cells).length:Nat):Int)=0;rw [hl'];omega,?_⟩
 generalize (w.toNat:Int).tmod ((rs.map Rf.cells).length:Nat)=kk at hk ⊢
 subst hk
 refine qAG qWm (by kernel_rfl) ?_
 refine⟨by decide,?_⟩
 refine⟨((o.toNat % 4:Nat):Int),eo,?_⟩
 refine⟨1+((o.toNat % 4:Nat):Int),w6z,?_⟩
 refine⟨_,⟨by omega,(⟨nm,md,pl,rn⟩:Rf).cells,hcell,rfl⟩,?_⟩
 refine⟨(n.toNat:Int),en,?_⟩
 refine⟨_,⟨by omega,i64 cd,qCq,rfl⟩,?_⟩
 refine⟨by show ¬ cd=0;omega,?_⟩
 generalize (n.toNat:Int).tmod cd=v at hv ⊢
 refine⟨⟨rfl,congrArg (fun z:Int=>AV.p (.int .i64 z)) en,rfl,rfl,congrArg (fun z:Int=>AV.p (.int .i64 z)) eo,rfl,trivial⟩,?_⟩
 refine⟨_,⟨by omega,(⟨nm,md,pl,rn⟩:Rf).cells,hcell,rfl⟩,?_⟩
 refine And.intro (fun h3=>?_) (fun h3=>?_)
 ·have h3:md=3:=h3
  refine qAG qWl (by kernel_rfl) ?_
  refine⟨_,⟨by omega,(⟨nm,md,pl,rn⟩:Rf).cells,hcell,rfl⟩,?_⟩
  refine⟨(n.toNat:Int),en,?_⟩
  refine⟨_,⟨by omega,i64 cd,qCq,rfl⟩,?_⟩
  refine⟨by show ¬ cd=0;omega,?_⟩
  clear hv
  have hv:=hv0
  generalize (n.toNat:Int).tmod cd=v at hv ⊢
  refine⟨by decide,?_⟩
  refine⟨((o.toNat % 4:Nat):Int),eo,?_⟩
  refine⟨1+((o.toNat % 4:Nat):Int),w6z,?_⟩
  refine⟨by decide,((n.toNat / 8:Nat):Int),wrap_u8' (by omega),?_⟩
  refine⟨((n.toNat / 8:Nat):Int),w6z,?_⟩
  refine⟨by decide,?_⟩
  have hq:=qB4 (Int.natCast_nonneg (n.toNat / 8)) (show(0:Int)<4 by decide)
  generalize ((n.toNat / 8:Nat):Int).tmod 4=q at hq ⊢
  have hC1:∀ d,CdS (d+1) (.mk 6 q (1+((o.toNat % 4:Nat):Int)) v ⟨nm,md,pl,rn⟩ [] []) 1 18:=CdS.leaf (by decide) (by decide) (by decide) (by rw [qAT,if_neg (by decide),if_neg (by decide),if_pos rfl,hok,decide_eq_true h3,qCv hq.1 (by omega),qCv hv.1 (by omega),decide_eq_true (by omega),decide_eq_true (by omega)];rfl) hrf (by omega) (by omega) ⟨by decide,fun a ha=>by cases ha⟩
  refine⟨by decide,?_⟩
  by_cases m0:m.toNat % 8=0
  ·refine And.intro (fun _=>?_) (fun h=>absurd (show(m.toNat:Int).tmod 8=0 by rw [e8];omega) h)
   refine qAF (.agg [i64 7,i64 0,i64 0,i64 0, .str [],i64 0, .str [],i64 0, .nils, .lsts 10 [[i64 6,i64 q,i64 (1+((o.toNat % 4:Nat):Int)),i64 v, .str nm,i64 md, .str pl,i64 rn, .nils, .nils]]]) rfl ⟨_,rfl,_,_,rfl,rfl,_,_,rfl,rfl,_,_,rfl,rfl,_,_,rfl,rfl,_,_,rfl,rfl,_,_,rfl,rfl,_,_,rfl,rfl,_,_,rfl,rfl,_,_,rfl, .inl rfl,_,_,rfl,⟨_,rfl,Nat.le_refl _,rfl⟩,rfl⟩ ?_
   exact⟨_, .mk 7 0 0 0 rf0 [] [.mk 6 q (1+((o.toNat % 4:Nat):Int)) v ⟨nm,md,pl,rn⟩ [] []],2,rfl,qFC 7 (qLi (qAq 6 q (1+((o.toNat % 4:Nat):Int)) v ⟨nm,md,pl,rn⟩)),by decide,(hC1 6).neg.le (by decide)⟩
  refine And.intro (fun h=>absurd (show(m.toNat:Int).tmod 8=0 from h) (by rw [e8];omega)) (fun _=>?_)
  by_cases m12:m.toNat % 8=1∨m.toNat % 8=2
  rotate_left
  ·refine And.intro (fun h=>absurd (show(m.toNat:Int).tmod 8=1 from h) (by rw [e8];omega)) (fun _=>?_)
   refine And.intro (fun h=>absurd (show(m.toNat:Int).tmod 8=2 from h) (by rw [e8];omega)) (fun _=>?_)
   refine qAF (.agg [i64 6,i64 q,i64 (1+((o.toNat % 4:Nat):Int)),i64 v, .str nm,i64 md, .str pl,i64 rn, .nils, .nils]) rfl rfl ?_
   exact⟨_, .mk 6 q (1+((o.toNat % 4:Nat):Int)) v ⟨nm,md,pl,rn⟩ [] [],1,rfl,qAq 6 q (1+((o.toNat % 4:Nat):Int)) v ⟨nm,md,pl,rn⟩,by decide,(hC1 7).le (by decide)⟩
  by_cases m1:m.toNat % 8=1
  ·refine And.intro (fun _=>?_) (fun h=>absurd (show(m.toNat:Int).tmod 8=1 by rw [e8];omega) h)
   refine qAG qN7 (by kernel_rfl) ?_
   refine⟨_,qFW w,?_⟩
   refine⟨by decide,_,qFX n,?_⟩
   refine⟨⟨rfl,rfl,trivial⟩,?_⟩
   refine⟨⟨rfl,trivial⟩,?_⟩
   refine qAG qN6 (by kernel_rfl) ?_
   refine⟨by decide,?_⟩
   have e2:((m.toNat % 2:Nat):Int)=IntKind.i64.wrap ((m.toNat:Int).tmod 2):=by
    rw [show(m.toNat:Int).tmod 2=((m.toNat % 2:Nat):Int) from rfl];exact w6z
   refine⟨((m.toNat % 2:Nat):Int),e2,?_⟩
   refine⟨8+((m.toNat % 2:Nat):Int),w6z,?_⟩
   refine(qDN ⟨UInt8.ofNat (w.toNat+1),o,UInt8.ofNat (n.toNat / 2),7,x,y,z⟩ rs cs h (by show 3<=(7:UInt8).toNat % 8;decide)).at fun r hr=>?_
   obtain⟨⟨ao,an,ar,av,af,as',aa⟩,rfl,hc2⟩:=hr
   refine⟨⟨rfl,congrArg (fun z:Int=>AV.p (.int .i64 z)) e2,rfl,trivial⟩,?_⟩
   refine⟨⟨congrArg (fun z:Int=>AV.p (.int .i64 z)) e2,rfl,trivial⟩,?_⟩
   refine qAF (.agg [i64 (8+((m.toNat % 2:Nat):Int)),i64 0,i64 0,i64 0, .str [],i64 0, .str [],i64 0, .nils, .lsts 10 [[i64 6,i64 q,i64 (1+((o.toNat % 4:Nat):Int)),i64 v, .str nm,i64 md, .str pl,i64 rn, .nils, .nils],(Cd.mk ao an ar av af as' aa).cells]]) rfl ⟨_,rfl,_,_,rfl,rfl,_,_,rfl,rfl,_,_,rfl,rfl,_,_,rfl,rfl,_,_,rfl,rfl,_,_,rfl,rfl,_,_,rfl,rfl,_,_,rfl,rfl,_,_,rfl, .inl rfl,_,_,rfl,⟨_,rfl,Nat.le_refl _,rfl⟩,rfl⟩ ?_
   exact⟨_, .mk (8+((m.toNat % 2:Nat):Int)) 0 0 0 rf0 [] [.mk 6 q (1+((o.toNat % 4:Nat):Int)) v ⟨nm,md,pl,rn⟩ [] [], .mk ao an ar av af as' aa],3,rfl,qFC _ (qFn (qAq 6 q (1+((o.toNat % 4:Nat):Int)) v ⟨nm,md,pl,rn⟩) (NilD.refl _)),by decide,CdS.two (by omega) (hC1 6) (hc2 6)⟩
  ·refine And.intro (fun h=>absurd (show(m.toNat:Int).tmod 8=1 from h) (by rw [e8];omega)) (fun _=>?_)
   refine And.intro (fun _=>?_) (fun h=>absurd (show(m.toNat:Int).tmod 8=2 by rw [e8];omega) h)
   refine qAG qN7 (by kernel_rfl) ?_
   refine⟨_,qFW w,?_⟩
   refine⟨by decide,_,qFX n,?_⟩
   refine⟨⟨rfl,rfl,trivial⟩,?_⟩
   refine⟨⟨rfl,trivial⟩,?_⟩
   refine qAG qN6 (by kernel_rfl) ?_
   refine⟨by decide,?_⟩
   have e2:((m.toNat % 2:Nat):Int)=IntKind.i64.wrap ((m.toNat:Int).tmod 2):=by
    rw [show(m.toNat:Int).tmod 2=((m.toNat % 2:Nat):Int) from rfl];exact w6z
   refine⟨((m.toNat % 2:Nat):Int),e2,?_⟩
   refine⟨8+((m.toNat % 2:Nat):Int),w6z,?_⟩
   refine(qDN ⟨UInt8.ofNat (w.toNat+1),o,UInt8.ofNat (n.toNat / 2),7,x,y,z⟩ rs cs h (by show 3<=(7:UInt8).toNat % 8;decide)).at fun r hr=>?_
   obtain⟨⟨ao,an,ar,av,af,as',aa⟩,rfl,hc2⟩:=hr
   refine⟨⟨rfl,congrArg (fun z:Int=>AV.p (.int .i64 z)) e2,rfl,trivial⟩,?_⟩
   refine⟨⟨congrArg (fun z:Int=>AV.p (.int .i64 z)) e2,rfl,trivial⟩,?_⟩
   refine qAF (.agg [i64 (8+((m.toNat % 2:Nat):Int)),i64 0,i64 0,i64 0, .str [],i64 0, .str [],i64 0, .nils, .lsts 10 [[i64 6,i64 q,i64 (1+((o.toNat % 4:Nat):Int)),i64 v, .str nm,i64 md, .str pl,i64 rn, .nils, .nils],(Cd.mk ao an ar av af as' aa).cells]]) rfl ⟨_,rfl,_,_,rfl,rfl,_,_,rfl,rfl,_,_,rfl,rfl,_,_,rfl,rfl,_,_,rfl,rfl,_,_,rfl,rfl,_,_,rfl,rfl,_,_,rfl,rfl,_,_,rfl, .inl rfl,_,_,rfl,⟨_,rfl,Nat.le_refl _,rfl⟩,rfl⟩ ?_
   exact⟨_, .mk (8+((m.toNat % 2:Nat):Int)) 0 0 0 rf0 [] [.mk 6 q (1+((o.toNat % 4:Nat):Int)) v ⟨nm,md,pl,rn⟩ [] [], .mk ao an ar av af as' aa],3,rfl,qFC _ (qFn (qAq 6 q (1+((o.toNat % 4:Nat):Int)) v ⟨nm,md,pl,rn⟩) (NilD.refl _)),by decide,CdS.two (by omega) (hC1 6) (hc2 6)⟩
 ·refine⟨by decide,?_⟩
  by_cases h6:5<o.toNat % 8
  rotate_left
  ·refine And.intro (fun h=>absurd (show(5:Int)<(o.toNat:Int).tmod 8 from h) (by rw [f8];omega)) (fun _=>?_)
   have hC2:∀ d,CdS (d+1) (.mk (1+((o.toNat % 4:Nat):Int)) v 0 0 ⟨nm,md,pl,rn⟩ [] []) 1 18:=CdS.leaf (by omega) (by omega) (by omega) (qHH (by omega) hok (qCv hv.1 (by omega))) hrf (by omega) (by decide) ⟨by decide,fun a ha=>by cases ha⟩
   refine⟨by decide,?_⟩
   by_cases m0:m.toNat % 8=0
   ·refine And.intro (fun _=>?_) (fun h=>absurd (show(m.toNat:Int).tmod 8=0 by rw [e8];omega) h)
    refine qAF (.agg [i64 7,i64 0,i64 0,i64 0, .str [],i64 0, .str [],i64 0, .nils, .lsts 10 [[i64 (1+((o.toNat % 4:Nat):Int)),i64 v,i64 0,i64 0, .str nm,i64 md, .str pl,i64 rn, .nils, .nils]]]) rfl ⟨_,rfl,_,_,rfl,rfl,_,_,rfl,rfl,_,_,rfl,rfl,_,_,rfl,rfl,_,_,rfl,rfl,_,_,rfl,rfl,_,_,rfl,rfl,_,_,rfl,rfl,_,_,rfl, .inl rfl,_,_,rfl,⟨_,rfl,Nat.le_refl _,rfl⟩,rfl⟩ ?_
    exact⟨_, .mk 7 0 0 0 rf0 [] [.mk (1+((o.toNat % 4:Nat):Int)) v 0 0 ⟨nm,md,pl,rn⟩ [] []],2,rfl,qFC 7 (qLi (qAq (1+((o.toNat % 4:Nat):Int)) v 0 0 ⟨nm,md,pl,rn⟩)),by decide,(hC2 6).neg.le (by decide)⟩
   refine And.intro (fun h=>absurd (show(m.toNat:Int).tmod 8=0 from h) (by rw [e8];omega)) (fun _=>?_)
   by_cases m12:m.toNat % 8=1∨m.toNat % 8=2
   rotate_left
   ·refine And.intro (fun h=>absurd (show(m.toNat:Int).tmod 8=1 from h) (by rw [e8];omega)) (fun _=>?_)
    refine And.intro (fun h=>absurd (show(m.toNat:Int).tmod 8=2 from h) (by rw [e8];omega)) (fun _=>?_)
    refine qAF (.agg [i64 (1+((o.toNat % 4:Nat):Int)),i64 v,i64 0,i64 0, .str nm,i64 md, .str pl,i64 rn, .nils, .nils]) rfl rfl ?_
    exact⟨_, .mk (1+((o.toNat % 4:Nat):Int)) v 0 0 ⟨nm,md,pl,rn⟩ [] [],1,rfl,qAq (1+((o.toNat % 4:Nat):Int)) v 0 0 ⟨nm,md,pl,rn⟩,by decide,(hC2 7).le (by decide)⟩
   by_cases m1:m.toNat % 8=1
   ·refine And.intro (fun _=>?_) (fun h=>absurd (show(m.toNat:Int).tmod 8=1 by rw [e8];omega) h)
    refine qAG qN7 (by kernel_rfl) ?_
    refine⟨_,qFW w,?_⟩
    refine⟨by decide,_,qFX n,?_⟩
    refine⟨⟨rfl,rfl,trivial⟩,?_⟩
    refine⟨⟨rfl,trivial⟩,?_⟩
    refine qAG qN6 (by kernel_rfl) ?_
    refine⟨by decide,?_⟩
    have e2:((m.toNat % 2:Nat):Int)=IntKind.i64.wrap ((m.toNat:Int).tmod 2):=by
     rw [show(m.toNat:Int).tmod 2=((m.toNat % 2:Nat):Int) from rfl];exact w6z
    refine⟨((m.toNat % 2:Nat):Int),e2,?_⟩
    refine⟨8+((m.toNat % 2:Nat):Int),w6z,?_⟩
    refine(qDN ⟨UInt8.ofNat (w.toNat+1),o,UInt8.ofNat (n.toNat / 2),7,x,y,z⟩ rs cs h (by show 3<=(7:UInt8).toNat % 8;decide)).at fun r hr=>?_
    obtain⟨⟨ao,an,ar,av,af,as',aa⟩,rfl,hc2⟩:=hr
    refine⟨⟨rfl,congrArg (fun z:Int=>AV.p (.int .i64 z)) e2,rfl,trivial⟩,?_⟩
    refine⟨⟨congrArg (fun z:Int=>AV.p (.int .i64 z)) e2,rfl,trivial⟩,?_⟩
    refine qAF (.agg [i64 (8+((m.toNat % 2:Nat):Int)),i64 0,i64 0,i64 0, .str [],i64 0, .str [],i64 0, .nils, .lsts 10 [[i64 (1+((o.toNat % 4:Nat):Int)),i64 v,i64 0,i64 0, .str nm,i64 md, .str pl,i64 rn, .nils, .nils],(Cd.mk ao an ar av af as' aa).cells]]) rfl ⟨_,rfl,_,_,rfl,rfl,_,_,rfl,rfl,_,_,rfl,rfl,_,_,rfl,rfl,_,_,rfl,rfl,_,_,rfl,rfl,_,_,rfl,rfl,_,_,rfl,rfl,_,_,rfl, .inl rfl,_,_,rfl,⟨_,rfl,Nat.le_refl _,rfl⟩,rfl⟩ ?_
    exact⟨_, .mk (8+((m.toNat % 2:Nat):Int)) 0 0 0 rf0 [] [.mk (1+((o.toNat % 4:Nat):Int)) v 0 0 ⟨nm,md,pl,rn⟩ [] [], .mk ao an ar av af as' aa],3,rfl,qFC _ (qFn (qAq (1+((o.toNat % 4:Nat):Int)) v 0 0 ⟨nm,md,pl,rn⟩) (NilD.refl _)),by decide,CdS.two (by omega) (hC2 6) (hc2 6)⟩
   ·refine And.intro (fun h=>absurd (show(m.toNat:Int).tmod 8=1 from h) (by rw [e8];omega)) (fun _=>?_)
    refine And.intro (fun _=>?_) (fun h=>absurd (show(m.toNat:Int).tmod 8=2 by rw [e8];omega) h)
    refine qAG qN7 (by kernel_rfl) ?_
    refine⟨_,qFW w,?_⟩
    refine⟨by decide,_,qFX n,?_⟩
    refine⟨⟨rfl,rfl,trivial⟩,?_⟩
    refine⟨⟨rfl,trivial⟩,?_⟩
    refine qAG qN6 (by kernel_rfl) ?_
    refine⟨by decide,?_⟩
    have e2:((m.toNat % 2:Nat):Int)=IntKind.i64.wrap ((m.toNat:Int).tmod 2):=by
     rw [show(m.toNat:Int).tmod 2=((m.toNat % 2:Nat):Int) from rfl];exact w6z
    refine⟨((m.toNat % 2:Nat):Int),e2,?_⟩
    refine⟨8+((m.toNat % 2:Nat):Int),w6z,?_⟩
    refine(qDN ⟨UInt8.ofNat (w.toNat+1),o,UInt8.ofNat (n.toNat / 2),7,x,y,z⟩ rs cs h (by show 3<=(7:UInt8).toNat % 8;decide)).at fun r hr=>?_
    obtain⟨⟨ao,an,ar,av,af,as',aa⟩,rfl,hc2⟩:=hr
    refine⟨⟨rfl,congrArg (fun z:Int=>AV.p (.int .i64 z)) e2,rfl,trivial⟩,?_⟩
    refine⟨⟨congrArg (fun z:Int=>AV.p (.int .i64 z)) e2,rfl,trivial⟩,?_⟩
    refine qAF (.agg [i64 (8+((m.toNat % 2:Nat):Int)),i64 0,i64 0,i64 0, .str [],i64 0, .str [],i64 0, .nils, .lsts 10 [[i64 (1+((o.toNat % 4:Nat):Int)),i64 v,i64 0,i64 0, .str nm,i64 md, .str pl,i64 rn, .nils, .nils],(Cd.mk ao an ar av af as' aa).cells]]) rfl ⟨_,rfl,_,_,rfl,rfl,_,_,rfl,rfl,_,_,rfl,rfl,_,_,rfl,rfl,_,_,rfl,rfl,_,_,rfl,rfl,_,_,rfl,rfl,_,_,rfl,rfl,_,_,rfl, .inl rfl,_,_,rfl,⟨_,rfl,Nat.le_refl _,rfl⟩,rfl⟩ ?_
    exact⟨_, .mk (8+((m.toNat % 2:Nat):Int)) 0 0 0 rf0 [] [.mk (1+((o.toNat % 4:Nat):Int)) v 0 0 ⟨nm,md,pl,rn⟩ [] [], .mk ao an ar av af as' aa],3,rfl,qFC _ (qFn (qAq (1+((o.toNat % 4:Nat):Int)) v 0 0 ⟨nm,md,pl,rn⟩) (NilD.refl _)),by decide,CdS.two (by omega) (hC2 6) (hc2 6)⟩
  refine And.intro (fun _=>?_) (fun h=>absurd (show(5:Int)<(o.toNat:Int).tmod 8 by rw [f8];omega) h)
  refine qAG qWk (by kernel_rfl) ?_
  refine⟨(n.toNat:Int),en,?_⟩
  refine⟨by decide,?_⟩
  have hj:(n.toNat:Int).tmod 2=((n.toNat % 2:Nat):Int):=rfl
  have hj2:n.toNat % 2<2:=Nat.mod_lt _ (by decide)
  generalize n.toNat % 2=j at hj hj2
  generalize (n.toNat:Int).tmod 2=jj at hj ⊢
  subst hj
  have s01:=qUb j hj2
  refine⟨by show(0:Int)<=((j:Nat):Int)/\((j:Nat):Int)<=2;omega,?_⟩
  refine⟨⟨congrArg (fun z:Int=>AV.p (.int .i64 z)) en,rfl,trivial⟩,?_⟩
  refine⟨⟨congrArg (fun z:Int=>AV.p (.int .i64 z)) en,rfl,trivial⟩,?_⟩
  have hC3:∀ d,CdS (d+1) (.mk 5 0 0 0 ⟨nm,md,pl,rn⟩ (([0,1]:List Int).drop j) []) 1 18:=CdS.leaf (by decide) (by decide) (by decide) (qM6 hok s01.1) hrf (by decide) (by decide) s01.2
  refine⟨by decide,?_⟩
  by_cases m0:m.toNat % 8=0
  ·refine And.intro (fun _=>?_) (fun h=>absurd (show(m.toNat:Int).tmod 8=0 by rw [e8];omega) h)
   refine qAF (.agg [i64 7,i64 0,i64 0,i64 0, .str [],i64 0, .str [],i64 0, .nils, .lsts 10 [[i64 5,i64 0,i64 0,i64 0, .str nm,i64 md, .str pl,i64 rn, .lst ((([0,1]:List Int).map i64).drop j), .nils]]]) rfl ⟨_,rfl,_,_,rfl,rfl,_,_,rfl,rfl,_,_,rfl,rfl,_,_,rfl,rfl,_,_,rfl,rfl,_,_,rfl,rfl,_,_,rfl,rfl,_,_,rfl,rfl,_,_,rfl, .inl rfl,_,_,rfl,⟨_,rfl,Nat.le_refl _,rfl⟩,rfl⟩ ?_
   exact⟨_, .mk 7 0 0 0 rf0 [] [.mk 5 0 0 0 ⟨nm,md,pl,rn⟩ (([0,1]:List Int).drop j) []],2,rfl,qFC 7 (qLi (qCg ⟨nm,md,pl,rn⟩ [0,1] j)),by decide,(hC3 6).neg.le (by decide)⟩
  refine And.intro (fun h=>absurd (show(m.toNat:Int).tmod 8=0 from h) (by rw [e8];omega)) (fun _=>?_)
  by_cases m12:m.toNat % 8=1∨m.toNat % 8=2
  rotate_left
  ·refine And.intro (fun h=>absurd (show(m.toNat:Int).tmod 8=1 from h) (by rw [e8];omega)) (fun _=>?_)
   refine And.intro (fun h=>absurd (show(m.toNat:Int).tmod 8=2 from h) (by rw [e8];omega)) (fun _=>?_)
   refine qAF (.agg [i64 5,i64 0,i64 0,i64 0, .str nm,i64 md, .str pl,i64 rn, .lst ((([0,1]:List Int).map i64).drop j), .nils]) rfl rfl ?_
   exact⟨_, .mk 5 0 0 0 ⟨nm,md,pl,rn⟩ (([0,1]:List Int).drop j) [],1,rfl,qCg ⟨nm,md,pl,rn⟩ [0,1] j,by decide,(hC3 7).le (by decide)⟩
  by_cases m1:m.toNat % 8=1
  ·refine And.intro (fun _=>?_) (fun h=>absurd (show(m.toNat:Int).tmod 8=1 by rw [e8];omega) h)
   refine qAG qN7 (by kernel_rfl) ?_
   refine⟨_,qFW w,?_⟩
   refine⟨by decide,_,qFX n,?_⟩
   refine⟨⟨rfl,rfl,trivial⟩,?_⟩
   refine⟨⟨rfl,trivial⟩,?_⟩
   refine qAG qN6 (by kernel_rfl) ?_
   refine⟨by decide,?_⟩
   have e2:((m.toNat % 2:Nat):Int)=IntKind.i64.wrap ((m.toNat:Int).tmod 2):=by
    rw [show(m.toNat:Int).tmod 2=((m.toNat % 2:Nat):Int) from rfl];exact w6z
   refine⟨((m.toNat % 2:Nat):Int),e2,?_⟩
   refine⟨8+((m.toNat % 2:Nat):Int),w6z,?_⟩
   refine(qDN ⟨UInt8.ofNat (w.toNat+1),o,UInt8.ofNat (n.toNat / 2),7,x,y,z⟩ rs cs h (by show 3<=(7:UInt8).toNat % 8;decide)).at fun r hr=>?_
   obtain⟨⟨ao,an,ar,av,af,as',aa⟩,rfl,hc2⟩:=hr
   refine⟨⟨rfl,congrArg (fun z:Int=>AV.p (.int .i64 z)) e2,rfl,trivial⟩,?_⟩
   refine⟨⟨congrArg (fun z:Int=>AV.p (.int .i64 z)) e2,rfl,trivial⟩,?_⟩
   refine qAF (.agg [i64 (8+((m.toNat % 2:Nat):Int)),i64 0,i64 0,i64 0, .str [],i64 0, .str [],i64 0, .nils, .lsts 10 [[i64 5,i64 0,i64 0,i64 0, .str nm,i64 md, .str pl,i64 rn, .lst ((([0,1]:List Int).map i64).drop j), .nils],(Cd.mk ao an ar av af as' aa).cells]]) rfl ⟨_,rfl,_,_,rfl,rfl,_,_,rfl,rfl,_,_,rfl,rfl,_,_,rfl,rfl,_,_,rfl,rfl,_,_,rfl,rfl,_,_,rfl,rfl,_,_,rfl,rfl,_,_,rfl, .inl rfl,_,_,rfl,⟨_,rfl,Nat.le_refl _,rfl⟩,rfl⟩ ?_
   exact⟨_, .mk (8+((m.toNat % 2:Nat):Int)) 0 0 0 rf0 [] [.mk 5 0 0 0 ⟨nm,md,pl,rn⟩ (([0,1]:List Int).drop j) [], .mk ao an ar av af as' aa],3,rfl,qFC _ (qFn (qCg ⟨nm,md,pl,rn⟩ [0,1] j) (NilD.refl _)),by decide,CdS.two (by omega) (hC3 6) (hc2 6)⟩
  ·refine And.intro (fun h=>absurd (show(m.toNat:Int).tmod 8=1 from h) (by rw [e8];omega)) (fun _=>?_)
   refine And.intro (fun _=>?_) (fun h=>absurd (show(m.toNat:Int).tmod 8=2 by rw [e8];omega) h)
   refine qAG qN7 (by kernel_rfl) ?_
   refine⟨_,qFW w,?_⟩
   refine⟨by decide,_,qFX n,?_⟩
   refine⟨⟨rfl,rfl,trivial⟩,?_⟩
   refine⟨⟨rfl,trivial⟩,?_⟩
   refine qAG qN6 (by kernel_rfl) ?_
   refine⟨by decide,?_⟩
   have e2:((m.toNat % 2:Nat):Int)=IntKind.i64.wrap ((m.toNat:Int).tmod 2):=by
    rw [show(m.toNat:Int).tmod 2=((m.toNat % 2:Nat):Int) from rfl];exact w6z
   refine⟨((m.toNat % 2:Nat):Int),e2,?_⟩
   refine⟨8+((m.toNat % 2:Nat):Int),w6z,?_⟩
   refine(qDN ⟨UInt8.ofNat (w.toNat+1),o,UInt8.ofNat (n.toNat / 2),7,x,y,z⟩ rs cs h (by show 3<=(7:UInt8).toNat % 8;decide)).at fun r hr=>?_
   obtain⟨⟨ao,an,ar,av,af,as',aa⟩,rfl,hc2⟩:=hr
   refine⟨⟨rfl,congrArg (fun z:Int=>AV.p (.int .i64 z)) e2,rfl,trivial⟩,?_⟩
   refine⟨⟨congrArg (fun z:Int=>AV.p (.int .i64 z)) e2,rfl,trivial⟩,?_⟩
   refine qAF (.agg [i64 (8+((m.toNat % 2:Nat):Int)),i64 0,i64 0,i64 0, .str [],i64 0, .str [],i64 0, .nils, .lsts 10 [[i64 5,i64 0,i64 0,i64 0, .str nm,i64 md, .str pl,i64 rn, .lst ((([0,1]:List Int).map i64).drop j), .nils],(Cd.mk ao an ar av af as' aa).cells]]) rfl ⟨_,rfl,_,_,rfl,rfl,_,_,rfl,rfl,_,_,rfl,rfl,_,_,rfl,rfl,_,_,rfl,rfl,_,_,rfl,rfl,_,_,rfl,rfl,_,_,rfl,rfl,_,_,rfl, .inl rfl,_,_,rfl,⟨_,rfl,Nat.le_refl _,rfl⟩,rfl⟩ ?_
   exact⟨_, .mk (8+((m.toNat % 2:Nat):Int)) 0 0 0 rf0 [] [.mk 5 0 0 0 ⟨nm,md,pl,rn⟩ (([0,1]:List Int).drop j) [], .mk ao an ar av af as' aa],3,rfl,qFC _ (qFn (qCg ⟨nm,md,pl,rn⟩ [0,1] j) (NilD.refl _)),by decide,CdS.two (by omega) (hC3 6) (hc2 6)⟩
theorem qVU (p:Pc) (rs:List Rf) (cs:List Int) (h:RcA rs cs):Pure cx 59 [.agg p.cells,qBy rs,ints cs] fun r=>∃ (c:Cd) (n:Nat),r=.ret [c.pv]/\n<=3/\CdS 8 c n 43:=
 (qTp p rs cs h).weak fun r hr=>by
  obtain⟨y,c,n,rfl,h1,h2⟩:=hr
  exact⟨.ret [c.pv],⟨_,rfl,_,_,rfl,h1,rfl⟩,c,n,rfl,h2⟩
theorem qHw {C : Cx} {rd : Bool} {n0 N : Nat} {all : List Oper} {σ : Sg} {ds : List AD} {H : Hp} {K : Sg -> List AD -> Hp -> Prop} {X : List AP -> Sg -> List AD -> Hp -> Prop} {α : Type} (sl : α -> List (Nat × AV)) (hp : α -> Hp) (pr : α -> Prop) (ot : OT)
    (h : (C.P.follows .mixedOrders && qBw N all (masks all []) && qGB all (masks all []) ot [] [] []) = true)
    (hv : vD C rd all σ (fun σ' ds' H' => ∃ x, pr x /\ Ent C n0 N σ' ds' H' (sets (fun _ => .junk) (sl x)) ds (hp x)) X ot [] ds H) (hk : ∀ x, pr x -> K (sets (fun _ => .junk) (sl x)) ds (hp x)) :
    ∃ ot, (C.P.follows .mixedOrders && qBw N all (masks all []) && qGB all (masks all []) ot [] [] []) = true /\
    ((vD C rd all σ K X ot [] ds H) ∨
     ∃ (α : Type) (sl : α -> List (Nat × AV)) (hp : α -> Hp) (pr : α -> Prop),
      vD C rd all σ (fun σ' ds' H' => ∃ x, pr x /\ Ent C n0 N σ' ds' H' (sets (fun _ => .junk) (sl x)) ds (hp x)) X ot [] ds H /\
      ∀ x, pr x -> K (sets (fun _ => .junk) (sl x)) ds (hp x)) := ⟨_, h, .inr ⟨α, sl, hp, pr, hv, hk⟩⟩
abbrev qXJ:OT:=(.pure 0 (.pure 1 (.pure 2 (.pure 3 (.pure 4 (.pure 5 (.pure 6 (.pure 8 (.pure 9 (.pure 10 (.pure 11 (.pure 12 (.pure 13 (.pure 14 (.pure 15 (.pure 16 (.pure 17 (.pure 18
 (.eff 7 [15,14,9] (.pure 19 (.eff 20 [15,14,9,4,1] (.eff 21 [] .fin .nil) .nil))
  (.eff 20 [15,14,9,4,1] (.eff 7 [15,14,9] (.pure 19 (.eff 21 [] .fin .nil)) .nil) .nil))))))))))))))))))))
def ksO (l:List Cs):AObj:=⟨qHe,false, .pus (l.map Cs.cells)⟩
def pc0:Pc:=⟨0,0,0,0,0,0,0⟩
theorem qUs {l:List Pc} {k:Nat} (h:k<l.length):(l.map Pc.cells)[k]?=some (l.getD k pc0).cells:=qCw pc0 h
structure GrS (k:Nat) (g:Int):Prop where
 ok:(k=0/\g=0)∨((k=2∨k=3)/\1<=g/\g<=12)
theorem qMq {v:Int} (h:-999<=v/\v<=999):NuS [v]:=by
 have h1:qHi v=true:=by rw [qHi,decide_eq_true (by omega),decide_eq_true (by omega)];rfl
 refine⟨?_,?_⟩
 ·show(decide (1<=1) && decide (1<=8) && (qHi v && true))=true
  rw [h1];rfl
 ·show lw (qQ0 v++[])<=6
  rw [List.append_nil,qQ0]
  have h1:=qIV v
  have h2:=qIV (-v)
  split <;> simp only [qA2,qLm,List.length_cons,List.length_nil] <;> omega
def CaQ (r:PEnd):Prop:=∃ (y:PV) (l:List Cs),r=.ret [y]/\NilD y (css l)/\RuS l
theorem qDF (out:List Cs) (l:List Int):NilD (.lsts 11 (out.map Cs.cells++[zc0++[.lst (l.map i64)]])) (css (out++[⟨cd0,l⟩])):=by
 simp only [css,NilD,List.map_append,List.map_cons,List.map_nil]
 refine⟨_,rfl,?_⟩
 induction out with
 | nil=>
  simp only [List.map_nil,List.nil_append,NilDLL]
  exact⟨_,_,rfl,qU5 l,rfl⟩
 | cons c out ih=>
  simp only [List.map_cons,List.cons_append,NilDLL]
  exact⟨_,_,rfl,NilDL.refl _,ih⟩
structure OutS (out:List Cs) (i:Nat):Prop where
 cs:∀ c∈out,CsS c
 len:out.length<=i
theorem OutS.snoc {out:List Cs} {i:Nat} {c:Cs} (h:OutS out i) (hc:CsS c):OutS (out++[c]) (i+1):=by
 refine⟨fun x hx=>?_,by rw [List.length_append];have:=h.len;simp only [List.length_cons,List.length_nil];omega⟩
 rcases List.mem_append.1 hx with hx | hx
 ·exact h.cs x hx
 ·rw [List.mem_singleton.1 hx];exact hc
theorem qR3 (p:Pt) (rs:List Rf) (cs:List Int) (h:RcS rs cs) (k:Nat) (g:Int) (hg:GrS k g) (hp:p.cases.length<=9223372036854775807):Pure cx 33 [.agg p.cells,qBy rs,ints cs,i64 (k:Int),i64 g] CaQ:=by
 refine qAB Tryz.func33 rfl rfl rfl ?_
 obtain⟨kind,card,frm,modes,pl,ps,x,y,z⟩:=p
 have hps:(ps.map Pc.cells).length=ps.length:=List.length_map ..
 have hrs:(rs.map Rf.cells).length=rs.length:=List.length_map ..
 have hr2:=h.len
 simp only [] at hp
 refine⟨Nat × List Cs,fun x'=>[(1, .p (qBy rs)),(2, .p (ints cs)),(3, .p (i64 (k:Int))),(4, .p (i64 g)),(5, .ptr 0 0 0),(11, .sl 1 11 0 x'.2.length),(12, .p (i64 x'.1))],fun x'=>⟨2,[(1,ksO x'.2),(0,ptO ⟨kind,card,frm,modes,pl,ps,x,y,z⟩)]⟩,fun x'=>x'.1<=3/\OutS x'.2 x'.1,fun x'=>3 - x'.1,?_,?_⟩
 ·exact⟨(0,[]),⟨by decide,⟨fun c hc=>(by cases hc),Nat.le_refl _⟩⟩,qAA [] [] [(1,11)] rfl (sk) (sk) rfl⟩
 rintro⟨i,out⟩ ⟨k1,k2⟩
 simp only [] at k1 k2
 by_cases ha:i<ps.length/\i<3/\0<rs.length
 rotate_left
 ·by_cases hi:i<ps.length
  rotate_left
  ·refine And.intro (fun h=>absurd (show(i:Int)<((ps.map Pc.cells).length:Nat) from h) (by rw [hps];omega)) (fun _=>?_)
   refine⟨by show(0:Int)<=0/\(0:Int)<3;decide,?_⟩
   refine⟨.p (u8 x),qP3 (by kernel_rfl) rfl,?_⟩
   refine⟨(x.toNat:Int),wrap_i64 (by omega) (by have:=x.toNat_lt;omega),?_⟩
   refine⟨by decide,?_⟩
   have hz:=qB4 (Int.natCast_nonneg x.toNat) (show(0:Int)<21 by decide)
   generalize (x.toNat:Int).tmod 21=zz at hz ⊢
   refine⟨zz - 10,w6z,?_⟩
   by_cases hg0:0<g
   ·refine And.intro (fun _=>?_) (fun h=>absurd hg0 h)
    obtain⟨hk,hg1,hg2⟩:(k=2∨k=3)/\1<=g/\g<=12:=by
     rcases hg.ok with h | h
     ·omega
     ·exact h
    refine(qEy x y z k g hk ⟨by omega,hg2⟩).at fun r hr=>?_
    obtain⟨l,rfl,hl⟩:=hr
    refine⟨by show 0+1<=1;omega,[zc0++[ints l]],rfl,?_⟩
    refine⟨by show 0+out.length<=(out.map Cs.cells).length;simp,out.map Cs.cells,qAD (by simp),by show(out.length+1) * 152<=140737488355328;have:=k2.len;omega,out.map Cs.cells++[zc0++[ints l]],rfl,?_⟩
    refine qAF (.lsts 11 (out.map Cs.cells++[zc0++[ints l]])) rfl ⟨_,rfl,by show 0+(out.length+1)<=(out.map Cs.cells++[zc0++[ints l]]).length;simp,qAD (by simp)⟩ ⟨_,out++[⟨cd0,l⟩],rfl,qDF out l,qFc (by have:=k2.len;omega) k2.cs ⟨rfl,(hl.nu hk)⟩⟩
   ·refine And.intro (fun h=>absurd h hg0) (fun _=>?_)
    refine⟨by show 0+1<=1;omega,_,rfl, .inl ⟨[2],[zc0++[ints [zz - 10]]],rfl,⟨_,_,rfl,⟨_,_,rfl,rfl,_,_,rfl,rfl,_,_,rfl,rfl,_,_,rfl,rfl,_,_,rfl,rfl,_,_,rfl,rfl,_,_,rfl,rfl,_,_,rfl,rfl,_,_,rfl, .inl rfl,_,_,rfl, .inl rfl,_,_,rfl,⟨_,rfl,Nat.le_refl _,rfl⟩,rfl⟩,rfl⟩,?_⟩⟩
    refine⟨by show 0+out.length<=(out.map Cs.cells).length;simp,out.map Cs.cells,qAD (by simp),by show(out.length+1) * 152<=140737488355328;have:=k2.len;omega,out.map Cs.cells++[zc0++[ints [zz - 10]]],rfl,?_⟩
    refine qAF (.lsts 11 (out.map Cs.cells++[zc0++[ints [zz - 10]]])) rfl ⟨_,rfl,by show 0+(out.length+1)<=(out.map Cs.cells++[zc0++[ints [zz - 10]]]).length;simp,qAD (by simp)⟩ ⟨_,out++[⟨cd0,[zz - 10]⟩],rfl,qDF out [zz - 10],qFc (by have:=k2.len;omega) k2.cs ⟨rfl,(qMq (by omega))⟩⟩
  refine And.intro (fun _=>?_) (fun h=>absurd (show(i:Int)<((ps.map Pc.cells).length:Nat) by rw [hps];omega) h)
  by_cases hi3:i<3
  rotate_left
  ·refine And.intro (fun h=>absurd (show(i:Int)<3 from h) (by omega)) (fun _=>?_)
   refine⟨by show(0:Int)<=0/\(0:Int)<3;decide,?_⟩
   refine⟨.p (u8 x),qP3 (by kernel_rfl) rfl,?_⟩
   refine⟨(x.toNat:Int),wrap_i64 (by omega) (by have:=x.toNat_lt;omega),?_⟩
   refine⟨by decide,?_⟩
   have hz:=qB4 (Int.natCast_nonneg x.toNat) (show(0:Int)<21 by decide)
   generalize (x.toNat:Int).tmod 21=zz at hz ⊢
   refine⟨zz - 10,w6z,?_⟩
   by_cases hg0:0<g
   ·refine And.intro (fun _=>?_) (fun h=>absurd hg0 h)
    obtain⟨hk,hg1,hg2⟩:(k=2∨k=3)/\1<=g/\g<=12:=by
     rcases hg.ok with h | h
     ·omega
     ·exact h
    refine(qEy x y z k g hk ⟨by omega,hg2⟩).at fun r hr=>?_
    obtain⟨l,rfl,hl⟩:=hr
    refine⟨by show 0+1<=1;omega,[zc0++[ints l]],rfl,?_⟩
    refine⟨by show 0+out.length<=(out.map Cs.cells).length;simp,out.map Cs.cells,qAD (by simp),by show(out.length+1) * 152<=140737488355328;have:=k2.len;omega,out.map Cs.cells++[zc0++[ints l]],rfl,?_⟩
    refine qAF (.lsts 11 (out.map Cs.cells++[zc0++[ints l]])) rfl ⟨_,rfl,by show 0+(out.length+1)<=(out.map Cs.cells++[zc0++[ints l]]).length;simp,qAD (by simp)⟩ ⟨_,out++[⟨cd0,l⟩],rfl,qDF out l,qFc (by have:=k2.len;omega) k2.cs ⟨rfl,(hl.nu hk)⟩⟩
   ·refine And.intro (fun h=>absurd h hg0) (fun _=>?_)
    refine⟨by show 0+1<=1;omega,_,rfl, .inl ⟨[2],[zc0++[ints [zz - 10]]],rfl,⟨_,_,rfl,⟨_,_,rfl,rfl,_,_,rfl,rfl,_,_,rfl,rfl,_,_,rfl,rfl,_,_,rfl,rfl,_,_,rfl,rfl,_,_,rfl,rfl,_,_,rfl,rfl,_,_,rfl, .inl rfl,_,_,rfl, .inl rfl,_,_,rfl,⟨_,rfl,Nat.le_refl _,rfl⟩,rfl⟩,rfl⟩,?_⟩⟩
    refine⟨by show 0+out.length<=(out.map Cs.cells).length;simp,out.map Cs.cells,qAD (by simp),by show(out.length+1) * 152<=140737488355328;have:=k2.len;omega,out.map Cs.cells++[zc0++[ints [zz - 10]]],rfl,?_⟩
    refine qAF (.lsts 11 (out.map Cs.cells++[zc0++[ints [zz - 10]]])) rfl ⟨_,rfl,by show 0+(out.length+1)<=(out.map Cs.cells++[zc0++[ints [zz - 10]]]).length;simp,qAD (by simp)⟩ ⟨_,out++[⟨cd0,[zz - 10]⟩],rfl,qDF out [zz - 10],qFc (by have:=k2.len;omega) k2.cs ⟨rfl,(qMq (by omega))⟩⟩
  refine And.intro (fun _=>?_) (fun h=>absurd (show(i:Int)<3 by omega) h)
  refine And.intro (fun h=>absurd (show(0:Int)<((rs.map Rf.cells).length:Nat) from h) (by rw [hrs];omega)) (fun _=>?_)
  refine⟨by show(0:Int)<=0/\(0:Int)<3;decide,?_⟩
  refine⟨.p (u8 x),qP3 (by kernel_rfl) rfl,?_⟩
  refine⟨(x.toNat:Int),wrap_i64 (by omega) (by have:=x.toNat_lt;omega),?_⟩
  refine⟨by decide,?_⟩
  have hz:=qB4 (Int.natCast_nonneg x.toNat) (show(0:Int)<21 by decide)
  generalize (x.toNat:Int).tmod 21=zz at hz ⊢
  refine⟨zz - 10,w6z,?_⟩
  by_cases hg0:0<g
  ·refine And.intro (fun _=>?_) (fun h=>absurd hg0 h)
   obtain⟨hk,hg1,hg2⟩:(k=2∨k=3)/\1<=g/\g<=12:=by
    rcases hg.ok with h | h
    ·omega
    ·exact h
   refine(qEy x y z k g hk ⟨by omega,hg2⟩).at fun r hr=>?_
   obtain⟨l,rfl,hl⟩:=hr
   refine⟨by show 0+1<=1;omega,[zc0++[ints l]],rfl,?_⟩
   refine⟨by show 0+out.length<=(out.map Cs.cells).length;simp,out.map Cs.cells,qAD (by simp),by show(out.length+1) * 152<=140737488355328;have:=k2.len;omega,out.map Cs.cells++[zc0++[ints l]],rfl,?_⟩
   refine qAF (.lsts 11 (out.map Cs.cells++[zc0++[ints l]])) rfl ⟨_,rfl,by show 0+(out.length+1)<=(out.map Cs.cells++[zc0++[ints l]]).length;simp,qAD (by simp)⟩ ⟨_,out++[⟨cd0,l⟩],rfl,qDF out l,qFc (by have:=k2.len;omega) k2.cs ⟨rfl,(hl.nu hk)⟩⟩
  ·refine And.intro (fun h=>absurd h hg0) (fun _=>?_)
   refine⟨by show 0+1<=1;omega,_,rfl, .inl ⟨[2],[zc0++[ints [zz - 10]]],rfl,⟨_,_,rfl,⟨_,_,rfl,rfl,_,_,rfl,rfl,_,_,rfl,rfl,_,_,rfl,rfl,_,_,rfl,rfl,_,_,rfl,rfl,_,_,rfl,rfl,_,_,rfl,rfl,_,_,rfl, .inl rfl,_,_,rfl, .inl rfl,_,_,rfl,⟨_,rfl,Nat.le_refl _,rfl⟩,rfl⟩,rfl⟩,?_⟩⟩
   refine⟨by show 0+out.length<=(out.map Cs.cells).length;simp,out.map Cs.cells,qAD (by simp),by show(out.length+1) * 152<=140737488355328;have:=k2.len;omega,out.map Cs.cells++[zc0++[ints [zz - 10]]],rfl,?_⟩
   refine qAF (.lsts 11 (out.map Cs.cells++[zc0++[ints [zz - 10]]])) rfl ⟨_,rfl,by show 0+(out.length+1)<=(out.map Cs.cells++[zc0++[ints [zz - 10]]]).length;simp,qAD (by simp)⟩ ⟨_,out++[⟨cd0,[zz - 10]⟩],rfl,qDF out [zz - 10],qFc (by have:=k2.len;omega) k2.cs ⟨rfl,(qMq (by omega))⟩⟩
 obtain⟨hi,hi3,hr0⟩:=ha
 refine And.intro (fun _=>?_) (fun h=>absurd (show(i:Int)<((ps.map Pc.cells).length:Nat) by rw [hps];omega) h)
 refine And.intro (fun _=>?_) (fun h=>absurd (show(i:Int)<3 by omega) h)
 refine And.intro (fun _=>?_) (fun h=>absurd (show(0:Int)<((rs.map Rf.cells).length:Nat) by rw [hrs];omega) h)
 have hcell:=qUs hi
 generalize ps.getD i pc0=P at hcell
 have hcd:=qVU P rs cs ⟨h,hr0⟩
 obtain⟨w,o,n,m,a,b,c⟩:=P
 have haL:=a.toNat_lt
 have hv:=qB4 (Int.natCast_nonneg a.toNat) (show(0:Int)<201 by decide)
 refine qHw (fun c:Cd=>[(1, .p (qBy rs)),(2, .p (ints cs)),(3, .p (i64 (k:Int))),(4, .p (i64 g)),(5, .ptr 0 0 0),(11, .sl 1 11 0 out.length),(12, .p (i64 (i:Int))),(13, .ptr 2 0 0)]) (fun c=>⟨3,[(2,⟨qHe,false, .bx ((c.cells++[ints [(a.toNat:Int).tmod 201 - 100]]).map .p)⟩),(1,ksO out),(0,ptO ⟨kind,card,frm,modes,pl,ps,x,y,z⟩)]⟩) (fun c=>∃ n,n<=3/\CdS 8 c n 43) qXJ (by kernel_rfl) ?_ ?_
 ·refine⟨_,⟨by omega,(Pc.mk w o n m a b c).cells,hcell,rfl⟩,?_⟩
  refine⟨_,⟨by omega,(Pc.mk w o n m a b c).cells,hcell,rfl⟩,?_⟩
  refine⟨_,⟨by show(0:Int)<=0/\(0:Int)<3;decide,[u8 a],rfl,rfl⟩,?_⟩
  refine⟨(a.toNat:Int),w6z,?_⟩
  refine⟨by decide,?_⟩
  refine⟨(a.toNat:Int).tmod 201 - 100,w6z,?_⟩
  have ea:(a.toNat:Int)=IntKind.i64.wrap (a.toNat:Int):=w6z
  refine And.intro ?_ ?_
  ·refine hcd.at fun r hr=>?_
   obtain⟨⟨ao,an,ar,av,af,as',aa⟩,nn,rfl,hnn,hcc⟩:=hr
   refine⟨⟨congrArg (fun z:Int=>AV.p (.int .i64 z)) ea,rfl,rfl,trivial⟩,?_⟩
   refine⟨⟨congrArg (fun z:Int=>AV.p (.int .i64 z)) ea,rfl,rfl,rfl,rfl,trivial⟩,?_⟩
   exact⟨.mk ao an ar av af as' aa,⟨nn,hnn,hcc⟩,qAA [] [] [] rfl (sk) (sk) rfl⟩
  ·refine⟨⟨congrArg (fun z:Int=>AV.p (.int .i64 z)) ea,rfl,rfl,rfl,rfl,trivial⟩,?_⟩
   refine hcd.at fun r hr=>?_
   obtain⟨⟨ao,an,ar,av,af,as',aa⟩,nn,rfl,hnn,hcc⟩:=hr
   refine⟨⟨congrArg (fun z:Int=>AV.p (.int .i64 z)) ea,rfl,rfl,trivial⟩,?_⟩
   exact⟨.mk ao an ar av af as' aa,⟨nn,hnn,hcc⟩,qAA [] [] [] rfl (sk) (sk) rfl⟩
 ·rintro⟨ao,an,ar,av,af,as',aa⟩ ⟨nn,hnn,hcc⟩
  by_cases hg0:0<g
  ·refine And.intro (fun _=>?_) (fun h=>absurd hg0 h)
   obtain⟨hk,hg1,hg2⟩:(k=2∨k=3)/\1<=g/\g<=12:=by
    rcases hg.ok with h | h
    ·omega
    ·exact h
   refine⟨_,⟨by omega,(Pc.mk w o n m a b c).cells,hcell,rfl⟩,?_⟩
   refine(qEy a b c k g hk ⟨by omega,hg2⟩).at fun r hr=>?_
   obtain⟨l,rfl,hl⟩:=hr
   refine⟨by show 0+1<=1;omega,[(Cs.mk (Cd.mk ao an ar av af as' aa) l).cells],rfl,?_⟩
   refine⟨by show 0+out.length<=(out.map Cs.cells).length;simp,out.map Cs.cells,qAD (by simp),by show(out.length+1) * 152<=140737488355328;have:=k2.len;omega,(out++[Cs.mk (Cd.mk ao an ar av af as' aa) l]).map Cs.cells,by simp,?_⟩
   refine⟨((i+1:Nat):Int),by rw [Int.natCast_add];exact w6z,?_⟩
   exact⟨(i+1,out++[Cs.mk (Cd.mk ao an ar av af as' aa) l]),⟨by show i+1<=3;omega,k2.snoc ⟨⟨nn,hnn,hcc⟩,(hl.nu hk)⟩⟩,qAA [] [(1,4)] [] rfl ⟨rfl,rfl,rfl,rfl,⟨rfl,rfl⟩,congrArg (fun k:Nat=>AV.sl 4 11 0 k) (qAN out _).symm,rfl,trivial⟩ (sk) rfl,by show 3 - (i+1)<3 - i;omega⟩
  ·refine And.intro (fun h=>absurd h hg0) (fun _=>?_)
   refine⟨by show 0+1<=1;omega,[(Cs.mk (Cd.mk ao an ar av af as' aa) [(a.toNat:Int).tmod 201 - 100]).cells],rfl,?_⟩
   refine⟨by show 0+out.length<=(out.map Cs.cells).length;simp,out.map Cs.cells,qAD (by simp),by show(out.length+1) * 152<=140737488355328;have:=k2.len;omega,(out++[Cs.mk (Cd.mk ao an ar av af as' aa) [(a.toNat:Int).tmod 201 - 100]]).map Cs.cells,by simp,?_⟩
   refine⟨((i+1:Nat):Int),by rw [Int.natCast_add];exact w6z,?_⟩
   exact⟨(i+1,out++[Cs.mk (Cd.mk ao an ar av af as' aa) [(a.toNat:Int).tmod 201 - 100]]),⟨by show i+1<=3;omega,k2.snoc ⟨⟨nn,hnn,hcc⟩,(qMq (by omega))⟩⟩,qAA [] [(1,4)] [] rfl ⟨rfl,rfl,rfl,rfl,⟨rfl,rfl⟩,congrArg (fun k:Nat=>AV.sl 4 11 0 k) (qAN out _).symm,rfl,trivial⟩ (sk) rfl,by show 3 - (i+1)<3 - i;omega⟩
theorem qGT (p:Pt) (rs:List Rf) (cs:List Int) (h:RcS rs cs) (k:Nat) (g:Int) (hg:GrS k g) (hp:p.cases.length<=9223372036854775807):Pure cx 33 [.agg p.cells,qBy rs,ints cs,i64 (k:Int),i64 g] fun r=>∃ l,r=.ret [css l]/\RuS l:=
 (qR3 p rs cs h k g hg hp).weak fun r hr=>by
  obtain⟨y,l,rfl,h1,h2⟩:=hr
  exact⟨.ret [css l],⟨_,rfl,_,_,rfl,h1,rfl⟩,l,rfl,h2⟩
structure Dp where
 grain:UInt8
 plate:UInt8
 nodes:List Pt
 choice:Pt
 gains:List Pt
 chooses:Bool
abbrev Dp.cells (d:Dp):List PV:=[u8 d.grain,u8 d.plate, .lsts 9 (d.nodes.map Pt.cells),u8 d.choice.kind,u8 d.choice.card,u8 d.choice.frm,u8 d.choice.modes, .bool d.choice.pl, .lsts 7 (d.choice.cases.map Pc.cells),u8 d.choice.x,u8 d.choice.y,u8 d.choice.z, .lsts 9 (d.gains.map Pt.cells), .bool d.chooses]
structure Dp.ok (d:Dp):Prop where
 nodes:d.nodes.length<=9223372036854775807
 gains:d.gains.length<=9223372036854775807
 ncases:∀ p∈d.nodes,p.cases.length<=9223372036854775807
 gcases:∀ p∈d.gains,p.cases.length<=9223372036854775807
def pt0:Pt:=⟨0,0,0,0,false,[],0,0,0⟩
theorem qPS {l:List Pt} {k:Nat} (h:k<l.length):(l.map Pt.cells)[k]?=some (l.getD k pt0).cells:=qCw pt0 h
abbrev TKn:TypeId:=99
abbrev qXU:TypeId:=40
def dpO (d:Dp):AObj:=⟨54,false, .bx (d.cells.map .p)⟩
def kwO (l:List Kn):AObj:=⟨TKn,false, .pus (l.map Kn.cells)⟩
def dyO (Y:List (List PV)):AObj:=⟨qHt,false, .pus Y⟩
def s1O (v:AV):AObj:=⟨qXU,false, .bx [v]⟩
theorem qFr (l:List Int):qL1 (iO l):=⟨rfl,rfl,by
 show qDl ((l.map i64).map .p)=true
 rw [qDJ]
 induction l with
 | nil=>rfl
 | cons a l ih=>simp only [List.map_cons,qEX,ih,Bool.and_true];rfl⟩
theorem qEL (l:List Rf):qL1 (qOa l):=⟨rfl,rfl,by
 show qDl ((l.map Rf.cells).flatten.map .p)=true
 rw [qDJ]
 induction l with
 | nil=>rfl
 | cons a l ih=>
  rw [List.map_cons,List.flatten_cons]
  simp only [Rf.cells,List.cons_append,List.nil_append,qEX,ih,Bool.and_true];rfl⟩
theorem qKO:∀ {a b:List (List PV)} {c d:List (List PV)},NilDLL a c->NilDLL b d->NilDLL (a++b) (c++d)
 | [],b,c,d,h,k=>by
  simp only [NilDLL] at h
  subst h;exact k
 | x::a,b,c,d,h,k=>by
  simp only [NilDLL,List.cons_append] at h ⊢
  obtain⟨z,zs,rfl,h1,h2⟩:=h
  exact⟨z,zs++d,rfl,h1,qKO h2 k⟩
theorem qPm {a b:List PV} (h:NilDL a b):NilDLL [a] [b]:=by
 simp only [NilDLL]
 exact⟨_,_,rfl,h,rfl⟩
structure PgS (Y:List (List PV)) (n k:Nat):Prop where
 ds:∃ ds:List De,NilDLL Y (ds.map De.cells)/\PrS ds k/\ds.length=n
theorem PgS.len {Y:List (List PV)} {n k:Nat} (h:PgS Y n k):Y.length=n:=by
 obtain⟨ds,h1,_,h3⟩:=h.ds
 have:=h1.len
 rw [List.length_map] at this
 omega
theorem PgS.snoc {Y:List (List PV)} {n k j:Nat} {c:List PV} {d:De} (h:PgS Y n k) (hc:NilDL c d.cells) (hd:DeS d j):PgS (Y++[c]) (n+1) (k+j):=by
 obtain⟨ds,h1,h2,h3⟩:=h.ds
 refine⟨ds++[d],?_,h2.snoc hd,by rw [List.length_append,h3];rfl⟩
 rw [List.map_append]
 exact qKO h1 (qPm hc)
theorem PgS.le {Y:List (List PV)} {n k k':Nat} (h:PgS Y n k) (hk:k<=k'):PgS Y n k':=by
 obtain⟨ds,h1,h2,h3⟩:=h.ds
 exact⟨ds,h1,h2.le hk,h3⟩
theorem qMz {k n:Int} {nm pl:List UInt8} {a b a' b':PV} (h1:NilD a a') (h2:NilD b b'):NilDL [i64 k,i64 n, .str nm, .str pl,a,b] [i64 k,i64 n, .str nm, .str pl,a',b']:=by
 simp only [NilDL]
 exact⟨_,_,rfl,NilD.refl _,_,_,rfl,NilD.refl _,_,_,rfl,NilD.refl _,_,_,rfl,NilD.refl _,_,_,rfl,h1,_,_,rfl,h2,rfl⟩
theorem qIN (s:Nat):NilD .nils (.lsts s []):=by
 simp only [NilD]
 exact .inr (.inr ⟨s,rfl⟩)
theorem qUr {g s:Int} (hg:0<=g/\g<=12) (hs:0<=s/\s<=2):PgS [[i64 1,i64 g, .str [], .str [], .nils, .nils],[i64 2,i64 s, .str [112], .str [], .nils, .nils]] 2 22:=by
 have h0:PgS [] 0 0:=⟨[],by simp only [NilDLL,List.map_nil],PrS.nil,rfl⟩
 have h1:=h0.snoc (d:=⟨1,g,[],[],[],[]⟩) (qMz (qIN 4) (qIN 11)) (qRo (qCv hg.1 (by omega)))
 exact h1.snoc (d:=⟨2,s,[112],[],[],[]⟩) (qMz (qIN 4) (qIN 11)) (qRW (qCv hs.1 (by omega)))
abbrev qXE:OT:=(.pure 0 (.pure 1 (.pure 2 (.pure 3 (.pure 4 (.pure 5 (.pure 6 (.pure 7 (.pure 8 (.pure 9 (.pure 10 (.pure 11 .fin))))))))))))
abbrev qUz:OT:=(.pure 0 (.pure 1 (.pure 2 (.pure 3 (.pure 4 (.pure 5 (.pure 6 (.pure 7 (.pure 8 (.pure 9 (.pure 10 (.pure 11 (.pure 12 (.pure 13 (.eff 14 [1] (.pure 15 (.eff 16 [1] (.eff 17 [] (.pure 18 (.eff 19 [] .fin .nil)) .nil) .nil)) .nil)))))))))))))))
abbrev qUy:OT:=(.pure 0 (.pure 1 (.pure 2 (.pure 3 (.pure 4 (.pure 5 (.pure 6 (.pure 7 (.pure 8 (.eff 9 [] (.eff 10 [] (.pure 11 .fin) .nil) .nil))))))))))
abbrev qUx:OT:=(.pure 0 (.pure 1 (.pure 2 (.pure 3 (.pure 4 (.pure 5 (.pure 6 (.pure 7 (.pure 8 (.pure 9 (.eff 10 [1] (.pure 11 (.eff 12 [1] (.eff 13 [] (.pure 14 (.eff 15 [] .fin .nil)) .nil) .nil)) .nil)))))))))))
def PqQ (r:PEnd):Prop:=∃ (Y:List (List PV)) (n k:Nat),r=.ret [.agg [.lsts 6 Y]]/\PgS Y n k/\n<=30/\k<=1300/\2<=n
structure LkS (l:List Kn) (i:Nat):Prop where
 ok:∀ k∈l,KnS k
 len:l.length=i
theorem LkS.snoc {l:List Kn} {i:Nat} {k:Kn} (h:LkS l i) (hk:KnS k):LkS (l++[k]) (i+1):=by
 refine⟨fun x hx=>?_,by rw [List.length_append,h.len];rfl⟩
 rcases List.mem_append.1 hx with hx | hx
 ·exact h.ok x hx
 ·rw [List.mem_singleton.1 hx];exact hk
def nmI (i:Nat):List UInt8:=(([97,98,99,100]:List UInt8).drop i).take (i+1 - i)
theorem qU4:∀ i,i<4->qAk (nmI i)=true/\(nmI i).length=1:=by decide
theorem qOG {C:Cx} {g:FuncId} {pargs:List PV} {args:List AV} {H:Hp} {Q0 Q:AE->Hp->Prop} (h:Holds C g (pargs.map .p) ⟨0,[]⟩ Q0) (fs:List Nat) (hm:qA1 H.l fs=true) (ha:qB3 (Res (marks H.l fs) 5) args pargs)
  (hQ:∀ e0 H0',Q0 e0 H0'->(qGC H0'.l && qQJ e0)=true/\qNN H0'.l/\∃ e H2,qS7 (qBx 0 [] 0 H.next) e0=e/\(⟨H.next+H0'.next,qRM (qBx 0 [] 0 H.next) H0'.l++H.l⟩:Hp)=H2/\Q e H2):Holds C g args H Q:=
 h.lendN fs hm ha fun e0 H0 hq=>by
  obtain⟨h1,h2,e,H2,rfl,rfl,h3⟩:=hQ e0 H0 hq
  exact⟨h1,h2,h3⟩
theorem qN1 (d:Dp) (hd:d.ok):Pure cx 14 [.agg d.cells] PqQ:=by
 refine qAB Tryz.func14 rfl rfl rfl ?_
 obtain⟨gr,pt,ns,ch,gs,cz⟩:=d
 obtain⟨hd1,hd2,hd3,hd4⟩:=hd
 simp only [] at hd1 hd2 hd3 hd4
 have hns:(ns.map Pt.cells).length=ns.length:=List.length_map ..
 have hgs:(gs.map Pt.cells).length=gs.length:=List.length_map ..
 have hgr:=gr.toNat_lt
 have hpt:=pt.toNat_lt
 refine qAG qXE (by kernel_rfl) ?_
 refine⟨by decide,?_⟩
 refine⟨((gr.toNat % 12:Nat):Int),by show _=IntKind.i64.wrap ((gr.toNat:Int).tmod 12);rw [show(gr.toNat:Int).tmod 12=((gr.toNat % 12:Nat):Int) from rfl];exact w6z,?_⟩
 obtain⟨g,hge⟩:∃ g:Int,g=1+((gr.toNat % 12:Nat):Int):=⟨_,rfl⟩
 refine⟨g,by rw [hge];exact w6z,?_⟩
 refine⟨by decide,?_⟩
 refine⟨((pt.toNat % 2:Nat):Int),by show _=IntKind.i64.wrap ((pt.toNat:Int).tmod 2);rw [show(pt.toNat:Int).tmod 2=((pt.toNat % 2:Nat):Int) from rfl];exact w6z,?_⟩
 obtain⟨sz,hse⟩:∃ s:Int,s=1+((pt.toNat % 2:Nat):Int):=⟨_,rfl⟩
 refine⟨sz,by rw [hse];exact w6z,?_⟩
 have hg:1<=g/\g<=12:=by omega
 have hs:sz=1∨sz=2:=by omega
 clear hge hse
 have hp2:=qUr (g:=g) (s:=sz) (by omega) (by omega)
 refine⟨Nat × List (List PV) × List Kn,fun x=>[(1, .ptr 0 0 0),(2, .ptr 1 0 0),(3, .p (i64 g)),(4, .p (i64 sz)),(5, .ptr 3 0 0),(6, .sl 4 3 0 x.1),(7, .p (i64 x.1))],fun x=>⟨5,[(4,kwO x.2.2),(3,s1O (.sl 2 6 0 (2+x.1))),(2,dyO x.2.1),(1,s1O (.p .nils)),(0,dpO ⟨gr,pt,ns,ch,gs,cz⟩)]⟩,fun x=>x.1<=4/\PgS x.2.1 (2+x.1) (22+201 * x.1)/\LkS x.2.2 x.1,fun x=>4 - x.1,?_,?_⟩
 ·exact⟨(0,_,[]),⟨by show 0<=4;decide,hp2,⟨fun k hk=>(by cases hk),rfl⟩⟩,qAA [] [] [(4,3)] rfl (sk) (sk) rfl⟩
 rintro⟨i,Y,l⟩ ⟨k1,k2,k3⟩
 simp only [] at k1 k2 k3
 have hY:=k2.len
 have hL:=k3.len
 by_cases ha:i<ns.length/\i<4
 rotate_left
 ·cases cz
  ·by_cases hi:i<ns.length
   ·refine And.intro (fun _=>?_) (fun h=>absurd (show(i:Int)<((ns.map Pt.cells).length:Nat) by rw [hns];omega) h)
    refine And.intro (fun h=>absurd (show(i:Int)<4 from h) (by omega)) (fun _=>?_)
    exact qAF (.agg [.lsts 6 Y]) rfl ⟨_,rfl,_,_,rfl,⟨_,rfl,by show 0+(2+i)<=Y.length;omega,qAD (by omega)⟩,rfl⟩ ⟨_,_,_,rfl,k2,by omega,by omega,by omega⟩
   ·refine And.intro (fun h=>absurd (show(i:Int)<((ns.map Pt.cells).length:Nat) from h) (by rw [hns];omega)) (fun _=>?_)
    exact qAF (.agg [.lsts 6 Y]) rfl ⟨_,rfl,_,_,rfl,⟨_,rfl,by show 0+(2+i)<=Y.length;omega,qAD (by omega)⟩,rfl⟩ ⟨_,_,_,rfl,k2,by omega,by omega,by omega⟩
  ·by_cases hi:i<ns.length
   ·refine And.intro (fun _=>?_) (fun h=>absurd (show(i:Int)<((ns.map Pt.cells).length:Nat) by rw [hns];omega) h)
    refine And.intro (fun h=>absurd (show(i:Int)<4 from h) (by omega)) (fun _=>?_)
    refine qOG (pargs:=[.agg (ch).cells, .lsts 3 ((l).map Kn.cells), .bool false,i64 sz]) (qFh ch (l) (k3).ok (by have:=(k3).len;omega) false sz hs).holds [4] rfl ⟨_,_,rfl,rfl,_,_,rfl,⟨_,rfl,by show 0+(i)<=((l).map Kn.cells).length;rw [List.length_map];have:=(k3).len;omega,qAD (by rw [List.length_map];have:=(k3).len;omega)⟩,_,_,rfl,rfl,_,_,rfl,rfl,rfl⟩ fun e0 H0 hq=>?_
    obtain⟨rs,cs,rfl,rfl,hrc⟩:=hq
    refine⟨rfl,⟨qEL _,qFr _,trivial⟩,_,⟨7,(5,qOa rs)::(6,iO cs)::[(4,kwO l),(3,s1O (.sl 2 6 0 (2+i))),(2,dyO Y),(1,s1O (.p .nils)),(0,dpO ⟨gr,pt,ns,ch,gs,true⟩)]⟩,rfl,rfl,?_⟩
    refine⟨by show 0+1<=1;omega,_,rfl, .inl ⟨[5],[[i64 4,i64 2, .str [101], .str [],qBy rs, .nils]],rfl,⟨_,_,rfl,⟨_,_,rfl,rfl,_,_,rfl,rfl,_,_,rfl,rfl,_,_,rfl,rfl,_,_,rfl,⟨_,rfl,by show 0+rs.length<=(rs.map Rf.cells).length;simp,qAD (by simp)⟩,_,_,rfl,(by first | exact rfl | exact .inl rfl),rfl⟩,rfl⟩,?_⟩⟩
    refine⟨by show 0+(2+i)<=Y.length;omega,Y,qAD (by omega),by show(2+i+1) * 96<=140737488355328;omega,Y++[[i64 4,i64 2, .str [101], .str [],qBy rs, .nils]],rfl,?_⟩
    refine⟨by show 0+1<=1;omega,[((Kn.mk [101] 2 false)).cells],rfl,?_⟩
    refine⟨by show 0+i<=(l.map Kn.cells).length;rw [List.length_map];omega,l.map Kn.cells,qAD (by rw [List.length_map];omega),by show(i+1) * 32<=140737488355328;omega,(l++[(Kn.mk [101] 2 false)]).map Kn.cells,by simp,?_⟩
    have k4:=k2.snoc (d:=⟨4,2,[101],[],rs,[]⟩) (qMz (NilD.refl _) (qIN 11)) (qKr (n:=2) (nm:=[101]) (by decide) (by decide) (by decide) hrc.refs hrc.len)
    have k5:LkS (l++[Kn.mk [101] 2 false]) (i+1):=k3.snoc ⟨by show qAk [101]=true;decide,rfl, .inl rfl⟩
    clear k2 k3 hp2 ha hY hL
    generalize Y++[[i64 4,i64 2, .str [101], .str [],qBy rs, .nils]]=Y at k4 ⊢
    generalize l++[Kn.mk [101] 2 false]=l at k5 ⊢
    refine⟨Nat × List (List PV),fun x=>[(1, .ptr 0 0 0),(2, .ptr 1 0 0),(4, .p (i64 sz)),(5, .ptr 3 0 0),(6, .sl 4 3 0 (i+1)),(15, .p (i64 x.1))],fun x=>⟨5,[(4,kwO l),(3,s1O (.sl 2 6 0 (2+i+1+x.1))),(2,dyO x.2),(1,s1O (.p .nils)),(0,dpO ⟨gr,pt,ns,ch,gs,true⟩)]⟩,fun x=>x.1<=2/\PgS x.2 (2+i+1+x.1) (22+201 * i+33+192 * x.1),fun x=>2 - x.1,?_,?_⟩
    ·exact⟨(0,Y),⟨by show 0<=2;decide,k4⟩,qAA [] [(2,8),(4,10)] [] rfl (sk) (sk) rfl⟩
    rintro⟨j,Y⟩ ⟨j1,k2⟩
    simp only [] at j1 k2
    have hY:=k2.len
    by_cases hb:j<gs.length/\j<2
    rotate_left
    ·by_cases hj:j<gs.length
     ·refine And.intro (fun _=>?_) (fun h=>absurd (show(j:Int)<((gs.map Pt.cells).length:Nat) by rw [hgs];omega) h)
      refine And.intro (fun h=>absurd (show(j:Int)<2 from h) (by omega)) (fun _=>?_)
      exact qAF (.agg [.lsts 6 Y]) rfl ⟨_,rfl,_,_,rfl,⟨_,rfl,by show 0+(2+i+1+j)<=Y.length;omega,qAD (by omega)⟩,rfl⟩ ⟨_,_,_,rfl,k2,by omega,by omega,by omega⟩
     ·refine And.intro (fun h=>absurd (show(j:Int)<((gs.map Pt.cells).length:Nat) from h) (by rw [hgs];omega)) (fun _=>?_)
      exact qAF (.agg [.lsts 6 Y]) rfl ⟨_,rfl,_,_,rfl,⟨_,rfl,by show 0+(2+i+1+j)<=Y.length;omega,qAD (by omega)⟩,rfl⟩ ⟨_,_,_,rfl,k2,by omega,by omega,by omega⟩
    obtain⟨hj,hj2⟩:=hb
    have hcell:=qPS hj
    have hpc:=hd4 _ (qAI pt0 hj)
    generalize gs.getD j pt0=p at hcell hpc
    obtain⟨kind,card,frm,modes,pl,ps,x,y,z⟩:=p
    refine And.intro (fun _=>?_) (fun h=>absurd (show(j:Int)<((gs.map Pt.cells).length:Nat) by rw [hgs];omega) h)
    refine And.intro (fun _=>?_) (fun h=>absurd (show(j:Int)<2 by omega) h)
    refine⟨_,⟨by omega,(Pt.mk kind card frm modes pl ps x y z).cells,hcell,rfl⟩,?_⟩
    refine qOG (pargs:=[.agg ((Pt.mk kind card frm modes pl ps x y z)).cells, .lsts 3 ((l).map Kn.cells), .bool false,i64 sz]) (qFh (Pt.mk kind card frm modes pl ps x y z) (l) (k5).ok (by have:=(k5).len;omega) false sz hs).holds [4] rfl ⟨_,_,rfl,rfl,_,_,rfl,⟨_,rfl,by show 0+(i+1)<=((l).map Kn.cells).length;rw [List.length_map];have:=(k5).len;omega,qAD (by rw [List.length_map];have:=(k5).len;omega)⟩,_,_,rfl,rfl,_,_,rfl,rfl,rfl⟩ fun e0 H0 hq=>?_
    obtain⟨rs,cs,rfl,rfl,hrc⟩:=hq
    refine⟨rfl,⟨qEL _,qFr _,trivial⟩,_,⟨7,(5,qOa rs)::(6,iO cs)::[(4,kwO l),(3,s1O (.sl 2 6 0 (2+i+1+j))),(2,dyO Y),(1,s1O (.p .nils)),(0,dpO ⟨gr,pt,ns,ch,gs,true⟩)]⟩,rfl,rfl,?_⟩
    refine qAG qUx (by kernel_rfl) ?_
    refine⟨_,⟨by omega,(Pt.mk kind card frm modes pl ps x y z).cells,hcell,rfl⟩,?_⟩
    refine(qGT _ rs cs hrc 0 0 ⟨.inl ⟨rfl,rfl⟩⟩ hpc).use [5,6] rfl ⟨_,_,rfl,rfl,_,_,rfl,⟨_,rfl,by show 0+rs.length<=(rs.map Rf.cells).length;simp,qAD (by simp)⟩,_,_,rfl,⟨_,rfl,by show 0+cs.length<=(cs.map i64).length;simp,qAD (by simp)⟩,_,_,rfl,rfl,_,_,rfl,rfl,rfl⟩ fun r hr=>?_
    obtain⟨L,rfl,hLs⟩:=hr
    refine⟨⟨rfl,trivial⟩,?_⟩
    refine⟨⟨rfl,trivial⟩,?_⟩
    refine⟨by show 0+1<=1;omega,_,rfl, .inl ⟨[],[[i64 5,i64 0, .str [], .str [],qBy rs,(css L)]],rfl,⟨_,_,rfl,⟨_,_,rfl,rfl,_,_,rfl,rfl,_,_,rfl,rfl,_,_,rfl,rfl,_,_,rfl,⟨_,rfl,by show 0+rs.length<=(rs.map Rf.cells).length;simp,qAD (by simp)⟩,_,_,rfl,(by first | exact rfl | exact .inl rfl),rfl⟩,rfl⟩,?_⟩⟩
    refine⟨by show 0+(2+i+1+j)<=Y.length;omega,Y,qAD (by omega),by show(2+i+1+j+1) * 96<=140737488355328;omega,Y++[[i64 5,i64 0, .str [], .str [],qBy rs,(css L)]],rfl,?_⟩
    refine⟨((j+1:Nat):Int),by rw [Int.natCast_add];exact w6z,?_⟩
    exact⟨(j+1,Y++[[i64 5,i64 0, .str [], .str [],qBy rs,css L]]),⟨by show j+1<=2;omega,(k2.snoc (d:=⟨5,0,[],[],rs,L⟩) (NilDL.refl _) (qQD hrc.refs hrc.len hLs)).le (by show 22+201 * i+33+192 * j+192<=22+201 * i+33+192 * (j+1);omega)⟩,qAA [] [(2,8)] [] rfl (sk) (sk) rfl,by show 2 - (j+1)<2 - j;omega⟩
   ·refine And.intro (fun h=>absurd (show(i:Int)<((ns.map Pt.cells).length:Nat) from h) (by rw [hns];omega)) (fun _=>?_)
    refine qOG (pargs:=[.agg (ch).cells, .lsts 3 ((l).map Kn.cells), .bool false,i64 sz]) (qFh ch (l) (k3).ok (by have:=(k3).len;omega) false sz hs).holds [4] rfl ⟨_,_,rfl,rfl,_,_,rfl,⟨_,rfl,by show 0+(i)<=((l).map Kn.cells).length;rw [List.length_map];have:=(k3).len;omega,qAD (by rw [List.length_map];have:=(k3).len;omega)⟩,_,_,rfl,rfl,_,_,rfl,rfl,rfl⟩ fun e0 H0 hq=>?_
    obtain⟨rs,cs,rfl,rfl,hrc⟩:=hq
    refine⟨rfl,⟨qEL _,qFr _,trivial⟩,_,⟨7,(5,qOa rs)::(6,iO cs)::[(4,kwO l),(3,s1O (.sl 2 6 0 (2+i))),(2,dyO Y),(1,s1O (.p .nils)),(0,dpO ⟨gr,pt,ns,ch,gs,true⟩)]⟩,rfl,rfl,?_⟩
    refine⟨by show 0+1<=1;omega,_,rfl, .inl ⟨[5],[[i64 4,i64 2, .str [101], .str [],qBy rs, .nils]],rfl,⟨_,_,rfl,⟨_,_,rfl,rfl,_,_,rfl,rfl,_,_,rfl,rfl,_,_,rfl,rfl,_,_,rfl,⟨_,rfl,by show 0+rs.length<=(rs.map Rf.cells).length;simp,qAD (by simp)⟩,_,_,rfl,(by first | exact rfl | exact .inl rfl),rfl⟩,rfl⟩,?_⟩⟩
    refine⟨by show 0+(2+i)<=Y.length;omega,Y,qAD (by omega),by show(2+i+1) * 96<=140737488355328;omega,Y++[[i64 4,i64 2, .str [101], .str [],qBy rs, .nils]],rfl,?_⟩
    refine⟨by show 0+1<=1;omega,[((Kn.mk [101] 2 false)).cells],rfl,?_⟩
    refine⟨by show 0+i<=(l.map Kn.cells).length;rw [List.length_map];omega,l.map Kn.cells,qAD (by rw [List.length_map];omega),by show(i+1) * 32<=140737488355328;omega,(l++[(Kn.mk [101] 2 false)]).map Kn.cells,by simp,?_⟩
    have k4:=k2.snoc (d:=⟨4,2,[101],[],rs,[]⟩) (qMz (NilD.refl _) (qIN 11)) (qKr (n:=2) (nm:=[101]) (by decide) (by decide) (by decide) hrc.refs hrc.len)
    have k5:LkS (l++[Kn.mk [101] 2 false]) (i+1):=k3.snoc ⟨by show qAk [101]=true;decide,rfl, .inl rfl⟩
    clear k2 k3 hp2 ha hY hL
    generalize Y++[[i64 4,i64 2, .str [101], .str [],qBy rs, .nils]]=Y at k4 ⊢
    generalize l++[Kn.mk [101] 2 false]=l at k5 ⊢
    refine⟨Nat × List (List PV),fun x=>[(1, .ptr 0 0 0),(2, .ptr 1 0 0),(4, .p (i64 sz)),(5, .ptr 3 0 0),(6, .sl 4 3 0 (i+1)),(15, .p (i64 x.1))],fun x=>⟨5,[(4,kwO l),(3,s1O (.sl 2 6 0 (2+i+1+x.1))),(2,dyO x.2),(1,s1O (.p .nils)),(0,dpO ⟨gr,pt,ns,ch,gs,true⟩)]⟩,fun x=>x.1<=2/\PgS x.2 (2+i+1+x.1) (22+201 * i+33+192 * x.1),fun x=>2 - x.1,?_,?_⟩
    ·exact⟨(0,Y),⟨by show 0<=2;decide,k4⟩,qAA [] [(2,8),(4,10)] [] rfl (sk) (sk) rfl⟩
    rintro⟨j,Y⟩ ⟨j1,k2⟩
    simp only [] at j1 k2
    have hY:=k2.len
    by_cases hb:j<gs.length/\j<2
    rotate_left
    ·by_cases hj:j<gs.length
     ·refine And.intro (fun _=>?_) (fun h=>absurd (show(j:Int)<((gs.map Pt.cells).length:Nat) by rw [hgs];omega) h)
      refine And.intro (fun h=>absurd (show(j:Int)<2 from h) (by omega)) (fun _=>?_)
      exact qAF (.agg [.lsts 6 Y]) rfl ⟨_,rfl,_,_,rfl,⟨_,rfl,by show 0+(2+i+1+j)<=Y.length;omega,qAD (by omega)⟩,rfl⟩ ⟨_,_,_,rfl,k2,by omega,by omega,by omega⟩
     ·refine And.intro (fun h=>absurd (show(j:Int)<((gs.map Pt.cells).length:Nat) from h) (by rw [hgs];omega)) (fun _=>?_)
      exact qAF (.agg [.lsts 6 Y]) rfl ⟨_,rfl,_,_,rfl,⟨_,rfl,by show 0+(2+i+1+j)<=Y.length;omega,qAD (by omega)⟩,rfl⟩ ⟨_,_,_,rfl,k2,by omega,by omega,by omega⟩
    obtain⟨hj,hj2⟩:=hb
    have hcell:=qPS hj
    have hpc:=hd4 _ (qAI pt0 hj)
    generalize gs.getD j pt0=p at hcell hpc
    obtain⟨kind,card,frm,modes,pl,ps,x,y,z⟩:=p
    refine And.intro (fun _=>?_) (fun h=>absurd (show(j:Int)<((gs.map Pt.cells).length:Nat) by rw [hgs];omega) h)
    refine And.intro (fun _=>?_) (fun h=>absurd (show(j:Int)<2 by omega) h)
    refine⟨_,⟨by omega,(Pt.mk kind card frm modes pl ps x y z).cells,hcell,rfl⟩,?_⟩
    refine qOG (pargs:=[.agg ((Pt.mk kind card frm modes pl ps x y z)).cells, .lsts 3 ((l).map Kn.cells), .bool false,i64 sz]) (qFh (Pt.mk kind card frm modes pl ps x y z) (l) (k5).ok (by have:=(k5).len;omega) false sz hs).holds [4] rfl ⟨_,_,rfl,rfl,_,_,rfl,⟨_,rfl,by show 0+(i+1)<=((l).map Kn.cells).length;rw [List.length_map];have:=(k5).len;omega,qAD (by rw [List.length_map];have:=(k5).len;omega)⟩,_,_,rfl,rfl,_,_,rfl,rfl,rfl⟩ fun e0 H0 hq=>?_
    obtain⟨rs,cs,rfl,rfl,hrc⟩:=hq
    refine⟨rfl,⟨qEL _,qFr _,trivial⟩,_,⟨7,(5,qOa rs)::(6,iO cs)::[(4,kwO l),(3,s1O (.sl 2 6 0 (2+i+1+j))),(2,dyO Y),(1,s1O (.p .nils)),(0,dpO ⟨gr,pt,ns,ch,gs,true⟩)]⟩,rfl,rfl,?_⟩
    refine qAG qUx (by kernel_rfl) ?_
    refine⟨_,⟨by omega,(Pt.mk kind card frm modes pl ps x y z).cells,hcell,rfl⟩,?_⟩
    refine(qGT _ rs cs hrc 0 0 ⟨.inl ⟨rfl,rfl⟩⟩ hpc).use [5,6] rfl ⟨_,_,rfl,rfl,_,_,rfl,⟨_,rfl,by show 0+rs.length<=(rs.map Rf.cells).length;simp,qAD (by simp)⟩,_,_,rfl,⟨_,rfl,by show 0+cs.length<=(cs.map i64).length;simp,qAD (by simp)⟩,_,_,rfl,rfl,_,_,rfl,rfl,rfl⟩ fun r hr=>?_
    obtain⟨L,rfl,hLs⟩:=hr
    refine⟨⟨rfl,trivial⟩,?_⟩
    refine⟨⟨rfl,trivial⟩,?_⟩
    refine⟨by show 0+1<=1;omega,_,rfl, .inl ⟨[],[[i64 5,i64 0, .str [], .str [],qBy rs,(css L)]],rfl,⟨_,_,rfl,⟨_,_,rfl,rfl,_,_,rfl,rfl,_,_,rfl,rfl,_,_,rfl,rfl,_,_,rfl,⟨_,rfl,by show 0+rs.length<=(rs.map Rf.cells).length;simp,qAD (by simp)⟩,_,_,rfl,(by first | exact rfl | exact .inl rfl),rfl⟩,rfl⟩,?_⟩⟩
    refine⟨by show 0+(2+i+1+j)<=Y.length;omega,Y,qAD (by omega),by show(2+i+1+j+1) * 96<=140737488355328;omega,Y++[[i64 5,i64 0, .str [], .str [],qBy rs,(css L)]],rfl,?_⟩
    refine⟨((j+1:Nat):Int),by rw [Int.natCast_add];exact w6z,?_⟩
    exact⟨(j+1,Y++[[i64 5,i64 0, .str [], .str [],qBy rs,css L]]),⟨by show j+1<=2;omega,(k2.snoc (d:=⟨5,0,[],[],rs,L⟩) (NilDL.refl _) (qQD hrc.refs hrc.len hLs)).le (by show 22+201 * i+33+192 * j+192<=22+201 * i+33+192 * (j+1);omega)⟩,qAA [] [(2,8)] [] rfl (sk) (sk) rfl,by show 2 - (j+1)<2 - j;omega⟩
 obtain⟨hi,hi4⟩:=ha
 have hcell:=qPS hi
 have hpc:=hd3 _ (qAI pt0 hi)
 generalize ns.getD i pt0=p at hcell hpc
 obtain⟨kind,card,frm,modes,pl,ps,x,y,z⟩:=p
 have hcd:=card.toNat_lt
 have hnm:=qU4 i hi4
 refine And.intro (fun _=>?_) (fun h=>absurd (show(i:Int)<((ns.map Pt.cells).length:Nat) by rw [hns];omega) h)
 refine And.intro (fun _=>?_) (fun h=>absurd (show(i:Int)<4 by omega) h)
 cases pl
 ·refine⟨_,⟨by omega,(Pt.mk kind card frm modes false ps x y z).cells,hcell,rfl⟩,?_⟩
  refine⟨by decide,?_⟩
  refine⟨((card.toNat % 2:Nat):Int),by show _=IntKind.i64.wrap ((card.toNat:Int).tmod 2);rw [show(card.toNat:Int).tmod 2=((card.toNat % 2:Nat):Int) from rfl];exact w6z,?_⟩
  obtain⟨kk,hkk⟩:∃ kk,kk=2+card.toNat % 2:=⟨_,rfl⟩
  refine⟨((kk:Nat):Int),by rw [hkk,Int.natCast_add];exact w6z,?_⟩
  refine qOG (pargs:=[.agg ((Pt.mk kind card frm modes false ps x y z)).cells, .lsts 3 ((l).map Kn.cells), .bool false,i64 sz]) (qFh (Pt.mk kind card frm modes false ps x y z) (l) (k3).ok (by have:=(k3).len;omega) false sz hs).holds [4] rfl ⟨_,_,rfl,rfl,_,_,rfl,⟨_,rfl,by show 0+(i)<=((l).map Kn.cells).length;rw [List.length_map];have:=(k3).len;omega,qAD (by rw [List.length_map];have:=(k3).len;omega)⟩,_,_,rfl,rfl,_,_,rfl,rfl,rfl⟩ fun e0 H0 hq=>?_
  obtain⟨rs,cs,rfl,rfl,hrc⟩:=hq
  refine⟨rfl,⟨qEL _,qFr _,trivial⟩,_,⟨8,(6,qOa rs)::(7,iO cs)::((5,ptO (Pt.mk kind card frm modes false ps x y z))::[(4,kwO l),(3,s1O (.sl 2 6 0 (2+i))),(2,dyO Y),(1,s1O (.p .nils)),(0,dpO ⟨gr,pt,ns,ch,gs,cz⟩)])⟩,rfl,rfl,?_⟩
  refine qAG qUz (by kernel_rfl) ?_
  refine⟨((i+1:Nat):Int),by rw [Int.natCast_add];exact w6z,?_⟩
  refine⟨by show(0:Int)<=(i:Nat)/\((i:Nat):Int)<=((i+1:Nat):Int)/\((i+1:Nat):Int)<=4;omega,?_⟩
  refine(qGT _ rs cs hrc kk g ⟨.inr ⟨by omega,hg⟩⟩ hpc).use [6,7] rfl ⟨_,_,rfl,rfl,_,_,rfl,⟨_,rfl,by show 0+rs.length<=(rs.map Rf.cells).length;simp,qAD (by simp)⟩,_,_,rfl,⟨_,rfl,by show 0+cs.length<=(cs.map i64).length;simp,qAD (by simp)⟩,_,_,rfl,rfl,_,_,rfl,rfl,rfl⟩ fun r hr=>?_
  obtain⟨L,rfl,hLs⟩:=hr
  refine⟨⟨rfl,trivial⟩,?_⟩
  refine⟨⟨rfl,trivial⟩,?_⟩
  refine⟨by show 0+1<=1;omega,_,rfl, .inl ⟨[],[[i64 3,i64 ((kk:Nat):Int), .str (nmI i), .str [],qBy rs,(css L)]],rfl,⟨_,_,rfl,⟨_,_,rfl,rfl,_,_,rfl,rfl,_,_,rfl,rfl,_,_,rfl,rfl,_,_,rfl,⟨_,rfl,by show 0+rs.length<=(rs.map Rf.cells).length;simp,qAD (by simp)⟩,_,_,rfl,(by first | exact rfl | exact .inl rfl),rfl⟩,rfl⟩,?_⟩⟩
  refine⟨by show 0+(2+i)<=Y.length;omega,Y,qAD (by omega),by show(2+i+1) * 96<=140737488355328;omega,Y++[[i64 3,i64 ((kk:Nat):Int), .str (nmI i), .str [],qBy rs,(css L)]],rfl,?_⟩
  refine qAG qUy (by kernel_rfl) ?_
  refine⟨((i+1:Nat):Int),by rw [Int.natCast_add];exact w6z,?_⟩
  refine⟨by show(0:Int)<=(i:Nat)/\((i:Nat):Int)<=((i+1:Nat):Int)/\((i+1:Nat):Int)<=4;omega,?_⟩
  refine⟨by show 0+1<=1;omega,[((Kn.mk (nmI i) ((kk:Nat):Int) false)).cells],rfl,?_⟩
  refine⟨by show 0+i<=(l.map Kn.cells).length;rw [List.length_map];omega,l.map Kn.cells,qAD (by rw [List.length_map];omega),by show(i+1) * 32<=140737488355328;omega,(l++[(Kn.mk (nmI i) ((kk:Nat):Int) false)]).map Kn.cells,by simp,?_⟩
  refine⟨((i+1:Nat):Int),by rw [Int.natCast_add];exact w6z,?_⟩
  exact⟨(i+1,Y++[[i64 3,i64 ((kk:Nat):Int), .str (nmI i), .str [],qBy rs,css L]],l++[Kn.mk (nmI i) ((kk:Nat):Int) false]),⟨by show i+1<=4;omega,(k2.snoc (d:=⟨3,((kk:Nat):Int),nmI i,[],rs,L⟩) (NilDL.refl _) (qPi (n:=((kk:Nat):Int)) (qCv (by omega) (by omega)) hnm.1 hnm.2 (.inl rfl) hrc.refs hrc.len hLs)).le (by show 22+201 * i+201<=22+201 * (i+1);omega),k3.snoc ⟨hnm.1,hnm.2,by show((kk:Nat):Int)=2∨((kk:Nat):Int)=3;omega⟩⟩,qAA [] [(2,9),(4,11)] [] rfl (sk) (sk) rfl,by show 4 - (i+1)<4 - i;omega⟩
 ·refine⟨_,⟨by omega,(Pt.mk kind card frm modes true ps x y z).cells,hcell,rfl⟩,?_⟩
  refine⟨by decide,?_⟩
  refine⟨((card.toNat % 2:Nat):Int),by show _=IntKind.i64.wrap ((card.toNat:Int).tmod 2);rw [show(card.toNat:Int).tmod 2=((card.toNat % 2:Nat):Int) from rfl];exact w6z,?_⟩
  refine⟨2+((card.toNat % 2:Nat):Int),w6z,?_⟩
  refine qOG (pargs:=[.agg ((Pt.mk kind card frm modes true ps x y z)).cells, .lsts 3 ((l).map Kn.cells), .bool true,i64 sz]) (qFh (Pt.mk kind card frm modes true ps x y z) (l) (k3).ok (by have:=(k3).len;omega) true sz hs).holds [4] rfl ⟨_,_,rfl,rfl,_,_,rfl,⟨_,rfl,by show 0+(i)<=((l).map Kn.cells).length;rw [List.length_map];have:=(k3).len;omega,qAD (by rw [List.length_map];have:=(k3).len;omega)⟩,_,_,rfl,rfl,_,_,rfl,rfl,rfl⟩ fun e0 H0 hq=>?_
  obtain⟨rs,cs,rfl,rfl,hrc⟩:=hq
  refine⟨rfl,⟨qEL _,qFr _,trivial⟩,_,⟨8,(6,qOa rs)::(7,iO cs)::((5,ptO (Pt.mk kind card frm modes true ps x y z))::[(4,kwO l),(3,s1O (.sl 2 6 0 (2+i))),(2,dyO Y),(1,s1O (.p .nils)),(0,dpO ⟨gr,pt,ns,ch,gs,cz⟩)])⟩,rfl,rfl,?_⟩
  refine qAG qUz (by kernel_rfl) ?_
  refine⟨((i+1:Nat):Int),by rw [Int.natCast_add];exact w6z,?_⟩
  refine⟨by show(0:Int)<=(i:Nat)/\((i:Nat):Int)<=((i+1:Nat):Int)/\((i+1:Nat):Int)<=4;omega,?_⟩
  refine(qGT _ rs cs hrc 2 g ⟨.inr ⟨by omega,hg⟩⟩ hpc).use [6,7] rfl ⟨_,_,rfl,rfl,_,_,rfl,⟨_,rfl,by show 0+rs.length<=(rs.map Rf.cells).length;simp,qAD (by simp)⟩,_,_,rfl,⟨_,rfl,by show 0+cs.length<=(cs.map i64).length;simp,qAD (by simp)⟩,_,_,rfl,rfl,_,_,rfl,rfl,rfl⟩ fun r hr=>?_
  obtain⟨L,rfl,hLs⟩:=hr
  refine⟨⟨rfl,trivial⟩,?_⟩
  refine⟨⟨rfl,trivial⟩,?_⟩
  refine⟨by show 0+1<=1;omega,_,rfl, .inl ⟨[],[[i64 3,i64 ((2:Nat):Int), .str (nmI i), .str [112],qBy rs,(css L)]],rfl,⟨_,_,rfl,⟨_,_,rfl,rfl,_,_,rfl,rfl,_,_,rfl,rfl,_,_,rfl,rfl,_,_,rfl,⟨_,rfl,by show 0+rs.length<=(rs.map Rf.cells).length;simp,qAD (by simp)⟩,_,_,rfl,(by first | exact rfl | exact .inl rfl),rfl⟩,rfl⟩,?_⟩⟩
  refine⟨by show 0+(2+i)<=Y.length;omega,Y,qAD (by omega),by show(2+i+1) * 96<=140737488355328;omega,Y++[[i64 3,i64 ((2:Nat):Int), .str (nmI i), .str [112],qBy rs,(css L)]],rfl,?_⟩
  refine qAG qUy (by kernel_rfl) ?_
  refine⟨((i+1:Nat):Int),by rw [Int.natCast_add];exact w6z,?_⟩
  refine⟨by show(0:Int)<=(i:Nat)/\((i:Nat):Int)<=((i+1:Nat):Int)/\((i+1:Nat):Int)<=4;omega,?_⟩
  refine⟨by show 0+1<=1;omega,[((Kn.mk (nmI i) ((2:Nat):Int) true)).cells],rfl,?_⟩
  refine⟨by show 0+i<=(l.map Kn.cells).length;rw [List.length_map];omega,l.map Kn.cells,qAD (by rw [List.length_map];omega),by show(i+1) * 32<=140737488355328;omega,(l++[(Kn.mk (nmI i) ((2:Nat):Int) true)]).map Kn.cells,by simp,?_⟩
  refine⟨((i+1:Nat):Int),by rw [Int.natCast_add];exact w6z,?_⟩
  exact⟨(i+1,Y++[[i64 3,i64 ((2:Nat):Int), .str (nmI i), .str [112],qBy rs,css L]],l++[Kn.mk (nmI i) ((2:Nat):Int) true]),⟨by show i+1<=4;omega,(k2.snoc (d:=⟨3,((2:Nat):Int),nmI i,[112],rs,L⟩) (NilDL.refl _) (qPi (n:=((2:Nat):Int)) (qCv (by omega) (by omega)) hnm.1 hnm.2 (.inr rfl) hrc.refs hrc.len hLs)).le (by show 22+201 * i+201<=22+201 * (i+1);omega),k3.snoc ⟨hnm.1,hnm.2,by show((2:Nat):Int)=2∨((2:Nat):Int)=3;omega⟩⟩,qAA [] [(2,9),(4,11)] [] rfl (sk) (sk) rfl,by show 4 - (i+1)<4 - i;omega⟩
theorem qIC (d:Dp) (hd:d.ok):Pure cx 14 [.agg d.cells] fun r=>∃ ds,r=.ret [qCs ds]/\DrP ds/\2<=ds.length:=
 (qN1 d hd).weak fun r hr=>by
  obtain⟨Y,n,k,rfl,h1,h2,h3,h4⟩:=hr
  obtain⟨ds,g1,g2,g3⟩:=h1.ds
  refine⟨.ret [qCs ds],⟨_,rfl,_,_,rfl,?_,rfl⟩,ds,rfl,g2.fin (by omega) h3,by omega⟩
  show NilD (.agg [.lsts 6 Y]) (.agg [.lsts 6 (ds.map De.cells)])
  simp only [NilD,NilDL]
  exact⟨_,rfl,_,_,rfl,⟨_,rfl,g1⟩,rfl⟩
structure SdP (d:De) (k:Nat):Prop where
 big:BigD d
 refs:d.refs.length<=k
 cases:d.cases.length<=k
 nums:∀ c∈d.cases,c.nums.length<=k
structure SzP (ds:List De) (k:Nat):Prop where
 len:ds.length<=k
 decl:∀ d∈ds,SdP d k
def BnQ (k:Nat) (r:PEnd):Prop:=∃ ds,r=.ret [qCs ds]/\SzP ds (k+40)
def beO (b:Be):AObj:=⟨56,false, .bx (b.cells.map .p)⟩
def qVm (d:De):List AV:=[.p (i64 d.kind), .p (i64 d.n), .p (.str d.name), .p (.str d.plate), .sl 4 4 0 d.refs.length, .sl 5 11 0 d.cases.length]
def dyQ (ds:List De) (a:Nat) (d:De):AObj:=⟨qHt,false, .mxs ((qB1 (ds.map De.cells)).set a (qVm d))⟩
def dsO (ds:List De):AObj:=⟨qHt,false, .pus (ds.map De.cells)⟩
abbrev bdH (b:Be) (ds:List De) (a:Nat) (d:De):Hp:=⟨6,[(5,ksO d.cases),(4,qOa d.refs),(3,dyQ ds a d),(2,s1O (.p .nils)),(1,s1O (.sl 3 6 0 ds.length)),(0,beO b)]⟩
abbrev qXL:OT:=(.pure 0 (.pure 1 (.pure 2 (.pure 3 (.pure 4 (.pure 5 (.pure 6 (.pure 7 (.pure 8 (.pure 9 (.pure 10 .fin)))))))))))
abbrev qTH:OT:=(.pure 14 (.pure 15 (.eff 16 [] (.pure 17 (.pure 18 (.eff 19 [] .fin .nil))) .nil)))
abbrev qXK:OT:=(.pure 0 (.pure 1 (.pure 3 (.pure 4 (.pure 5 (.pure 6 (.pure 9 (.pure 10 (.pure 11 (.pure 12
 (.eff 2 [12,6] (.eff 7 [12] (.eff 8 [12,6] (.eff 13 [] qTH .nil) .nil) (.eff 8 [12,6] (.eff 7 [12] (.eff 13 [] qTH .nil) .nil) .nil))
  (.eff 8 [12,6] (.eff 2 [12,6] (.eff 7 [12] (.eff 13 [] qTH .nil) .nil) .nil) .nil))))))))))))
theorem qDA {f:AV->PV->Prop}:∀ {a:List (List AV)} {b:List (List PV)} {i:Nat} {x:List AV} {y:List PV},qCK f a b->qB3 f x y->qCK f (a.set i x) (b.set i y)
 | [],b,i,x,y,h,_=>by simp only [qCK] at h;subst h;simp [qCK]
 | v::a,b,i,x,y,h,k=>by
  simp only [qCK] at h
  obtain⟨z,zs,rfl,h1,h2⟩:=h
  cases i with
  | zero=>exact⟨_,_,rfl,k,h2⟩
  | succ i=>exact⟨_,_,rfl,h1,qDA h2 k⟩
theorem qSF {ρ:Nat->Nat} {ni:List (Nat × Nat)} {L:List (Nat × AObj)}:∀ xs:List PV,qEv ρ ni L (xs.map .p) (xs.map .p)
 | []=>rfl
 | x::xs=>⟨_,_,rfl,by simp only [See];exact qGx _ _,qSF xs⟩
theorem qLO {ρ:Nat->Nat} {ni:List (Nat × Nat)} {L:List (Nat × AObj)}:∀ xss:List (List PV),qF4 ρ ni L (qB1 xss) (qB1 xss)
 | []=>rfl
 | x::xss=>⟨_,_,rfl,qSF x,qLO xss⟩
theorem qGq {ρ:Nat->Nat} {ni:List (Nat × Nat)} {L:List (Nat × AObj)}:∀ {a b:List (List AV)} {i:Nat} {x y:List AV},qF4 ρ ni L a b->qEv ρ ni L x y->qF4 ρ ni L (a.set i x) (b.set i y)
 | a,[],i,x,y,h,_=>by simp only [qF4] at h;subst h;simp [qF4]
 | a,v::b,i,x,y,h,k=>by
  simp only [qF4] at h
  obtain⟨z,zs,rfl,h1,h2⟩:=h
  cases i with
  | zero=>exact⟨_,_,rfl,k,h2⟩
  | succ i=>exact⟨_,_,rfl,h1,qGq h2 k⟩
theorem qV1 {ni:List (Nat × Nat)} {L:List (Nat × AObj)} {ρ:Nat->Nat} {R:List (List PV)} {i j s t m1 m2:Nat} {d:De} (hij:i=j) (h1:m1=d.refs.length) (h2:m2=d.cases.length) (hs:See ρ ni L (.sl s 4 0 d.refs.length) (.sl 4 4 0 d.refs.length)) (ht:See ρ ni L (.sl t 11 0 d.cases.length) (.sl 5 11 0 d.cases.length)):qF4 ρ ni L ((qB1 R).set i [.p (i64 d.kind), .p (i64 d.n), .p (.str d.name), .p (.str d.plate), .sl s 4 0 m1, .sl t 11 0 m2]) ((qB1 R).set j (qVm d)):=by
 subst hij h1 h2
 exact qGq (qLO _) ⟨_,_,rfl,rfl,_,_,rfl,rfl,_,_,rfl,rfl,_,_,rfl,rfl,_,_,rfl,hs,_,_,rfl,ht,rfl⟩
theorem qVl {ni:List (Nat × Nat)} {L:List (Nat × AObj)} {ρ:Nat->Nat} {R:List (List PV)} {i j s t m1 m2:Nat} {d:De} {x:List AV} (hij:i=j) (h1:m1=d.refs.length) (h2:m2=d.cases.length) (hs:See ρ ni L (.sl s 4 0 d.refs.length) (.sl 4 4 0 d.refs.length)) (ht:See ρ ni L (.sl t 11 0 d.cases.length) (.sl 5 11 0 d.cases.length)):qF4 ρ ni L (((qB1 R).set i x).set i [.p (i64 d.kind), .p (i64 d.n), .p (.str d.name), .p (.str d.plate), .sl s 4 0 m1, .sl t 11 0 m2]) ((qB1 R).set j (qVm d)):=by
 subst hij h1 h2
 rw [List.set_set]
 exact qGq (qLO _) ⟨_,_,rfl,rfl,_,_,rfl,rfl,_,_,rfl,rfl,_,_,rfl,rfl,_,_,rfl,hs,_,_,rfl,ht,rfl⟩
theorem qUj (L:List (Nat × AObj)) (d:Nat) (x:PV):Res L (d+1) (.p x) x:=by
 cases x with
 | nils=>exact .inl rfl
 | agg cs=>
  cases cs with
  | nil=>rfl
  | cons a r=>
   cases a with
   | nils=>exact⟨_,rfl,qEm _⟩
   | _=>rfl
 | _=>rfl
theorem qFd (L:List (Nat × AObj)) (d:Nat):∀ xs:List PV,qB3 (Res L (d+1)) (xs.map .p) xs
 | []=>rfl
 | x::xs=>⟨_,_,rfl,qUj L d x,qFd L d xs⟩
theorem qDR (L:List (Nat × AObj)) (d:Nat):∀ xs:List (List PV),qCK (Res L (d+1)) (qB1 xs) xs
 | []=>rfl
 | x::xs=>⟨_,_,rfl,qFd L d x,qDR L d xs⟩
abbrev qPe:OT:=.eff 10 [] (.pure 11 (.pure 12 (.eff 13 [] .fin .nil))) .nil
abbrev qWE:OT:=(.pure 0 (.pure 2 (.pure 3 (.pure 4 (.pure 5 (.pure 7 (.pure 8 (.eff 1 [8,5] (.eff 6 [8] (.eff 9 [5] qPe .nil) (.eff 9 [5] (.eff 6 [8] qPe .nil) .nil)) (.eff 9 [5] (.eff 1 [8,5] (.eff 6 [8] qPe .nil) .nil) .nil)))))))))
theorem qD0 {f:AV->PV->Prop}:∀ {a c:List AV} {b d:List PV},qB3 f a b->qB3 f c d->qB3 f (a++c) (b++d)
 | [],c,b,d,h,k=>by simp only [qB3] at h;subst h;exact k
 | v::a,c,b,d,h,k=>by
  simp only [qB3] at h
  obtain⟨z,zs,rfl,h1,h2⟩:=h
  exact⟨z,zs++d,rfl,h1,qD0 h2 k⟩
theorem qKv {c:Cs} {l:List Cs} (hc:qC8 c.cond) (hn:c.nums.length<=5000) (hl:BigL l) (hk:l.length<=5000):BigL (c::l):=by
 refine⟨by show l.length+1<=_;omega,fun x hx=>?_,fun x hx=>?_⟩
 ·rcases List.mem_cons.1 hx with rfl | hx
  ·exact hc
  ·exact hl.cond x hx
 ·rcases List.mem_cons.1 hx with rfl | hx
  ·omega
  ·exact hl.nums x hx
theorem qGa {c:Cs} {l:List Cs} {i:Nat} (hc:qC8 c.cond) (hn:c.nums.length<=2000) (hl:BigL l):BigL (l.set i c):=by
 refine⟨by rw [List.length_set];exact hl.len,fun x hx=>?_,fun x hx=>?_⟩
 ·rcases List.mem_or_eq_of_mem_set hx with hx | rfl
  ·exact hl.cond x hx
  ·exact hc
 ·rcases List.mem_or_eq_of_mem_set hx with hx | rfl
  ·exact hl.nums x hx
  ·omega
theorem qEh {L:List (Nat × AObj)} {d n s m:Nat} {t:TypeId} {xss:List (List PV)} (h:qAe L n=some ⟨t,true, .pus xss⟩) (hm:m=xss.length):Res L (d+1) (.sl n s 0 m) (.lsts s xss):=by
 simp only [Res]
 rw [h]
 exact⟨_,rfl,by rw [hm];omega,qAD hm.symm⟩
theorem qRI {L:List (Nat × AObj)} {d n s off m:Nat} {t:TypeId} {xss ys:List (List PV)} (h:qAe L n=some ⟨t,true, .pus xss⟩) (h1:off+m<=xss.length) (h2:ys=(xss.drop off).take m):Res L (d+1) (.sl n s off m) (.lsts s ys):=by
 simp only [Res]
 rw [h]
 exact⟨_,rfl,h1,h2⟩
theorem qPK {L:List (Nat × AObj)} {d n s m:Nat} {t:TypeId} {yss xss:List (List PV)} (h:qAe L n=some ⟨t,true, .pus yss⟩) (he:yss=xss) (hm:m=xss.length):Res L (d+1) (.sl n s 0 m) (.lsts s xss):=by
 subst he
 exact qEh h hm
theorem qI4 {L:List (Nat × AObj)} {d n s m:Nat} {t:TypeId} {vss:List (List AV)} {xss:List (List PV)} (h:qAe L n=some ⟨t,true, .mxs vss⟩) (hr:qCK (Res L d) vss xss) (hm:vss.length=m):Res L (d+1) (.sl n s 0 m) (.lsts s xss):=by
 simp only [Res]
 rw [h]
 exact⟨_,rfl,by rw [hm];omega,by rw [<- qAD hm];exact hr⟩
theorem qCB {L:List (Nat × AObj)} {dd a:Nat} {ds:List De} {d':De} {row:List AV} {M:List (List AV)} (hM:M=(qB1 (ds.map De.cells)).set a row) (h:qB3 (Res L (dd+1)) row d'.cells):qCK (Res L (dd+1)) ((M.drop 0).take ds.length) ((ds.set a d').map De.cells):=by
 have hml:M.length=ds.length:=by rw [hM,List.length_set,qBE,List.length_map]
 rw [<- qAD hml,hM,List.map_set]
 exact qDA (qDR _ _ _) h
theorem qS6 {L:List (Nat × AObj)} {dd a:Nat} {ds:List De} {d':De} {row:List AV} (h:qB3 (Res L (dd+1)) row d'.cells):qCK (Res L (dd+1)) ((qB1 (ds.map De.cells)).set a row) ((ds.set a d').map De.cells):=by
 rw [List.map_set]
 exact qDA (qDR _ _ _) h
theorem set_self {α:Type} (d:α):∀ (l:List α) (i:Nat),l.set i (l.getD i d)=l
 | [],_=>rfl
 | x::l,0=>rfl
 | x::l,i+1=>by show x::l.set i (l.getD i d)=_;rw [set_self d l i]
theorem qCF {a:Nat} {ds:List De} {row:List AV} {M:List (List AV)} (hM:M=(qB1 (ds.map De.cells)).set a row):0+ds.length<=M.length:=by
 rw [hM,List.length_set,qBE,List.length_map];omega
theorem SdP.mono {d:De} {k m:Nat} (h:SdP d k) (hm:k<=m):SdP d m:=⟨h.big,Nat.le_trans h.refs hm,Nat.le_trans h.cases hm,fun c hc=>Nat.le_trans (h.nums c hc) hm⟩
theorem qCG {ds:List De} {k a:Nat} {d':De} (h:SzP ds k) (h':SdP d' (k+40)):BnQ k (.ret [qCs (ds.set a d')]):=by
 refine⟨_,rfl,by rw [List.length_set];have:=h.len;omega,fun x hx=>?_⟩
 rcases List.mem_or_eq_of_mem_set hx with hx | hx
 ·exact(h.decl x hx).mono (by omega)
 ·rw [hx];exact h'
def qVq:List (Nat × AObj)->Bool
 | []=>true
 | (n,_)::r=>(match qAe r n with
  | none=>true
  | some _=>false) && qVq r
theorem qFo:∀ {l:List (Nat × AObj)},qVq l=true->(l.map (·.1)).Nodup
 | [],_=>List.nodup_nil
 | (n,o)::r,h=>by
  rw [qVq,Bool.and_eq_true] at h
  rw [List.map_cons,List.nodup_cons]
  refine⟨fun hm=>?_,qFo h.2⟩
  obtain⟨⟨m,o'⟩,h1,rfl⟩:=List.mem_map.1 hm
  have:=qEp (qFo h.2) h1
  have h1:=h.1
  rw [this] at h1
  cases h1
theorem qDt {Q:PEnd->Prop} {v:AV} {H':Hp} (x:PV) (hd:qVq H'.l=true) (h:Res (qMH H'.l) 5 v x) (hq:Q (.ret [x])):qNh Q (.returned v) H':=qXQ x (qFo hd) h hq
theorem qGb (b:Be) (hb:b.ok) (ds:List De) (k:Nat) (hk:k<=1000) (h:SzP ds k):Pure cx 13 [.agg b.cells,qCs ds] (BnQ k):=by
 refine qAB Tryz.func13 rfl rfl rfl ?_
 obtain⟨what,place,cse,n,nm,rf,⟨ao,an,ar,av,af,as',aa⟩⟩:=b
 have hl:=h.len
 have hlm:(ds.map De.cells).length=ds.length:=List.length_map ..
 refine⟨by show 0+0<=0;omega,[],rfl,by show(0+(ds.map De.cells).length) * 96<=140737488355328;omega,ds.map De.cells,rfl,?_⟩
 by_cases h0:ds=[]
 ·subst h0
  refine And.intro (fun _=>?_) (fun h=>absurd rfl h)
  refine qAF (.agg [.lsts 6 []]) rfl ⟨_,rfl,_,_,rfl,⟨_,rfl,Nat.le_refl _,rfl⟩,rfl⟩ ⟨[],rfl,by show 0<=k+40;omega,fun d hd=>by cases hd⟩
 have hpos:0<ds.length:=by
  cases ds with
  | nil=>exact absurd rfl h0
  | cons a r=>simp
 refine And.intro (fun h=>absurd (show((0+(ds.map De.cells).length:Nat):Int)=0 from h) (by rw [hlm];omega)) (fun _=>?_)
 have hp:=place.toNat_lt
 refine qAG qXL (by kernel_rfl) ?_
 refine⟨(place.toNat:Int),w6z,?_⟩
 refine⟨by show ¬ ((0+(ds.map De.cells).length:Nat):Int)=0;rw [hlm];omega,?_⟩
 have hm:(place.toNat:Int).tmod ((0+(ds.map De.cells).length:Nat):Int)=((place.toNat % ds.length:Nat):Int):=by rw [Nat.zero_add,hlm];rfl
 have ha:place.toNat % ds.length<ds.length:=Nat.mod_lt _ hpos
 generalize place.toNat % ds.length=a at hm ha
 generalize (place.toNat:Int).tmod ((0+(ds.map De.cells).length:Nat):Int)=aa' at hm ⊢
 subst hm
 refine⟨by show(0:Int)<=(a:Nat)/\((a:Nat):Int)<((0+(ds.map De.cells).length:Nat):Int);rw [hlm];omega,?_⟩
 obtain⟨d,hd⟩:∃ d,d=ds.getD a de0:=⟨_,rfl⟩
 have hdm:d∈ds:=by rw [hd];exact qAI de0 ha
 have hS:=h.decl d hdm
 have hrl:=hS.refs
 have hcl:=hS.cases
 have hcell:(ds.map De.cells)[0+((a:Nat):Int).toNat]?=some d.cells:=by rw [Int.toNat_natCast,Nat.zero_add,hd];exact qDm ha
 have hia:0+((a:Nat):Int).toNat=a:=by rw [Int.toNat_natCast,Nat.zero_add]
 have hlen:0+((a:Nat):Int).toNat<(qB1 (ds.map De.cells)).length:=by rw [qBE,List.length_map,Int.toNat_natCast];omega
 refine qHw (fun _:Unit=>[(2, .ptr 0 0 0),(3, .ptr 1 0 0),(4, .ptr 2 0 0),(5, .ptr 3 a 0)]) (fun _=>bdH ⟨what,place,cse,n,nm,rf, .mk ao an ar av af as' aa⟩ ds a d) (fun _=>True) qXK (by kernel_rfl) ?_ ?_
 ·refine⟨_,⟨d.cells,qBy d.refs,hcell,rfl,rfl⟩,?_⟩
  refine⟨_,⟨d.cells,css d.cases,hcell,rfl,rfl⟩,?_⟩
  refine And.intro ?_ ?_
  ·refine⟨⟨⟨d.cells,_,hcell,rfl,rfl⟩,⟨d.cells,_,hcell,rfl,rfl⟩,trivial⟩,?_⟩
   refine And.intro ?_ ?_
   ·refine⟨by show 0+0<=0;omega,[],rfl,by show(0+(d.refs.map Rf.cells).length) * 48<=140737488355328;rw [List.length_map];omega,d.refs.map Rf.cells,rfl,?_⟩
    refine⟨⟨⟨d.cells,_,hcell,rfl,rfl⟩,trivial⟩,?_⟩
    refine⟨⟨⟨d.cells,_,hcell,rfl,rfl⟩,⟨d.cells,_,hcell,rfl,rfl⟩,trivial⟩,?_⟩
    refine⟨by show 0+0<=0;omega,[],rfl,by show(0+(d.cases.map Cs.cells).length) * 152<=140737488355328;rw [List.length_map];omega,d.cases.map Cs.cells,rfl,?_⟩
    refine⟨d.cells,hcell,by show 0+4+1<=6;omega,?_⟩
    refine⟨_,List.getElem?_set_self hlen,by show 0+5+1<=6;omega,?_⟩
    refine⟨(),trivial,qAA [] [(3,4),(4,6),(5,8)] [] rfl ⟨⟨rfl,rfl⟩,⟨rfl,rfl⟩,⟨rfl,rfl⟩,⟨rfl,congrArg (fun z=>AV.ptr 4 z 0) hia⟩,trivial⟩ ⟨⟨_,rfl,rfl,rfl,rfl⟩,⟨_,rfl,rfl,rfl,rfl⟩,⟨_,rfl,rfl,rfl,_,rfl,?_⟩,⟨_,rfl,rfl,rfl,sk⟩,⟨_,rfl,rfl,rfl,_,rfl,_,_,rfl,congrArg (fun z=>AV.sl 4 6 0 z) (by show 0+(ds.map De.cells).length=_;rw [hlm,Nat.zero_add]),rfl⟩,⟨_,rfl,rfl,rfl,sk⟩,trivial⟩ rfl⟩
    exact qVl (R:=ds.map De.cells) (d:=d) (s:=6) (t:=8) hia (by rw [List.length_map,Nat.zero_add]) (by rw [List.length_map,Nat.zero_add]) rfl rfl
   ·refine⟨⟨⟨d.cells,_,hcell,rfl,rfl⟩,⟨d.cells,_,hcell,rfl,rfl⟩,trivial⟩,?_⟩
    refine⟨by show 0+0<=0;omega,[],rfl,by show(0+(d.refs.map Rf.cells).length) * 48<=140737488355328;rw [List.length_map];omega,d.refs.map Rf.cells,rfl,?_⟩
    refine⟨⟨⟨d.cells,_,hcell,rfl,rfl⟩,trivial⟩,?_⟩
    refine⟨by show 0+0<=0;omega,[],rfl,by show(0+(d.cases.map Cs.cells).length) * 152<=140737488355328;rw [List.length_map];omega,d.cases.map Cs.cells,rfl,?_⟩
    refine⟨d.cells,hcell,by show 0+4+1<=6;omega,?_⟩
    refine⟨_,List.getElem?_set_self hlen,by show 0+5+1<=6;omega,?_⟩
    refine⟨(),trivial,qAA [] [(3,4),(4,7),(5,8)] [] rfl ⟨⟨rfl,rfl⟩,⟨rfl,rfl⟩,⟨rfl,rfl⟩,⟨rfl,congrArg (fun z=>AV.ptr 4 z 0) hia⟩,trivial⟩ ⟨⟨_,rfl,rfl,rfl,rfl⟩,⟨_,rfl,rfl,rfl,rfl⟩,⟨_,rfl,rfl,rfl,_,rfl,?_⟩,⟨_,rfl,rfl,rfl,sk⟩,⟨_,rfl,rfl,rfl,_,rfl,_,_,rfl,congrArg (fun z=>AV.sl 4 6 0 z) (by show 0+(ds.map De.cells).length=_;rw [hlm,Nat.zero_add]),rfl⟩,⟨_,rfl,rfl,rfl,sk⟩,trivial⟩ rfl⟩
    exact qVl (R:=ds.map De.cells) (d:=d) (s:=7) (t:=8) hia (by rw [List.length_map,Nat.zero_add]) (by rw [List.length_map,Nat.zero_add]) rfl rfl
  ·refine⟨⟨⟨d.cells,_,hcell,rfl,rfl⟩,⟨d.cells,_,hcell,rfl,rfl⟩,trivial⟩,?_⟩
   refine⟨⟨⟨d.cells,_,hcell,rfl,rfl⟩,⟨d.cells,_,hcell,rfl,rfl⟩,trivial⟩,?_⟩
   refine⟨by show 0+0<=0;omega,[],rfl,by show(0+(d.refs.map Rf.cells).length) * 48<=140737488355328;rw [List.length_map];omega,d.refs.map Rf.cells,rfl,?_⟩
   refine⟨⟨⟨d.cells,_,hcell,rfl,rfl⟩,trivial⟩,?_⟩
   refine⟨by show 0+0<=0;omega,[],rfl,by show(0+(d.cases.map Cs.cells).length) * 152<=140737488355328;rw [List.length_map];omega,d.cases.map Cs.cells,rfl,?_⟩
   refine⟨d.cells,hcell,by show 0+4+1<=6;omega,?_⟩
   refine⟨_,List.getElem?_set_self hlen,by show 0+5+1<=6;omega,?_⟩
   refine⟨(),trivial,qAA [] [(3,4),(4,7),(5,8)] [] rfl ⟨⟨rfl,rfl⟩,⟨rfl,rfl⟩,⟨rfl,rfl⟩,⟨rfl,congrArg (fun z=>AV.ptr 4 z 0) hia⟩,trivial⟩ ⟨⟨_,rfl,rfl,rfl,rfl⟩,⟨_,rfl,rfl,rfl,rfl⟩,⟨_,rfl,rfl,rfl,_,rfl,?_⟩,⟨_,rfl,rfl,rfl,sk⟩,⟨_,rfl,rfl,rfl,_,rfl,_,_,rfl,congrArg (fun z=>AV.sl 4 6 0 z) (by show 0+(ds.map De.cells).length=_;rw [hlm,Nat.zero_add]),rfl⟩,⟨_,rfl,rfl,rfl,sk⟩,trivial⟩ rfl⟩
   exact qVl (R:=ds.map De.cells) (d:=d) (s:=7) (t:=8) hia (by rw [List.length_map,Nat.zero_add]) (by rw [List.length_map,Nat.zero_add]) rfl rfl
 intro _ _
 refine⟨by show(0:Int)<=(if (12:Int)<((nm.length:Nat):Int) then(12:Int) else((nm.length:Nat):Int))/\(if (12:Int)<((nm.length:Nat):Int) then(12:Int) else((nm.length:Nat):Int))<=((nm.length:Nat):Int);split <;> omega,?_⟩
 refine⟨by decide,?_⟩
 have hw:=what.toNat_lt
 have hcs:=cse.toNat_lt
 have hnt:(nm.take (if (12:Int)<((nm.length:Nat):Int) then(12:Int) else((nm.length:Nat):Int)).toNat).length<=nm.length:=by rw [List.length_take];omega
 have hrr:∀ {L:List (Nat × AObj)} {dd:Nat},qAe L 4=some ⟨qQt,true, .pus (d.refs.map Rf.cells)⟩->Res L (dd+1) (.sl 4 4 0 d.refs.length) (qBy d.refs):=fun h=>qEh h (by rw [List.length_map])
 have hkk:∀ {L:List (Nat × AObj)} {dd:Nat},qAe L 5=some ⟨qHe,true, .pus (d.cases.map Cs.cells)⟩->Res L (dd+1) (.sl 5 11 0 d.cases.length) (css d.cases):=fun h=>qEh h (by rw [List.length_map])
 have hB:=hS.big
 have hS':=hS.mono (show k<=k+40 by omega)
 have hst:∀ x:List AV,((qB1 (ds.map De.cells)).set a x)[a]?=some x:=fun x=>List.getElem?_set_self (by rw [hia] at hlen;exact hlen)
 refine And.intro (fun _=>?_) (fun _=>?_)
 ·refine⟨_,hst _,by show 0+0+1<=6;omega,?_⟩
  refine qDt (qCs (ds.set a ⟨n,d.n,d.name,d.plate,d.refs,d.cases⟩)) rfl ⟨_,rfl,_,_,rfl,⟨_,rfl,qCF (List.set_set ..),qCB (List.set_set ..) ⟨_,_,rfl,rfl,_,_,rfl,rfl,_,_,rfl,rfl,_,_,rfl,rfl,_,_,rfl,hrr rfl,_,_,rfl,hkk rfl,rfl⟩⟩,rfl⟩ (qCG h ?_)
  exact⟨⟨hB.name,hB.plate,hB.len,hB.refs,hB.cases⟩,hS'.refs,hS'.cases,hS'.nums⟩
 refine And.intro (fun _=>?_) (fun _=>?_)
 ·refine⟨_,hst _,by show 0+1+1<=6;omega,?_⟩
  refine qDt (qCs (ds.set a ⟨d.kind,n,d.name,d.plate,d.refs,d.cases⟩)) rfl ⟨_,rfl,_,_,rfl,⟨_,rfl,qCF (List.set_set ..),qCB (List.set_set ..) ⟨_,_,rfl,rfl,_,_,rfl,rfl,_,_,rfl,rfl,_,_,rfl,rfl,_,_,rfl,hrr rfl,_,_,rfl,hkk rfl,rfl⟩⟩,rfl⟩ (qCG h ?_)
  exact⟨⟨hB.name,hB.plate,hB.len,hB.refs,hB.cases⟩,hS'.refs,hS'.cases,hS'.nums⟩
 refine And.intro (fun _=>?_) (fun _=>?_)
 ·refine⟨_,hst _,by show 0+2+1<=6;omega,?_⟩
  refine qDt (qCs (ds.set a ⟨d.kind,d.n,nm.take (if (12:Int)<((nm.length:Nat):Int) then(12:Int) else((nm.length:Nat):Int)).toNat,d.plate,d.refs,d.cases⟩)) rfl ⟨_,rfl,_,_,rfl,⟨_,rfl,qCF (List.set_set ..),qCB (List.set_set ..) ⟨_,_,rfl,rfl,_,_,rfl,rfl,_,_,rfl,rfl,_,_,rfl,rfl,_,_,rfl,hrr rfl,_,_,rfl,hkk rfl,rfl⟩⟩,rfl⟩ (qCG h ?_)
  exact⟨⟨Nat.le_trans hnt hb.name,hB.plate,hB.len,hB.refs,hB.cases⟩,hS'.refs,hS'.cases,hS'.nums⟩
 refine And.intro (fun _=>?_) (fun _=>?_)
 ·refine⟨_,hst _,by show 0+3+1<=6;omega,?_⟩
  refine qDt (qCs (ds.set a ⟨d.kind,d.n,d.name,nm.take (if (12:Int)<((nm.length:Nat):Int) then(12:Int) else((nm.length:Nat):Int)).toNat,d.refs,d.cases⟩)) rfl ⟨_,rfl,_,_,rfl,⟨_,rfl,qCF (List.set_set ..),qCB (List.set_set ..) ⟨_,_,rfl,rfl,_,_,rfl,rfl,_,_,rfl,rfl,_,_,rfl,rfl,_,_,rfl,hrr rfl,_,_,rfl,hkk rfl,rfl⟩⟩,rfl⟩ (qCG h ?_)
  exact⟨⟨hB.name,Nat.le_trans hnt hb.name,hB.len,hB.refs,hB.cases⟩,hS'.refs,hS'.cases,hS'.nums⟩
 refine And.intro (fun _=>?_) (fun _=>?_)
 ·refine VDraw.seq rfl ?_
  refine⟨_,⟨_,hst _,rfl⟩,?_⟩
  refine⟨⟨⟨_,hst _,rfl⟩,sk⟩,?_⟩
  refine⟨by show 0+1<=1;omega,[rf.cells],rfl,?_⟩
  refine⟨by show 0+d.refs.length<=(d.refs.map Rf.cells).length;rw [List.length_map];omega,d.refs.map Rf.cells,qAD (by rw [List.length_map]),by show(d.refs.length+1) * 48<=140737488355328;omega,(d.refs++[rf]).map Rf.cells,by rw [List.map_append];rfl,?_⟩
  refine⟨_,hst _,by show 0+4+1<=6;omega,?_⟩
  refine qDt (qCs (ds.set a ⟨d.kind,d.n,d.name,d.plate,d.refs++[rf],d.cases⟩)) rfl ⟨_,rfl,_,_,rfl,⟨_,rfl,qCF (List.set_set ..),qCB (List.set_set ..) ⟨_,_,rfl,rfl,_,_,rfl,rfl,_,_,rfl,rfl,_,_,rfl,rfl,_,_,rfl,(qEh (xss:=(d.refs++[rf]).map Rf.cells) rfl (by show d.refs.length+1=_;rw [List.length_map,List.length_append];rfl)),_,_,rfl,hkk rfl,rfl⟩⟩,rfl⟩ (qCG h ?_)
  refine⟨⟨hB.name,hB.plate,by show(d.refs++[_]).length<=_;rw [List.length_append];show d.refs.length+1<=_;omega,fun r hr=>?_,hB.cases⟩,by show(d.refs++[_]).length<=_;rw [List.length_append];show d.refs.length+1<=_;omega,hS'.cases,hS'.nums⟩
  rcases List.mem_append.1 hr with hr | hr
  ·exact hB.refs r hr
  ·rw [List.mem_singleton.1 hr];exact hb.ref
 refine And.intro (fun _=>?_) (fun _=>?_)
 ·refine⟨_,⟨_,hst _,rfl⟩,?_⟩
  refine And.intro (fun hp1=>?_) (fun hp1=>?_)
  ·refine VDraw.seq rfl ?_
   refine⟨_,⟨_,hst _,rfl⟩,?_⟩
   refine⟨(cse.toNat:Int),w6z,?_⟩
   refine⟨_,⟨_,hst _,rfl⟩,?_⟩
   have hp1:0<d.refs.length:=by have:(0:Int)<((d.refs.length:Nat):Int):=hp1;omega
   refine⟨by show ¬ ((d.refs.length:Nat):Int)=0;omega,?_⟩
   have hj:cse.toNat % d.refs.length<d.refs.length:=Nat.mod_lt _ hp1
   have hjm:(cse.toNat:Int).tmod ((d.refs.length:Nat):Int)=((cse.toNat % d.refs.length:Nat):Int):=rfl
   refine⟨by show(0:Int)<=((cse.toNat % d.refs.length:Nat):Int)/\((cse.toNat % d.refs.length:Nat):Int)<((d.refs.length:Nat):Int);omega,?_⟩
   have hjx:0+((cse.toNat:Int).tmod ((d.refs.length:Nat):Int)).toNat=cse.toNat % d.refs.length:=by rw [hjm,Int.toNat_natCast,Nat.zero_add]
   refine⟨(d.refs.getD (cse.toNat % d.refs.length) rf0).cells,by rw [hjx];exact qC6 hj,by show 0+4<=4;omega,?_⟩
   refine qDt (qCs (ds.set a ⟨d.kind,d.n,d.name,d.plate,d.refs.set (cse.toNat % d.refs.length) rf,d.cases⟩)) rfl ⟨_,rfl,_,_,rfl,⟨_,rfl,qCF rfl,qCB rfl ⟨_,_,rfl,rfl,_,_,rfl,rfl,_,_,rfl,rfl,_,_,rfl,rfl,_,_,rfl,(qPK (xss:=(d.refs.set (cse.toNat % d.refs.length) rf).map Rf.cells) rfl (by rw [List.map_set,<- hjx];rfl) (by rw [List.length_map,List.length_set])),_,_,rfl,hkk rfl,rfl⟩⟩,rfl⟩ (qCG h ?_)
   refine⟨⟨hB.name,hB.plate,by show(d.refs.set _ _).length<=_;rw [List.length_set];exact hB.len,fun r hr=>?_,hB.cases⟩,by show(d.refs.set _ _).length<=_;rw [List.length_set];exact hS'.refs,hS'.cases,hS'.nums⟩
   rcases List.mem_or_eq_of_mem_set hr with hr | hr
   ·exact hB.refs r hr
   ·rw [hr];exact hb.ref
  refine qDt (qCs (ds.set a d)) rfl ⟨_,rfl,_,_,rfl,⟨_,rfl,qCF rfl,qCB rfl ⟨_,_,rfl,rfl,_,_,rfl,rfl,_,_,rfl,rfl,_,_,rfl,rfl,_,_,rfl,hrr rfl,_,_,rfl,hkk rfl,rfl⟩⟩,rfl⟩ (qCG h hS')
 have hkl:(d.cases.map Cs.cells).length=d.cases.length:=List.length_map ..
 refine And.intro (fun _=>?_) (fun _=>?_)
 ·refine VDraw.seq rfl ?_
  refine⟨_,⟨_,hst _,rfl⟩,?_⟩
  refine⟨⟨⟨_,hst _,rfl⟩,sk⟩,?_⟩
  refine⟨⟨⟨_,hst _,rfl⟩,sk⟩,?_⟩
  refine⟨by show 0+d.cases.length<=(d.cases.map Cs.cells).length;omega,d.cases.map Cs.cells,qAD hkl,?_⟩
  refine⟨by show 0+1<=1;omega,[(Cd.mk ao an ar av af as' aa).cells.map .p++[.sl 6 1 0 1]],rfl,by show(1+d.cases.length) * 152<=140737488355328;omega,[(Cd.mk ao an ar av af as' aa).cells.map .p++[.sl 6 1 0 1]]++qB1 (d.cases.map Cs.cells),rfl,?_⟩
  refine⟨_,hst _,by show 0+5+1<=6;omega,?_⟩
  refine qDt (qCs (ds.set a ⟨d.kind,d.n,d.name,d.plate,d.refs,⟨.mk ao an ar av af as' aa,[1]⟩::d.cases⟩)) rfl ⟨_,rfl,_,_,rfl,⟨_,rfl,qCF (List.set_set ..),qCB (List.set_set ..) ⟨_,_,rfl,rfl,_,_,rfl,rfl,_,_,rfl,rfl,_,_,rfl,rfl,_,_,rfl,hrr rfl,_,_,rfl,(qI4 (xss:=(⟨.mk ao an ar av af as' aa,[1]⟩::d.cases).map Cs.cells) rfl ?_ (by rw [List.length_append,qBE,hkl];rfl)),rfl⟩⟩,rfl⟩ (qCG h ?_)
  ·exact⟨_,_,rfl,qD0 (qFd _ _ _) ⟨_,_,rfl,⟨_,rfl,by show 0+1<=1;omega,rfl⟩,rfl⟩,qDR _ _ _⟩
  ·refine⟨⟨hB.name,hB.plate,hB.len,hB.refs,qKv hb.cond (by show 1<=5000;omega) hB.cases (by omega)⟩,hS'.refs,by show d.cases.length+1<=_;omega,fun c hc=>?_⟩
   rcases List.mem_cons.1 hc with rfl | hc
   ·show 1<=_;omega
   ·exact hS'.nums c hc
 refine And.intro (fun _=>?_) (fun _=>?_)
 ·refine⟨_,⟨_,hst _,rfl⟩,?_⟩
  refine And.intro (fun hp1=>?_) (fun hp1=>?_)
  ·have hp1:0<d.cases.length:=by have:(0:Int)<((d.cases.length:Nat):Int):=hp1;omega
   have hj:cse.toNat % d.cases.length<d.cases.length:=Nat.mod_lt _ hp1
   have hjm:(cse.toNat:Int).tmod ((d.cases.length:Nat):Int)=((cse.toNat % d.cases.length:Nat):Int):=rfl
   have hjx:0+((cse.toNat:Int).tmod ((d.cases.length:Nat):Int)).toNat=cse.toNat % d.cases.length:=by rw [hjm,Int.toNat_natCast,Nat.zero_add]
   obtain⟨c,hc⟩:∃ c,c=d.cases.getD (cse.toNat % d.cases.length) cs0:=⟨_,rfl⟩
   have hcm:c∈d.cases:=by rw [hc];exact qAI cs0 hj
   obtain⟨⟨c1,c2,c3,c4,c5,c6,c7⟩,nu⟩:=c
   have hnu:=hS.nums _ hcm
   refine VDraw.seq rfl ?_
   refine⟨_,⟨_,hst _,rfl⟩,?_⟩
   refine⟨(cse.toNat:Int),w6z,?_⟩
   refine⟨_,⟨_,hst _,rfl⟩,?_⟩
   refine⟨by show ¬ ((d.cases.length:Nat):Int)=0;omega,?_⟩
   refine⟨by show(0:Int)<=((cse.toNat % d.cases.length:Nat):Int)/\((cse.toNat % d.cases.length:Nat):Int)<((d.cases.length:Nat):Int);omega,?_⟩
   refine⟨(⟨.mk c1 c2 c3 c4 c5 c6 c7,nu⟩:Cs).cells,by rw [hjx,hc];exact qHm hj,by show 0+0+10<=11;omega,?_⟩
   refine qDt (qCs (ds.set a ⟨d.kind,d.n,d.name,d.plate,d.refs,d.cases.set (cse.toNat % d.cases.length) ⟨.mk ao an ar av af as' aa,nu⟩⟩)) rfl ⟨_,rfl,_,_,rfl,⟨_,rfl,qCF rfl,qCB rfl ⟨_,_,rfl,rfl,_,_,rfl,rfl,_,_,rfl,rfl,_,_,rfl,rfl,_,_,rfl,hrr rfl,_,_,rfl,(qPK (xss:=(d.cases.set (cse.toNat % d.cases.length) ⟨.mk ao an ar av af as' aa,nu⟩).map Cs.cells) rfl (by rw [List.map_set,<- hjx];rfl) (by rw [List.length_map,List.length_set])),rfl⟩⟩,rfl⟩ (qCG h ?_)
   refine⟨⟨hB.name,hB.plate,hB.len,hB.refs,qGa hb.cond (Nat.le_trans hnu (by omega)) hB.cases⟩,hS'.refs,by show(d.cases.set _ _).length<=_;rw [List.length_set];exact hS'.cases,fun x hx=>?_⟩
   rcases List.mem_or_eq_of_mem_set hx with hx | rfl
   ·exact hS'.nums x hx
   ·exact Nat.le_trans hnu (by omega)
  refine qDt (qCs (ds.set a d)) rfl ⟨_,rfl,_,_,rfl,⟨_,rfl,qCF rfl,qCB rfl ⟨_,_,rfl,rfl,_,_,rfl,rfl,_,_,rfl,rfl,_,_,rfl,rfl,_,_,rfl,hrr rfl,_,_,rfl,hkk rfl,rfl⟩⟩,rfl⟩ (qCG h hS')
 refine And.intro (fun _=>?_) (fun _=>?_)
 ·refine⟨_,⟨_,hst _,rfl⟩,?_⟩
  refine And.intro (fun hp1=>?_) (fun hp1=>?_)
  ·have hp1:0<d.cases.length:=by have:(0:Int)<((d.cases.length:Nat):Int):=hp1;omega
   have hj:cse.toNat % d.cases.length<d.cases.length:=Nat.mod_lt _ hp1
   have hjm:(cse.toNat:Int).tmod ((d.cases.length:Nat):Int)=((cse.toNat % d.cases.length:Nat):Int):=rfl
   have hjx:0+((cse.toNat:Int).tmod ((d.cases.length:Nat):Int)).toNat=cse.toNat % d.cases.length:=by rw [hjm,Int.toNat_natCast,Nat.zero_add]
   obtain⟨c,hc⟩:∃ c,c=d.cases.getD (cse.toNat % d.cases.length) cs0:=⟨_,rfl⟩
   have hcm:c∈d.cases:=by rw [hc];exact qAI cs0 hj
   obtain⟨⟨c1,c2,c3,c4,c5,c6,c7⟩,nu⟩:=c
   have hnu:nu.length<=k:=hS.nums _ hcm
   have hget:(d.cases.map Cs.cells)[0+((cse.toNat:Int).tmod ((d.cases.length:Nat):Int)).toNat]?=some (⟨.mk c1 c2 c3 c4 c5 c6 c7,nu⟩:Cs).cells:=by rw [hjx,hc];exact qHm hj
   refine VDraw.seq rfl ?_
   refine⟨_,⟨_,hst _,rfl⟩,?_⟩
   refine⟨(cse.toNat:Int),w6z,?_⟩
   refine⟨_,⟨_,hst _,rfl⟩,?_⟩
   refine⟨by show ¬ ((d.cases.length:Nat):Int)=0;omega,?_⟩
   refine⟨by show(0:Int)<=((cse.toNat % d.cases.length:Nat):Int)/\((cse.toNat % d.cases.length:Nat):Int)<((d.cases.length:Nat):Int);omega,?_⟩
   refine qAG qWE (by kernel_rfl) ?_
   refine⟨_,⟨(⟨.mk c1 c2 c3 c4 c5 c6 c7,nu⟩:Cs).cells,ints nu,hget,rfl,rfl⟩,?_⟩
   refine And.intro ?_ ?_
   ·refine⟨⟨sk,⟨_,_,hget,rfl,rfl⟩,trivial⟩,?_⟩
    refine And.intro ?_ ?_
    ·refine⟨by show 0+0<=0;omega,[],rfl,by show(0+(nu.map i64).length) * 8<=140737488355328;rw [List.length_map];omega,nu.map i64,rfl,?_⟩
     refine⟨⟨sk,trivial⟩,?_⟩
     refine⟨⟨⟨_,_,hget,rfl,rfl⟩,trivial⟩,?_⟩
     refine⟨by show 0+1<=1;omega,[i64 n],rfl,?_⟩
     refine⟨by show 0+(0+(nu.map i64).length)<=(nu.map i64).length;omega,nu.map i64,qAD (by omega),by show(0+(nu.map i64).length+1) * 8<=140737488355328;rw [List.length_map];omega,(nu++[n]).map i64,by rw [List.map_append];rfl,?_⟩
     refine⟨(⟨.mk c1 c2 c3 c4 c5 c6 c7,nu⟩:Cs).cells,hget,by show 0+10+1<=11;omega,?_⟩
     refine qDt (qCs (ds.set a ⟨d.kind,d.n,d.name,d.plate,d.refs,d.cases.set (cse.toNat % d.cases.length) ⟨.mk c1 c2 c3 c4 c5 c6 c7,nu++[n]⟩⟩)) rfl ⟨_,rfl,_,_,rfl,⟨_,rfl,qCF rfl,qCB rfl ⟨_,_,rfl,rfl,_,_,rfl,rfl,_,_,rfl,rfl,_,_,rfl,rfl,_,_,rfl,hrr rfl,_,_,rfl,(qI4 (xss:=(d.cases.set (cse.toNat % d.cases.length) ⟨.mk c1 c2 c3 c4 c5 c6 c7,nu++[n]⟩).map Cs.cells) rfl ?_ (by rw [List.length_set,qBE,hkl])),rfl⟩⟩,rfl⟩ (qCG h ?_)
     ·rw [hjx,List.map_set]
      exact qDA (qDR _ _ _) (qD0 (qFd _ _ (Cd.mk c1 c2 c3 c4 c5 c6 c7).cells) ⟨_,_,rfl,⟨_,rfl,by show 0+(0+(nu.map i64).length+1)<=((nu++[n]).map i64).length;simp,qAD (by simp)⟩,rfl⟩)
     refine⟨⟨hB.name,hB.plate,hB.len,hB.refs,qGa (show qC8 (Cd.mk c1 c2 c3 c4 c5 c6 c7) from hB.cases.cond _ hcm) (by show(nu++[n]).length<=_;rw [List.length_append];show nu.length+1<=_;omega) hB.cases⟩,hS'.refs,by show(d.cases.set _ _).length<=_;rw [List.length_set];exact hS'.cases,fun x hx=>?_⟩
     rcases List.mem_or_eq_of_mem_set hx with hx | rfl
     ·exact hS'.nums x hx
     ·show(nu++[n]).length<=_
      rw [List.length_append];show nu.length+1<=_;omega
    ·refine⟨⟨⟨_,_,hget,rfl,rfl⟩,trivial⟩,?_⟩
     refine⟨by show 0+0<=0;omega,[],rfl,by show(0+(nu.map i64).length) * 8<=140737488355328;rw [List.length_map];omega,nu.map i64,rfl,?_⟩
     refine⟨⟨sk,trivial⟩,?_⟩
     refine⟨by show 0+1<=1;omega,[i64 n],rfl,?_⟩
     refine⟨by show 0+(0+(nu.map i64).length)<=(nu.map i64).length;omega,nu.map i64,qAD (by omega),by show(0+(nu.map i64).length+1) * 8<=140737488355328;rw [List.length_map];omega,(nu++[n]).map i64,by rw [List.map_append];rfl,?_⟩
     refine⟨(⟨.mk c1 c2 c3 c4 c5 c6 c7,nu⟩:Cs).cells,hget,by show 0+10+1<=11;omega,?_⟩
     refine qDt (qCs (ds.set a ⟨d.kind,d.n,d.name,d.plate,d.refs,d.cases.set (cse.toNat % d.cases.length) ⟨.mk c1 c2 c3 c4 c5 c6 c7,nu++[n]⟩⟩)) rfl ⟨_,rfl,_,_,rfl,⟨_,rfl,qCF rfl,qCB rfl ⟨_,_,rfl,rfl,_,_,rfl,rfl,_,_,rfl,rfl,_,_,rfl,rfl,_,_,rfl,hrr rfl,_,_,rfl,(qI4 (xss:=(d.cases.set (cse.toNat % d.cases.length) ⟨.mk c1 c2 c3 c4 c5 c6 c7,nu++[n]⟩).map Cs.cells) rfl ?_ (by rw [List.length_set,qBE,hkl])),rfl⟩⟩,rfl⟩ (qCG h ?_)
     ·rw [hjx,List.map_set]
      exact qDA (qDR _ _ _) (qD0 (qFd _ _ (Cd.mk c1 c2 c3 c4 c5 c6 c7).cells) ⟨_,_,rfl,⟨_,rfl,by show 0+(0+(nu.map i64).length+1)<=((nu++[n]).map i64).length;simp,qAD (by simp)⟩,rfl⟩)
     refine⟨⟨hB.name,hB.plate,hB.len,hB.refs,qGa (show qC8 (Cd.mk c1 c2 c3 c4 c5 c6 c7) from hB.cases.cond _ hcm) (by show(nu++[n]).length<=_;rw [List.length_append];show nu.length+1<=_;omega) hB.cases⟩,hS'.refs,by show(d.cases.set _ _).length<=_;rw [List.length_set];exact hS'.cases,fun x hx=>?_⟩
     rcases List.mem_or_eq_of_mem_set hx with hx | rfl
     ·exact hS'.nums x hx
     ·show(nu++[n]).length<=_
      rw [List.length_append];show nu.length+1<=_;omega
   ·refine⟨⟨⟨_,_,hget,rfl,rfl⟩,trivial⟩,?_⟩
    refine⟨⟨sk,⟨_,_,hget,rfl,rfl⟩,trivial⟩,?_⟩
    refine⟨by show 0+0<=0;omega,[],rfl,by show(0+(nu.map i64).length) * 8<=140737488355328;rw [List.length_map];omega,nu.map i64,rfl,?_⟩
    refine⟨⟨sk,trivial⟩,?_⟩
    refine⟨by show 0+1<=1;omega,[i64 n],rfl,?_⟩
    refine⟨by show 0+(0+(nu.map i64).length)<=(nu.map i64).length;omega,nu.map i64,qAD (by omega),by show(0+(nu.map i64).length+1) * 8<=140737488355328;rw [List.length_map];omega,(nu++[n]).map i64,by rw [List.map_append];rfl,?_⟩
    refine⟨(⟨.mk c1 c2 c3 c4 c5 c6 c7,nu⟩:Cs).cells,hget,by show 0+10+1<=11;omega,?_⟩
    refine qDt (qCs (ds.set a ⟨d.kind,d.n,d.name,d.plate,d.refs,d.cases.set (cse.toNat % d.cases.length) ⟨.mk c1 c2 c3 c4 c5 c6 c7,nu++[n]⟩⟩)) rfl ⟨_,rfl,_,_,rfl,⟨_,rfl,qCF rfl,qCB rfl ⟨_,_,rfl,rfl,_,_,rfl,rfl,_,_,rfl,rfl,_,_,rfl,rfl,_,_,rfl,hrr rfl,_,_,rfl,(qI4 (xss:=(d.cases.set (cse.toNat % d.cases.length) ⟨.mk c1 c2 c3 c4 c5 c6 c7,nu++[n]⟩).map Cs.cells) rfl ?_ (by rw [List.length_set,qBE,hkl])),rfl⟩⟩,rfl⟩ (qCG h ?_)
    ·rw [hjx,List.map_set]
     exact qDA (qDR _ _ _) (qD0 (qFd _ _ (Cd.mk c1 c2 c3 c4 c5 c6 c7).cells) ⟨_,_,rfl,⟨_,rfl,by show 0+(0+(nu.map i64).length+1)<=((nu++[n]).map i64).length;simp,qAD (by simp)⟩,rfl⟩)
    refine⟨⟨hB.name,hB.plate,hB.len,hB.refs,qGa (show qC8 (Cd.mk c1 c2 c3 c4 c5 c6 c7) from hB.cases.cond _ hcm) (by show(nu++[n]).length<=_;rw [List.length_append];show nu.length+1<=_;omega) hB.cases⟩,hS'.refs,by show(d.cases.set _ _).length<=_;rw [List.length_set];exact hS'.cases,fun x hx=>?_⟩
    rcases List.mem_or_eq_of_mem_set hx with hx | rfl
    ·exact hS'.nums x hx
    ·show(nu++[n]).length<=_
     rw [List.length_append];show nu.length+1<=_;omega
  refine qDt (qCs (ds.set a d)) rfl ⟨_,rfl,_,_,rfl,⟨_,rfl,qCF rfl,qCB rfl ⟨_,_,rfl,rfl,_,_,rfl,rfl,_,_,rfl,rfl,_,_,rfl,rfl,_,_,rfl,hrr rfl,_,_,rfl,hkk rfl,rfl⟩⟩,rfl⟩ (qCG h hS')
 refine And.intro (fun _=>?_) (fun _=>?_)
 ·refine VDraw.seq rfl ?_
  refine⟨_,⟨_,hst _,rfl⟩,?_⟩
  refine⟨_,⟨_,hst _,rfl⟩,?_⟩
  obtain⟨m,hm⟩:∃ m:Nat,(if (1:Int)<((d.cases.length:Nat):Int) then(1:Int) else((d.cases.length:Nat):Int))=(m:Int)/\m<=d.cases.length:=by
   split
   ·exact⟨1,rfl,by omega⟩
   ·exact⟨_,rfl,Nat.le_refl _⟩
  refine⟨by show(0:Int)<=(if (1:Int)<((d.cases.length:Nat):Int) then(1:Int) else((d.cases.length:Nat):Int))/\(if (1:Int)<((d.cases.length:Nat):Int) then(1:Int) else((d.cases.length:Nat):Int))<=((d.cases.length:Nat):Int);rw [hm.1];omega,?_⟩
  refine⟨_,hst _,by show 0+5+1<=6;omega,?_⟩
  refine qDt (qCs (ds.set a ⟨d.kind,d.n,d.name,d.plate,d.refs,d.cases.drop m⟩)) rfl ⟨_,rfl,_,_,rfl,⟨_,rfl,qCF (List.set_set ..),qCB (List.set_set ..) ⟨_,_,rfl,rfl,_,_,rfl,rfl,_,_,rfl,rfl,_,_,rfl,rfl,_,_,rfl,hrr rfl,_,_,rfl,(qRI rfl ?_ ?_),rfl⟩⟩,rfl⟩ (qCG h ?_)
  ·show 0+(if (1:Int)<((d.cases.length:Nat):Int) then(1:Int) else((d.cases.length:Nat):Int)).toNat+(d.cases.length - (if (1:Int)<((d.cases.length:Nat):Int) then(1:Int) else((d.cases.length:Nat):Int)).toNat)<=(d.cases.map Cs.cells).length
   rw [hm.1,hkl,Int.toNat_natCast];have:=hm.2;omega
  ·show(d.cases.drop m).map Cs.cells=List.take (d.cases.length - (if (1:Int)<((d.cases.length:Nat):Int) then(1:Int) else((d.cases.length:Nat):Int)).toNat) (List.drop (0+(if (1:Int)<((d.cases.length:Nat):Int) then(1:Int) else((d.cases.length:Nat):Int)).toNat) (d.cases.map Cs.cells))
   rw [hm.1,Int.toNat_natCast,Nat.zero_add,List.map_drop,List.take_of_length_le (by rw [List.length_drop,hkl];exact Nat.le_refl _)]
  ·refine⟨⟨hB.name,hB.plate,hB.len,hB.refs,⟨by rw [List.length_drop];have:=hB.cases.len;omega,fun x hx=>hB.cases.cond x (List.mem_of_mem_drop hx),fun x hx=>hB.cases.nums x (List.mem_of_mem_drop hx)⟩⟩,hS'.refs,by show(d.cases.drop m).length<=_;rw [List.length_drop];omega,fun x hx=>hS'.nums x (List.mem_of_mem_drop hx)⟩
 have hself:ds.set a d=ds:=by rw [hd];exact set_self de0 ds a
 refine And.intro (fun _=>?_) (fun _=>?_)
 ·refine⟨Nat,fun i=>[(2, .ptr 0 0 0),(3, .ptr 1 0 0),(4, .ptr 2 0 0),(8, .p (i64 i))],fun i=>⟨4,[(3,dsO (ds++List.replicate i (ds.getD 0 de0))),(2,s1O (.p .nils)),(1,s1O (.sl 3 6 0 (ds.length+i))),(0,beO ⟨what,place,cse,n,nm,rf, .mk ao an ar av af as' aa⟩)]⟩,fun i=>i<=32,fun i=>32 - i,?_,?_⟩
  ·refine⟨0,by omega,qAA [4,5] [] [] rfl (sk) ⟨⟨_,rfl,rfl,rfl,?_⟩,sk⟩ rfl⟩
   show qCK _ ((qB1 (ds.map De.cells)).set a (qVm d)) ((ds++[]).map De.cells)
   rw [List.append_nil]
   conv=>arg 3;rw [<- hself]
   exact qS6 ⟨_,_,rfl,rfl,_,_,rfl,rfl,_,_,rfl,rfl,_,_,rfl,rfl,_,_,rfl,hrr rfl,_,_,rfl,hkk rfl,rfl⟩
  intro i hi
  have hil:(ds++List.replicate i (ds.getD 0 de0)).length=ds.length+i:=by rw [List.length_append,List.length_replicate]
  have him:((ds++List.replicate i (ds.getD 0 de0)).map De.cells).length=ds.length+i:=by rw [List.length_map,hil]
  refine⟨by decide,?_⟩
  refine And.intro (fun h1=>?_) (fun h1=>?_)
  ·have h1:((i:Nat):Int)<n.tmod 32:=h1
   have h2:n.tmod 32<32:=Int.tmod_lt_of_pos n (by decide)
   refine VDraw.seq rfl ?_
   refine⟨by show(0:Int)<=0/\(0:Int)<((ds.length+i:Nat):Int);omega,?_⟩
   have hg0:((ds++List.replicate i (ds.getD 0 de0)).map De.cells)[0+Int.toNat 0]?=some (ds.getD 0 de0).cells:=by
    cases ds with
    | nil=>exact absurd rfl h0
    | cons x r=>rfl
   refine⟨_,⟨(ds.getD 0 de0).cells,(ds.getD 0 de0).pv,hg0,rfl,rfl⟩,?_⟩
   refine⟨sk,?_⟩
   refine⟨by show 0+1<=1;omega,[(ds.getD 0 de0).cells],rfl,?_⟩
   refine⟨by show 0+(ds.length+i)<=((ds++List.replicate i (ds.getD 0 de0)).map De.cells).length;omega,(ds++List.replicate i (ds.getD 0 de0)).map De.cells,qAD him,by show(ds.length+i+1) * 96<=140737488355328;omega,(ds++List.replicate (i+1) (ds.getD 0 de0)).map De.cells,by rw [List.replicate_succ',<- List.append_assoc,List.map_append (l₁:=ds++List.replicate i (ds.getD 0 de0))];rfl,?_⟩
   refine⟨_,w6z,?_⟩
   exact⟨i+1,by omega,qAA [] [(3,5)] [] rfl (sk) (sk) rfl,by show 32 - (i+1)<32 - i;omega⟩
  ·refine qDt (qCs (ds++List.replicate i (ds.getD 0 de0))) rfl ⟨_,rfl,_,_,rfl,qEh rfl him.symm,rfl⟩ ⟨_,rfl,by rw [hil];omega,fun x hx=>?_⟩
   rcases List.mem_append.1 hx with hx | hx
   ·exact(h.decl x hx).mono (by omega)
   ·rw [(List.mem_replicate.1 hx).2];exact(h.decl _ (qAI de0 hpos)).mono (by omega)
 have hst2:∀ x y:List AV,(((qB1 (ds.map De.cells)).set a y).set a x)[a]?=some x:=fun x y=>by rw [List.set_set];exact hst x
 refine⟨Nat × List Cs,fun x=>[(2, .ptr 0 0 0),(3, .ptr 1 0 0),(4, .ptr 2 0 0),(5, .ptr 3 a 0),(9, .p (i64 (x.1:Nat)))],fun x=>bdH ⟨what,place,cse,n,nm,rf, .mk ao an ar av af as' aa⟩ ds a ⟨d.kind,d.n,d.name,d.plate,d.refs,x.2⟩,fun x=>x.1<=13/\SdP ⟨d.kind,d.n,d.name,d.plate,d.refs,x.2⟩ (k+x.1),fun x=>13 - x.1,?_,?_⟩
 ·exact⟨(0,d.cases),⟨by show 0<=13;omega,hS⟩,qAA [] [] [] rfl (sk) ⟨⟨_,rfl,rfl,rfl,rfl⟩,⟨_,rfl,rfl,rfl,rfl⟩,⟨_,rfl,rfl,rfl,_,rfl,qV1 (R:=ds.map De.cells) (d:=d) (m1:=d.refs.length) (m2:=d.cases.length) rfl rfl rfl rfl rfl⟩,sk⟩ rfl⟩
 rintro⟨i,ks⟩ ⟨hi,hD⟩
 have hi:i<=13:=hi
 have hDc:ks.length<=k+i:=hD.cases
 refine⟨by decide,?_⟩
 refine And.intro (fun h1=>?_) (fun h1=>?_)
 ·have h1:((i:Nat):Int)<n.tmod 13:=h1
  have h2:n.tmod 13<13:=Int.tmod_lt_of_pos n (by decide)
  refine⟨_,⟨_,hst _,rfl⟩,?_⟩
  refine And.intro (fun h3=>?_) (fun h3=>?_)
  ·have h3:(0:Int)<((ks.length:Nat):Int):=h3
   obtain⟨c0,kr,rfl⟩:∃ c0 kr,ks=c0::kr:=by
    cases ks with
    | nil=>exact absurd h3 (by decide)
    | cons c r=>exact⟨c,r,rfl⟩
   obtain⟨⟨c1,c2,c3,c4,c5,c6,c7⟩,nu⟩:=c0
   have hcl:kr.length+1<=k+i:=hDc
   have hkm:(((⟨.mk c1 c2 c3 c4 c5 c6 c7,nu⟩:Cs)::kr).map Cs.cells).length=kr.length+1:=List.length_map ..
   refine VDraw.seq rfl ?_
   refine⟨_,⟨_,hst _,rfl⟩,?_⟩
   refine⟨by show(0:Int)<=0/\(0:Int)<((kr.length+1:Nat):Int);omega,?_⟩
   refine⟨_,⟨(⟨.mk c1 c2 c3 c4 c5 c6 c7,nu⟩:Cs).cells,(⟨.mk c1 c2 c3 c4 c5 c6 c7,nu⟩:Cs).pv,rfl,rfl,rfl⟩,?_⟩
   refine⟨_,⟨_,hst _,rfl⟩,?_⟩
   refine⟨⟨⟨_,hst _,rfl⟩,trivial⟩,?_⟩
   refine⟨by show 0+(kr.length+1)<=(((⟨.mk c1 c2 c3 c4 c5 c6 c7,nu⟩:Cs)::kr).map Cs.cells).length;omega,((⟨.mk c1 c2 c3 c4 c5 c6 c7,nu⟩:Cs)::kr).map Cs.cells,qAD hkm,?_⟩
   refine⟨by show 0+1<=1;omega,[(⟨.mk c1 c2 c3 c4 c5 c6 c7,nu⟩:Cs).cells],rfl,by show(1+(kr.length+1)) * 152<=140737488355328;omega,((⟨.mk c1 c2 c3 c4 c5 c6 c7,nu⟩:Cs)::⟨.mk c1 c2 c3 c4 c5 c6 c7,nu⟩::kr).map Cs.cells,rfl,?_⟩
   refine⟨_,hst _,by show 0+5+1<=6;omega,?_⟩
   refine VDraw.seq rfl ?_
   refine⟨_,⟨_,hst2 _ _,rfl⟩,?_⟩
   refine⟨⟨⟨_,hst2 _ _,rfl⟩,trivial⟩,?_⟩
   refine(qUW [cse] (by show 1<=9223372036854775807;omega)).use [8] rfl ⟨_,_,rfl,⟨_,rfl,Nat.le_refl _,rfl⟩,rfl⟩ fun r hr=>?_
   obtain⟨⟨e1,e2,e3,e4,e5,e6,e7⟩,m,rfl,hsm,_⟩:=hr
   refine⟨⟨⟨_,hst2 _ _,rfl⟩,trivial⟩,?_⟩
   refine⟨by show(0:Int)<=0/\(0:Int)<((1+(kr.length+1):Nat):Int);omega,?_⟩
   refine⟨(⟨.mk c1 c2 c3 c4 c5 c6 c7,nu⟩:Cs).cells,rfl,by show 0+0+10<=11;omega,?_⟩
   refine⟨_,w6z,?_⟩
   refine⟨(i+1,⟨.mk e1 e2 e3 e4 e5 e6 e7,nu⟩::⟨.mk c1 c2 c3 c4 c5 c6 c7,nu⟩::kr),⟨by show i+1<=13;omega,?_⟩,qAA [] [(5,7)] [] rfl (sk) ⟨⟨_,rfl,rfl,rfl,rfl⟩,⟨_,rfl,rfl,rfl,rfl⟩,⟨_,rfl,rfl,rfl,_,rfl,qVl (R:=ds.map De.cells) (d:=⟨d.kind,d.n,d.name,d.plate,d.refs,⟨.mk e1 e2 e3 e4 e5 e6 e7,nu⟩::⟨.mk c1 c2 c3 c4 c5 c6 c7,nu⟩::kr⟩) (s:=4) (t:=7) (m1:=d.refs.length) (m2:=1+(kr.length+1)) rfl rfl (by show 1+(kr.length+1)=kr.length+1+1;omega) rfl rfl⟩,sk⟩ rfl,by show 13 - (i+1)<13 - i;omega⟩
   have hn0:nu.length<=k+i:=hD.nums _ (List.mem_cons_self ..)
   refine⟨⟨hB.name,hB.plate,hB.len,hB.refs,qKv hsm.big (by show nu.length<=5000;omega) hD.big.cases (by show kr.length+1<=5000;omega)⟩,by show d.refs.length<=_;omega,by show kr.length+1+1<=k+(i+1);omega,fun x hx=>?_⟩
   rcases List.mem_cons.1 hx with rfl | hx
   ·show nu.length<=k+(i+1);omega
   ·exact Nat.le_trans (hD.nums x hx) (by show k+i<=k+(i+1);omega)
  ·refine qDt (qCs (ds.set a ⟨d.kind,d.n,d.name,d.plate,d.refs,ks⟩)) rfl ⟨_,rfl,_,_,rfl,⟨_,rfl,qCF rfl,qCB rfl ⟨_,_,rfl,rfl,_,_,rfl,rfl,_,_,rfl,rfl,_,_,rfl,rfl,_,_,rfl,hrr rfl,_,_,rfl,qEh rfl (by rw [List.length_map]),rfl⟩⟩,rfl⟩ (qCG h (hD.mono (by omega)))
 ·refine qDt (qCs (ds.set a ⟨d.kind,d.n,d.name,d.plate,d.refs,ks⟩)) rfl ⟨_,rfl,_,_,rfl,⟨_,rfl,qCF rfl,qCB rfl ⟨_,_,rfl,rfl,_,_,rfl,rfl,_,_,rfl,rfl,_,_,rfl,rfl,_,_,rfl,hrr rfl,_,_,rfl,qEh rfl (by rw [List.length_map]),rfl⟩⟩,rfl⟩ (qCG h (hD.mono (by omega)))
theorem qLr {d:De} (h:qAj d=true):d.cases.length<=12:=by
 have hc:∀ l:List Cs,qBH l=true->l.length<=12:=fun l h=>by
  simp only [qBH,Bool.and_eq_true,decide_eq_true_eq] at h
  exact h.1.2
 unfold qAj at h
 split at h
 ·simp only [Bool.and_eq_true,decide_eq_true_eq] at h;omega
 ·split at h
  ·simp only [Bool.and_eq_true,decide_eq_true_eq] at h;omega
  ·split at h
   ·simp only [Bool.and_eq_true] at h;exact hc _ h.2
   ·split at h
    ·simp only [Bool.and_eq_true,decide_eq_true_eq] at h;omega
    ·split at h
     ·simp only [Bool.and_eq_true] at h;exact hc _ h.2
     ·cases h
theorem qHX:∀ {l:List Cs},qBd l=true->∀ c∈l,c.nums.length<=8
 | [],_,c,hc=>by cases hc
 | [x],h,c,hc=>by
  simp only [qBd,Bool.and_eq_true] at h
  have h:=h.1
  simp only [qCD,Bool.and_eq_true,decide_eq_true_eq] at h
  rw [List.mem_singleton.1 hc];exact h.1.2
 | x::y::r,h,c,hc=>by
  simp only [qBd,Bool.and_eq_true] at h
  obtain⟨⟨h1,_⟩,h2⟩:=h
  rcases List.mem_cons.1 hc with rfl | hc
  ·simp only [qCD,Bool.and_eq_true,decide_eq_true_eq] at h1
   exact h1.1.2
  ·exact qHX (l:=y::r) h2 c hc
theorem qOH {d:De} (h:qAj d=true):∀ c∈d.cases,c.nums.length<=8:=by
 have hc:qBH d.cases=true->∀ c∈d.cases,c.nums.length<=8:=fun h=>by
  simp only [qBH,Bool.and_eq_true] at h
  exact qHX h.2
 have h0:d.cases.length=0->∀ c∈d.cases,c.nums.length<=8:=fun h c hc=>by
  rw [List.eq_nil_of_length_eq_zero h] at hc;cases hc
 unfold qAj at h
 split at h
 ·simp only [Bool.and_eq_true,decide_eq_true_eq] at h;exact h0 h.2
 ·split at h
  ·simp only [Bool.and_eq_true,decide_eq_true_eq] at h;exact h0 h.2
  ·split at h
   ·simp only [Bool.and_eq_true] at h;exact hc h.2
   ·split at h
    ·simp only [Bool.and_eq_true,decide_eq_true_eq] at h;exact h0 h.2
    ·split at h
     ·simp only [Bool.and_eq_true] at h;exact hc h.2
     ·cases h
theorem qMS {ds:List De} (hb:BigP ds) (hv:qAt ds=true):SzP ds 40:=by
 simp only [qAt,Bool.and_eq_true,decide_eq_true_eq] at hv
 refine⟨by have:=hv.1;omega,fun d hd=>?_⟩
 have h:=List.all_eq_true.1 hv.2 d hd
 simp only [qBi,Bool.and_eq_true,decide_eq_true_eq] at h
 exact⟨hb.decl d hd,by have:=h.1.1.2;omega,by have:=qLr h.2;omega,fun c hc=>by have:=qOH h.2 c hc;omega⟩
theorem SzP.bigP {ds:List De} {k:Nat} (h:SzP ds k) (hk:k<=1000):BigP ds:=⟨by have:=h.len;omega,fun d hd=>(h.decl d hd).big⟩
theorem SzP.mix {a b:List De} {k i j:Nat} (ha:SzP a k) (hb:SzP b k) (hj:j<b.length):SzP (a.take i++[b.getD j de0]++a.drop i) (k+1):=by
 refine⟨?_,fun d hd=>?_⟩
 ·have:=ha.len
  simp only [List.length_append,List.length_take,List.length_drop,List.length_singleton]
  omega
 ·have hs:SdP d k:=by
   rcases List.mem_append.1 hd with hd | hd
   ·rcases List.mem_append.1 hd with hd | hd
    ·exact ha.decl d (List.mem_of_mem_take hd)
    ·rw [List.mem_singleton.1 hd]
     exact hb.decl _ (qAI de0 hj)
   ·exact ha.decl d (List.mem_of_mem_drop hd)
  exact⟨hs.big,by have:=hs.refs;omega,by have:=hs.cases;omega,fun c hc=>by have:=hs.nums c hc;omega⟩
theorem qVA {P:Program} {t:TypeId} {cs:List PV} {f:Nat} {v:PV} (h:qJj P t=some (some 1)) (hv:cs[f]?=some v):qHp P t cs f=some (.agg [v]):=by
 unfold qHp
 rw [h]
 have:qJR cs f 1=some [v]:=by
  induction cs generalizing f with
  | nil=>simp at hv
  | cons x r ih=>
   cases f with
   | zero=>simp at hv;subst hv;cases r <;> rfl
   | succ f=>exact ih (by simpa using hv)
 simp only [this]
abbrev qXB:OT:=(.pure 0 (.pure 1 (.pure 2 (.pure 3 (.pure 4 (.pure 5 (.pure 6 (.pure 7 (.pure 8 (.pure 9 (.pure 10 (.pure 11 (.pure 12 (.pure 13 (.pure 14 (.pure 15 (.pure 16 .fin)))))))))))))))))
theorem qLE {C : Cx} {rd : Bool} {n0 N : Nat} {all : List Oper} {σ : Sg} {ds : List AD} {H : Hp} {K : Sg -> List AD -> Hp -> Prop} {X : List AP -> Sg -> List AD -> Hp -> Prop} {α : Type} (sl : α -> List (Nat × AV)) (hp : α -> Hp) (pr : α -> Prop)
    (h : (C.P.follows .mixedOrders && qBw N all (masks all []) && qGB all (masks all []) (qR8 C.P (masks all []) all all.length [] []) [] [] []) = true)
    (hv : vD C rd all σ (fun σ' ds' H' => ∃ x, pr x /\ Ent C n0 N σ' ds' H' (sets (fun _ => .junk) (sl x)) ds (hp x)) X (qR8 C.P (masks all []) all all.length [] []) [] ds H) (hk : ∀ x, pr x -> K (sets (fun _ => .junk) (sl x)) ds (hp x)) :
    ∃ ot, (C.P.follows .mixedOrders && qBw N all (masks all []) && qGB all (masks all []) ot [] [] []) = true /\
    ((vD C rd all σ K X ot [] ds H) ∨
     ∃ (α : Type) (sl : α -> List (Nat × AV)) (hp : α -> Hp) (pr : α -> Prop),
      vD C rd all σ (fun σ' ds' H' => ∃ x, pr x /\ Ent C n0 N σ' ds' H' (sets (fun _ => .junk) (sl x)) ds (hp x)) X ot [] ds H /\
      ∀ x, pr x -> K (sets (fun _ => .junk) (sl x)) ds (hp x)) := ⟨_, h, .inr ⟨α, sl, hp, pr, hv, hk⟩⟩
abbrev atO (a0 a1:UInt8):AObj:=⟨25,false, .bx [.p (u8 a0), .p (u8 a1)]⟩
def vdH (raw p q:List De) (x y:Be) (a0 a1:UInt8):Hp:=⟨6,[(5,scO q),(4,scO p),(3,atO a0 a1),(2,beO y),(1,beO x),(0,scO raw)]⟩
abbrev qV7:OT:=(.pure 1 (.pure 2 (.pure 3 (.pure 4 (.pure 6 (.pure 7 (.pure 8 (.pure 9 (.pure 10 (.pure 11 (.pure 13 (.pure 14 (.pure 15 (.pure 16 (.eff 0 [14,10,7,2] (.eff 5 [14,10,7] (.eff 12 [14] (.eff 17 [] (.pure 18 (.eff 19 [14,10,7,2] (.eff 20 [] .fin .nil) .nil)) (.eff 19 [14,10,7,2] (.eff 17 [] (.pure 18 (.eff 20 [] .fin .nil)) .nil) .nil)) (.eff 19 [14,10,7,2] (.eff 12 [14] (.eff 17 [] (.pure 18 (.eff 20 [] .fin .nil)) .nil) .nil) .nil)) (.eff 19 [14,10,7,2] (.eff 5 [14,10,7] (.eff 12 [14] (.eff 17 [] (.pure 18 (.eff 20 [] .fin .nil)) .nil) .nil) .nil) .nil)) (.eff 19 [14,10,7,2] (.eff 0 [14,10,7,2] (.eff 5 [14,10,7] (.eff 12 [14] (.eff 17 [] (.pure 18 (.eff 20 [] .fin .nil)) .nil) .nil) .nil) .nil) .nil))))))))))))))))
def vdM (raw p m:List De) (x y:Be):Hp:=⟨5,[(4,scO m),(3,scO p),(2,beO y),(1,beO x),(0,scO raw)]⟩
abbrev qXA:OT:=(.pure 0 (.pure 1 (.pure 2 (.pure 3 (.pure 5 (.pure 6 (.pure 7 (.pure 10 (.pure 11 (.pure 12 (.pure 15 (.eff 4 [12,11,10,7,6,5,1,0] (.eff 8 [12,11,10,5,1,0] (.eff 9 [12,11,10,1,0] (.eff 13 [10,1,0] (.pure 14 .fin) .nil) .nil) .nil) .nil))))))))))))
abbrev qV9:OT:=(.pure 0 (.pure 1 (.pure 2 (.pure 3 (.pure 4 (.pure 5 (.eff 6 [] (.pure 7 (.pure 8 (.pure 9 (.pure 10 (.pure 12 (.eff 11 [12] (.eff 13 [] (.pure 14 (.pure 15 .fin)) .nil) .nil)))))) .nil)))))))
abbrev qV8:OT:=(.pure 0 (.pure 1 (.pure 2 (.pure 3 (.pure 4 (.pure 5 (.pure 6 (.pure 7 (.pure 8 .fin)))))))))
theorem qJ0 (raw:List De) (d c:Dp) (x y:Be) (a0 a1:UInt8) (hr:BigP raw) (hd:d.ok) (hc:c.ok) (hx:x.ok) (hy:y.ok):Pure cx 5 [qCs raw, .agg d.cells, .agg c.cells, .agg x.cells, .agg y.cells, .agg [u8 a0,u8 a1]] (·=.ret [.bool true]):=by
 refine qAB Tryz.func5 rfl rfl rfl ?_
 obtain⟨xw,xp,xc,xn,xm,xf,⟨xa,xb,xd,xe,xg,xh,xi⟩⟩:=x
 obtain⟨yw,yp,yc,yn,ym,yf,⟨ya,yb,yd,ye,yg,yh,yi⟩⟩:=y
 refine qLE (α:=List De × List De) (fun z=>[(6, .ptr 0 0 0),(9, .ptr 1 0 0),(10, .ptr 2 0 0),(11, .ptr 3 0 0),(13, .ptr 4 0 0),(14, .ptr 5 0 0)]) (fun z=>⟨6,[(5,scO z.2),(4,scO z.1),(3,atO a0 a1),(2,beO ⟨yw,yp,yc,yn,ym,yf, .mk ya yb yd ye yg yh yi⟩),(1,beO ⟨xw,xp,xc,xn,xm,xf, .mk xa xb xd xe xg xh xi⟩),(0,scO raw)]⟩) (fun z=>(DrP z.1/\2<=z.1.length)/\DrP z.2/\2<=z.2.length) rfl ?_ ?_
 ·repeat' first
   | exact⟨(ps,qs),⟨hps,hqs⟩,qAA [] [(0,0),(1,3),(2,4),(3,5),(4,6),(5,7)] [] rfl ⟨⟨rfl,rfl⟩,⟨rfl,rfl⟩,⟨rfl,rfl⟩,⟨rfl,rfl⟩,⟨rfl,rfl⟩,⟨rfl,rfl⟩,trivial⟩ (sk) rfl⟩
   | exact⟨(ps,qs),⟨hps,hqs⟩,qAA [] [(0,0),(1,3),(2,4),(3,5),(4,7),(5,6)] [] rfl ⟨⟨rfl,rfl⟩,⟨rfl,rfl⟩,⟨rfl,rfl⟩,⟨rfl,rfl⟩,⟨rfl,rfl⟩,⟨rfl,rfl⟩,trivial⟩ (sk) rfl⟩
   | refine And.intro ?_ ?_
   | (refine(qIC d hd).at fun r hr=>?_;obtain⟨ps,rfl,hps⟩:=hr)
   | (refine(qIC c hc).at fun r hr=>?_;obtain⟨qs,rfl,hqs⟩:=hr)
  all_goals (exact sk)
 rintro⟨p,q⟩ ⟨⟨hp,hpl⟩,hq,hql⟩
 have hp:DrP p:=hp
 have hq:DrP q:=hq
 have hpz:=qMS hp.big hp.valid
 have hqz:=qMS hq.big hq.valid
 have hpm:(p.map De.cells).length=p.length:=List.length_map ..
 have hqm:(q.map De.cells).length=q.length:=List.length_map ..
 have hpl:2<=p.length:=hpl
 have hql:2<=q.length:=hql
 have hp40:=hpz.len
 have hq40:=hqz.len
 obtain⟨i,hi⟩:∃ i,i=a0.toNat % (p.length+1):=⟨_,rfl⟩
 obtain⟨k,hk⟩:∃ k,k=a1.toNat % q.length:=⟨_,rfl⟩
 have hi1:i<=p.length:=by rw [hi];have:=Nat.mod_lt a0.toNat (show 0<p.length+1 by omega);omega
 have hk1:k<q.length:=by rw [hk];exact Nat.mod_lt _ (by omega)
 refine qHv [(6, .ptr 0 0 0),(9, .ptr 1 0 0),(10, .ptr 2 0 0),(13, .ptr 4 0 0),(14, .ptr 5 0 0),(15, .p (i64 (i:Nat))),(16, .p (i64 (k:Nat)))] (vdH raw p q ⟨xw,xp,xc,xn,xm,xf, .mk xa xb xd xe xg xh xi⟩ ⟨yw,yp,yc,yn,ym,yf, .mk ya yb yd ye yg yh yi⟩ a0 a1) qXB (by kernel_rfl) ?_ ?_
 ·refine⟨by omega,?_⟩
  refine⟨_,rfl,?_⟩
  refine⟨((a0.toNat:Nat):Int),wrap_i64 (by omega) (by have:=a0.toNat_lt;omega),?_⟩
  refine⟨((p.length+1:Nat):Int),by show((p.length+1:Nat):Int)=IntKind.i64.wrap (((p.map De.cells).length:Nat)+1);rw [hpm,Int.natCast_add];exact w6z,?_⟩
  refine⟨by omega,?_⟩
  refine⟨by omega,?_⟩
  refine⟨_,rfl,?_⟩
  refine⟨((a1.toNat:Nat):Int),wrap_i64 (by omega) (by have:=a1.toNat_lt;omega),?_⟩
  refine⟨by rw [hqm];omega,?_⟩
  refine qAA [] [] [] rfl ⟨⟨rfl,rfl⟩,⟨rfl,rfl⟩,⟨rfl,rfl⟩,⟨rfl,rfl⟩,⟨rfl,rfl⟩,?_,?_,trivial⟩ (sk) rfl
  ·show i64 (i:Nat)=PV.int .i64 (Int.tmod (a0.toNat:Nat) ((p.length+1:Nat):Int))
   rw [hi,Int.ofNat_tmod]
  ·show i64 (k:Nat)=PV.int .i64 (Int.tmod (a1.toNat:Nat) (((q.map De.cells).length:Nat):Int))
   rw [hqm,hk,Int.ofNat_tmod]
 clear hi hk
 have hcell:(q.map De.cells)[k]?=some (q.getD k de0).cells:=qDm hk1
 have hmz:=hpz.mix (b:=q) (i:=i) hqz hk1
 have hmp:(p.take i++[q.getD k de0]++p.drop i).map De.cells=(p.map De.cells).take i++[(q.getD k de0).cells]++(p.map De.cells).drop i:=by simp only [List.map_append,List.map_take,List.map_drop,List.map_cons,List.map_nil]
 generalize p.take i++[q.getD k de0]++p.drop i=m at hmz hmp
 generalize q.getD k de0=dk at hcell hmp
 obtain⟨dk1,dk2,dk3,dk4,dk5,dk6⟩:=dk
 have hx1:((p.map De.cells).take i).length<=40:=by rw [List.length_take,hpm];omega
 have hx2:((p.map De.cells).drop i).length<=40:=by rw [List.length_drop,hpm];omega
 have s5:(0+((p.map De.cells).take i).length) * 96<=140737488355328:=by omega
 have s12a:0+(0+((p.map De.cells).take i).length)<=((p.map De.cells).take i).length:=by omega
 have s12b:(p.map De.cells).take i=(((p.map De.cells).take i).drop 0).take (0+((p.map De.cells).take i).length):=qAD (by omega)
 have s12:(0+((p.map De.cells).take i).length+1) * 96<=140737488355328:=by omega
 have s17a:0+(0+((p.map De.cells).take i).length+1)<=((p.map De.cells).take i++[(De.mk dk1 dk2 dk3 dk4 dk5 dk6).cells]).length:=by simp
 have s17b:(p.map De.cells).take i++[(De.mk dk1 dk2 dk3 dk4 dk5 dk6).cells]=(((p.map De.cells).take i++[(De.mk dk1 dk2 dk3 dk4 dk5 dk6).cells]).drop 0).take (0+((p.map De.cells).take i).length+1):=qAD (by simp)
 have s17:(0+((p.map De.cells).take i).length+1+((p.map De.cells).drop i).length) * 96<=140737488355328:=by omega
 have s20a:0+(0+((p.map De.cells).take i).length+1+((p.map De.cells).drop i).length)<=((p.map De.cells).take i++[(De.mk dk1 dk2 dk3 dk4 dk5 dk6).cells]++(p.map De.cells).drop i).length:=by simp;omega
 have s20b:m.map De.cells=(((p.map De.cells).take i++[(De.mk dk1 dk2 dk3 dk4 dk5 dk6).cells]++(p.map De.cells).drop i).drop 0).take (0+((p.map De.cells).take i).length+1+((p.map De.cells).drop i).length):=by rw [hmp];exact qAD (by simp;omega)
 refine qHv [(6, .ptr 0 0 0),(9, .ptr 1 0 0),(10, .ptr 2 0 0),(13, .ptr 3 0 0),(17, .ptr 4 0 0)] (vdM raw p m ⟨xw,xp,xc,xn,xm,xf, .mk xa xb xd xe xg xh xi⟩ ⟨yw,yp,yc,yn,ym,yf, .mk ya yb yd ye yg yh yi⟩) qV7 (by kernel_rfl) ?_ ?_
 ·refine⟨by show(0:Int)<=(i:Nat)/\((i:Nat):Int)<=((p.map De.cells).length:Nat);rw [hpm];omega,?_⟩
  refine⟨_,⟨by omega,(De.mk dk1 dk2 dk3 dk4 dk5 dk6).cells,hcell,rfl⟩,?_⟩
  refine⟨by show(0:Int)<=(i:Nat)/\((i:Nat):Int)<=((p.map De.cells).length:Nat);rw [hpm];omega,?_⟩
  refine And.intro ?_ ?_
  ·refine⟨sk,?_⟩
   refine And.intro ?_ ?_
   ·refine⟨by decide,[],rfl,s5,(p.map De.cells).take i,rfl,?_⟩
    refine⟨sk,?_⟩
    refine And.intro ?_ ?_
    ·refine⟨s12a,(p.map De.cells).take i,s12b,s12,(p.map De.cells).take i++[(De.mk dk1 dk2 dk3 dk4 dk5 dk6).cells],rfl,?_⟩
     refine⟨sk,?_⟩
     refine And.intro ?_ ?_
     ·refine⟨s17a,(p.map De.cells).take i++[(De.mk dk1 dk2 dk3 dk4 dk5 dk6).cells],s17b,s17,(p.map De.cells).take i++[(De.mk dk1 dk2 dk3 dk4 dk5 dk6).cells]++(p.map De.cells).drop i,rfl,?_⟩
      refine⟨sk,?_⟩
      exact qAA [9] [(3,4),(4,10)] [] rfl ⟨⟨rfl,rfl⟩,⟨rfl,rfl⟩,⟨rfl,rfl⟩,⟨rfl,rfl⟩,⟨rfl,rfl⟩,trivial⟩ ⟨⟨_,rfl,rfl,rfl,_,rfl,_,_,rfl,⟨_,rfl,s20a,s20b⟩,rfl⟩,⟨_,rfl,rfl,rfl,_,rfl,_,_,rfl,rfl,rfl⟩,⟨_,rfl,rfl,rfl,_,rfl,_,_,rfl,rfl,_,_,rfl,rfl,_,_,rfl,rfl,_,_,rfl,rfl,_,_,rfl,rfl,_,_,rfl,rfl,_,_,rfl,rfl,_,_,rfl,rfl,_,_,rfl,rfl,_,_,rfl,rfl,_,_,rfl,rfl,_,_,rfl,rfl,_,_,rfl,rfl,_,_,rfl,rfl,_,_,rfl,rfl,_,_,rfl,rfl,_,_,rfl,rfl,_,_,rfl,rfl,_,_,rfl,rfl,rfl⟩,⟨_,rfl,rfl,rfl,_,rfl,_,_,rfl,rfl,_,_,rfl,rfl,_,_,rfl,rfl,_,_,rfl,rfl,_,_,rfl,rfl,_,_,rfl,rfl,_,_,rfl,rfl,_,_,rfl,rfl,_,_,rfl,rfl,_,_,rfl,rfl,_,_,rfl,rfl,_,_,rfl,rfl,_,_,rfl,rfl,_,_,rfl,rfl,_,_,rfl,rfl,_,_,rfl,rfl,_,_,rfl,rfl,_,_,rfl,rfl,_,_,rfl,rfl,rfl⟩,⟨_,rfl,rfl,rfl,_,rfl,_,_,rfl,rfl,rfl⟩,trivial⟩ rfl
     ·refine⟨sk,?_⟩
      refine⟨s17a,(p.map De.cells).take i++[(De.mk dk1 dk2 dk3 dk4 dk5 dk6).cells],s17b,s17,(p.map De.cells).take i++[(De.mk dk1 dk2 dk3 dk4 dk5 dk6).cells]++(p.map De.cells).drop i,rfl,?_⟩
      exact qAA [10] [(3,4),(4,9)] [] rfl ⟨⟨rfl,rfl⟩,⟨rfl,rfl⟩,⟨rfl,rfl⟩,⟨rfl,rfl⟩,⟨rfl,rfl⟩,trivial⟩ ⟨⟨_,rfl,rfl,rfl,_,rfl,_,_,rfl,⟨_,rfl,s20a,s20b⟩,rfl⟩,⟨_,rfl,rfl,rfl,_,rfl,_,_,rfl,rfl,rfl⟩,⟨_,rfl,rfl,rfl,_,rfl,_,_,rfl,rfl,_,_,rfl,rfl,_,_,rfl,rfl,_,_,rfl,rfl,_,_,rfl,rfl,_,_,rfl,rfl,_,_,rfl,rfl,_,_,rfl,rfl,_,_,rfl,rfl,_,_,rfl,rfl,_,_,rfl,rfl,_,_,rfl,rfl,_,_,rfl,rfl,_,_,rfl,rfl,_,_,rfl,rfl,_,_,rfl,rfl,_,_,rfl,rfl,_,_,rfl,rfl,_,_,rfl,rfl,rfl⟩,⟨_,rfl,rfl,rfl,_,rfl,_,_,rfl,rfl,_,_,rfl,rfl,_,_,rfl,rfl,_,_,rfl,rfl,_,_,rfl,rfl,_,_,rfl,rfl,_,_,rfl,rfl,_,_,rfl,rfl,_,_,rfl,rfl,_,_,rfl,rfl,_,_,rfl,rfl,_,_,rfl,rfl,_,_,rfl,rfl,_,_,rfl,rfl,_,_,rfl,rfl,_,_,rfl,rfl,_,_,rfl,rfl,_,_,rfl,rfl,_,_,rfl,rfl,rfl⟩,⟨_,rfl,rfl,rfl,_,rfl,_,_,rfl,rfl,rfl⟩,trivial⟩ rfl
    ·refine⟨sk,?_⟩
     refine⟨s12a,(p.map De.cells).take i,s12b,s12,(p.map De.cells).take i++[(De.mk dk1 dk2 dk3 dk4 dk5 dk6).cells],rfl,?_⟩
     refine⟨sk,?_⟩
     refine⟨s17a,(p.map De.cells).take i++[(De.mk dk1 dk2 dk3 dk4 dk5 dk6).cells],s17b,s17,(p.map De.cells).take i++[(De.mk dk1 dk2 dk3 dk4 dk5 dk6).cells]++(p.map De.cells).drop i,rfl,?_⟩
     exact qAA [10] [(3,4),(4,8)] [] rfl ⟨⟨rfl,rfl⟩,⟨rfl,rfl⟩,⟨rfl,rfl⟩,⟨rfl,rfl⟩,⟨rfl,rfl⟩,trivial⟩ ⟨⟨_,rfl,rfl,rfl,_,rfl,_,_,rfl,⟨_,rfl,s20a,s20b⟩,rfl⟩,⟨_,rfl,rfl,rfl,_,rfl,_,_,rfl,rfl,rfl⟩,⟨_,rfl,rfl,rfl,_,rfl,_,_,rfl,rfl,_,_,rfl,rfl,_,_,rfl,rfl,_,_,rfl,rfl,_,_,rfl,rfl,_,_,rfl,rfl,_,_,rfl,rfl,_,_,rfl,rfl,_,_,rfl,rfl,_,_,rfl,rfl,_,_,rfl,rfl,_,_,rfl,rfl,_,_,rfl,rfl,_,_,rfl,rfl,_,_,rfl,rfl,_,_,rfl,rfl,_,_,rfl,rfl,_,_,rfl,rfl,_,_,rfl,rfl,rfl⟩,⟨_,rfl,rfl,rfl,_,rfl,_,_,rfl,rfl,_,_,rfl,rfl,_,_,rfl,rfl,_,_,rfl,rfl,_,_,rfl,rfl,_,_,rfl,rfl,_,_,rfl,rfl,_,_,rfl,rfl,_,_,rfl,rfl,_,_,rfl,rfl,_,_,rfl,rfl,_,_,rfl,rfl,_,_,rfl,rfl,_,_,rfl,rfl,_,_,rfl,rfl,_,_,rfl,rfl,_,_,rfl,rfl,_,_,rfl,rfl,_,_,rfl,rfl,rfl⟩,⟨_,rfl,rfl,rfl,_,rfl,_,_,rfl,rfl,rfl⟩,trivial⟩ rfl
   ·refine⟨sk,?_⟩
    refine⟨by decide,[],rfl,s5,(p.map De.cells).take i,rfl,?_⟩
    refine⟨sk,?_⟩
    refine⟨s12a,(p.map De.cells).take i,s12b,s12,(p.map De.cells).take i++[(De.mk dk1 dk2 dk3 dk4 dk5 dk6).cells],rfl,?_⟩
    refine⟨sk,?_⟩
    refine⟨s17a,(p.map De.cells).take i++[(De.mk dk1 dk2 dk3 dk4 dk5 dk6).cells],s17b,s17,(p.map De.cells).take i++[(De.mk dk1 dk2 dk3 dk4 dk5 dk6).cells]++(p.map De.cells).drop i,rfl,?_⟩
    exact qAA [10] [(3,4),(4,7)] [] rfl ⟨⟨rfl,rfl⟩,⟨rfl,rfl⟩,⟨rfl,rfl⟩,⟨rfl,rfl⟩,⟨rfl,rfl⟩,trivial⟩ ⟨⟨_,rfl,rfl,rfl,_,rfl,_,_,rfl,⟨_,rfl,s20a,s20b⟩,rfl⟩,⟨_,rfl,rfl,rfl,_,rfl,_,_,rfl,rfl,rfl⟩,⟨_,rfl,rfl,rfl,_,rfl,_,_,rfl,rfl,_,_,rfl,rfl,_,_,rfl,rfl,_,_,rfl,rfl,_,_,rfl,rfl,_,_,rfl,rfl,_,_,rfl,rfl,_,_,rfl,rfl,_,_,rfl,rfl,_,_,rfl,rfl,_,_,rfl,rfl,_,_,rfl,rfl,_,_,rfl,rfl,_,_,rfl,rfl,_,_,rfl,rfl,_,_,rfl,rfl,_,_,rfl,rfl,_,_,rfl,rfl,_,_,rfl,rfl,rfl⟩,⟨_,rfl,rfl,rfl,_,rfl,_,_,rfl,rfl,_,_,rfl,rfl,_,_,rfl,rfl,_,_,rfl,rfl,_,_,rfl,rfl,_,_,rfl,rfl,_,_,rfl,rfl,_,_,rfl,rfl,_,_,rfl,rfl,_,_,rfl,rfl,_,_,rfl,rfl,_,_,rfl,rfl,_,_,rfl,rfl,_,_,rfl,rfl,_,_,rfl,rfl,_,_,rfl,rfl,_,_,rfl,rfl,_,_,rfl,rfl,_,_,rfl,rfl,rfl⟩,⟨_,rfl,rfl,rfl,_,rfl,_,_,rfl,rfl,rfl⟩,trivial⟩ rfl
  ·refine⟨sk,?_⟩
   refine⟨sk,?_⟩
   refine⟨by decide,[],rfl,s5,(p.map De.cells).take i,rfl,?_⟩
   refine⟨sk,?_⟩
   refine⟨s12a,(p.map De.cells).take i,s12b,s12,(p.map De.cells).take i++[(De.mk dk1 dk2 dk3 dk4 dk5 dk6).cells],rfl,?_⟩
   refine⟨sk,?_⟩
   refine⟨s17a,(p.map De.cells).take i++[(De.mk dk1 dk2 dk3 dk4 dk5 dk6).cells],s17b,s17,(p.map De.cells).take i++[(De.mk dk1 dk2 dk3 dk4 dk5 dk6).cells]++(p.map De.cells).drop i,rfl,?_⟩
   exact qAA [10] [(3,4),(4,6)] [] rfl ⟨⟨rfl,rfl⟩,⟨rfl,rfl⟩,⟨rfl,rfl⟩,⟨rfl,rfl⟩,⟨rfl,rfl⟩,trivial⟩ ⟨⟨_,rfl,rfl,rfl,_,rfl,_,_,rfl,⟨_,rfl,s20a,s20b⟩,rfl⟩,⟨_,rfl,rfl,rfl,_,rfl,_,_,rfl,rfl,rfl⟩,⟨_,rfl,rfl,rfl,_,rfl,_,_,rfl,rfl,_,_,rfl,rfl,_,_,rfl,rfl,_,_,rfl,rfl,_,_,rfl,rfl,_,_,rfl,rfl,_,_,rfl,rfl,_,_,rfl,rfl,_,_,rfl,rfl,_,_,rfl,rfl,_,_,rfl,rfl,_,_,rfl,rfl,_,_,rfl,rfl,_,_,rfl,rfl,_,_,rfl,rfl,_,_,rfl,rfl,_,_,rfl,rfl,_,_,rfl,rfl,_,_,rfl,rfl,rfl⟩,⟨_,rfl,rfl,rfl,_,rfl,_,_,rfl,rfl,_,_,rfl,rfl,_,_,rfl,rfl,_,_,rfl,rfl,_,_,rfl,rfl,_,_,rfl,rfl,_,_,rfl,rfl,_,_,rfl,rfl,_,_,rfl,rfl,_,_,rfl,rfl,_,_,rfl,rfl,_,_,rfl,rfl,_,_,rfl,rfl,_,_,rfl,rfl,_,_,rfl,rfl,_,_,rfl,rfl,_,_,rfl,rfl,_,_,rfl,rfl,_,_,rfl,rfl,rfl⟩,⟨_,rfl,rfl,rfl,_,rfl,_,_,rfl,rfl,rfl⟩,trivial⟩ rfl
 have hrm:(raw.map De.cells).length=raw.length:=List.length_map ..
 have hmn:(if 31<((raw.map De.cells).length:Int) then 31 else((raw.map De.cells).length:Int))<=((raw.map De.cells).length:Nat):=by split <;> omega
 have hm0:(0:Int)<=(if 31<((raw.map De.cells).length:Int) then 31 else((raw.map De.cells).length:Int)):=by split <;> omega
 refine⟨⟨hm0,hmn⟩,?_⟩
 refine qAG qXA (by kernel_rfl) ?_
 refine(qGb ⟨xw,xp,xc,xn,xm,xf, .mk xa xb xd xe xg xh xi⟩ hx p 40 (by omega) hpz).at fun r hr1=>?_
 obtain⟨d1,rfl,z1⟩:=hr1
 refine⟨sk,?_⟩
 refine(qGb ⟨xw,xp,xc,xn,xm,xf, .mk xa xb xd xe xg xh xi⟩ hx p 40 (by omega) hpz).at fun r hr1=>?_
 obtain⟨d2,rfl,z2⟩:=hr1
 refine⟨sk,?_⟩
 refine(qGb ⟨yw,yp,yc,yn,ym,yf, .mk ya yb yd ye yg yh yi⟩ hy d2 80 (by omega) z2).at fun r hr1=>?_
 obtain⟨d3,rfl,z3⟩:=hr1
 refine⟨sk,?_⟩
 refine(qGb ⟨xw,xp,xc,xn,xm,xf, .mk xa xb xd xe xg xh xi⟩ hx m 41 (by omega) hmz).at fun r hr1=>?_
 obtain⟨d5,rfl,z5⟩:=hr1
 refine⟨sk,?_⟩
 have hall:∀ u∈[raw.take 31,p,d1,d3,m,d5],BigP u:=fun u hu=>by
  simp only [List.mem_cons,List.not_mem_nil,or_false] at hu
  rcases hu with rfl | rfl | rfl | rfl | rfl | rfl
  ·exact⟨by rw [List.length_take];omega,fun d hd=>hr.decl d (List.mem_of_mem_take hd)⟩
  ·exact hp.big
  ·exact z1.bigP (by omega)
  ·exact z3.bigP (by omega)
  ·exact hmz.bigP (by omega)
  ·exact z5.bigP (by omega)
 have hraw:(raw.map De.cells).take (if 31<((raw.map De.cells).length:Int) then 31 else((raw.map De.cells).length:Int)).toNat=(raw.take 31).map De.cells:=by
  rw [List.map_take]
  split
  ·rfl
  ·rw [Int.toNat_natCast,List.take_of_length_le (Nat.le_refl _),List.take_of_length_le (by omega)]
 obtain⟨us,hus⟩:∃ us:List (List De),us=[raw.take 31,p,d1,d3,m,d5]:=⟨_,rfl⟩
 have hul:us.length=6:=by rw [hus];rfl
 rw [<- hus] at hall
 refine⟨Nat,fun k=>[(89, .p (.agg (us.map des))),(90, .p (i64 (k:Nat)))],fun _=>⟨0,[]⟩,fun k=>k<=6,fun k=>6 - k,?_,?_⟩
 ·refine⟨0,Nat.zero_le _,qAA [] [] [] rfl ?_ trivial rfl⟩
  refine⟨?_,rfl,trivial⟩
  show PV.agg (us.map des)=.agg [.lsts 6 ((raw.map De.cells).take (if 31<((raw.map De.cells).length:Int) then 31 else((raw.map De.cells).length:Int)).toNat),des p,des d1,des d3,des m,des d5]
  rw [hus,hraw];rfl
 clear hus hraw
 intro k hk
 refine QAD (fun h1=>?_) (fun h1=>?_)
 rotate_left
 ·refine works39_c.eq rfl ?_
  exact qAF _ rfl rfl rfl
 have h1:(k:Int)<6:=h1
 have hcu:(us.map des)[k]?=some (des (us.getD k [])):=qCw (f:=des) [] (by omega)
 have hb:=hall _ (qAI [] (show k<us.length by omega))
 generalize us.getD k []=u at hcu hb
 refine⟨_,⟨⟨by omega,by omega⟩, .agg [des u],qVA (by kernel_rfl) (by show(us.map des)[((k:Nat):Int).toNat * 1]?=_;rw [Int.toNat_natCast,Nat.mul_one];exact hcu),rfl⟩,?_⟩
 have hI:=qJP u hb
 have hJ:=qPJ u hb
 have hC:=qIz u hb
 have hD:=qJ3 u hb
 have hY:=qO0 u hb
 have hZ:=qNv u hb
 obtain⟨l,e,hle,hll⟩:∃ (l:List Iss) (e:Int),qNB u=[isl l,i64 e]/\l.length<=1000000:=by
  unfold qNB
  split
  ·rename_i hv
   have h1:=qQh hv
   exact⟨_,_,rfl,by unfold qFP;split <;> (try split) <;> first | (simp;done) | omega⟩
  ·exact⟨_,_,rfl,by simp⟩
 obtain⟨y,e2,hye,hyl⟩:∃ (y:List Sy) (e:Int),qUC u=[syl y,i64 e]/\y.length<=1000000:=by
  unfold qUC
  split
  ·rename_i hs
   refine⟨_,_,rfl,?_⟩
   have hv:qAt u=true:=by
    by_cases hv:qAt u=true
    ·exact hv
    ·rw [qBK,if_neg hv] at hs;cases hs
   have h2:=(qC9 hv).1
   have h3:=List.length_filter_le (fun d:De=>decide (d.kind=2∨d.kind=3∨d.kind=4)) u
   rw [qE3];omega
  ·exact⟨_,_,rfl,by simp⟩
 rw [hle] at hI hJ
 rw [hye] at hY hZ
 generalize qBK u=ec at hC hD
 have hS:=qNA l l hll hll
 rw [decide_eq_true (show l=l from rfl)] at hS
 refine hI.eq rfl ?_
 refine hJ.eq rfl ?_
 refine qAG qV9 (by kernel_rfl) ?_
 refine And.intro (fun _=>?_) (fun h=>absurd rfl h)
 refine hS.eq rfl ?_
 refine hC.eq rfl ?_
 refine⟨sk,?_⟩
 refine hD.eq rfl ?_
 refine And.intro (fun _=>?_) (fun h=>absurd rfl h)
 refine hY.eq rfl ?_
 refine hZ.eq rfl ?_
 refine And.intro (fun _=>?_) (fun h=>absurd rfl h)
 refine And.intro (fun _=>?_) (fun h=>absurd rfl h)
 have hym:(y.map Sy.cells).length=y.length:=List.length_map ..
 refine⟨Nat,fun n=>[(24, .p (syl y)),(26, .p (syl y)),(89, .p (.agg (us.map des))),(90, .p (i64 (k:Nat))),(140, .p (i64 (y.length:Nat))),(141, .p (i64 (n:Nat)))],fun _=>⟨0,[]⟩,fun n=>n<=y.length,fun n=>y.length - n,?_,?_⟩
 ·exact⟨0,Nat.zero_le _,qAA [] [] [] rfl ⟨qGx _ _,qGx _ _,qGx _ _,rfl,congrArg (fun n:Nat=>i64 n) hym.symm,rfl,trivial⟩ trivial rfl⟩
 intro n hn
 refine QAD (fun m1=>?_) (fun m1=>?_)
 rotate_left
 ·refine⟨((k+1:Nat):Int),by rw [Int.natCast_add];exact w6z,?_⟩
  exact⟨k+1,by omega,qAA [] [] [] rfl ⟨qGx _ _,rfl,trivial⟩ trivial rfl,by show 6 - (k+1)<6 - k;omega⟩
 have m1:(n:Int)<(y.length:Nat):=m1
 have hyc:(y.map Sy.cells)[n]?=some (y.getD n ⟨[],0,[],0,0⟩).cells:=qCw _ (by omega)
 generalize y.getD n ⟨[],0,[],0,0⟩=w at hyc
 obtain⟨w1,w2,w3,w4,w5⟩:=w
 refine qAG qV8 (by kernel_rfl) ?_
 refine⟨_,⟨by omega,(Sy.mk w1 w2 w3 w4 w5).cells,hyc,rfl⟩,?_⟩
 refine⟨_,⟨by omega,(Sy.mk w1 w2 w3 w4 w5).cells,hyc,rfl⟩,?_⟩
 refine⟨⟨by kernel_rfl,by kernel_rfl⟩,fun _=>?_,fun e1=>absurd rfl e1⟩
 refine⟨_,w6z,?_⟩
 exact⟨n+1,by show n+1<=y.length;omega,qAA [] [] [] rfl ⟨qGx _ _,qGx _ _,qGx _ _,rfl,rfl,rfl,trivial⟩ trivial rfl,by show y.length - (n+1)<y.length - n;omega⟩
set_option maxHeartbeats 4000000
theorem qOq {m:Nat} {xs:List PV} (h:TyT Tryz.prog (m+2) 24 xs):∃ a b c:UInt8,xs=[u8 a,u8 b,u8 c]:=by
 have hp:partsOf Tryz.prog 24=some [(5,0),(5,1),(5,2)]:=by kernel_rfl
 rw [TyT] at h
 simp only [hp] at h
 obtain⟨x1,_,rfl,_,h1,x2,_,rfl,_,h2,x3,_,rfl,_,h3,rfl⟩:=h
 obtain⟨a,rfl⟩:=qE1 h1
 obtain⟨b,rfl⟩:=qE1 h2
 obtain⟨c,rfl⟩:=qE1 h3
 exact⟨a,b,c,rfl⟩
theorem qQ7 {m:Nat} {xs:List PV} (h:TyT Tryz.prog (m+3) 139 xs):∃ p:Pc,xs=p.cells:=by
 have hp:partsOf Tryz.prog 139=some [(5,0),(5,1),(5,2),(5,3),(24,4)]:=by kernel_rfl
 rw [TyT] at h
 simp only [hp] at h
 obtain⟨x1,_,rfl,_,h1,x2,_,rfl,_,h2,x3,_,rfl,_,h3,x4,_,rfl,_,h4,x5,_,rfl,_,h5,rfl⟩:=h
 obtain⟨a,rfl⟩:=qE1 h1
 obtain⟨b,rfl⟩:=qE1 h2
 obtain⟨c,rfl⟩:=qE1 h3
 obtain⟨d,rfl⟩:=qE1 h4
 obtain⟨x,y,z,rfl⟩:=qOq h5
 exact⟨⟨a,b,c,d,x,y,z⟩,rfl⟩
theorem qOm {m:Nat} {xs:List PV} (h:TyT Tryz.prog (m+4) 50 xs):∃ l:List Pc,xs=[.lsts 7 (l.map Pc.cells)]/\l.length<=9223372036854775807:=by
 have hp:partsOf Tryz.prog 50=none:=by simp [partsOf,Tryz.underlying50]
 have hc:Tryz.prog.cellsOf 139=7:=by kernel_rfl
 rw [TyT] at h
 simp only [hp,Tryz.underlying50,hc] at h
 obtain⟨ys,rfl,hn,hy⟩:=h
 obtain⟨l,rfl,_⟩:=qCY (f:=Pc.cells) (P:=fun _=>True) fun y hy'=>by
  obtain⟨p,hp⟩:=qQ7 (hy y hy')
  exact⟨p,hp,trivial⟩
 rw [List.length_map] at hn
 exact⟨l,rfl,hn⟩
theorem qOn {m:Nat} {xs:List PV} (h:TyT Tryz.prog (m+5) 52 xs):∃ p:Pt,xs=p.cells/\p.cases.length<=9223372036854775807:=by
 have hp:partsOf Tryz.prog 52=some [(5,0),(5,1),(5,2),(5,3),(4,4),(50,5),(24,6)]:=by kernel_rfl
 rw [TyT] at h
 simp only [hp] at h
 obtain⟨x1,_,rfl,_,h1,x2,_,rfl,_,h2,x3,_,rfl,_,h3,x4,_,rfl,_,h4,x5,_,rfl,_,h5,x6,_,rfl,_,h6,x7,_,rfl,_,h7,rfl⟩:=h
 obtain⟨a,rfl⟩:=qE1 h1
 obtain⟨b,rfl⟩:=qE1 h2
 obtain⟨c,rfl⟩:=qE1 h3
 obtain⟨d,rfl⟩:=qE1 h4
 obtain⟨g,rfl⟩:=qOo h5
 obtain⟨l,rfl,hl⟩:=qOm h6
 obtain⟨x,y,z,rfl⟩:=qOq h7
 exact⟨⟨a,b,c,d,g,l,x,y,z⟩,rfl,hl⟩
theorem qMV {m:Nat} {xs:List PV} (h:TyT Tryz.prog (m+6) 49 xs):∃ l:List Pt,xs=[.lsts 9 (l.map Pt.cells)]/\l.length<=9223372036854775807/\∀ p∈l,p.cases.length<=9223372036854775807:=by
 have hp:partsOf Tryz.prog 49=none:=by simp [partsOf,Tryz.underlying49]
 have hc:Tryz.prog.cellsOf 52=9:=by kernel_rfl
 rw [TyT] at h
 simp only [hp,Tryz.underlying49,hc] at h
 obtain⟨ys,rfl,hn,hy⟩:=h
 obtain⟨l,rfl,hl⟩:=qCY (f:=Pt.cells) (P:=fun p=>p.cases.length<=9223372036854775807) fun y hy'=>qOn (hy y hy')
 rw [List.length_map] at hn
 exact⟨l,rfl,hn,hl⟩
theorem qHb {m:Nat} {x:PV} (h:qMO Tryz.prog (m+7) 54 x):∃ d:Dp,x=.agg d.cells/\d.ok:=by
 have hp:partsOf Tryz.prog 54=some [(5,0),(5,1),(49,2),(52,3),(49,12),(4,13)]:=by kernel_rfl
 simp only [qMO,hp] at h
 obtain⟨xs,rfl,h⟩:=h
 rw [TyT] at h
 simp only [hp] at h
 obtain⟨x1,_,rfl,_,h1,x2,_,rfl,_,h2,x3,_,rfl,_,h3,x4,_,rfl,_,h4,x5,_,rfl,_,h5,x6,_,rfl,_,h6,rfl⟩:=h
 obtain⟨a,rfl⟩:=qE1 h1
 obtain⟨b,rfl⟩:=qE1 h2
 obtain⟨l,rfl,l1,l2⟩:=qMV h3
 obtain⟨c,rfl,_⟩:=qOn h4
 obtain⟨k,rfl,k1,k2⟩:=qMV h5
 obtain⟨g,rfl⟩:=qOo h6
 exact⟨⟨a,b,l,c,k,g⟩,rfl,l1,k1,l2,k2⟩
theorem qR7 {m:Nat} {x:PV} (h:qMO Tryz.prog m 25 x):∃ v:UInt8 × UInt8,x=.agg [u8 v.1,u8 v.2]:=by
 have hp:partsOf Tryz.prog 25=some [(5,0),(5,1)]:=by kernel_rfl
 simp only [qMO,hp] at h
 obtain⟨xs,rfl,h⟩:=h
 cases m with
 | zero=>exact h.elim
 | succ m=>
  rw [TyT] at h
  simp only [hp] at h
  obtain⟨x1,_,rfl,_,h1,x2,_,rfl,_,h2,rfl⟩:=h
  obtain⟨a,rfl⟩:=qOw h1
  obtain⟨b,rfl⟩:=qOw h2
  exact⟨(a,b),rfl⟩
theorem own:ownKnob Tryz.prog.godebug=none:=by kernel_rfl
abbrev qKW : List (String × DataW Unit) := [("haruspex/lex.keys", Rows.laid_haruspex_lex_keys), ("haruspex/lex.marks", Rows.laid_haruspex_lex_marks)]
theorem qQQ (os:Os) (args:Array Value):laidMetH Tryz.prog qKW ((World.laidAll Tryz.prog os qKW).forCall (fun _ _=>0) ⟨#[],args,[]⟩).memory:=by
 rw [MakeChecks.laidMetH_plain _ _ _ (by kernel_rfl)]
 exact laidMet_laidAll _ (by kernel_rfl) (by kernel_rfl)
theorem qVJ:qVs Tryz.prog 4 cx.gt qKW:=
 ⟨by kernel_rfl,⟨213,by kernel_rfl,by kernel_rfl⟩,rfl,by kernel_rfl,⟨214,by kernel_rfl,by kernel_rfl⟩,rfl,trivial⟩
theorem qRq {W:World} (h:laidMetH Tryz.prog qKW W):∀ g cs,qSa cx.gt g=some cs->GlobV (qNI W) g cs:=by
 rw [MakeChecks.laidMetH_plain _ _ _ (by kernel_rfl)] at h
 obtain⟨ps,h,_⟩:=h
 exact qGG qVJ h
abbrev qEV:List TypeId:=[40,38,37,3,9,35,23,34,33,31,28,29,54,5,49,52,4,50,139,24,56,25]
theorem qB5:qDd Tryz.prog qEV=true:=by kernel_rfl
theorem qGr:∀ xs,qSA Tryz.prog Tryz.f5.params.toList xs->Pure cx 5 xs (·=.ret [.bool true]):=by
 intro xs h
 rw [Tryz.params5] at h
 obtain⟨x0,_,rfl,⟨m0,h0⟩,x1,_,rfl,⟨m1,h1⟩,x2,_,rfl,⟨m2,h2⟩,x3,_,rfl,⟨m3,h3⟩,x4,_,rfl,⟨m4,h4⟩,x5,_,rfl,⟨m5,h5⟩,rfl⟩:=h
 have h0:=qEt h0 10
 obtain⟨v0,rfl,g0⟩:=qOQ h0
 have h1:=qEt h1 10
 obtain⟨v1,rfl,g1⟩:=qHb h1
 have h2:=qEt h2 10
 obtain⟨v2,rfl,g2⟩:=qHb h2
 have h3:=qEt h3 10
 obtain⟨v3,rfl,g3⟩:=qIl h3
 have h4:=qEt h4 10
 obtain⟨v4,rfl,g4⟩:=qIl h4
 have h5:=qEt h5 10
 obtain⟨v5,rfl⟩:=qR7 h5
 exact qJ0 v0 v1 v2 v3 v4 v5.1 v5.2 g0 g1 g2 g3 g4
theorem qFZ (os:Os) (started:os.Started) (H:Type) (enc:TypeId × Value->H) :
  ReturnsInHanded {} Tryz.checked os 5 .any (fun w args=>(Rows.scopeFindsSpec.pre enc Tryz.prog Tryz.f5 [] false w args/\laidMetH Tryz.prog qKW w)/\sizedMet enc Tryz.prog Tryz.f5 (OpenSpec.ofChange Rows.scopeFindsSpec) false w args)
   (Rows.scopeFindsSpec.post enc Tryz.prog Tryz.f5 false true false false):=by
 refine returnsInHanded_of_change_and (C:=Tryz.checked) (X:=fun w _=>laidMetH Tryz.prog qKW w) (fun _ _ _ hh h=>h.of_heap hh) own started (by kernel_rfl) Tryz.func5
  (ChangeSpec.witness_shaped (enc:=enc) (C:=Tryz.checked) (os:=os) (X:=fun w _=>laidMetH Tryz.prog qKW w) false (World.laidAll Tryz.prog os qKW) #[.agg #[.slice none 0 0], .agg #[.int .u8 0, .int .u8 0, .slice none 0 0, .int .u8 0, .int .u8 0, .int .u8 0, .int .u8 0, .bool false, .slice none 0 0, .int .u8 0, .int .u8 0, .int .u8 0, .slice none 0 0, .bool false], .agg #[.int .u8 0, .int .u8 0, .slice none 0 0, .int .u8 0, .int .u8 0, .int .u8 0, .int .u8 0, .bool false, .slice none 0 0, .int .u8 0, .int .u8 0, .int .u8 0, .slice none 0 0, .bool false], .agg #[.int .u8 0, .int .u8 0, .int .u8 0, .int .i64 0, .string ⟨#[]⟩, .string ⟨#[]⟩, .int .i64 0, .string ⟨#[]⟩, .int .i64 0, .int .i64 0, .int .i64 0, .int .i64 0, .int .i64 0, .string ⟨#[]⟩, .int .i64 0, .string ⟨#[]⟩, .int .i64 0, .slice none 0 0, .slice none 0 0], .agg #[.int .u8 0, .int .u8 0, .int .u8 0, .int .i64 0, .string ⟨#[]⟩, .string ⟨#[]⟩, .int .i64 0, .string ⟨#[]⟩, .int .i64 0, .int .i64 0, .int .i64 0, .int .i64 0, .int .i64 0, .string ⟨#[]⟩, .int .i64 0, .string ⟨#[]⟩, .int .i64 0, .slice none 0 0, .slice none 0 0], .agg #[.int .u8 0, .int .u8 0]] 8 (World.laidAll_os _ _ _) (World.shaped_of_ZipB (by kernel_rfl) (by kernel_rfl)) (by kernel_rfl) (by kernel_rfl) (by kernel_rfl) (qQQ os _)) ?_
 intro W base args ds gs before hval hW _ _ hL _
 obtain⟨p,q,hA,hV,_⟩:=id hW
 have hs:Tryz.f5.params.toList.all (fun t=>qBP t qEV)=true:=by kernel_rfl
 obtain⟨_,_,_,hlen⟩:=qJi qB5 hs (fun j t v ht hv=>hval j t v (by simpa using ht) (by simpa using hv)) hA
 refine(qHs (cx:=cx) qB5 Tryz.func5 (by kernel_rfl) rfl hs qGr hval hA (qRq hL)).mono fun e W' ⟨he,h1,h2,h3⟩=>?_
 subst he
 exact⟨_,rfl,qJC (cx:=cx) qB5 hs rfl (by kernel_rfl) Tryz.underlying4 (fun ds h=>by
  rw [Tryz.params5] at h
  match ds,h with
  | [_,_,_,_,_,_],_=>rfl) hW hlen h1 h2 h3⟩
theorem qGK:Rows.ScopeFindsSaid:=
 OpenClaim.holds_of_wide 5 Tryz.f5 rfl rfl rfl rfl rfl rfl rfl ⟨rfl,rfl,rfl,rfl,rfl⟩ rfl rfl rfl rfl rfl (by kernel_rfl) Tryz.func5 (by kernel_rfl)
  (of_decide_eq_true (by kernel_rfl)) (by unfold Func.isWrapper;first | (rw [if_pos (by decide +kernel)];kernel_rfl) | (rw [if_neg (by decide +kernel)];exact⟨rfl,rfl⟩))
  (fun os started H enc _=>qFZ os started H enc)
theorem scopeFinds_card:Rows.ScopeFindsCardSaid:=
 Claim7.holds_tied_plain_at .later [] [.data, .data] true (true, "2fbbf534a6e22c1c9b79bfd1496d202898ccabc8df399125808e88f9538ac76c") true
  qGK (fun _ h=>by cases h) (by kernel_rfl) (fun _ h=>by cases h) scopeFinds_row_tie rfl ⟨rfl,rfl⟩ (by kernel_rfl) rfl
  (fun f fn hf hfn=>by
   obtain rfl : f = 5 := Option.some.inj ((show Tryz.prog.funcNamed "haruspex/haruspexlaw39.ScopeFinds" = some 5 by kernel_rfl).symm.trans hf) |>.symm
   obtain rfl:fn=Tryz.f5:=(Option.some.inj (Tryz.func5.symm.trans hfn)).symm
   exact⟨by kernel_rfl,fun j t ht=>by
    have hall:(Tryz.f5.params.toList.all fun u=>!Tryz.prog.wantsStandIn u)=true:=by kernel_rfl
    exact(show Tryz.prog.wantsStandIn t=false by simpa using List.all_eq_true.1 hall t (by simpa using Array.mem_of_getElem? ht))⟩)
  (by kernel_rfl)
#print axioms scopeFinds_card
end Go.Proofs.YtmepdfingcmkmaaGreatDoor
