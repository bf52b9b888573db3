/- ScopeRefs: the row and the card. Issues returns what the reference's does,for every way to refer to something. Conditions: those of the card. -/
import Derived.Test.YtmepdfingcmkmaaGreatDoorRows
import Derived.Lay
import Derived.Test.YtmepdfingcmkmaaGreatDoorCards
import Derived.Test.YtmepdfingcmkmaaGreatDoorTie
import Derived.SevenTiedAt
import Derived.Test.YtmepdfingcmkmaaGreatDoorQ5
namespace Go.Proofs.YtmepdfingcmkmaaGreatDoor
open Go Y
set_option maxRecDepth 100000
set_option maxHeartbeats 40000000
abbrev srA:List PV:=[.str [112], .str [113], .str [97], .str [98], .str [99], .str [100], .str [120]]
abbrev srB:List PV:=[.str [112], .str [113], .str [97], .str [120]]
abbrev srC:List PV:=[.str [112], .str [113]]
theorem srA_at (k:Nat) (h:k<7):∃ nm,srA[k]?=some (.str nm)∧nm.length≤1:=by
 match k,h with
 | 0,_=>exact⟨_,rfl,by decide⟩
 | 1,_=>exact⟨_,rfl,by decide⟩
 | 2,_=>exact⟨_,rfl,by decide⟩
 | 3,_=>exact⟨_,rfl,by decide⟩
 | 4,_=>exact⟨_,rfl,by decide⟩
 | 5,_=>exact⟨_,rfl,by decide⟩
 | 6,_=>exact⟨_,rfl,by decide⟩
theorem srB_at (k:Nat) (h:k<4):∃ nm,srB[k]?=some (.str nm)∧nm.length≤1:=by
 match k,h with
 | 0,_=>exact⟨_,rfl,by decide⟩
 | 1,_=>exact⟨_,rfl,by decide⟩
 | 2,_=>exact⟨_,rfl,by decide⟩
 | 3,_=>exact⟨_,rfl,by decide⟩
theorem srC_at (k:Nat) (h:k<2):∃ nm,srC[k]?=some (.str nm)∧nm.length≤1:=by
 match k,h with
 | 0,_=>exact⟨_,rfl,by decide⟩
 | 1,_=>exact⟨_,rfl,by decide⟩
abbrev en0:List Cs:=[⟨cd0,[1,1]⟩]
def srBase (p q:Int):List De:=[⟨1,2,[],[],[],[]⟩,⟨2,p,[112],[],[],[]⟩,⟨2,q,[113],[],[],[]⟩,⟨3,2,[97],[],[],en0⟩,⟨3,2,[98],[112],[],en0⟩,⟨3,2,[99],[113],[],en0⟩,⟨4,3,[100],[],[],[]⟩]
abbrev otS2:OT:=(.pure 0 (.pure 1 (.pure 2 (.pure 3 (.pure 4 (.pure 5 (.pure 6 (.pure 7 (.pure 8 (.eff 9 [7,5] (.pure 10 (.eff 11 [] .fin .nil)) .nil))))))))))
abbrev otS14:OT:=(.pure 0 (.pure 1 (.pure 2 (.pure 3 (.pure 4 (.pure 5 (.pure 6 (.pure 7 (.pure 8 .fin)))))))))
abbrev otS18:OT:=(.pure 0 (.pure 1 (.pure 2 (.pure 3 (.pure 4 (.pure 5 (.pure 6 (.pure 7 (.pure 8 (.pure 9 (.pure 10 (.eff 11 [9,6] (.pure 12 (.eff 13 [] .fin .nil)) .nil))))))))))))
abbrev otS21:OT:=(.pure 0 (.pure 1 (.pure 2 (.pure 3 (.pure 4 (.pure 5 (.pure 6 (.pure 7 (.eff 8 [0] (.pure 9 (.eff 10 [7,2,0] (.eff 11 [] .fin .nil) .nil)) (.eff 10 [7,2,0] (.eff 8 [0] (.pure 9 (.eff 11 [] .fin .nil)) .nil) .nil))))))))))
def srLast (r:Rf) (c:Cd):De:=⟨3,2,[120],[],[r],[⟨c,[1,1]⟩,⟨cd0,[1,1]⟩]⟩
abbrev srR (r:Rf):AObj:=⟨TRef,false, .bx (r.cells.map .p)⟩
abbrev srN (a b c:UInt8):AObj:=⟨24,false, .bx [.p (u8 a), .p (u8 b), .p (u8 c)]⟩
abbrev srP (a b:UInt8):AObj:=⟨25,false, .bx [.p (u8 a), .p (u8 b)]⟩
abbrev srI (l:List Int):AObj:=⟨TInt,false, .pu (l.map i64)⟩
abbrev srC0 (o n k v:Int) (r:Rf) (st:AV):AObj:=⟨TCond,false, .bx [.p (i64 o), .p (i64 n), .p (i64 k), .p (i64 v), .p (.str r.name), .p (i64 r.mode), .p (.str r.plate), .p (i64 r.n),st, .p .nils]⟩
def srH (b:List De) (d:De):Hp:=⟨3,[(2,⟨TDecl,false, .bx (d.cells.map .p)⟩),(1,⟨TDecl,false, .pus (b.map De.cells)⟩),(0,⟨40,false, .bx [.sl 1 6 0 7]⟩)]⟩
theorem iss_out (u:List De):∃ (l:List Iss) (e:Int),issV u=[isl l,i64 e]∧l.length≤1000000:=by
 unfold issV
 split
 ·rename_i hv
  have h1:=baseI_len hv
  exact⟨_,_,rfl,by unfold allI;split <;> (try split) <;> first | (simp;done) | omega⟩
 ·exact⟨_,_,rfl,by simp⟩
theorem nil_snoc {a b:List PV} (h:NilDL a b):∀ X:List (List PV),NilDLL (X++[a]) (X++[b])
 | []=>by
  show NilDLL [a] [b]
  simp only [NilDLL]
  exact⟨_,_,rfl,h,rfl⟩
 | x::X=>by
  show NilDLL (x::(X++[a])) (x::(X++[b]))
  simp only [NilDLL]
  exact⟨_,_,rfl,NilDL.refl x,nil_snoc h X⟩
theorem nil_src {a b:List PV} (h:NilDL a b) (X:List (List PV)):NilDL [.agg [.lsts 6 (X++[a])]] [.agg [.lsts 6 (X++[b])]]:=by
 simp only [NilDL,NilD]
 exact⟨_,_,rfl,⟨_,rfl,_,_,rfl,⟨_,rfl,nil_snoc h X⟩,rfl⟩,rfl⟩
theorem nil_row (k n:Int) (nm pl:List UInt8) (l:List Rf):NilDL [i64 k,i64 n, .str nm, .str pl,rfl_ l, .nils] (De.cells ⟨k,n,nm,pl,l,[]⟩):=by
 have:=nil_de (k:=k) (n:=n) (nm:=nm) (pl:=pl) (NilD.refl (rfl_ l)) nil_11
 simp only [NilD] at this
 obtain⟨z,e,h⟩:=this
 injection e with e
 subst e
 exact h
theorem scopeRefs_c (kind:UInt8) (r:Rf) (op:UInt8) (n0 n1 n2 p0 p1:UInt8):Pure cx 3 [u8 kind,r.pv,u8 op, .agg [u8 n0,u8 n1,u8 n2], .agg [u8 p0,u8 p1]] (·=.ret [.bool true]):=by
 refine pure_of_vc Tryz.func3 rfl rfl rfl ?_
 obtain⟨r1,r2,r3,r4⟩:=r
 have hn0:=n0.toNat_lt
 have hn1:=n1.toNat_lt
 have hn2:=n2.toNat_lt
 have hop:=op.toNat_lt
 have hp0:=p0.toNat_lt
 have hp1:=p1.toNat_lt
 refine⟨by omega,?_⟩
 refine⟨_,rfl,?_⟩
 refine⟨by decide,?_⟩
 obtain⟨nm,hnm,hnl⟩:=srA_at (n0.toNat % 7) (Nat.mod_lt _ (by decide))
 have e0:Int.tmod ((n0.toNat:Nat):Int) 7=((n0.toNat % 7:Nat):Int):=(Int.ofNat_tmod ..).symm
 have l0:n0.toNat % 7<7:=Nat.mod_lt _ (by decide)
 refine⟨_,⟨by show 0≤Int.tmod ((n0.toNat:Nat):Int) 7∧Int.tmod ((n0.toNat:Nat):Int) 7<7;rw [e0];omega, .str nm,ldInP1 (by kernel_rfl) (by show srA[(Int.tmod ((n0.toNat:Nat):Int) 7).toNat * 1]?=_;rw [e0,Int.toNat_natCast,Nat.mul_one];exact hnm),rfl⟩,?_⟩
 clear hnm e0 l0
 refine vdraw_otTo [(0, .p (u8 kind)),(2, .p (u8 op)),(6, .ptr 0 0 0),(8, .ptr 1 0 0),(9, .ptr 2 0 0)] ⟨3,[(2,srP p0 p1),(1,srN n0 n1 n2),(0,srR ⟨nm,((n1.toNat % 4:Nat):Int),r3,((n2.toNat % 4:Nat):Int)⟩)]⟩ otS2 (by kernel_rfl) ?_ ?_
 ·refine⟨by omega,?_⟩
  refine⟨_,rfl,?_⟩
  refine⟨by decide,?_⟩
  refine⟨((n1.toNat % 4:Nat):Int),wrap_i64 (by omega) (by omega),?_⟩
  refine⟨by omega,?_⟩
  refine⟨_,rfl,?_⟩
  refine⟨by decide,?_⟩
  refine⟨((n2.toNat % 4:Nat):Int),wrap_i64 (by omega) (by omega),?_⟩
  refine⟨by(repeat' first | exact trivial | exact rfl | exact congrArg (fun z:Int=>AV.p (.int .i64 z)) (wrap_i64 (n:=((n2.toNat % 4:Nat):Int)) (by omega) (by omega)) | refine And.intro ?_ ?_),?_⟩
  exact ent_of [] [] [] rfl (sk) (sk) rfl
 apply cut
 case h=>
  intro key
  apply cut
  case h=>
   intro k14
   apply cut
   case h=>
    intro k18
    refine And.intro (fun q1=>?_) (fun q1=>?_)
    ·refine⟨by decide,?_⟩
     refine⟨((op.toNat % 6:Nat):Int),wrap_i64 (by omega) (by omega),?_⟩
     refine⟨((1+op.toNat % 6:Nat):Int),by rw [Int.natCast_add];exact wrap_i64 (by omega) (by omega),?_⟩
     refine⟨by omega,?_⟩
     refine⟨_,rfl,?_⟩
     refine⟨by decide,((n1.toNat / 4:Nat):Int),wrap_u8' (by omega),?_⟩
     refine⟨by decide,?_⟩
     refine⟨((n1.toNat / 4 % 4:Nat):Int),wrap_i64 (by omega) (by omega),?_⟩
     have bR:BigR ⟨nm,((n1.toNat % 4:Nat):Int),[],0⟩:=⟨by show nm.length≤9223372036854775807;omega,Nat.zero_le _⟩
     refine And.intro (fun o1=>?_) (fun o1=>?_)
     ·refine⟨by decide,((op.toNat / 6:Nat):Int),wrap_u8' (by omega),?_⟩
      refine⟨by decide,?_⟩
      refine⟨((op.toNat / 6 % 3:Nat):Int),wrap_i64 (by omega) (by omega),?_⟩
      refine⟨by decide,((op.toNat / 18:Nat):Int),wrap_u8' (by omega),?_⟩
      refine⟨by decide,?_⟩
      refine⟨((op.toNat / 18 % 3:Nat):Int),wrap_i64 (by omega) (by omega),?_⟩
      refine⟨((2+op.toNat / 18 % 3:Nat):Int),by rw [Int.natCast_add];exact wrap_i64 (by omega) (by omega),?_⟩
      refine vdraw_otEx (α:=Rf × Bool) (fun x=>[(0, .p (u8 kind)),(6, .ptr 0 0 0),(9, .ptr 2 0 0),(11, .ptr 3 0 0),(87, .p (.bool x.2))]) (fun x=>⟨5,[(4,srI [((op.toNat / 6 % 3:Nat):Int),((2+op.toNat / 18 % 3:Nat):Int)]),(3,srC0 ((1+op.toNat % 6:Nat):Int) 0 0 0 x.1 (.sl 4 1 0 2)),(2,srP p0 p1),(0,srR x.1)]⟩) (fun x=>BigR x.1) otS14 (by kernel_rfl) ?_ k14.get
      refine⟨by omega,?_⟩
      refine⟨_,⟨_,rfl,rfl⟩,?_⟩
      refine⟨by omega,?_⟩
      refine⟨_,⟨_,rfl,rfl⟩,?_⟩
      refine And.intro (fun _=>⟨(⟨nm,((n1.toNat % 4:Nat):Int),[],0⟩,true),bR,ent_of [] [] [] rfl (sk) (sk) rfl⟩) (fun _=>⟨(⟨nm,((n1.toNat % 4:Nat):Int),[],0⟩,false),bR,ent_of [] [] [] rfl (sk) (sk) rfl⟩)
     ·refine And.intro (fun o2=>?_) (fun o2=>?_)
      ·refine vdraw_otEx (α:=Rf) (fun _=>[(0, .p (u8 kind)),(6, .ptr 0 0 0),(9, .ptr 2 0 0),(11, .ptr 3 0 0)]) (fun x=>⟨4,[(3,srC0 ((1+op.toNat % 6:Nat):Int) ((n1.toNat / 4 % 4:Nat):Int) ((1+op.toNat / 6 % 4:Nat):Int) ((n2.toNat / 16 % 4:Nat):Int) ⟨nm,3,[],0⟩ (.p .nils)),(2,srP p0 p1),(0,srR x)]⟩) (fun x=>BigR x) otS18 (by kernel_rfl) ?_ k18.get
       refine⟨by decide,((op.toNat / 6:Nat):Int),wrap_u8' (by omega),?_⟩
       refine⟨by decide,?_⟩
       refine⟨((op.toNat / 6 % 4:Nat):Int),wrap_i64 (by omega) (by omega),?_⟩
       refine⟨((1+op.toNat / 6 % 4:Nat):Int),by rw [Int.natCast_add];exact wrap_i64 (by omega) (by omega),?_⟩
       refine⟨by omega,?_⟩
       refine⟨_,rfl,?_⟩
       refine⟨by decide,((n2.toNat / 16:Nat):Int),wrap_u8' (by omega),?_⟩
       refine⟨by decide,?_⟩
       refine⟨((n2.toNat / 16 % 4:Nat):Int),wrap_i64 (by omega) (by omega),?_⟩
       refine⟨by(repeat' first | exact trivial | exact rfl | exact congrArg (fun z:Int=>AV.p (.int .i64 z)) (wrap_i64 (n:=((n2.toNat / 16 % 4:Nat):Int)) (by omega) (by omega)) | refine And.intro ?_ ?_),?_⟩
       exact⟨⟨nm,((n1.toNat % 4:Nat):Int),[],0⟩,bR,ent_of [] [] [] rfl (sk) (sk) rfl⟩
      ·refine⟨by omega,?_⟩
       refine⟨_,rfl,?_⟩
       refine⟨by decide,?_⟩
       refine⟨((p0.toNat % 8:Nat):Int),wrap_i64 (by omega) (by omega),?_⟩
       refine⟨by omega,?_⟩
       refine⟨_,rfl,?_⟩
       refine⟨by decide,?_⟩
       refine⟨((p1.toNat % 8:Nat):Int),wrap_i64 (by omega) (by omega),?_⟩
       refine vdraw_otEx (α:=Rf × Cd) (fun _=>[(0, .p (u8 kind)),(13, .ptr 0 0 0),(14, .ptr 2 0 0)]) (fun x=>srH (srBase ((p0.toNat % 8:Nat):Int) ((p1.toNat % 8:Nat):Int)) (srLast x.1 x.2)) (fun x=>BigR x.1∧BigC x.2) otS21 (by kernel_rfl) ?_ key.get
       refine⟨by omega,?_⟩
       refine⟨_,⟨_,rfl,rfl⟩,?_⟩
       refine And.intro ?_ ?_
       ·refine⟨sk,?_⟩
        refine⟨sk,?_⟩
        exact⟨(⟨nm,((n1.toNat % 4:Nat):Int),[],0⟩, .mk ((1+op.toNat % 6:Nat):Int) ((n1.toNat / 4 % 4:Nat):Int) 0 0 ⟨nm,((n1.toNat % 4:Nat):Int),[],0⟩ [] []),⟨bR,big_leaf bR (by decide)⟩,ent_of [4,5,8] [(0,7),(1,6),(2,9)] [] rfl ⟨rfl,⟨rfl,rfl⟩,⟨rfl,rfl⟩,trivial⟩ ⟨⟨_,rfl,rfl,rfl,_,rfl,_,_,rfl,rfl,_,_,rfl,rfl,_,_,rfl,rfl,_,_,rfl,rfl,_,_,rfl,rfl,_,_,rfl,⟨_,rfl,Nat.le_refl _,⟨_,_,rfl,⟨_,_,rfl,rfl,_,_,rfl,rfl,_,_,rfl,rfl,_,_,rfl,rfl,_,_,rfl,rfl,_,_,rfl,rfl,_,_,rfl,rfl,_,_,rfl,rfl,_,_,rfl, .inr (.inl rfl),_,_,rfl, .inr (.inr ⟨10,rfl⟩),_,_,rfl,rfl,rfl⟩,_,_,rfl,⟨_,_,rfl,rfl,_,_,rfl,rfl,_,_,rfl,rfl,_,_,rfl,rfl,_,_,rfl,rfl,_,_,rfl,rfl,_,_,rfl,rfl,_,_,rfl,rfl,_,_,rfl, .inr (.inl rfl),_,_,rfl, .inr (.inr ⟨10,rfl⟩),_,_,rfl,⟨_,rfl,Nat.le_refl _,rfl⟩,rfl⟩,rfl⟩⟩,rfl⟩,⟨_,rfl,rfl,rfl,_,_,rfl,⟨_,_,rfl,rfl,_,_,rfl,rfl,_,_,rfl,rfl,_,_,rfl,rfl,_,_,rfl, .inr (.inr ⟨4,rfl⟩),_,_,rfl, .inr (.inr ⟨11,rfl⟩),rfl⟩,_,_,rfl,⟨_,_,rfl,rfl,_,_,rfl,rfl,_,_,rfl,rfl,_,_,rfl,rfl,_,_,rfl, .inr (.inr ⟨4,rfl⟩),_,_,rfl, .inr (.inr ⟨11,rfl⟩),rfl⟩,_,_,rfl,⟨_,_,rfl,rfl,_,_,rfl,rfl,_,_,rfl,rfl,_,_,rfl,rfl,_,_,rfl, .inr (.inr ⟨4,rfl⟩),_,_,rfl, .inr (.inr ⟨11,rfl⟩),rfl⟩,_,_,rfl,⟨_,_,rfl,rfl,_,_,rfl,rfl,_,_,rfl,rfl,_,_,rfl,rfl,_,_,rfl, .inr (.inr ⟨4,rfl⟩),_,_,rfl,⟨_,rfl,Nat.le_refl _,⟨_,_,rfl,⟨_,_,rfl,rfl,_,_,rfl,rfl,_,_,rfl,rfl,_,_,rfl,rfl,_,_,rfl,rfl,_,_,rfl,rfl,_,_,rfl,rfl,_,_,rfl,rfl,_,_,rfl, .inr (.inl rfl),_,_,rfl, .inr (.inr ⟨10,rfl⟩),_,_,rfl,⟨_,rfl,Nat.le_refl _,rfl⟩,rfl⟩,rfl⟩⟩,rfl⟩,_,_,rfl,⟨_,_,rfl,rfl,_,_,rfl,rfl,_,_,rfl,rfl,_,_,rfl,rfl,_,_,rfl, .inr (.inr ⟨4,rfl⟩),_,_,rfl,⟨_,rfl,Nat.le_refl _,⟨_,_,rfl,⟨_,_,rfl,rfl,_,_,rfl,rfl,_,_,rfl,rfl,_,_,rfl,rfl,_,_,rfl,rfl,_,_,rfl,rfl,_,_,rfl,rfl,_,_,rfl,rfl,_,_,rfl, .inr (.inl rfl),_,_,rfl, .inr (.inr ⟨10,rfl⟩),_,_,rfl,⟨_,rfl,Nat.le_refl _,rfl⟩,rfl⟩,rfl⟩⟩,rfl⟩,_,_,rfl,⟨_,_,rfl,rfl,_,_,rfl,rfl,_,_,rfl,rfl,_,_,rfl,rfl,_,_,rfl, .inr (.inr ⟨4,rfl⟩),_,_,rfl,⟨_,rfl,Nat.le_refl _,⟨_,_,rfl,⟨_,_,rfl,rfl,_,_,rfl,rfl,_,_,rfl,rfl,_,_,rfl,rfl,_,_,rfl,rfl,_,_,rfl,rfl,_,_,rfl,rfl,_,_,rfl,rfl,_,_,rfl, .inr (.inl rfl),_,_,rfl, .inr (.inr ⟨10,rfl⟩),_,_,rfl,⟨_,rfl,Nat.le_refl _,rfl⟩,rfl⟩,rfl⟩⟩,rfl⟩,_,_,rfl,⟨_,_,rfl,rfl,_,_,rfl,rfl,_,_,rfl,rfl,_,_,rfl,rfl,_,_,rfl, .inr (.inr ⟨4,rfl⟩),_,_,rfl, .inr (.inr ⟨11,rfl⟩),rfl⟩,rfl⟩,⟨_,rfl,rfl,rfl,_,rfl,_,_,rfl,rfl,rfl⟩,trivial⟩ rfl⟩
       ·refine⟨sk,?_⟩
        refine⟨sk,?_⟩
        exact⟨(⟨nm,((n1.toNat % 4:Nat):Int),[],0⟩, .mk ((1+op.toNat % 6:Nat):Int) ((n1.toNat / 4 % 4:Nat):Int) 0 0 ⟨nm,((n1.toNat % 4:Nat):Int),[],0⟩ [] []),⟨bR,big_leaf bR (by decide)⟩,ent_of [4,5,9] [(0,7),(1,6),(2,8)] [] rfl ⟨rfl,⟨rfl,rfl⟩,⟨rfl,rfl⟩,trivial⟩ ⟨⟨_,rfl,rfl,rfl,_,rfl,_,_,rfl,rfl,_,_,rfl,rfl,_,_,rfl,rfl,_,_,rfl,rfl,_,_,rfl,rfl,_,_,rfl,⟨_,rfl,Nat.le_refl _,⟨_,_,rfl,⟨_,_,rfl,rfl,_,_,rfl,rfl,_,_,rfl,rfl,_,_,rfl,rfl,_,_,rfl,rfl,_,_,rfl,rfl,_,_,rfl,rfl,_,_,rfl,rfl,_,_,rfl, .inr (.inl rfl),_,_,rfl, .inr (.inr ⟨10,rfl⟩),_,_,rfl,rfl,rfl⟩,_,_,rfl,⟨_,_,rfl,rfl,_,_,rfl,rfl,_,_,rfl,rfl,_,_,rfl,rfl,_,_,rfl,rfl,_,_,rfl,rfl,_,_,rfl,rfl,_,_,rfl,rfl,_,_,rfl, .inr (.inl rfl),_,_,rfl, .inr (.inr ⟨10,rfl⟩),_,_,rfl,⟨_,rfl,Nat.le_refl _,rfl⟩,rfl⟩,rfl⟩⟩,rfl⟩,⟨_,rfl,rfl,rfl,_,_,rfl,⟨_,_,rfl,rfl,_,_,rfl,rfl,_,_,rfl,rfl,_,_,rfl,rfl,_,_,rfl, .inr (.inr ⟨4,rfl⟩),_,_,rfl, .inr (.inr ⟨11,rfl⟩),rfl⟩,_,_,rfl,⟨_,_,rfl,rfl,_,_,rfl,rfl,_,_,rfl,rfl,_,_,rfl,rfl,_,_,rfl, .inr (.inr ⟨4,rfl⟩),_,_,rfl, .inr (.inr ⟨11,rfl⟩),rfl⟩,_,_,rfl,⟨_,_,rfl,rfl,_,_,rfl,rfl,_,_,rfl,rfl,_,_,rfl,rfl,_,_,rfl, .inr (.inr ⟨4,rfl⟩),_,_,rfl, .inr (.inr ⟨11,rfl⟩),rfl⟩,_,_,rfl,⟨_,_,rfl,rfl,_,_,rfl,rfl,_,_,rfl,rfl,_,_,rfl,rfl,_,_,rfl, .inr (.inr ⟨4,rfl⟩),_,_,rfl,⟨_,rfl,Nat.le_refl _,⟨_,_,rfl,⟨_,_,rfl,rfl,_,_,rfl,rfl,_,_,rfl,rfl,_,_,rfl,rfl,_,_,rfl,rfl,_,_,rfl,rfl,_,_,rfl,rfl,_,_,rfl,rfl,_,_,rfl, .inr (.inl rfl),_,_,rfl, .inr (.inr ⟨10,rfl⟩),_,_,rfl,⟨_,rfl,Nat.le_refl _,rfl⟩,rfl⟩,rfl⟩⟩,rfl⟩,_,_,rfl,⟨_,_,rfl,rfl,_,_,rfl,rfl,_,_,rfl,rfl,_,_,rfl,rfl,_,_,rfl, .inr (.inr ⟨4,rfl⟩),_,_,rfl,⟨_,rfl,Nat.le_refl _,⟨_,_,rfl,⟨_,_,rfl,rfl,_,_,rfl,rfl,_,_,rfl,rfl,_,_,rfl,rfl,_,_,rfl,rfl,_,_,rfl,rfl,_,_,rfl,rfl,_,_,rfl,rfl,_,_,rfl, .inr (.inl rfl),_,_,rfl, .inr (.inr ⟨10,rfl⟩),_,_,rfl,⟨_,rfl,Nat.le_refl _,rfl⟩,rfl⟩,rfl⟩⟩,rfl⟩,_,_,rfl,⟨_,_,rfl,rfl,_,_,rfl,rfl,_,_,rfl,rfl,_,_,rfl,rfl,_,_,rfl, .inr (.inr ⟨4,rfl⟩),_,_,rfl,⟨_,rfl,Nat.le_refl _,⟨_,_,rfl,⟨_,_,rfl,rfl,_,_,rfl,rfl,_,_,rfl,rfl,_,_,rfl,rfl,_,_,rfl,rfl,_,_,rfl,rfl,_,_,rfl,rfl,_,_,rfl,rfl,_,_,rfl, .inr (.inl rfl),_,_,rfl, .inr (.inr ⟨10,rfl⟩),_,_,rfl,⟨_,rfl,Nat.le_refl _,rfl⟩,rfl⟩,rfl⟩⟩,rfl⟩,_,_,rfl,⟨_,_,rfl,rfl,_,_,rfl,rfl,_,_,rfl,rfl,_,_,rfl,rfl,_,_,rfl, .inr (.inr ⟨4,rfl⟩),_,_,rfl, .inr (.inr ⟨11,rfl⟩),rfl⟩,rfl⟩,⟨_,rfl,rfl,rfl,_,rfl,_,_,rfl,rfl,rfl⟩,trivial⟩ rfl⟩
    refine And.intro (fun q2=>?_) (fun q2=>?_)
    ·refine⟨by decide,?_⟩
     refine⟨((op.toNat % 6:Nat):Int),wrap_i64 (by omega) (by omega),?_⟩
     refine⟨((1+op.toNat % 6:Nat):Int),by rw [Int.natCast_add];exact wrap_i64 (by omega) (by omega),?_⟩
     refine⟨by omega,?_⟩
     refine⟨_,rfl,?_⟩
     refine⟨by decide,((n1.toNat / 4:Nat):Int),wrap_u8' (by omega),?_⟩
     refine⟨by decide,?_⟩
     refine⟨((n1.toNat / 4 % 4:Nat):Int),wrap_i64 (by omega) (by omega),?_⟩
     have bR:BigR ⟨nm,((n1.toNat % 4:Nat):Int),[],0⟩:=⟨by show nm.length≤9223372036854775807;omega,Nat.zero_le _⟩
     refine And.intro (fun o1=>?_) (fun o1=>?_)
     ·refine⟨by decide,((op.toNat / 6:Nat):Int),wrap_u8' (by omega),?_⟩
      refine⟨by decide,?_⟩
      refine⟨((op.toNat / 6 % 3:Nat):Int),wrap_i64 (by omega) (by omega),?_⟩
      refine⟨by decide,((op.toNat / 18:Nat):Int),wrap_u8' (by omega),?_⟩
      refine⟨by decide,?_⟩
      refine⟨((op.toNat / 18 % 3:Nat):Int),wrap_i64 (by omega) (by omega),?_⟩
      refine⟨((2+op.toNat / 18 % 3:Nat):Int),by rw [Int.natCast_add];exact wrap_i64 (by omega) (by omega),?_⟩
      refine vdraw_otEx (α:=Rf × Bool) (fun x=>[(0, .p (u8 kind)),(6, .ptr 0 0 0),(9, .ptr 2 0 0),(11, .ptr 3 0 0),(87, .p (.bool x.2))]) (fun x=>⟨5,[(4,srI [((op.toNat / 6 % 3:Nat):Int),((2+op.toNat / 18 % 3:Nat):Int)]),(3,srC0 ((1+op.toNat % 6:Nat):Int) 0 0 0 x.1 (.sl 4 1 0 2)),(2,srP p0 p1),(0,srR x.1)]⟩) (fun x=>BigR x.1) otS14 (by kernel_rfl) ?_ k14.get
      refine⟨by omega,?_⟩
      refine⟨_,⟨_,rfl,rfl⟩,?_⟩
      refine⟨by omega,?_⟩
      refine⟨_,⟨_,rfl,rfl⟩,?_⟩
      refine And.intro (fun _=>⟨(⟨nm,((n1.toNat % 4:Nat):Int),[],0⟩,true),bR,ent_of [] [] [] rfl (sk) (sk) rfl⟩) (fun _=>⟨(⟨nm,((n1.toNat % 4:Nat):Int),[],0⟩,false),bR,ent_of [] [] [] rfl (sk) (sk) rfl⟩)
     ·refine And.intro (fun o2=>?_) (fun o2=>?_)
      ·refine vdraw_otEx (α:=Rf) (fun _=>[(0, .p (u8 kind)),(6, .ptr 0 0 0),(9, .ptr 2 0 0),(11, .ptr 3 0 0)]) (fun x=>⟨4,[(3,srC0 ((1+op.toNat % 6:Nat):Int) ((n1.toNat / 4 % 4:Nat):Int) ((1+op.toNat / 6 % 4:Nat):Int) ((n2.toNat / 16 % 4:Nat):Int) ⟨nm,3,[],0⟩ (.p .nils)),(2,srP p0 p1),(0,srR x)]⟩) (fun x=>BigR x) otS18 (by kernel_rfl) ?_ k18.get
       refine⟨by decide,((op.toNat / 6:Nat):Int),wrap_u8' (by omega),?_⟩
       refine⟨by decide,?_⟩
       refine⟨((op.toNat / 6 % 4:Nat):Int),wrap_i64 (by omega) (by omega),?_⟩
       refine⟨((1+op.toNat / 6 % 4:Nat):Int),by rw [Int.natCast_add];exact wrap_i64 (by omega) (by omega),?_⟩
       refine⟨by omega,?_⟩
       refine⟨_,rfl,?_⟩
       refine⟨by decide,((n2.toNat / 16:Nat):Int),wrap_u8' (by omega),?_⟩
       refine⟨by decide,?_⟩
       refine⟨((n2.toNat / 16 % 4:Nat):Int),wrap_i64 (by omega) (by omega),?_⟩
       refine⟨by(repeat' first | exact trivial | exact rfl | exact congrArg (fun z:Int=>AV.p (.int .i64 z)) (wrap_i64 (n:=((n2.toNat / 16 % 4:Nat):Int)) (by omega) (by omega)) | refine And.intro ?_ ?_),?_⟩
       exact⟨⟨nm,((n1.toNat % 4:Nat):Int),[],0⟩,bR,ent_of [] [] [] rfl (sk) (sk) rfl⟩
      ·refine⟨by omega,?_⟩
       refine⟨_,rfl,?_⟩
       refine⟨by decide,?_⟩
       refine⟨((p0.toNat % 8:Nat):Int),wrap_i64 (by omega) (by omega),?_⟩
       refine⟨by omega,?_⟩
       refine⟨_,rfl,?_⟩
       refine⟨by decide,?_⟩
       refine⟨((p1.toNat % 8:Nat):Int),wrap_i64 (by omega) (by omega),?_⟩
       refine vdraw_otEx (α:=Rf × Cd) (fun _=>[(0, .p (u8 kind)),(13, .ptr 0 0 0),(14, .ptr 2 0 0)]) (fun x=>srH (srBase ((p0.toNat % 8:Nat):Int) ((p1.toNat % 8:Nat):Int)) (srLast x.1 x.2)) (fun x=>BigR x.1∧BigC x.2) otS21 (by kernel_rfl) ?_ key.get
       refine⟨by omega,?_⟩
       refine⟨_,⟨_,rfl,rfl⟩,?_⟩
       refine And.intro ?_ ?_
       ·refine⟨sk,?_⟩
        refine⟨sk,?_⟩
        exact⟨(⟨nm,((n1.toNat % 4:Nat):Int),[],0⟩, .mk ((1+op.toNat % 6:Nat):Int) ((n1.toNat / 4 % 4:Nat):Int) 0 0 ⟨nm,((n1.toNat % 4:Nat):Int),[],0⟩ [] []),⟨bR,big_leaf bR (by decide)⟩,ent_of [4,5,8] [(0,7),(1,6),(2,9)] [] rfl ⟨rfl,⟨rfl,rfl⟩,⟨rfl,rfl⟩,trivial⟩ ⟨⟨_,rfl,rfl,rfl,_,rfl,_,_,rfl,rfl,_,_,rfl,rfl,_,_,rfl,rfl,_,_,rfl,rfl,_,_,rfl,rfl,_,_,rfl,⟨_,rfl,Nat.le_refl _,⟨_,_,rfl,⟨_,_,rfl,rfl,_,_,rfl,rfl,_,_,rfl,rfl,_,_,rfl,rfl,_,_,rfl,rfl,_,_,rfl,rfl,_,_,rfl,rfl,_,_,rfl,rfl,_,_,rfl, .inr (.inl rfl),_,_,rfl, .inr (.inr ⟨10,rfl⟩),_,_,rfl,rfl,rfl⟩,_,_,rfl,⟨_,_,rfl,rfl,_,_,rfl,rfl,_,_,rfl,rfl,_,_,rfl,rfl,_,_,rfl,rfl,_,_,rfl,rfl,_,_,rfl,rfl,_,_,rfl,rfl,_,_,rfl, .inr (.inl rfl),_,_,rfl, .inr (.inr ⟨10,rfl⟩),_,_,rfl,⟨_,rfl,Nat.le_refl _,rfl⟩,rfl⟩,rfl⟩⟩,rfl⟩,⟨_,rfl,rfl,rfl,_,_,rfl,⟨_,_,rfl,rfl,_,_,rfl,rfl,_,_,rfl,rfl,_,_,rfl,rfl,_,_,rfl, .inr (.inr ⟨4,rfl⟩),_,_,rfl, .inr (.inr ⟨11,rfl⟩),rfl⟩,_,_,rfl,⟨_,_,rfl,rfl,_,_,rfl,rfl,_,_,rfl,rfl,_,_,rfl,rfl,_,_,rfl, .inr (.inr ⟨4,rfl⟩),_,_,rfl, .inr (.inr ⟨11,rfl⟩),rfl⟩,_,_,rfl,⟨_,_,rfl,rfl,_,_,rfl,rfl,_,_,rfl,rfl,_,_,rfl,rfl,_,_,rfl, .inr (.inr ⟨4,rfl⟩),_,_,rfl, .inr (.inr ⟨11,rfl⟩),rfl⟩,_,_,rfl,⟨_,_,rfl,rfl,_,_,rfl,rfl,_,_,rfl,rfl,_,_,rfl,rfl,_,_,rfl, .inr (.inr ⟨4,rfl⟩),_,_,rfl,⟨_,rfl,Nat.le_refl _,⟨_,_,rfl,⟨_,_,rfl,rfl,_,_,rfl,rfl,_,_,rfl,rfl,_,_,rfl,rfl,_,_,rfl,rfl,_,_,rfl,rfl,_,_,rfl,rfl,_,_,rfl,rfl,_,_,rfl, .inr (.inl rfl),_,_,rfl, .inr (.inr ⟨10,rfl⟩),_,_,rfl,⟨_,rfl,Nat.le_refl _,rfl⟩,rfl⟩,rfl⟩⟩,rfl⟩,_,_,rfl,⟨_,_,rfl,rfl,_,_,rfl,rfl,_,_,rfl,rfl,_,_,rfl,rfl,_,_,rfl, .inr (.inr ⟨4,rfl⟩),_,_,rfl,⟨_,rfl,Nat.le_refl _,⟨_,_,rfl,⟨_,_,rfl,rfl,_,_,rfl,rfl,_,_,rfl,rfl,_,_,rfl,rfl,_,_,rfl,rfl,_,_,rfl,rfl,_,_,rfl,rfl,_,_,rfl,rfl,_,_,rfl, .inr (.inl rfl),_,_,rfl, .inr (.inr ⟨10,rfl⟩),_,_,rfl,⟨_,rfl,Nat.le_refl _,rfl⟩,rfl⟩,rfl⟩⟩,rfl⟩,_,_,rfl,⟨_,_,rfl,rfl,_,_,rfl,rfl,_,_,rfl,rfl,_,_,rfl,rfl,_,_,rfl, .inr (.inr ⟨4,rfl⟩),_,_,rfl,⟨_,rfl,Nat.le_refl _,⟨_,_,rfl,⟨_,_,rfl,rfl,_,_,rfl,rfl,_,_,rfl,rfl,_,_,rfl,rfl,_,_,rfl,rfl,_,_,rfl,rfl,_,_,rfl,rfl,_,_,rfl,rfl,_,_,rfl, .inr (.inl rfl),_,_,rfl, .inr (.inr ⟨10,rfl⟩),_,_,rfl,⟨_,rfl,Nat.le_refl _,rfl⟩,rfl⟩,rfl⟩⟩,rfl⟩,_,_,rfl,⟨_,_,rfl,rfl,_,_,rfl,rfl,_,_,rfl,rfl,_,_,rfl,rfl,_,_,rfl, .inr (.inr ⟨4,rfl⟩),_,_,rfl, .inr (.inr ⟨11,rfl⟩),rfl⟩,rfl⟩,⟨_,rfl,rfl,rfl,_,rfl,_,_,rfl,rfl,rfl⟩,trivial⟩ rfl⟩
       ·refine⟨sk,?_⟩
        refine⟨sk,?_⟩
        exact⟨(⟨nm,((n1.toNat % 4:Nat):Int),[],0⟩, .mk ((1+op.toNat % 6:Nat):Int) ((n1.toNat / 4 % 4:Nat):Int) 0 0 ⟨nm,((n1.toNat % 4:Nat):Int),[],0⟩ [] []),⟨bR,big_leaf bR (by decide)⟩,ent_of [4,5,9] [(0,7),(1,6),(2,8)] [] rfl ⟨rfl,⟨rfl,rfl⟩,⟨rfl,rfl⟩,trivial⟩ ⟨⟨_,rfl,rfl,rfl,_,rfl,_,_,rfl,rfl,_,_,rfl,rfl,_,_,rfl,rfl,_,_,rfl,rfl,_,_,rfl,rfl,_,_,rfl,⟨_,rfl,Nat.le_refl _,⟨_,_,rfl,⟨_,_,rfl,rfl,_,_,rfl,rfl,_,_,rfl,rfl,_,_,rfl,rfl,_,_,rfl,rfl,_,_,rfl,rfl,_,_,rfl,rfl,_,_,rfl,rfl,_,_,rfl, .inr (.inl rfl),_,_,rfl, .inr (.inr ⟨10,rfl⟩),_,_,rfl,rfl,rfl⟩,_,_,rfl,⟨_,_,rfl,rfl,_,_,rfl,rfl,_,_,rfl,rfl,_,_,rfl,rfl,_,_,rfl,rfl,_,_,rfl,rfl,_,_,rfl,rfl,_,_,rfl,rfl,_,_,rfl, .inr (.inl rfl),_,_,rfl, .inr (.inr ⟨10,rfl⟩),_,_,rfl,⟨_,rfl,Nat.le_refl _,rfl⟩,rfl⟩,rfl⟩⟩,rfl⟩,⟨_,rfl,rfl,rfl,_,_,rfl,⟨_,_,rfl,rfl,_,_,rfl,rfl,_,_,rfl,rfl,_,_,rfl,rfl,_,_,rfl, .inr (.inr ⟨4,rfl⟩),_,_,rfl, .inr (.inr ⟨11,rfl⟩),rfl⟩,_,_,rfl,⟨_,_,rfl,rfl,_,_,rfl,rfl,_,_,rfl,rfl,_,_,rfl,rfl,_,_,rfl, .inr (.inr ⟨4,rfl⟩),_,_,rfl, .inr (.inr ⟨11,rfl⟩),rfl⟩,_,_,rfl,⟨_,_,rfl,rfl,_,_,rfl,rfl,_,_,rfl,rfl,_,_,rfl,rfl,_,_,rfl, .inr (.inr ⟨4,rfl⟩),_,_,rfl, .inr (.inr ⟨11,rfl⟩),rfl⟩,_,_,rfl,⟨_,_,rfl,rfl,_,_,rfl,rfl,_,_,rfl,rfl,_,_,rfl,rfl,_,_,rfl, .inr (.inr ⟨4,rfl⟩),_,_,rfl,⟨_,rfl,Nat.le_refl _,⟨_,_,rfl,⟨_,_,rfl,rfl,_,_,rfl,rfl,_,_,rfl,rfl,_,_,rfl,rfl,_,_,rfl,rfl,_,_,rfl,rfl,_,_,rfl,rfl,_,_,rfl,rfl,_,_,rfl, .inr (.inl rfl),_,_,rfl, .inr (.inr ⟨10,rfl⟩),_,_,rfl,⟨_,rfl,Nat.le_refl _,rfl⟩,rfl⟩,rfl⟩⟩,rfl⟩,_,_,rfl,⟨_,_,rfl,rfl,_,_,rfl,rfl,_,_,rfl,rfl,_,_,rfl,rfl,_,_,rfl, .inr (.inr ⟨4,rfl⟩),_,_,rfl,⟨_,rfl,Nat.le_refl _,⟨_,_,rfl,⟨_,_,rfl,rfl,_,_,rfl,rfl,_,_,rfl,rfl,_,_,rfl,rfl,_,_,rfl,rfl,_,_,rfl,rfl,_,_,rfl,rfl,_,_,rfl,rfl,_,_,rfl, .inr (.inl rfl),_,_,rfl, .inr (.inr ⟨10,rfl⟩),_,_,rfl,⟨_,rfl,Nat.le_refl _,rfl⟩,rfl⟩,rfl⟩⟩,rfl⟩,_,_,rfl,⟨_,_,rfl,rfl,_,_,rfl,rfl,_,_,rfl,rfl,_,_,rfl,rfl,_,_,rfl, .inr (.inr ⟨4,rfl⟩),_,_,rfl,⟨_,rfl,Nat.le_refl _,⟨_,_,rfl,⟨_,_,rfl,rfl,_,_,rfl,rfl,_,_,rfl,rfl,_,_,rfl,rfl,_,_,rfl,rfl,_,_,rfl,rfl,_,_,rfl,rfl,_,_,rfl,rfl,_,_,rfl, .inr (.inl rfl),_,_,rfl, .inr (.inr ⟨10,rfl⟩),_,_,rfl,⟨_,rfl,Nat.le_refl _,rfl⟩,rfl⟩,rfl⟩⟩,rfl⟩,_,_,rfl,⟨_,_,rfl,rfl,_,_,rfl,rfl,_,_,rfl,rfl,_,_,rfl,rfl,_,_,rfl, .inr (.inr ⟨4,rfl⟩),_,_,rfl, .inr (.inr ⟨11,rfl⟩),rfl⟩,rfl⟩,⟨_,rfl,rfl,rfl,_,rfl,_,_,rfl,rfl,rfl⟩,trivial⟩ rfl⟩
    refine And.intro (fun q3=>?_) (fun q3=>?_)
    ·refine⟨by decide,?_⟩
     refine⟨((op.toNat % 6:Nat):Int),wrap_i64 (by omega) (by omega),?_⟩
     refine⟨((1+op.toNat % 6:Nat):Int),by rw [Int.natCast_add];exact wrap_i64 (by omega) (by omega),?_⟩
     refine⟨by omega,?_⟩
     refine⟨_,rfl,?_⟩
     refine⟨by decide,((n1.toNat / 4:Nat):Int),wrap_u8' (by omega),?_⟩
     refine⟨by decide,?_⟩
     refine⟨((n1.toNat / 4 % 4:Nat):Int),wrap_i64 (by omega) (by omega),?_⟩
     have bR:BigR ⟨nm,((n1.toNat % 4:Nat):Int),[],((n2.toNat % 4:Nat):Int)⟩:=⟨by show nm.length≤9223372036854775807;omega,Nat.zero_le _⟩
     refine And.intro (fun o1=>?_) (fun o1=>?_)
     ·refine⟨by decide,((op.toNat / 6:Nat):Int),wrap_u8' (by omega),?_⟩
      refine⟨by decide,?_⟩
      refine⟨((op.toNat / 6 % 3:Nat):Int),wrap_i64 (by omega) (by omega),?_⟩
      refine⟨by decide,((op.toNat / 18:Nat):Int),wrap_u8' (by omega),?_⟩
      refine⟨by decide,?_⟩
      refine⟨((op.toNat / 18 % 3:Nat):Int),wrap_i64 (by omega) (by omega),?_⟩
      refine⟨((2+op.toNat / 18 % 3:Nat):Int),by rw [Int.natCast_add];exact wrap_i64 (by omega) (by omega),?_⟩
      refine vdraw_otEx (α:=Rf × Bool) (fun x=>[(0, .p (u8 kind)),(6, .ptr 0 0 0),(9, .ptr 2 0 0),(11, .ptr 3 0 0),(87, .p (.bool x.2))]) (fun x=>⟨5,[(4,srI [((op.toNat / 6 % 3:Nat):Int),((2+op.toNat / 18 % 3:Nat):Int)]),(3,srC0 ((1+op.toNat % 6:Nat):Int) 0 0 0 x.1 (.sl 4 1 0 2)),(2,srP p0 p1),(0,srR x.1)]⟩) (fun x=>BigR x.1) otS14 (by kernel_rfl) ?_ k14.get
      refine⟨by omega,?_⟩
      refine⟨_,⟨_,rfl,rfl⟩,?_⟩
      refine⟨by omega,?_⟩
      refine⟨_,⟨_,rfl,rfl⟩,?_⟩
      refine And.intro (fun _=>⟨(⟨nm,((n1.toNat % 4:Nat):Int),[],((n2.toNat % 4:Nat):Int)⟩,true),bR,ent_of [] [] [] rfl (sk) (sk) rfl⟩) (fun _=>⟨(⟨nm,((n1.toNat % 4:Nat):Int),[],((n2.toNat % 4:Nat):Int)⟩,false),bR,ent_of [] [] [] rfl (sk) (sk) rfl⟩)
     ·refine And.intro (fun o2=>?_) (fun o2=>?_)
      ·refine vdraw_otEx (α:=Rf) (fun _=>[(0, .p (u8 kind)),(6, .ptr 0 0 0),(9, .ptr 2 0 0),(11, .ptr 3 0 0)]) (fun x=>⟨4,[(3,srC0 ((1+op.toNat % 6:Nat):Int) ((n1.toNat / 4 % 4:Nat):Int) ((1+op.toNat / 6 % 4:Nat):Int) ((n2.toNat / 16 % 4:Nat):Int) ⟨nm,3,[],0⟩ (.p .nils)),(2,srP p0 p1),(0,srR x)]⟩) (fun x=>BigR x) otS18 (by kernel_rfl) ?_ k18.get
       refine⟨by decide,((op.toNat / 6:Nat):Int),wrap_u8' (by omega),?_⟩
       refine⟨by decide,?_⟩
       refine⟨((op.toNat / 6 % 4:Nat):Int),wrap_i64 (by omega) (by omega),?_⟩
       refine⟨((1+op.toNat / 6 % 4:Nat):Int),by rw [Int.natCast_add];exact wrap_i64 (by omega) (by omega),?_⟩
       refine⟨by omega,?_⟩
       refine⟨_,rfl,?_⟩
       refine⟨by decide,((n2.toNat / 16:Nat):Int),wrap_u8' (by omega),?_⟩
       refine⟨by decide,?_⟩
       refine⟨((n2.toNat / 16 % 4:Nat):Int),wrap_i64 (by omega) (by omega),?_⟩
       refine⟨by(repeat' first | exact trivial | exact rfl | exact congrArg (fun z:Int=>AV.p (.int .i64 z)) (wrap_i64 (n:=((n2.toNat / 16 % 4:Nat):Int)) (by omega) (by omega)) | refine And.intro ?_ ?_),?_⟩
       exact⟨⟨nm,((n1.toNat % 4:Nat):Int),[],((n2.toNat % 4:Nat):Int)⟩,bR,ent_of [] [] [] rfl (sk) (sk) rfl⟩
      ·refine⟨by omega,?_⟩
       refine⟨_,rfl,?_⟩
       refine⟨by decide,?_⟩
       refine⟨((p0.toNat % 8:Nat):Int),wrap_i64 (by omega) (by omega),?_⟩
       refine⟨by omega,?_⟩
       refine⟨_,rfl,?_⟩
       refine⟨by decide,?_⟩
       refine⟨((p1.toNat % 8:Nat):Int),wrap_i64 (by omega) (by omega),?_⟩
       refine vdraw_otEx (α:=Rf × Cd) (fun _=>[(0, .p (u8 kind)),(13, .ptr 0 0 0),(14, .ptr 2 0 0)]) (fun x=>srH (srBase ((p0.toNat % 8:Nat):Int) ((p1.toNat % 8:Nat):Int)) (srLast x.1 x.2)) (fun x=>BigR x.1∧BigC x.2) otS21 (by kernel_rfl) ?_ key.get
       refine⟨by omega,?_⟩
       refine⟨_,⟨_,rfl,rfl⟩,?_⟩
       refine And.intro ?_ ?_
       ·refine⟨sk,?_⟩
        refine⟨sk,?_⟩
        exact⟨(⟨nm,((n1.toNat % 4:Nat):Int),[],((n2.toNat % 4:Nat):Int)⟩, .mk ((1+op.toNat % 6:Nat):Int) ((n1.toNat / 4 % 4:Nat):Int) 0 0 ⟨nm,((n1.toNat % 4:Nat):Int),[],((n2.toNat % 4:Nat):Int)⟩ [] []),⟨bR,big_leaf bR (by decide)⟩,ent_of [4,5,8] [(0,7),(1,6),(2,9)] [] rfl ⟨rfl,⟨rfl,rfl⟩,⟨rfl,rfl⟩,trivial⟩ ⟨⟨_,rfl,rfl,rfl,_,rfl,_,_,rfl,rfl,_,_,rfl,rfl,_,_,rfl,rfl,_,_,rfl,rfl,_,_,rfl,rfl,_,_,rfl,⟨_,rfl,Nat.le_refl _,⟨_,_,rfl,⟨_,_,rfl,rfl,_,_,rfl,rfl,_,_,rfl,rfl,_,_,rfl,rfl,_,_,rfl,rfl,_,_,rfl,rfl,_,_,rfl,rfl,_,_,rfl,rfl,_,_,rfl, .inr (.inl rfl),_,_,rfl, .inr (.inr ⟨10,rfl⟩),_,_,rfl,rfl,rfl⟩,_,_,rfl,⟨_,_,rfl,rfl,_,_,rfl,rfl,_,_,rfl,rfl,_,_,rfl,rfl,_,_,rfl,rfl,_,_,rfl,rfl,_,_,rfl,rfl,_,_,rfl,rfl,_,_,rfl, .inr (.inl rfl),_,_,rfl, .inr (.inr ⟨10,rfl⟩),_,_,rfl,⟨_,rfl,Nat.le_refl _,rfl⟩,rfl⟩,rfl⟩⟩,rfl⟩,⟨_,rfl,rfl,rfl,_,_,rfl,⟨_,_,rfl,rfl,_,_,rfl,rfl,_,_,rfl,rfl,_,_,rfl,rfl,_,_,rfl, .inr (.inr ⟨4,rfl⟩),_,_,rfl, .inr (.inr ⟨11,rfl⟩),rfl⟩,_,_,rfl,⟨_,_,rfl,rfl,_,_,rfl,rfl,_,_,rfl,rfl,_,_,rfl,rfl,_,_,rfl, .inr (.inr ⟨4,rfl⟩),_,_,rfl, .inr (.inr ⟨11,rfl⟩),rfl⟩,_,_,rfl,⟨_,_,rfl,rfl,_,_,rfl,rfl,_,_,rfl,rfl,_,_,rfl,rfl,_,_,rfl, .inr (.inr ⟨4,rfl⟩),_,_,rfl, .inr (.inr ⟨11,rfl⟩),rfl⟩,_,_,rfl,⟨_,_,rfl,rfl,_,_,rfl,rfl,_,_,rfl,rfl,_,_,rfl,rfl,_,_,rfl, .inr (.inr ⟨4,rfl⟩),_,_,rfl,⟨_,rfl,Nat.le_refl _,⟨_,_,rfl,⟨_,_,rfl,rfl,_,_,rfl,rfl,_,_,rfl,rfl,_,_,rfl,rfl,_,_,rfl,rfl,_,_,rfl,rfl,_,_,rfl,rfl,_,_,rfl,rfl,_,_,rfl, .inr (.inl rfl),_,_,rfl, .inr (.inr ⟨10,rfl⟩),_,_,rfl,⟨_,rfl,Nat.le_refl _,rfl⟩,rfl⟩,rfl⟩⟩,rfl⟩,_,_,rfl,⟨_,_,rfl,rfl,_,_,rfl,rfl,_,_,rfl,rfl,_,_,rfl,rfl,_,_,rfl, .inr (.inr ⟨4,rfl⟩),_,_,rfl,⟨_,rfl,Nat.le_refl _,⟨_,_,rfl,⟨_,_,rfl,rfl,_,_,rfl,rfl,_,_,rfl,rfl,_,_,rfl,rfl,_,_,rfl,rfl,_,_,rfl,rfl,_,_,rfl,rfl,_,_,rfl,rfl,_,_,rfl, .inr (.inl rfl),_,_,rfl, .inr (.inr ⟨10,rfl⟩),_,_,rfl,⟨_,rfl,Nat.le_refl _,rfl⟩,rfl⟩,rfl⟩⟩,rfl⟩,_,_,rfl,⟨_,_,rfl,rfl,_,_,rfl,rfl,_,_,rfl,rfl,_,_,rfl,rfl,_,_,rfl, .inr (.inr ⟨4,rfl⟩),_,_,rfl,⟨_,rfl,Nat.le_refl _,⟨_,_,rfl,⟨_,_,rfl,rfl,_,_,rfl,rfl,_,_,rfl,rfl,_,_,rfl,rfl,_,_,rfl,rfl,_,_,rfl,rfl,_,_,rfl,rfl,_,_,rfl,rfl,_,_,rfl, .inr (.inl rfl),_,_,rfl, .inr (.inr ⟨10,rfl⟩),_,_,rfl,⟨_,rfl,Nat.le_refl _,rfl⟩,rfl⟩,rfl⟩⟩,rfl⟩,_,_,rfl,⟨_,_,rfl,rfl,_,_,rfl,rfl,_,_,rfl,rfl,_,_,rfl,rfl,_,_,rfl, .inr (.inr ⟨4,rfl⟩),_,_,rfl, .inr (.inr ⟨11,rfl⟩),rfl⟩,rfl⟩,⟨_,rfl,rfl,rfl,_,rfl,_,_,rfl,rfl,rfl⟩,trivial⟩ rfl⟩
       ·refine⟨sk,?_⟩
        refine⟨sk,?_⟩
        exact⟨(⟨nm,((n1.toNat % 4:Nat):Int),[],((n2.toNat % 4:Nat):Int)⟩, .mk ((1+op.toNat % 6:Nat):Int) ((n1.toNat / 4 % 4:Nat):Int) 0 0 ⟨nm,((n1.toNat % 4:Nat):Int),[],((n2.toNat % 4:Nat):Int)⟩ [] []),⟨bR,big_leaf bR (by decide)⟩,ent_of [4,5,9] [(0,7),(1,6),(2,8)] [] rfl ⟨rfl,⟨rfl,rfl⟩,⟨rfl,rfl⟩,trivial⟩ ⟨⟨_,rfl,rfl,rfl,_,rfl,_,_,rfl,rfl,_,_,rfl,rfl,_,_,rfl,rfl,_,_,rfl,rfl,_,_,rfl,rfl,_,_,rfl,⟨_,rfl,Nat.le_refl _,⟨_,_,rfl,⟨_,_,rfl,rfl,_,_,rfl,rfl,_,_,rfl,rfl,_,_,rfl,rfl,_,_,rfl,rfl,_,_,rfl,rfl,_,_,rfl,rfl,_,_,rfl,rfl,_,_,rfl, .inr (.inl rfl),_,_,rfl, .inr (.inr ⟨10,rfl⟩),_,_,rfl,rfl,rfl⟩,_,_,rfl,⟨_,_,rfl,rfl,_,_,rfl,rfl,_,_,rfl,rfl,_,_,rfl,rfl,_,_,rfl,rfl,_,_,rfl,rfl,_,_,rfl,rfl,_,_,rfl,rfl,_,_,rfl, .inr (.inl rfl),_,_,rfl, .inr (.inr ⟨10,rfl⟩),_,_,rfl,⟨_,rfl,Nat.le_refl _,rfl⟩,rfl⟩,rfl⟩⟩,rfl⟩,⟨_,rfl,rfl,rfl,_,_,rfl,⟨_,_,rfl,rfl,_,_,rfl,rfl,_,_,rfl,rfl,_,_,rfl,rfl,_,_,rfl, .inr (.inr ⟨4,rfl⟩),_,_,rfl, .inr (.inr ⟨11,rfl⟩),rfl⟩,_,_,rfl,⟨_,_,rfl,rfl,_,_,rfl,rfl,_,_,rfl,rfl,_,_,rfl,rfl,_,_,rfl, .inr (.inr ⟨4,rfl⟩),_,_,rfl, .inr (.inr ⟨11,rfl⟩),rfl⟩,_,_,rfl,⟨_,_,rfl,rfl,_,_,rfl,rfl,_,_,rfl,rfl,_,_,rfl,rfl,_,_,rfl, .inr (.inr ⟨4,rfl⟩),_,_,rfl, .inr (.inr ⟨11,rfl⟩),rfl⟩,_,_,rfl,⟨_,_,rfl,rfl,_,_,rfl,rfl,_,_,rfl,rfl,_,_,rfl,rfl,_,_,rfl, .inr (.inr ⟨4,rfl⟩),_,_,rfl,⟨_,rfl,Nat.le_refl _,⟨_,_,rfl,⟨_,_,rfl,rfl,_,_,rfl,rfl,_,_,rfl,rfl,_,_,rfl,rfl,_,_,rfl,rfl,_,_,rfl,rfl,_,_,rfl,rfl,_,_,rfl,rfl,_,_,rfl, .inr (.inl rfl),_,_,rfl, .inr (.inr ⟨10,rfl⟩),_,_,rfl,⟨_,rfl,Nat.le_refl _,rfl⟩,rfl⟩,rfl⟩⟩,rfl⟩,_,_,rfl,⟨_,_,rfl,rfl,_,_,rfl,rfl,_,_,rfl,rfl,_,_,rfl,rfl,_,_,rfl, .inr (.inr ⟨4,rfl⟩),_,_,rfl,⟨_,rfl,Nat.le_refl _,⟨_,_,rfl,⟨_,_,rfl,rfl,_,_,rfl,rfl,_,_,rfl,rfl,_,_,rfl,rfl,_,_,rfl,rfl,_,_,rfl,rfl,_,_,rfl,rfl,_,_,rfl,rfl,_,_,rfl, .inr (.inl rfl),_,_,rfl, .inr (.inr ⟨10,rfl⟩),_,_,rfl,⟨_,rfl,Nat.le_refl _,rfl⟩,rfl⟩,rfl⟩⟩,rfl⟩,_,_,rfl,⟨_,_,rfl,rfl,_,_,rfl,rfl,_,_,rfl,rfl,_,_,rfl,rfl,_,_,rfl, .inr (.inr ⟨4,rfl⟩),_,_,rfl,⟨_,rfl,Nat.le_refl _,⟨_,_,rfl,⟨_,_,rfl,rfl,_,_,rfl,rfl,_,_,rfl,rfl,_,_,rfl,rfl,_,_,rfl,rfl,_,_,rfl,rfl,_,_,rfl,rfl,_,_,rfl,rfl,_,_,rfl, .inr (.inl rfl),_,_,rfl, .inr (.inr ⟨10,rfl⟩),_,_,rfl,⟨_,rfl,Nat.le_refl _,rfl⟩,rfl⟩,rfl⟩⟩,rfl⟩,_,_,rfl,⟨_,_,rfl,rfl,_,_,rfl,rfl,_,_,rfl,rfl,_,_,rfl,rfl,_,_,rfl, .inr (.inr ⟨4,rfl⟩),_,_,rfl, .inr (.inr ⟨11,rfl⟩),rfl⟩,rfl⟩,⟨_,rfl,rfl,rfl,_,rfl,_,_,rfl,rfl,rfl⟩,trivial⟩ rfl⟩
    refine⟨by omega,?_⟩
    refine⟨_,rfl,?_⟩
    refine⟨by decide,((n2.toNat / 4:Nat):Int),wrap_u8' (by omega),?_⟩
    refine⟨by decide,?_⟩
    obtain⟨pl,hpl,hpn⟩:=srB_at (n2.toNat / 4 % 4) (Nat.mod_lt _ (by decide))
    have l0:n2.toNat / 4 % 4<4:=Nat.mod_lt _ (by decide)
    refine⟨_,⟨by show 0≤((n2.toNat / 4 % 4:Nat):Int)∧((n2.toNat / 4 % 4:Nat):Int)<4;omega, .str pl,ldInP1 (by kernel_rfl) (by show srB[((n2.toNat / 4 % 4:Nat):Int).toNat * 1]?=_;rw [Int.toNat_natCast,Nat.mul_one];exact hpl),rfl⟩,?_⟩
    refine⟨by decide,?_⟩
    refine⟨((op.toNat % 6:Nat):Int),wrap_i64 (by omega) (by omega),?_⟩
    refine⟨((1+op.toNat % 6:Nat):Int),by rw [Int.natCast_add];exact wrap_i64 (by omega) (by omega),?_⟩
    refine⟨by omega,?_⟩
    refine⟨_,rfl,?_⟩
    refine⟨by decide,((n1.toNat / 4:Nat):Int),wrap_u8' (by omega),?_⟩
    refine⟨by decide,?_⟩
    refine⟨((n1.toNat / 4 % 4:Nat):Int),wrap_i64 (by omega) (by omega),?_⟩
    have bR:BigR ⟨nm,((n1.toNat % 4:Nat):Int),pl,((n2.toNat % 4:Nat):Int)⟩:=⟨by show nm.length≤9223372036854775807;omega,by show pl.length≤9223372036854775807;omega⟩
    refine And.intro (fun o1=>?_) (fun o1=>?_)
    ·refine⟨by decide,((op.toNat / 6:Nat):Int),wrap_u8' (by omega),?_⟩
     refine⟨by decide,?_⟩
     refine⟨((op.toNat / 6 % 3:Nat):Int),wrap_i64 (by omega) (by omega),?_⟩
     refine⟨by decide,((op.toNat / 18:Nat):Int),wrap_u8' (by omega),?_⟩
     refine⟨by decide,?_⟩
     refine⟨((op.toNat / 18 % 3:Nat):Int),wrap_i64 (by omega) (by omega),?_⟩
     refine⟨((2+op.toNat / 18 % 3:Nat):Int),by rw [Int.natCast_add];exact wrap_i64 (by omega) (by omega),?_⟩
     refine vdraw_otEx (α:=Rf × Bool) (fun x=>[(0, .p (u8 kind)),(6, .ptr 0 0 0),(9, .ptr 2 0 0),(11, .ptr 3 0 0),(87, .p (.bool x.2))]) (fun x=>⟨5,[(4,srI [((op.toNat / 6 % 3:Nat):Int),((2+op.toNat / 18 % 3:Nat):Int)]),(3,srC0 ((1+op.toNat % 6:Nat):Int) 0 0 0 x.1 (.sl 4 1 0 2)),(2,srP p0 p1),(0,srR x.1)]⟩) (fun x=>BigR x.1) otS14 (by kernel_rfl) ?_ k14.get
     refine⟨by omega,?_⟩
     refine⟨_,⟨_,rfl,rfl⟩,?_⟩
     refine⟨by omega,?_⟩
     refine⟨_,⟨_,rfl,rfl⟩,?_⟩
     refine And.intro (fun _=>⟨(⟨nm,((n1.toNat % 4:Nat):Int),pl,((n2.toNat % 4:Nat):Int)⟩,true),bR,ent_of [] [] [] rfl (sk) (sk) rfl⟩) (fun _=>⟨(⟨nm,((n1.toNat % 4:Nat):Int),pl,((n2.toNat % 4:Nat):Int)⟩,false),bR,ent_of [] [] [] rfl (sk) (sk) rfl⟩)
    ·refine And.intro (fun o2=>?_) (fun o2=>?_)
     ·refine vdraw_otEx (α:=Rf) (fun _=>[(0, .p (u8 kind)),(6, .ptr 0 0 0),(9, .ptr 2 0 0),(11, .ptr 3 0 0)]) (fun x=>⟨4,[(3,srC0 ((1+op.toNat % 6:Nat):Int) ((n1.toNat / 4 % 4:Nat):Int) ((1+op.toNat / 6 % 4:Nat):Int) ((n2.toNat / 16 % 4:Nat):Int) ⟨nm,3,[],0⟩ (.p .nils)),(2,srP p0 p1),(0,srR x)]⟩) (fun x=>BigR x) otS18 (by kernel_rfl) ?_ k18.get
      refine⟨by decide,((op.toNat / 6:Nat):Int),wrap_u8' (by omega),?_⟩
      refine⟨by decide,?_⟩
      refine⟨((op.toNat / 6 % 4:Nat):Int),wrap_i64 (by omega) (by omega),?_⟩
      refine⟨((1+op.toNat / 6 % 4:Nat):Int),by rw [Int.natCast_add];exact wrap_i64 (by omega) (by omega),?_⟩
      refine⟨by omega,?_⟩
      refine⟨_,rfl,?_⟩
      refine⟨by decide,((n2.toNat / 16:Nat):Int),wrap_u8' (by omega),?_⟩
      refine⟨by decide,?_⟩
      refine⟨((n2.toNat / 16 % 4:Nat):Int),wrap_i64 (by omega) (by omega),?_⟩
      refine⟨by(repeat' first | exact trivial | exact rfl | exact congrArg (fun z:Int=>AV.p (.int .i64 z)) (wrap_i64 (n:=((n2.toNat / 16 % 4:Nat):Int)) (by omega) (by omega)) | refine And.intro ?_ ?_),?_⟩
      exact⟨⟨nm,((n1.toNat % 4:Nat):Int),pl,((n2.toNat % 4:Nat):Int)⟩,bR,ent_of [] [] [] rfl (sk) (sk) rfl⟩
     ·refine⟨by omega,?_⟩
      refine⟨_,rfl,?_⟩
      refine⟨by decide,?_⟩
      refine⟨((p0.toNat % 8:Nat):Int),wrap_i64 (by omega) (by omega),?_⟩
      refine⟨by omega,?_⟩
      refine⟨_,rfl,?_⟩
      refine⟨by decide,?_⟩
      refine⟨((p1.toNat % 8:Nat):Int),wrap_i64 (by omega) (by omega),?_⟩
      refine vdraw_otEx (α:=Rf × Cd) (fun _=>[(0, .p (u8 kind)),(13, .ptr 0 0 0),(14, .ptr 2 0 0)]) (fun x=>srH (srBase ((p0.toNat % 8:Nat):Int) ((p1.toNat % 8:Nat):Int)) (srLast x.1 x.2)) (fun x=>BigR x.1∧BigC x.2) otS21 (by kernel_rfl) ?_ key.get
      refine⟨by omega,?_⟩
      refine⟨_,⟨_,rfl,rfl⟩,?_⟩
      refine And.intro ?_ ?_
      ·refine⟨sk,?_⟩
       refine⟨sk,?_⟩
       exact⟨(⟨nm,((n1.toNat % 4:Nat):Int),pl,((n2.toNat % 4:Nat):Int)⟩, .mk ((1+op.toNat % 6:Nat):Int) ((n1.toNat / 4 % 4:Nat):Int) 0 0 ⟨nm,((n1.toNat % 4:Nat):Int),pl,((n2.toNat % 4:Nat):Int)⟩ [] []),⟨bR,big_leaf bR (by decide)⟩,ent_of [4,5,8] [(0,7),(1,6),(2,9)] [] rfl ⟨rfl,⟨rfl,rfl⟩,⟨rfl,rfl⟩,trivial⟩ ⟨⟨_,rfl,rfl,rfl,_,rfl,_,_,rfl,rfl,_,_,rfl,rfl,_,_,rfl,rfl,_,_,rfl,rfl,_,_,rfl,rfl,_,_,rfl,⟨_,rfl,Nat.le_refl _,⟨_,_,rfl,⟨_,_,rfl,rfl,_,_,rfl,rfl,_,_,rfl,rfl,_,_,rfl,rfl,_,_,rfl,rfl,_,_,rfl,rfl,_,_,rfl,rfl,_,_,rfl,rfl,_,_,rfl, .inr (.inl rfl),_,_,rfl, .inr (.inr ⟨10,rfl⟩),_,_,rfl,rfl,rfl⟩,_,_,rfl,⟨_,_,rfl,rfl,_,_,rfl,rfl,_,_,rfl,rfl,_,_,rfl,rfl,_,_,rfl,rfl,_,_,rfl,rfl,_,_,rfl,rfl,_,_,rfl,rfl,_,_,rfl, .inr (.inl rfl),_,_,rfl, .inr (.inr ⟨10,rfl⟩),_,_,rfl,⟨_,rfl,Nat.le_refl _,rfl⟩,rfl⟩,rfl⟩⟩,rfl⟩,⟨_,rfl,rfl,rfl,_,_,rfl,⟨_,_,rfl,rfl,_,_,rfl,rfl,_,_,rfl,rfl,_,_,rfl,rfl,_,_,rfl, .inr (.inr ⟨4,rfl⟩),_,_,rfl, .inr (.inr ⟨11,rfl⟩),rfl⟩,_,_,rfl,⟨_,_,rfl,rfl,_,_,rfl,rfl,_,_,rfl,rfl,_,_,rfl,rfl,_,_,rfl, .inr (.inr ⟨4,rfl⟩),_,_,rfl, .inr (.inr ⟨11,rfl⟩),rfl⟩,_,_,rfl,⟨_,_,rfl,rfl,_,_,rfl,rfl,_,_,rfl,rfl,_,_,rfl,rfl,_,_,rfl, .inr (.inr ⟨4,rfl⟩),_,_,rfl, .inr (.inr ⟨11,rfl⟩),rfl⟩,_,_,rfl,⟨_,_,rfl,rfl,_,_,rfl,rfl,_,_,rfl,rfl,_,_,rfl,rfl,_,_,rfl, .inr (.inr ⟨4,rfl⟩),_,_,rfl,⟨_,rfl,Nat.le_refl _,⟨_,_,rfl,⟨_,_,rfl,rfl,_,_,rfl,rfl,_,_,rfl,rfl,_,_,rfl,rfl,_,_,rfl,rfl,_,_,rfl,rfl,_,_,rfl,rfl,_,_,rfl,rfl,_,_,rfl, .inr (.inl rfl),_,_,rfl, .inr (.inr ⟨10,rfl⟩),_,_,rfl,⟨_,rfl,Nat.le_refl _,rfl⟩,rfl⟩,rfl⟩⟩,rfl⟩,_,_,rfl,⟨_,_,rfl,rfl,_,_,rfl,rfl,_,_,rfl,rfl,_,_,rfl,rfl,_,_,rfl, .inr (.inr ⟨4,rfl⟩),_,_,rfl,⟨_,rfl,Nat.le_refl _,⟨_,_,rfl,⟨_,_,rfl,rfl,_,_,rfl,rfl,_,_,rfl,rfl,_,_,rfl,rfl,_,_,rfl,rfl,_,_,rfl,rfl,_,_,rfl,rfl,_,_,rfl,rfl,_,_,rfl, .inr (.inl rfl),_,_,rfl, .inr (.inr ⟨10,rfl⟩),_,_,rfl,⟨_,rfl,Nat.le_refl _,rfl⟩,rfl⟩,rfl⟩⟩,rfl⟩,_,_,rfl,⟨_,_,rfl,rfl,_,_,rfl,rfl,_,_,rfl,rfl,_,_,rfl,rfl,_,_,rfl, .inr (.inr ⟨4,rfl⟩),_,_,rfl,⟨_,rfl,Nat.le_refl _,⟨_,_,rfl,⟨_,_,rfl,rfl,_,_,rfl,rfl,_,_,rfl,rfl,_,_,rfl,rfl,_,_,rfl,rfl,_,_,rfl,rfl,_,_,rfl,rfl,_,_,rfl,rfl,_,_,rfl, .inr (.inl rfl),_,_,rfl, .inr (.inr ⟨10,rfl⟩),_,_,rfl,⟨_,rfl,Nat.le_refl _,rfl⟩,rfl⟩,rfl⟩⟩,rfl⟩,_,_,rfl,⟨_,_,rfl,rfl,_,_,rfl,rfl,_,_,rfl,rfl,_,_,rfl,rfl,_,_,rfl, .inr (.inr ⟨4,rfl⟩),_,_,rfl, .inr (.inr ⟨11,rfl⟩),rfl⟩,rfl⟩,⟨_,rfl,rfl,rfl,_,rfl,_,_,rfl,rfl,rfl⟩,trivial⟩ rfl⟩
      ·refine⟨sk,?_⟩
       refine⟨sk,?_⟩
       exact⟨(⟨nm,((n1.toNat % 4:Nat):Int),pl,((n2.toNat % 4:Nat):Int)⟩, .mk ((1+op.toNat % 6:Nat):Int) ((n1.toNat / 4 % 4:Nat):Int) 0 0 ⟨nm,((n1.toNat % 4:Nat):Int),pl,((n2.toNat % 4:Nat):Int)⟩ [] []),⟨bR,big_leaf bR (by decide)⟩,ent_of [4,5,9] [(0,7),(1,6),(2,8)] [] rfl ⟨rfl,⟨rfl,rfl⟩,⟨rfl,rfl⟩,trivial⟩ ⟨⟨_,rfl,rfl,rfl,_,rfl,_,_,rfl,rfl,_,_,rfl,rfl,_,_,rfl,rfl,_,_,rfl,rfl,_,_,rfl,rfl,_,_,rfl,⟨_,rfl,Nat.le_refl _,⟨_,_,rfl,⟨_,_,rfl,rfl,_,_,rfl,rfl,_,_,rfl,rfl,_,_,rfl,rfl,_,_,rfl,rfl,_,_,rfl,rfl,_,_,rfl,rfl,_,_,rfl,rfl,_,_,rfl, .inr (.inl rfl),_,_,rfl, .inr (.inr ⟨10,rfl⟩),_,_,rfl,rfl,rfl⟩,_,_,rfl,⟨_,_,rfl,rfl,_,_,rfl,rfl,_,_,rfl,rfl,_,_,rfl,rfl,_,_,rfl,rfl,_,_,rfl,rfl,_,_,rfl,rfl,_,_,rfl,rfl,_,_,rfl, .inr (.inl rfl),_,_,rfl, .inr (.inr ⟨10,rfl⟩),_,_,rfl,⟨_,rfl,Nat.le_refl _,rfl⟩,rfl⟩,rfl⟩⟩,rfl⟩,⟨_,rfl,rfl,rfl,_,_,rfl,⟨_,_,rfl,rfl,_,_,rfl,rfl,_,_,rfl,rfl,_,_,rfl,rfl,_,_,rfl, .inr (.inr ⟨4,rfl⟩),_,_,rfl, .inr (.inr ⟨11,rfl⟩),rfl⟩,_,_,rfl,⟨_,_,rfl,rfl,_,_,rfl,rfl,_,_,rfl,rfl,_,_,rfl,rfl,_,_,rfl, .inr (.inr ⟨4,rfl⟩),_,_,rfl, .inr (.inr ⟨11,rfl⟩),rfl⟩,_,_,rfl,⟨_,_,rfl,rfl,_,_,rfl,rfl,_,_,rfl,rfl,_,_,rfl,rfl,_,_,rfl, .inr (.inr ⟨4,rfl⟩),_,_,rfl, .inr (.inr ⟨11,rfl⟩),rfl⟩,_,_,rfl,⟨_,_,rfl,rfl,_,_,rfl,rfl,_,_,rfl,rfl,_,_,rfl,rfl,_,_,rfl, .inr (.inr ⟨4,rfl⟩),_,_,rfl,⟨_,rfl,Nat.le_refl _,⟨_,_,rfl,⟨_,_,rfl,rfl,_,_,rfl,rfl,_,_,rfl,rfl,_,_,rfl,rfl,_,_,rfl,rfl,_,_,rfl,rfl,_,_,rfl,rfl,_,_,rfl,rfl,_,_,rfl, .inr (.inl rfl),_,_,rfl, .inr (.inr ⟨10,rfl⟩),_,_,rfl,⟨_,rfl,Nat.le_refl _,rfl⟩,rfl⟩,rfl⟩⟩,rfl⟩,_,_,rfl,⟨_,_,rfl,rfl,_,_,rfl,rfl,_,_,rfl,rfl,_,_,rfl,rfl,_,_,rfl, .inr (.inr ⟨4,rfl⟩),_,_,rfl,⟨_,rfl,Nat.le_refl _,⟨_,_,rfl,⟨_,_,rfl,rfl,_,_,rfl,rfl,_,_,rfl,rfl,_,_,rfl,rfl,_,_,rfl,rfl,_,_,rfl,rfl,_,_,rfl,rfl,_,_,rfl,rfl,_,_,rfl, .inr (.inl rfl),_,_,rfl, .inr (.inr ⟨10,rfl⟩),_,_,rfl,⟨_,rfl,Nat.le_refl _,rfl⟩,rfl⟩,rfl⟩⟩,rfl⟩,_,_,rfl,⟨_,_,rfl,rfl,_,_,rfl,rfl,_,_,rfl,rfl,_,_,rfl,rfl,_,_,rfl, .inr (.inr ⟨4,rfl⟩),_,_,rfl,⟨_,rfl,Nat.le_refl _,⟨_,_,rfl,⟨_,_,rfl,rfl,_,_,rfl,rfl,_,_,rfl,rfl,_,_,rfl,rfl,_,_,rfl,rfl,_,_,rfl,rfl,_,_,rfl,rfl,_,_,rfl,rfl,_,_,rfl, .inr (.inl rfl),_,_,rfl, .inr (.inr ⟨10,rfl⟩),_,_,rfl,⟨_,rfl,Nat.le_refl _,rfl⟩,rfl⟩,rfl⟩⟩,rfl⟩,_,_,rfl,⟨_,_,rfl,rfl,_,_,rfl,rfl,_,_,rfl,rfl,_,_,rfl,rfl,_,_,rfl, .inr (.inr ⟨4,rfl⟩),_,_,rfl, .inr (.inr ⟨11,rfl⟩),rfl⟩,rfl⟩,⟨_,rfl,rfl,rfl,_,rfl,_,_,rfl,rfl,rfl⟩,trivial⟩ rfl⟩
   case k=>
    rintro⟨x1,x2,x3,x4⟩ bR
    have bR:BigR ⟨x1,x2,x3,x4⟩:=bR
    have bR3:BigR ⟨nm,3,[],0⟩:=⟨by show nm.length≤9223372036854775807;omega,Nat.zero_le _⟩
    refine⟨by omega,?_⟩
    refine⟨_,rfl,?_⟩
    refine⟨by decide,?_⟩
    refine⟨((p0.toNat % 8:Nat):Int),wrap_i64 (by omega) (by omega),?_⟩
    refine⟨by omega,?_⟩
    refine⟨_,rfl,?_⟩
    refine⟨by decide,?_⟩
    refine⟨((p1.toNat % 8:Nat):Int),wrap_i64 (by omega) (by omega),?_⟩
    refine vdraw_otEx (α:=Rf × Cd) (fun _=>[(0, .p (u8 kind)),(13, .ptr 0 0 0),(14, .ptr 2 0 0)]) (fun x=>srH (srBase ((p0.toNat % 8:Nat):Int) ((p1.toNat % 8:Nat):Int)) (srLast x.1 x.2)) (fun x=>BigR x.1∧BigC x.2) otS21 (by kernel_rfl) ?_ key.get
    refine⟨by omega,?_⟩
    refine⟨_,⟨_,rfl,rfl⟩,?_⟩
    refine And.intro ?_ ?_
    ·refine⟨sk,?_⟩
     refine⟨sk,?_⟩
     exact⟨(⟨x1,x2,x3,x4⟩, .mk ((1+op.toNat % 6:Nat):Int) ((n1.toNat / 4 % 4:Nat):Int) ((1+op.toNat / 6 % 4:Nat):Int) ((n2.toNat / 16 % 4:Nat):Int) ⟨nm,3,[],0⟩ [] []),⟨bR,big_leaf bR3 (by decide)⟩,ent_of [4,5,8] [(0,7),(1,6),(2,9)] [] rfl ⟨rfl,⟨rfl,rfl⟩,⟨rfl,rfl⟩,trivial⟩ ⟨⟨_,rfl,rfl,rfl,_,rfl,_,_,rfl,rfl,_,_,rfl,rfl,_,_,rfl,rfl,_,_,rfl,rfl,_,_,rfl,rfl,_,_,rfl,⟨_,rfl,Nat.le_refl _,⟨_,_,rfl,⟨_,_,rfl,rfl,_,_,rfl,rfl,_,_,rfl,rfl,_,_,rfl,rfl,_,_,rfl,rfl,_,_,rfl,rfl,_,_,rfl,rfl,_,_,rfl,rfl,_,_,rfl, .inr (.inl rfl),_,_,rfl, .inr (.inr ⟨10,rfl⟩),_,_,rfl,rfl,rfl⟩,_,_,rfl,⟨_,_,rfl,rfl,_,_,rfl,rfl,_,_,rfl,rfl,_,_,rfl,rfl,_,_,rfl,rfl,_,_,rfl,rfl,_,_,rfl,rfl,_,_,rfl,rfl,_,_,rfl, .inr (.inl rfl),_,_,rfl, .inr (.inr ⟨10,rfl⟩),_,_,rfl,⟨_,rfl,Nat.le_refl _,rfl⟩,rfl⟩,rfl⟩⟩,rfl⟩,⟨_,rfl,rfl,rfl,_,_,rfl,⟨_,_,rfl,rfl,_,_,rfl,rfl,_,_,rfl,rfl,_,_,rfl,rfl,_,_,rfl, .inr (.inr ⟨4,rfl⟩),_,_,rfl, .inr (.inr ⟨11,rfl⟩),rfl⟩,_,_,rfl,⟨_,_,rfl,rfl,_,_,rfl,rfl,_,_,rfl,rfl,_,_,rfl,rfl,_,_,rfl, .inr (.inr ⟨4,rfl⟩),_,_,rfl, .inr (.inr ⟨11,rfl⟩),rfl⟩,_,_,rfl,⟨_,_,rfl,rfl,_,_,rfl,rfl,_,_,rfl,rfl,_,_,rfl,rfl,_,_,rfl, .inr (.inr ⟨4,rfl⟩),_,_,rfl, .inr (.inr ⟨11,rfl⟩),rfl⟩,_,_,rfl,⟨_,_,rfl,rfl,_,_,rfl,rfl,_,_,rfl,rfl,_,_,rfl,rfl,_,_,rfl, .inr (.inr ⟨4,rfl⟩),_,_,rfl,⟨_,rfl,Nat.le_refl _,⟨_,_,rfl,⟨_,_,rfl,rfl,_,_,rfl,rfl,_,_,rfl,rfl,_,_,rfl,rfl,_,_,rfl,rfl,_,_,rfl,rfl,_,_,rfl,rfl,_,_,rfl,rfl,_,_,rfl, .inr (.inl rfl),_,_,rfl, .inr (.inr ⟨10,rfl⟩),_,_,rfl,⟨_,rfl,Nat.le_refl _,rfl⟩,rfl⟩,rfl⟩⟩,rfl⟩,_,_,rfl,⟨_,_,rfl,rfl,_,_,rfl,rfl,_,_,rfl,rfl,_,_,rfl,rfl,_,_,rfl, .inr (.inr ⟨4,rfl⟩),_,_,rfl,⟨_,rfl,Nat.le_refl _,⟨_,_,rfl,⟨_,_,rfl,rfl,_,_,rfl,rfl,_,_,rfl,rfl,_,_,rfl,rfl,_,_,rfl,rfl,_,_,rfl,rfl,_,_,rfl,rfl,_,_,rfl,rfl,_,_,rfl, .inr (.inl rfl),_,_,rfl, .inr (.inr ⟨10,rfl⟩),_,_,rfl,⟨_,rfl,Nat.le_refl _,rfl⟩,rfl⟩,rfl⟩⟩,rfl⟩,_,_,rfl,⟨_,_,rfl,rfl,_,_,rfl,rfl,_,_,rfl,rfl,_,_,rfl,rfl,_,_,rfl, .inr (.inr ⟨4,rfl⟩),_,_,rfl,⟨_,rfl,Nat.le_refl _,⟨_,_,rfl,⟨_,_,rfl,rfl,_,_,rfl,rfl,_,_,rfl,rfl,_,_,rfl,rfl,_,_,rfl,rfl,_,_,rfl,rfl,_,_,rfl,rfl,_,_,rfl,rfl,_,_,rfl, .inr (.inl rfl),_,_,rfl, .inr (.inr ⟨10,rfl⟩),_,_,rfl,⟨_,rfl,Nat.le_refl _,rfl⟩,rfl⟩,rfl⟩⟩,rfl⟩,_,_,rfl,⟨_,_,rfl,rfl,_,_,rfl,rfl,_,_,rfl,rfl,_,_,rfl,rfl,_,_,rfl, .inr (.inr ⟨4,rfl⟩),_,_,rfl, .inr (.inr ⟨11,rfl⟩),rfl⟩,rfl⟩,⟨_,rfl,rfl,rfl,_,rfl,_,_,rfl,rfl,rfl⟩,trivial⟩ rfl⟩
    ·refine⟨sk,?_⟩
     refine⟨sk,?_⟩
     exact⟨(⟨x1,x2,x3,x4⟩, .mk ((1+op.toNat % 6:Nat):Int) ((n1.toNat / 4 % 4:Nat):Int) ((1+op.toNat / 6 % 4:Nat):Int) ((n2.toNat / 16 % 4:Nat):Int) ⟨nm,3,[],0⟩ [] []),⟨bR,big_leaf bR3 (by decide)⟩,ent_of [4,5,9] [(0,7),(1,6),(2,8)] [] rfl ⟨rfl,⟨rfl,rfl⟩,⟨rfl,rfl⟩,trivial⟩ ⟨⟨_,rfl,rfl,rfl,_,rfl,_,_,rfl,rfl,_,_,rfl,rfl,_,_,rfl,rfl,_,_,rfl,rfl,_,_,rfl,rfl,_,_,rfl,⟨_,rfl,Nat.le_refl _,⟨_,_,rfl,⟨_,_,rfl,rfl,_,_,rfl,rfl,_,_,rfl,rfl,_,_,rfl,rfl,_,_,rfl,rfl,_,_,rfl,rfl,_,_,rfl,rfl,_,_,rfl,rfl,_,_,rfl, .inr (.inl rfl),_,_,rfl, .inr (.inr ⟨10,rfl⟩),_,_,rfl,rfl,rfl⟩,_,_,rfl,⟨_,_,rfl,rfl,_,_,rfl,rfl,_,_,rfl,rfl,_,_,rfl,rfl,_,_,rfl,rfl,_,_,rfl,rfl,_,_,rfl,rfl,_,_,rfl,rfl,_,_,rfl, .inr (.inl rfl),_,_,rfl, .inr (.inr ⟨10,rfl⟩),_,_,rfl,⟨_,rfl,Nat.le_refl _,rfl⟩,rfl⟩,rfl⟩⟩,rfl⟩,⟨_,rfl,rfl,rfl,_,_,rfl,⟨_,_,rfl,rfl,_,_,rfl,rfl,_,_,rfl,rfl,_,_,rfl,rfl,_,_,rfl, .inr (.inr ⟨4,rfl⟩),_,_,rfl, .inr (.inr ⟨11,rfl⟩),rfl⟩,_,_,rfl,⟨_,_,rfl,rfl,_,_,rfl,rfl,_,_,rfl,rfl,_,_,rfl,rfl,_,_,rfl, .inr (.inr ⟨4,rfl⟩),_,_,rfl, .inr (.inr ⟨11,rfl⟩),rfl⟩,_,_,rfl,⟨_,_,rfl,rfl,_,_,rfl,rfl,_,_,rfl,rfl,_,_,rfl,rfl,_,_,rfl, .inr (.inr ⟨4,rfl⟩),_,_,rfl, .inr (.inr ⟨11,rfl⟩),rfl⟩,_,_,rfl,⟨_,_,rfl,rfl,_,_,rfl,rfl,_,_,rfl,rfl,_,_,rfl,rfl,_,_,rfl, .inr (.inr ⟨4,rfl⟩),_,_,rfl,⟨_,rfl,Nat.le_refl _,⟨_,_,rfl,⟨_,_,rfl,rfl,_,_,rfl,rfl,_,_,rfl,rfl,_,_,rfl,rfl,_,_,rfl,rfl,_,_,rfl,rfl,_,_,rfl,rfl,_,_,rfl,rfl,_,_,rfl, .inr (.inl rfl),_,_,rfl, .inr (.inr ⟨10,rfl⟩),_,_,rfl,⟨_,rfl,Nat.le_refl _,rfl⟩,rfl⟩,rfl⟩⟩,rfl⟩,_,_,rfl,⟨_,_,rfl,rfl,_,_,rfl,rfl,_,_,rfl,rfl,_,_,rfl,rfl,_,_,rfl, .inr (.inr ⟨4,rfl⟩),_,_,rfl,⟨_,rfl,Nat.le_refl _,⟨_,_,rfl,⟨_,_,rfl,rfl,_,_,rfl,rfl,_,_,rfl,rfl,_,_,rfl,rfl,_,_,rfl,rfl,_,_,rfl,rfl,_,_,rfl,rfl,_,_,rfl,rfl,_,_,rfl, .inr (.inl rfl),_,_,rfl, .inr (.inr ⟨10,rfl⟩),_,_,rfl,⟨_,rfl,Nat.le_refl _,rfl⟩,rfl⟩,rfl⟩⟩,rfl⟩,_,_,rfl,⟨_,_,rfl,rfl,_,_,rfl,rfl,_,_,rfl,rfl,_,_,rfl,rfl,_,_,rfl, .inr (.inr ⟨4,rfl⟩),_,_,rfl,⟨_,rfl,Nat.le_refl _,⟨_,_,rfl,⟨_,_,rfl,rfl,_,_,rfl,rfl,_,_,rfl,rfl,_,_,rfl,rfl,_,_,rfl,rfl,_,_,rfl,rfl,_,_,rfl,rfl,_,_,rfl,rfl,_,_,rfl, .inr (.inl rfl),_,_,rfl, .inr (.inr ⟨10,rfl⟩),_,_,rfl,⟨_,rfl,Nat.le_refl _,rfl⟩,rfl⟩,rfl⟩⟩,rfl⟩,_,_,rfl,⟨_,_,rfl,rfl,_,_,rfl,rfl,_,_,rfl,rfl,_,_,rfl,rfl,_,_,rfl, .inr (.inr ⟨4,rfl⟩),_,_,rfl, .inr (.inr ⟨11,rfl⟩),rfl⟩,rfl⟩,⟨_,rfl,rfl,rfl,_,rfl,_,_,rfl,rfl,rfl⟩,trivial⟩ rfl⟩
  case k=>
   rintro⟨⟨x1,x2,x3,x4⟩,b⟩ bR
   have bR:BigR ⟨x1,x2,x3,x4⟩:=bR
   cases b
   ·refine⟨by omega,?_⟩
    refine⟨_,rfl,?_⟩
    refine⟨by decide,?_⟩
    refine⟨((p0.toNat % 8:Nat):Int),wrap_i64 (by omega) (by omega),?_⟩
    refine⟨by omega,?_⟩
    refine⟨_,rfl,?_⟩
    refine⟨by decide,?_⟩
    refine⟨((p1.toNat % 8:Nat):Int),wrap_i64 (by omega) (by omega),?_⟩
    refine vdraw_otEx (α:=Rf × Cd) (fun _=>[(0, .p (u8 kind)),(13, .ptr 0 0 0),(14, .ptr 2 0 0)]) (fun x=>srH (srBase ((p0.toNat % 8:Nat):Int) ((p1.toNat % 8:Nat):Int)) (srLast x.1 x.2)) (fun x=>BigR x.1∧BigC x.2) otS21 (by kernel_rfl) ?_ key.get
    refine⟨by omega,?_⟩
    refine⟨_,⟨_,rfl,rfl⟩,?_⟩
    refine And.intro ?_ ?_
    ·refine⟨sk,?_⟩
     refine⟨sk,?_⟩
     exact⟨(⟨x1,x2,x3,x4⟩, .mk ((1+op.toNat % 6:Nat):Int) 0 0 0 ⟨x1,x2,x3,x4⟩ [((op.toNat / 6 % 3:Nat):Int),((2+op.toNat / 18 % 3:Nat):Int)] []),⟨bR,big_leaf bR (by show 2≤9223372036854775807;decide)⟩,ent_of [4,5,6,9] [(0,8),(1,7),(2,10)] [] rfl ⟨rfl,⟨rfl,rfl⟩,⟨rfl,rfl⟩,trivial⟩ ⟨⟨_,rfl,rfl,rfl,_,rfl,_,_,rfl,rfl,_,_,rfl,rfl,_,_,rfl,rfl,_,_,rfl,rfl,_,_,rfl,rfl,_,_,rfl,⟨_,rfl,Nat.le_refl _,⟨_,_,rfl,⟨_,_,rfl,rfl,_,_,rfl,rfl,_,_,rfl,rfl,_,_,rfl,rfl,_,_,rfl,rfl,_,_,rfl,rfl,_,_,rfl,rfl,_,_,rfl,rfl,_,_,rfl,⟨_,rfl,Nat.le_refl _,rfl⟩,_,_,rfl, .inr (.inr ⟨10,rfl⟩),_,_,rfl,rfl,rfl⟩,_,_,rfl,⟨_,_,rfl,rfl,_,_,rfl,rfl,_,_,rfl,rfl,_,_,rfl,rfl,_,_,rfl,rfl,_,_,rfl,rfl,_,_,rfl,rfl,_,_,rfl,rfl,_,_,rfl, .inr (.inl rfl),_,_,rfl, .inr (.inr ⟨10,rfl⟩),_,_,rfl,⟨_,rfl,Nat.le_refl _,rfl⟩,rfl⟩,rfl⟩⟩,rfl⟩,⟨_,rfl,rfl,rfl,_,_,rfl,⟨_,_,rfl,rfl,_,_,rfl,rfl,_,_,rfl,rfl,_,_,rfl,rfl,_,_,rfl, .inr (.inr ⟨4,rfl⟩),_,_,rfl, .inr (.inr ⟨11,rfl⟩),rfl⟩,_,_,rfl,⟨_,_,rfl,rfl,_,_,rfl,rfl,_,_,rfl,rfl,_,_,rfl,rfl,_,_,rfl, .inr (.inr ⟨4,rfl⟩),_,_,rfl, .inr (.inr ⟨11,rfl⟩),rfl⟩,_,_,rfl,⟨_,_,rfl,rfl,_,_,rfl,rfl,_,_,rfl,rfl,_,_,rfl,rfl,_,_,rfl, .inr (.inr ⟨4,rfl⟩),_,_,rfl, .inr (.inr ⟨11,rfl⟩),rfl⟩,_,_,rfl,⟨_,_,rfl,rfl,_,_,rfl,rfl,_,_,rfl,rfl,_,_,rfl,rfl,_,_,rfl, .inr (.inr ⟨4,rfl⟩),_,_,rfl,⟨_,rfl,Nat.le_refl _,⟨_,_,rfl,⟨_,_,rfl,rfl,_,_,rfl,rfl,_,_,rfl,rfl,_,_,rfl,rfl,_,_,rfl,rfl,_,_,rfl,rfl,_,_,rfl,rfl,_,_,rfl,rfl,_,_,rfl, .inr (.inl rfl),_,_,rfl, .inr (.inr ⟨10,rfl⟩),_,_,rfl,⟨_,rfl,Nat.le_refl _,rfl⟩,rfl⟩,rfl⟩⟩,rfl⟩,_,_,rfl,⟨_,_,rfl,rfl,_,_,rfl,rfl,_,_,rfl,rfl,_,_,rfl,rfl,_,_,rfl, .inr (.inr ⟨4,rfl⟩),_,_,rfl,⟨_,rfl,Nat.le_refl _,⟨_,_,rfl,⟨_,_,rfl,rfl,_,_,rfl,rfl,_,_,rfl,rfl,_,_,rfl,rfl,_,_,rfl,rfl,_,_,rfl,rfl,_,_,rfl,rfl,_,_,rfl,rfl,_,_,rfl, .inr (.inl rfl),_,_,rfl, .inr (.inr ⟨10,rfl⟩),_,_,rfl,⟨_,rfl,Nat.le_refl _,rfl⟩,rfl⟩,rfl⟩⟩,rfl⟩,_,_,rfl,⟨_,_,rfl,rfl,_,_,rfl,rfl,_,_,rfl,rfl,_,_,rfl,rfl,_,_,rfl, .inr (.inr ⟨4,rfl⟩),_,_,rfl,⟨_,rfl,Nat.le_refl _,⟨_,_,rfl,⟨_,_,rfl,rfl,_,_,rfl,rfl,_,_,rfl,rfl,_,_,rfl,rfl,_,_,rfl,rfl,_,_,rfl,rfl,_,_,rfl,rfl,_,_,rfl,rfl,_,_,rfl, .inr (.inl rfl),_,_,rfl, .inr (.inr ⟨10,rfl⟩),_,_,rfl,⟨_,rfl,Nat.le_refl _,rfl⟩,rfl⟩,rfl⟩⟩,rfl⟩,_,_,rfl,⟨_,_,rfl,rfl,_,_,rfl,rfl,_,_,rfl,rfl,_,_,rfl,rfl,_,_,rfl, .inr (.inr ⟨4,rfl⟩),_,_,rfl, .inr (.inr ⟨11,rfl⟩),rfl⟩,rfl⟩,⟨_,rfl,rfl,rfl,_,rfl,_,_,rfl,rfl,rfl⟩,trivial⟩ rfl⟩
    ·refine⟨sk,?_⟩
     refine⟨sk,?_⟩
     exact⟨(⟨x1,x2,x3,x4⟩, .mk ((1+op.toNat % 6:Nat):Int) 0 0 0 ⟨x1,x2,x3,x4⟩ [((op.toNat / 6 % 3:Nat):Int),((2+op.toNat / 18 % 3:Nat):Int)] []),⟨bR,big_leaf bR (by show 2≤9223372036854775807;decide)⟩,ent_of [4,5,6,10] [(0,8),(1,7),(2,9)] [] rfl ⟨rfl,⟨rfl,rfl⟩,⟨rfl,rfl⟩,trivial⟩ ⟨⟨_,rfl,rfl,rfl,_,rfl,_,_,rfl,rfl,_,_,rfl,rfl,_,_,rfl,rfl,_,_,rfl,rfl,_,_,rfl,rfl,_,_,rfl,⟨_,rfl,Nat.le_refl _,⟨_,_,rfl,⟨_,_,rfl,rfl,_,_,rfl,rfl,_,_,rfl,rfl,_,_,rfl,rfl,_,_,rfl,rfl,_,_,rfl,rfl,_,_,rfl,rfl,_,_,rfl,rfl,_,_,rfl,⟨_,rfl,Nat.le_refl _,rfl⟩,_,_,rfl, .inr (.inr ⟨10,rfl⟩),_,_,rfl,rfl,rfl⟩,_,_,rfl,⟨_,_,rfl,rfl,_,_,rfl,rfl,_,_,rfl,rfl,_,_,rfl,rfl,_,_,rfl,rfl,_,_,rfl,rfl,_,_,rfl,rfl,_,_,rfl,rfl,_,_,rfl, .inr (.inl rfl),_,_,rfl, .inr (.inr ⟨10,rfl⟩),_,_,rfl,⟨_,rfl,Nat.le_refl _,rfl⟩,rfl⟩,rfl⟩⟩,rfl⟩,⟨_,rfl,rfl,rfl,_,_,rfl,⟨_,_,rfl,rfl,_,_,rfl,rfl,_,_,rfl,rfl,_,_,rfl,rfl,_,_,rfl, .inr (.inr ⟨4,rfl⟩),_,_,rfl, .inr (.inr ⟨11,rfl⟩),rfl⟩,_,_,rfl,⟨_,_,rfl,rfl,_,_,rfl,rfl,_,_,rfl,rfl,_,_,rfl,rfl,_,_,rfl, .inr (.inr ⟨4,rfl⟩),_,_,rfl, .inr (.inr ⟨11,rfl⟩),rfl⟩,_,_,rfl,⟨_,_,rfl,rfl,_,_,rfl,rfl,_,_,rfl,rfl,_,_,rfl,rfl,_,_,rfl, .inr (.inr ⟨4,rfl⟩),_,_,rfl, .inr (.inr ⟨11,rfl⟩),rfl⟩,_,_,rfl,⟨_,_,rfl,rfl,_,_,rfl,rfl,_,_,rfl,rfl,_,_,rfl,rfl,_,_,rfl, .inr (.inr ⟨4,rfl⟩),_,_,rfl,⟨_,rfl,Nat.le_refl _,⟨_,_,rfl,⟨_,_,rfl,rfl,_,_,rfl,rfl,_,_,rfl,rfl,_,_,rfl,rfl,_,_,rfl,rfl,_,_,rfl,rfl,_,_,rfl,rfl,_,_,rfl,rfl,_,_,rfl, .inr (.inl rfl),_,_,rfl, .inr (.inr ⟨10,rfl⟩),_,_,rfl,⟨_,rfl,Nat.le_refl _,rfl⟩,rfl⟩,rfl⟩⟩,rfl⟩,_,_,rfl,⟨_,_,rfl,rfl,_,_,rfl,rfl,_,_,rfl,rfl,_,_,rfl,rfl,_,_,rfl, .inr (.inr ⟨4,rfl⟩),_,_,rfl,⟨_,rfl,Nat.le_refl _,⟨_,_,rfl,⟨_,_,rfl,rfl,_,_,rfl,rfl,_,_,rfl,rfl,_,_,rfl,rfl,_,_,rfl,rfl,_,_,rfl,rfl,_,_,rfl,rfl,_,_,rfl,rfl,_,_,rfl, .inr (.inl rfl),_,_,rfl, .inr (.inr ⟨10,rfl⟩),_,_,rfl,⟨_,rfl,Nat.le_refl _,rfl⟩,rfl⟩,rfl⟩⟩,rfl⟩,_,_,rfl,⟨_,_,rfl,rfl,_,_,rfl,rfl,_,_,rfl,rfl,_,_,rfl,rfl,_,_,rfl, .inr (.inr ⟨4,rfl⟩),_,_,rfl,⟨_,rfl,Nat.le_refl _,⟨_,_,rfl,⟨_,_,rfl,rfl,_,_,rfl,rfl,_,_,rfl,rfl,_,_,rfl,rfl,_,_,rfl,rfl,_,_,rfl,rfl,_,_,rfl,rfl,_,_,rfl,rfl,_,_,rfl, .inr (.inl rfl),_,_,rfl, .inr (.inr ⟨10,rfl⟩),_,_,rfl,⟨_,rfl,Nat.le_refl _,rfl⟩,rfl⟩,rfl⟩⟩,rfl⟩,_,_,rfl,⟨_,_,rfl,rfl,_,_,rfl,rfl,_,_,rfl,rfl,_,_,rfl,rfl,_,_,rfl, .inr (.inr ⟨4,rfl⟩),_,_,rfl, .inr (.inr ⟨11,rfl⟩),rfl⟩,rfl⟩,⟨_,rfl,rfl,rfl,_,rfl,_,_,rfl,rfl,rfl⟩,trivial⟩ rfl⟩
   ·refine⟨by show(0:Int)≤1∧(1:Int)≤2;decide,?_⟩
    refine⟨by omega,?_⟩
    refine⟨_,rfl,?_⟩
    refine⟨by decide,?_⟩
    refine⟨((p0.toNat % 8:Nat):Int),wrap_i64 (by omega) (by omega),?_⟩
    refine⟨by omega,?_⟩
    refine⟨_,rfl,?_⟩
    refine⟨by decide,?_⟩
    refine⟨((p1.toNat % 8:Nat):Int),wrap_i64 (by omega) (by omega),?_⟩
    refine vdraw_otEx (α:=Rf × Cd) (fun _=>[(0, .p (u8 kind)),(13, .ptr 0 0 0),(14, .ptr 2 0 0)]) (fun x=>srH (srBase ((p0.toNat % 8:Nat):Int) ((p1.toNat % 8:Nat):Int)) (srLast x.1 x.2)) (fun x=>BigR x.1∧BigC x.2) otS21 (by kernel_rfl) ?_ key.get
    refine⟨by omega,?_⟩
    refine⟨_,⟨_,rfl,rfl⟩,?_⟩
    refine And.intro ?_ ?_
    ·refine⟨sk,?_⟩
     refine⟨sk,?_⟩
     exact⟨(⟨x1,x2,x3,x4⟩, .mk ((1+op.toNat % 6:Nat):Int) 0 0 0 ⟨x1,x2,x3,x4⟩ [((2+op.toNat / 18 % 3:Nat):Int)] []),⟨bR,big_leaf bR (by show 1≤9223372036854775807;decide)⟩,ent_of [4,5,6,9] [(0,8),(1,7),(2,10)] [] rfl ⟨rfl,⟨rfl,rfl⟩,⟨rfl,rfl⟩,trivial⟩ ⟨⟨_,rfl,rfl,rfl,_,rfl,_,_,rfl,rfl,_,_,rfl,rfl,_,_,rfl,rfl,_,_,rfl,rfl,_,_,rfl,rfl,_,_,rfl,⟨_,rfl,Nat.le_refl _,⟨_,_,rfl,⟨_,_,rfl,rfl,_,_,rfl,rfl,_,_,rfl,rfl,_,_,rfl,rfl,_,_,rfl,rfl,_,_,rfl,rfl,_,_,rfl,rfl,_,_,rfl,rfl,_,_,rfl,⟨_,rfl,Nat.le_refl _,rfl⟩,_,_,rfl, .inr (.inr ⟨10,rfl⟩),_,_,rfl,rfl,rfl⟩,_,_,rfl,⟨_,_,rfl,rfl,_,_,rfl,rfl,_,_,rfl,rfl,_,_,rfl,rfl,_,_,rfl,rfl,_,_,rfl,rfl,_,_,rfl,rfl,_,_,rfl,rfl,_,_,rfl, .inr (.inl rfl),_,_,rfl, .inr (.inr ⟨10,rfl⟩),_,_,rfl,⟨_,rfl,Nat.le_refl _,rfl⟩,rfl⟩,rfl⟩⟩,rfl⟩,⟨_,rfl,rfl,rfl,_,_,rfl,⟨_,_,rfl,rfl,_,_,rfl,rfl,_,_,rfl,rfl,_,_,rfl,rfl,_,_,rfl, .inr (.inr ⟨4,rfl⟩),_,_,rfl, .inr (.inr ⟨11,rfl⟩),rfl⟩,_,_,rfl,⟨_,_,rfl,rfl,_,_,rfl,rfl,_,_,rfl,rfl,_,_,rfl,rfl,_,_,rfl, .inr (.inr ⟨4,rfl⟩),_,_,rfl, .inr (.inr ⟨11,rfl⟩),rfl⟩,_,_,rfl,⟨_,_,rfl,rfl,_,_,rfl,rfl,_,_,rfl,rfl,_,_,rfl,rfl,_,_,rfl, .inr (.inr ⟨4,rfl⟩),_,_,rfl, .inr (.inr ⟨11,rfl⟩),rfl⟩,_,_,rfl,⟨_,_,rfl,rfl,_,_,rfl,rfl,_,_,rfl,rfl,_,_,rfl,rfl,_,_,rfl, .inr (.inr ⟨4,rfl⟩),_,_,rfl,⟨_,rfl,Nat.le_refl _,⟨_,_,rfl,⟨_,_,rfl,rfl,_,_,rfl,rfl,_,_,rfl,rfl,_,_,rfl,rfl,_,_,rfl,rfl,_,_,rfl,rfl,_,_,rfl,rfl,_,_,rfl,rfl,_,_,rfl, .inr (.inl rfl),_,_,rfl, .inr (.inr ⟨10,rfl⟩),_,_,rfl,⟨_,rfl,Nat.le_refl _,rfl⟩,rfl⟩,rfl⟩⟩,rfl⟩,_,_,rfl,⟨_,_,rfl,rfl,_,_,rfl,rfl,_,_,rfl,rfl,_,_,rfl,rfl,_,_,rfl, .inr (.inr ⟨4,rfl⟩),_,_,rfl,⟨_,rfl,Nat.le_refl _,⟨_,_,rfl,⟨_,_,rfl,rfl,_,_,rfl,rfl,_,_,rfl,rfl,_,_,rfl,rfl,_,_,rfl,rfl,_,_,rfl,rfl,_,_,rfl,rfl,_,_,rfl,rfl,_,_,rfl, .inr (.inl rfl),_,_,rfl, .inr (.inr ⟨10,rfl⟩),_,_,rfl,⟨_,rfl,Nat.le_refl _,rfl⟩,rfl⟩,rfl⟩⟩,rfl⟩,_,_,rfl,⟨_,_,rfl,rfl,_,_,rfl,rfl,_,_,rfl,rfl,_,_,rfl,rfl,_,_,rfl, .inr (.inr ⟨4,rfl⟩),_,_,rfl,⟨_,rfl,Nat.le_refl _,⟨_,_,rfl,⟨_,_,rfl,rfl,_,_,rfl,rfl,_,_,rfl,rfl,_,_,rfl,rfl,_,_,rfl,rfl,_,_,rfl,rfl,_,_,rfl,rfl,_,_,rfl,rfl,_,_,rfl, .inr (.inl rfl),_,_,rfl, .inr (.inr ⟨10,rfl⟩),_,_,rfl,⟨_,rfl,Nat.le_refl _,rfl⟩,rfl⟩,rfl⟩⟩,rfl⟩,_,_,rfl,⟨_,_,rfl,rfl,_,_,rfl,rfl,_,_,rfl,rfl,_,_,rfl,rfl,_,_,rfl, .inr (.inr ⟨4,rfl⟩),_,_,rfl, .inr (.inr ⟨11,rfl⟩),rfl⟩,rfl⟩,⟨_,rfl,rfl,rfl,_,rfl,_,_,rfl,rfl,rfl⟩,trivial⟩ rfl⟩
    ·refine⟨sk,?_⟩
     refine⟨sk,?_⟩
     exact⟨(⟨x1,x2,x3,x4⟩, .mk ((1+op.toNat % 6:Nat):Int) 0 0 0 ⟨x1,x2,x3,x4⟩ [((2+op.toNat / 18 % 3:Nat):Int)] []),⟨bR,big_leaf bR (by show 1≤9223372036854775807;decide)⟩,ent_of [4,5,6,10] [(0,8),(1,7),(2,9)] [] rfl ⟨rfl,⟨rfl,rfl⟩,⟨rfl,rfl⟩,trivial⟩ ⟨⟨_,rfl,rfl,rfl,_,rfl,_,_,rfl,rfl,_,_,rfl,rfl,_,_,rfl,rfl,_,_,rfl,rfl,_,_,rfl,rfl,_,_,rfl,⟨_,rfl,Nat.le_refl _,⟨_,_,rfl,⟨_,_,rfl,rfl,_,_,rfl,rfl,_,_,rfl,rfl,_,_,rfl,rfl,_,_,rfl,rfl,_,_,rfl,rfl,_,_,rfl,rfl,_,_,rfl,rfl,_,_,rfl,⟨_,rfl,Nat.le_refl _,rfl⟩,_,_,rfl, .inr (.inr ⟨10,rfl⟩),_,_,rfl,rfl,rfl⟩,_,_,rfl,⟨_,_,rfl,rfl,_,_,rfl,rfl,_,_,rfl,rfl,_,_,rfl,rfl,_,_,rfl,rfl,_,_,rfl,rfl,_,_,rfl,rfl,_,_,rfl,rfl,_,_,rfl, .inr (.inl rfl),_,_,rfl, .inr (.inr ⟨10,rfl⟩),_,_,rfl,⟨_,rfl,Nat.le_refl _,rfl⟩,rfl⟩,rfl⟩⟩,rfl⟩,⟨_,rfl,rfl,rfl,_,_,rfl,⟨_,_,rfl,rfl,_,_,rfl,rfl,_,_,rfl,rfl,_,_,rfl,rfl,_,_,rfl, .inr (.inr ⟨4,rfl⟩),_,_,rfl, .inr (.inr ⟨11,rfl⟩),rfl⟩,_,_,rfl,⟨_,_,rfl,rfl,_,_,rfl,rfl,_,_,rfl,rfl,_,_,rfl,rfl,_,_,rfl, .inr (.inr ⟨4,rfl⟩),_,_,rfl, .inr (.inr ⟨11,rfl⟩),rfl⟩,_,_,rfl,⟨_,_,rfl,rfl,_,_,rfl,rfl,_,_,rfl,rfl,_,_,rfl,rfl,_,_,rfl, .inr (.inr ⟨4,rfl⟩),_,_,rfl, .inr (.inr ⟨11,rfl⟩),rfl⟩,_,_,rfl,⟨_,_,rfl,rfl,_,_,rfl,rfl,_,_,rfl,rfl,_,_,rfl,rfl,_,_,rfl, .inr (.inr ⟨4,rfl⟩),_,_,rfl,⟨_,rfl,Nat.le_refl _,⟨_,_,rfl,⟨_,_,rfl,rfl,_,_,rfl,rfl,_,_,rfl,rfl,_,_,rfl,rfl,_,_,rfl,rfl,_,_,rfl,rfl,_,_,rfl,rfl,_,_,rfl,rfl,_,_,rfl, .inr (.inl rfl),_,_,rfl, .inr (.inr ⟨10,rfl⟩),_,_,rfl,⟨_,rfl,Nat.le_refl _,rfl⟩,rfl⟩,rfl⟩⟩,rfl⟩,_,_,rfl,⟨_,_,rfl,rfl,_,_,rfl,rfl,_,_,rfl,rfl,_,_,rfl,rfl,_,_,rfl, .inr (.inr ⟨4,rfl⟩),_,_,rfl,⟨_,rfl,Nat.le_refl _,⟨_,_,rfl,⟨_,_,rfl,rfl,_,_,rfl,rfl,_,_,rfl,rfl,_,_,rfl,rfl,_,_,rfl,rfl,_,_,rfl,rfl,_,_,rfl,rfl,_,_,rfl,rfl,_,_,rfl, .inr (.inl rfl),_,_,rfl, .inr (.inr ⟨10,rfl⟩),_,_,rfl,⟨_,rfl,Nat.le_refl _,rfl⟩,rfl⟩,rfl⟩⟩,rfl⟩,_,_,rfl,⟨_,_,rfl,rfl,_,_,rfl,rfl,_,_,rfl,rfl,_,_,rfl,rfl,_,_,rfl, .inr (.inr ⟨4,rfl⟩),_,_,rfl,⟨_,rfl,Nat.le_refl _,⟨_,_,rfl,⟨_,_,rfl,rfl,_,_,rfl,rfl,_,_,rfl,rfl,_,_,rfl,rfl,_,_,rfl,rfl,_,_,rfl,rfl,_,_,rfl,rfl,_,_,rfl,rfl,_,_,rfl, .inr (.inl rfl),_,_,rfl, .inr (.inr ⟨10,rfl⟩),_,_,rfl,⟨_,rfl,Nat.le_refl _,rfl⟩,rfl⟩,rfl⟩⟩,rfl⟩,_,_,rfl,⟨_,_,rfl,rfl,_,_,rfl,rfl,_,_,rfl,rfl,_,_,rfl,rfl,_,_,rfl, .inr (.inr ⟨4,rfl⟩),_,_,rfl, .inr (.inr ⟨11,rfl⟩),rfl⟩,rfl⟩,⟨_,rfl,rfl,rfl,_,rfl,_,_,rfl,rfl,rfl⟩,trivial⟩ rfl⟩
 case k=>
  rintro⟨⟨x1,x2,x3,x4⟩,c⟩ hx
  have hx:BigR ⟨x1,x2,x3,x4⟩∧BigC c:=hx
  have hz:BigL en0:=⟨by decide,fun x hx=>by rw [List.mem_singleton.1 hx];exact big_leaf ⟨Nat.zero_le _,Nat.zero_le _⟩ (Nat.zero_le _),fun x hx=>by rw [List.mem_singleton.1 hx];decide⟩
  have hL:∀ d:De,d.name.length≤1→d.plate.length≤1→d.refs=[⟨x1,x2,x3,x4⟩]→(d.cases=[]∨d.cases=[⟨c,[1,1]⟩,⟨cd0,[1,1]⟩])→BigP (srBase ((p0.toNat % 8:Nat):Int) ((p1.toNat % 8:Nat):Int)++[d]):=fun d h1 h2 h3 h4=>by
   refine⟨by show 8≤9223372036854775807;decide,fun t ht=>?_⟩
   rcases List.mem_append.1 ht with ht | ht
   ·simp only [srBase,List.mem_cons,List.not_mem_nil,or_false] at ht
    have hn:∀ t:De,t.name.length≤1→t.plate.length≤1→t.refs=[]→(t.cases=[]∨t.cases=en0)→BigD t:=fun t a1 a2 a3 a4=>by
     refine⟨by show t.name.length≤_;omega,by show t.plate.length≤_;omega,by rw [a3];exact Nat.zero_le _,fun r hr=>(by rw [a3] at hr;cases hr),?_⟩
     rcases a4 with a4 | a4
     ·rw [a4];exact⟨Nat.zero_le _,fun x hx=>(by cases hx),fun x hx=>(by cases hx)⟩
     ·rw [a4];exact hz
    rcases ht with rfl | rfl | rfl | rfl | rfl | rfl | rfl <;> exact hn _ (by simp) (by simp) rfl (by first | exact .inl rfl | exact .inr rfl)
   ·rw [List.mem_singleton.1 ht]
    refine⟨by show d.name.length≤_;omega,by show d.plate.length≤_;omega,by rw [h3];show 1≤_;decide,fun r hr=>by rw [h3] at hr;rw [List.mem_singleton.1 hr];exact hx.1,?_⟩
    rcases h4 with h4 | h4
    ·rw [h4];exact⟨Nat.zero_le _,fun x hx=>(by cases hx),fun x hx=>(by cases hx)⟩
    ·rw [h4]
     refine⟨by show 2≤_;decide,fun x hx2=>?_,fun x hx2=>?_⟩
     ·rcases List.mem_cons.1 hx2 with rfl | hx2
      ·exact hx.2
      ·rw [List.mem_singleton.1 hx2];exact big_leaf ⟨Nat.zero_le _,Nat.zero_le _⟩ (Nat.zero_le _)
     ·rcases List.mem_cons.1 hx2 with rfl | hx2
      ·show 2≤_;decide
      ·rw [List.mem_singleton.1 hx2];show 2≤_;decide
  obtain⟨B,hB⟩:∃ B,B=srBase ((p0.toNat % 8:Nat):Int) ((p1.toNat % 8:Nat):Int):=⟨_,rfl⟩
  have hBl:(B.map De.cells).length=7:=by rw [hB];rfl
  rw [← hB] at hL ⊢
  clear hB
  obtain⟨co,cn,cr,cv,cf,cs,ca⟩:=c
  refine⟨by decide,?_⟩
  refine And.intro (fun q1=>?_) (fun q1=>?_)
  ·have lk:kind.toNat % 2<2:=Nat.mod_lt _ (by decide)
   obtain⟨pl,hpl,hpn⟩:=srC_at (kind.toNat % 2) lk
   have hk:=kind.toNat_lt
   refine⟨by decide,?_⟩
   refine⟨_,⟨by show 0≤((kind.toNat % 2:Nat):Int)∧((kind.toNat % 2:Nat):Int)<2;omega, .str pl,ldInP1 (by kernel_rfl) (by show srC[((kind.toNat % 2:Nat):Int).toNat * 1]?=_;rw [Int.toNat_natCast,Nat.mul_one];exact hpl),rfl⟩,?_⟩
   have hb:=hL ⟨3,2,[120],pl,[⟨x1,x2,x3,x4⟩],[⟨.mk co cn cr cv cf cs ca,[1,1]⟩,⟨cd0,[1,1]⟩]⟩ (Nat.le_refl _) hpn rfl (.inr rfl)
   have hI:=issues_c _ hb
   have hJ:=rissues_c _ hb
   obtain⟨l,e,hle,hll⟩:=iss_out (B++[(De.mk 3 2 [120] pl [⟨x1,x2,x3,x4⟩] [⟨.mk co cn cr cv cf cs ca,[1,1]⟩,⟨cd0,[1,1]⟩])])
   rw [hle] at hI hJ
   have hS:=issame_c l l hll hll
   rw [decide_eq_true (show l=l from rfl)] at hS
   have s1:(0+7+1) * 96≤140737488355328:=by decide
   refine⟨by show 0+1≤1;omega,[De.cells ⟨3,2,[120],pl,[⟨x1,x2,x3,x4⟩],[⟨.mk co cn cr cv cf cs ca,[1,1]⟩,⟨cd0,[1,1]⟩]⟩],rfl,?_⟩
   refine⟨by show 0+7≤(B.map De.cells).length;omega,B.map De.cells,takeAll hBl,by decide,B.map De.cells++[De.cells ⟨3,2,[120],pl,[⟨x1,x2,x3,x4⟩],[⟨.mk co cn cr cv cf cs ca,[1,1]⟩,⟨cd0,[1,1]⟩]⟩],rfl,?_⟩
   have ea:[srcV (B++[(De.mk 3 2 [120] pl [⟨x1,x2,x3,x4⟩] [⟨.mk co cn cr cv cf cs ca,[1,1]⟩,⟨cd0,[1,1]⟩])])]=[PV.agg [.lsts 6 (B.map De.cells++[De.cells (De.mk 3 2 [120] pl [⟨x1,x2,x3,x4⟩] [⟨.mk co cn cr cv cf cs ca,[1,1]⟩,⟨cd0,[1,1]⟩])])]]:=by show [PV.agg [.lsts 6 ((B++[(De.mk 3 2 [120] pl [⟨x1,x2,x3,x4⟩] [⟨.mk co cn cr cv cf cs ca,[1,1]⟩,⟨cd0,[1,1]⟩])]).map De.cells)]]=_;rw [List.map_append];rfl
   rw [ea] at hI hJ
   have hn:NilDL [PV.agg [.lsts 6 (B.map De.cells++[De.cells ⟨3,2,[120],pl,[⟨x1,x2,x3,x4⟩],[⟨.mk co cn cr cv cf cs ca,[1,1]⟩,⟨cd0,[1,1]⟩]⟩])]] [PV.agg [.lsts 6 (B.map De.cells++[De.cells (De.mk 3 2 [120] pl [⟨x1,x2,x3,x4⟩] [⟨.mk co cn cr cv cf cs ca,[1,1]⟩,⟨cd0,[1,1]⟩])])]]:=nil_src (NilDL.refl _) (B.map De.cells)
   have hI:=hI.arg hn
   have hJ:=hJ.arg hn
   refine hI.uses [4] rfl ⟨_,_,rfl,⟨_,rfl,_,_,rfl,⟨_,rfl,by show 0+(7+1)≤(B.map De.cells++[De.cells ⟨3,2,[120],pl,[⟨x1,x2,x3,x4⟩],[⟨.mk co cn cr cv cf cs ca,[1,1]⟩,⟨cd0,[1,1]⟩]⟩]).length;rw [List.length_append,hBl];exact Nat.le_refl _,takeAll (by rw [List.length_append,hBl];rfl)⟩,rfl⟩,rfl⟩ ?_
   refine hJ.uses [4] rfl ⟨_,_,rfl,⟨_,rfl,_,_,rfl,⟨_,rfl,by show 0+(7+1)≤(B.map De.cells++[De.cells ⟨3,2,[120],pl,[⟨x1,x2,x3,x4⟩],[⟨.mk co cn cr cv cf cs ca,[1,1]⟩,⟨cd0,[1,1]⟩]⟩]).length;rw [List.length_append,hBl];exact Nat.le_refl _,takeAll (by rw [List.length_append,hBl];rfl)⟩,rfl⟩,rfl⟩ ?_
   refine And.intro (fun _=>?_) (fun h=>absurd rfl h)
   refine hS.eq rfl ?_
   refine works39_c.eq rfl ?_
   exact end1 _ rfl rfl rfl
  refine And.intro (fun q2=>?_) (fun q2=>?_)
  ·have lk:kind.toNat % 2<2:=Nat.mod_lt _ (by decide)
   obtain⟨pl,hpl,hpn⟩:=srC_at (kind.toNat % 2) lk
   have hk:=kind.toNat_lt
   refine⟨by decide,?_⟩
   refine⟨_,⟨by show 0≤((kind.toNat % 2:Nat):Int)∧((kind.toNat % 2:Nat):Int)<2;omega, .str pl,ldInP1 (by kernel_rfl) (by show srC[((kind.toNat % 2:Nat):Int).toNat * 1]?=_;rw [Int.toNat_natCast,Nat.mul_one];exact hpl),rfl⟩,?_⟩
   have hb:=hL ⟨3,2,[120],pl,[⟨x1,x2,x3,x4⟩],[⟨.mk co cn cr cv cf cs ca,[1,1]⟩,⟨cd0,[1,1]⟩]⟩ (Nat.le_refl _) hpn rfl (.inr rfl)
   have hI:=issues_c _ hb
   have hJ:=rissues_c _ hb
   obtain⟨l,e,hle,hll⟩:=iss_out (B++[(De.mk 3 2 [120] pl [⟨x1,x2,x3,x4⟩] [⟨.mk co cn cr cv cf cs ca,[1,1]⟩,⟨cd0,[1,1]⟩])])
   rw [hle] at hI hJ
   have hS:=issame_c l l hll hll
   rw [decide_eq_true (show l=l from rfl)] at hS
   have s1:(0+7+1) * 96≤140737488355328:=by decide
   refine⟨by show 0+1≤1;omega,[De.cells ⟨3,2,[120],pl,[⟨x1,x2,x3,x4⟩],[⟨.mk co cn cr cv cf cs ca,[1,1]⟩,⟨cd0,[1,1]⟩]⟩],rfl,?_⟩
   refine⟨by show 0+7≤(B.map De.cells).length;omega,B.map De.cells,takeAll hBl,by decide,B.map De.cells++[De.cells ⟨3,2,[120],pl,[⟨x1,x2,x3,x4⟩],[⟨.mk co cn cr cv cf cs ca,[1,1]⟩,⟨cd0,[1,1]⟩]⟩],rfl,?_⟩
   have ea:[srcV (B++[(De.mk 3 2 [120] pl [⟨x1,x2,x3,x4⟩] [⟨.mk co cn cr cv cf cs ca,[1,1]⟩,⟨cd0,[1,1]⟩])])]=[PV.agg [.lsts 6 (B.map De.cells++[De.cells (De.mk 3 2 [120] pl [⟨x1,x2,x3,x4⟩] [⟨.mk co cn cr cv cf cs ca,[1,1]⟩,⟨cd0,[1,1]⟩])])]]:=by show [PV.agg [.lsts 6 ((B++[(De.mk 3 2 [120] pl [⟨x1,x2,x3,x4⟩] [⟨.mk co cn cr cv cf cs ca,[1,1]⟩,⟨cd0,[1,1]⟩])]).map De.cells)]]=_;rw [List.map_append];rfl
   rw [ea] at hI hJ
   have hn:NilDL [PV.agg [.lsts 6 (B.map De.cells++[De.cells ⟨3,2,[120],pl,[⟨x1,x2,x3,x4⟩],[⟨.mk co cn cr cv cf cs ca,[1,1]⟩,⟨cd0,[1,1]⟩]⟩])]] [PV.agg [.lsts 6 (B.map De.cells++[De.cells (De.mk 3 2 [120] pl [⟨x1,x2,x3,x4⟩] [⟨.mk co cn cr cv cf cs ca,[1,1]⟩,⟨cd0,[1,1]⟩])])]]:=nil_src (NilDL.refl _) (B.map De.cells)
   have hI:=hI.arg hn
   have hJ:=hJ.arg hn
   refine hI.uses [4] rfl ⟨_,_,rfl,⟨_,rfl,_,_,rfl,⟨_,rfl,by show 0+(7+1)≤(B.map De.cells++[De.cells ⟨3,2,[120],pl,[⟨x1,x2,x3,x4⟩],[⟨.mk co cn cr cv cf cs ca,[1,1]⟩,⟨cd0,[1,1]⟩]⟩]).length;rw [List.length_append,hBl];exact Nat.le_refl _,takeAll (by rw [List.length_append,hBl];rfl)⟩,rfl⟩,rfl⟩ ?_
   refine hJ.uses [4] rfl ⟨_,_,rfl,⟨_,rfl,_,_,rfl,⟨_,rfl,by show 0+(7+1)≤(B.map De.cells++[De.cells ⟨3,2,[120],pl,[⟨x1,x2,x3,x4⟩],[⟨.mk co cn cr cv cf cs ca,[1,1]⟩,⟨cd0,[1,1]⟩]⟩]).length;rw [List.length_append,hBl];exact Nat.le_refl _,takeAll (by rw [List.length_append,hBl];rfl)⟩,rfl⟩,rfl⟩ ?_
   refine And.intro (fun _=>?_) (fun h=>absurd rfl h)
   refine hS.eq rfl ?_
   refine works39_c.eq rfl ?_
   exact end1 _ rfl rfl rfl
  refine And.intro (fun q3=>?_) (fun q3=>?_)
  ·have hb:=hL ⟨4,2,[120],[],[⟨x1,x2,x3,x4⟩],[]⟩ (Nat.le_refl _) (Nat.zero_le _) rfl (.inl rfl)
   have hI:=issues_c _ hb
   have hJ:=rissues_c _ hb
   obtain⟨l,e,hle,hll⟩:=iss_out (B++[(De.mk 4 2 [120] [] [⟨x1,x2,x3,x4⟩] [])])
   rw [hle] at hI hJ
   have hS:=issame_c l l hll hll
   rw [decide_eq_true (show l=l from rfl)] at hS
   have s1:(0+7+1) * 96≤140737488355328:=by decide
   refine⟨by show 0+1≤1;omega,[[i64 4,i64 2, .str [120], .str [],rfl_ [⟨x1,x2,x3,x4⟩], .nils]],rfl,?_⟩
   refine⟨by show 0+7≤(B.map De.cells).length;omega,B.map De.cells,takeAll hBl,by decide,B.map De.cells++[[i64 4,i64 2, .str [120], .str [],rfl_ [⟨x1,x2,x3,x4⟩], .nils]],rfl,?_⟩
   have ea:[srcV (B++[(De.mk 4 2 [120] [] [⟨x1,x2,x3,x4⟩] [])])]=[PV.agg [.lsts 6 (B.map De.cells++[De.cells (De.mk 4 2 [120] [] [⟨x1,x2,x3,x4⟩] [])])]]:=by show [PV.agg [.lsts 6 ((B++[(De.mk 4 2 [120] [] [⟨x1,x2,x3,x4⟩] [])]).map De.cells)]]=_;rw [List.map_append];rfl
   rw [ea] at hI hJ
   have hn:NilDL [PV.agg [.lsts 6 (B.map De.cells++[[i64 4,i64 2, .str [120], .str [],rfl_ [⟨x1,x2,x3,x4⟩], .nils]])]] [PV.agg [.lsts 6 (B.map De.cells++[De.cells (De.mk 4 2 [120] [] [⟨x1,x2,x3,x4⟩] [])])]]:=nil_src (nil_row _ _ _ _ _) (B.map De.cells)
   have hI:=hI.arg hn
   have hJ:=hJ.arg hn
   refine hI.uses [4] rfl ⟨_,_,rfl,⟨_,rfl,_,_,rfl,⟨_,rfl,by show 0+(7+1)≤(B.map De.cells++[[i64 4,i64 2, .str [120], .str [],rfl_ [⟨x1,x2,x3,x4⟩], .nils]]).length;rw [List.length_append,hBl];exact Nat.le_refl _,takeAll (by rw [List.length_append,hBl];rfl)⟩,rfl⟩,rfl⟩ ?_
   refine hJ.uses [4] rfl ⟨_,_,rfl,⟨_,rfl,_,_,rfl,⟨_,rfl,by show 0+(7+1)≤(B.map De.cells++[[i64 4,i64 2, .str [120], .str [],rfl_ [⟨x1,x2,x3,x4⟩], .nils]]).length;rw [List.length_append,hBl];exact Nat.le_refl _,takeAll (by rw [List.length_append,hBl];rfl)⟩,rfl⟩,rfl⟩ ?_
   refine And.intro (fun _=>?_) (fun h=>absurd rfl h)
   refine hS.eq rfl ?_
   refine works39_c.eq rfl ?_
   exact end1 _ rfl rfl rfl
  refine And.intro (fun q4=>?_) (fun q4=>?_)
  ·have hb:=hL ⟨5,0,[],[],[⟨x1,x2,x3,x4⟩],[⟨.mk co cn cr cv cf cs ca,[1,1]⟩,⟨cd0,[1,1]⟩]⟩ (Nat.zero_le _) (Nat.zero_le _) rfl (.inr rfl)
   have hI:=issues_c _ hb
   have hJ:=rissues_c _ hb
   obtain⟨l,e,hle,hll⟩:=iss_out (B++[(De.mk 5 0 [] [] [⟨x1,x2,x3,x4⟩] [⟨.mk co cn cr cv cf cs ca,[1,1]⟩,⟨cd0,[1,1]⟩])])
   rw [hle] at hI hJ
   have hS:=issame_c l l hll hll
   rw [decide_eq_true (show l=l from rfl)] at hS
   have s1:(0+7+1) * 96≤140737488355328:=by decide
   refine⟨by show 0+1≤1;omega,[De.cells ⟨5,0,[],[],[⟨x1,x2,x3,x4⟩],[⟨.mk co cn cr cv cf cs ca,[1,1]⟩,⟨cd0,[1,1]⟩]⟩],rfl,?_⟩
   refine⟨by show 0+7≤(B.map De.cells).length;omega,B.map De.cells,takeAll hBl,by decide,B.map De.cells++[De.cells ⟨5,0,[],[],[⟨x1,x2,x3,x4⟩],[⟨.mk co cn cr cv cf cs ca,[1,1]⟩,⟨cd0,[1,1]⟩]⟩],rfl,?_⟩
   have ea:[srcV (B++[(De.mk 5 0 [] [] [⟨x1,x2,x3,x4⟩] [⟨.mk co cn cr cv cf cs ca,[1,1]⟩,⟨cd0,[1,1]⟩])])]=[PV.agg [.lsts 6 (B.map De.cells++[De.cells (De.mk 5 0 [] [] [⟨x1,x2,x3,x4⟩] [⟨.mk co cn cr cv cf cs ca,[1,1]⟩,⟨cd0,[1,1]⟩])])]]:=by show [PV.agg [.lsts 6 ((B++[(De.mk 5 0 [] [] [⟨x1,x2,x3,x4⟩] [⟨.mk co cn cr cv cf cs ca,[1,1]⟩,⟨cd0,[1,1]⟩])]).map De.cells)]]=_;rw [List.map_append];rfl
   rw [ea] at hI hJ
   have hn:NilDL [PV.agg [.lsts 6 (B.map De.cells++[De.cells ⟨5,0,[],[],[⟨x1,x2,x3,x4⟩],[⟨.mk co cn cr cv cf cs ca,[1,1]⟩,⟨cd0,[1,1]⟩]⟩])]] [PV.agg [.lsts 6 (B.map De.cells++[De.cells (De.mk 5 0 [] [] [⟨x1,x2,x3,x4⟩] [⟨.mk co cn cr cv cf cs ca,[1,1]⟩,⟨cd0,[1,1]⟩])])]]:=nil_src (NilDL.refl _) (B.map De.cells)
   have hI:=hI.arg hn
   have hJ:=hJ.arg hn
   refine hI.uses [4] rfl ⟨_,_,rfl,⟨_,rfl,_,_,rfl,⟨_,rfl,by show 0+(7+1)≤(B.map De.cells++[De.cells ⟨5,0,[],[],[⟨x1,x2,x3,x4⟩],[⟨.mk co cn cr cv cf cs ca,[1,1]⟩,⟨cd0,[1,1]⟩]⟩]).length;rw [List.length_append,hBl];exact Nat.le_refl _,takeAll (by rw [List.length_append,hBl];rfl)⟩,rfl⟩,rfl⟩ ?_
   refine hJ.uses [4] rfl ⟨_,_,rfl,⟨_,rfl,_,_,rfl,⟨_,rfl,by show 0+(7+1)≤(B.map De.cells++[De.cells ⟨5,0,[],[],[⟨x1,x2,x3,x4⟩],[⟨.mk co cn cr cv cf cs ca,[1,1]⟩,⟨cd0,[1,1]⟩]⟩]).length;rw [List.length_append,hBl];exact Nat.le_refl _,takeAll (by rw [List.length_append,hBl];rfl)⟩,rfl⟩,rfl⟩ ?_
   refine And.intro (fun _=>?_) (fun h=>absurd rfl h)
   refine hS.eq rfl ?_
   refine works39_c.eq rfl ?_
   exact end1 _ rfl rfl rfl
  have hb:=hL ⟨3,2,[120],[],[⟨x1,x2,x3,x4⟩],[⟨.mk co cn cr cv cf cs ca,[1,1]⟩,⟨cd0,[1,1]⟩]⟩ (Nat.le_refl _) (Nat.zero_le _) rfl (.inr rfl)
  have hI:=issues_c _ hb
  have hJ:=rissues_c _ hb
  obtain⟨l,e,hle,hll⟩:=iss_out (B++[(De.mk 3 2 [120] [] [⟨x1,x2,x3,x4⟩] [⟨.mk co cn cr cv cf cs ca,[1,1]⟩,⟨cd0,[1,1]⟩])])
  rw [hle] at hI hJ
  have hS:=issame_c l l hll hll
  rw [decide_eq_true (show l=l from rfl)] at hS
  have s1:(0+7+1) * 96≤140737488355328:=by decide
  refine⟨by show 0+1≤1;omega,[De.cells ⟨3,2,[120],[],[⟨x1,x2,x3,x4⟩],[⟨.mk co cn cr cv cf cs ca,[1,1]⟩,⟨cd0,[1,1]⟩]⟩],rfl,?_⟩
  refine⟨by show 0+7≤(B.map De.cells).length;omega,B.map De.cells,takeAll hBl,by decide,B.map De.cells++[De.cells ⟨3,2,[120],[],[⟨x1,x2,x3,x4⟩],[⟨.mk co cn cr cv cf cs ca,[1,1]⟩,⟨cd0,[1,1]⟩]⟩],rfl,?_⟩
  have ea:[srcV (B++[(De.mk 3 2 [120] [] [⟨x1,x2,x3,x4⟩] [⟨.mk co cn cr cv cf cs ca,[1,1]⟩,⟨cd0,[1,1]⟩])])]=[PV.agg [.lsts 6 (B.map De.cells++[De.cells (De.mk 3 2 [120] [] [⟨x1,x2,x3,x4⟩] [⟨.mk co cn cr cv cf cs ca,[1,1]⟩,⟨cd0,[1,1]⟩])])]]:=by show [PV.agg [.lsts 6 ((B++[(De.mk 3 2 [120] [] [⟨x1,x2,x3,x4⟩] [⟨.mk co cn cr cv cf cs ca,[1,1]⟩,⟨cd0,[1,1]⟩])]).map De.cells)]]=_;rw [List.map_append];rfl
  rw [ea] at hI hJ
  have hn:NilDL [PV.agg [.lsts 6 (B.map De.cells++[De.cells ⟨3,2,[120],[],[⟨x1,x2,x3,x4⟩],[⟨.mk co cn cr cv cf cs ca,[1,1]⟩,⟨cd0,[1,1]⟩]⟩])]] [PV.agg [.lsts 6 (B.map De.cells++[De.cells (De.mk 3 2 [120] [] [⟨x1,x2,x3,x4⟩] [⟨.mk co cn cr cv cf cs ca,[1,1]⟩,⟨cd0,[1,1]⟩])])]]:=nil_src (NilDL.refl _) (B.map De.cells)
  have hI:=hI.arg hn
  have hJ:=hJ.arg hn
  refine hI.uses [4] rfl ⟨_,_,rfl,⟨_,rfl,_,_,rfl,⟨_,rfl,by show 0+(7+1)≤(B.map De.cells++[De.cells ⟨3,2,[120],[],[⟨x1,x2,x3,x4⟩],[⟨.mk co cn cr cv cf cs ca,[1,1]⟩,⟨cd0,[1,1]⟩]⟩]).length;rw [List.length_append,hBl];exact Nat.le_refl _,takeAll (by rw [List.length_append,hBl];rfl)⟩,rfl⟩,rfl⟩ ?_
  refine hJ.uses [4] rfl ⟨_,_,rfl,⟨_,rfl,_,_,rfl,⟨_,rfl,by show 0+(7+1)≤(B.map De.cells++[De.cells ⟨3,2,[120],[],[⟨x1,x2,x3,x4⟩],[⟨.mk co cn cr cv cf cs ca,[1,1]⟩,⟨cd0,[1,1]⟩]⟩]).length;rw [List.length_append,hBl];exact Nat.le_refl _,takeAll (by rw [List.length_append,hBl];rfl)⟩,rfl⟩,rfl⟩ ?_
  refine And.intro (fun _=>?_) (fun h=>absurd rfl h)
  refine hS.eq rfl ?_
  refine works39_c.eq rfl ?_
  exact end1 _ rfl rfl rfl
set_option maxHeartbeats 4000000
theorem arg_ref {m:Nat} {x:PV} (h:ArgT Tryz.prog m TRef x):∃ r:Rf,x=r.pv∧BigR r:=by
 have hp:partsOf Tryz.prog TRef=some [(9,0),(3,1),(9,2),(3,3)]:=by kernel_rfl
 simp only [ArgT,hp] at h
 obtain⟨xs,rfl,h⟩:=h
 obtain⟨r,rfl,hr⟩:=ta_ref h
 exact⟨r,rfl,hr⟩
theorem arg_arr2 {m:Nat} {x:PV} (h:ArgT Tryz.prog m 25 x):∃ v:UInt8 × UInt8,x=.agg [u8 v.1,u8 v.2]:=by
 have hp:partsOf Tryz.prog 25=some [(5,0),(5,1)]:=by kernel_rfl
 simp only [ArgT,hp] at h
 obtain⟨xs,rfl,h⟩:=h
 cases m with
 | zero=>exact h.elim
 | succ m=>
  rw [TyT] at h
  simp only [hp] at h
  obtain⟨x1,_,rfl,_,h1,x2,_,rfl,_,h2,rfl⟩:=h
  obtain⟨a,rfl⟩:=ta_u8 h1
  obtain⟨b,rfl⟩:=ta_u8 h2
  exact⟨(a,b),rfl⟩
theorem arg_arr3 {m:Nat} {x:PV} (h:ArgT Tryz.prog m 24 x):∃ v:UInt8 × UInt8 × UInt8,x=.agg [u8 v.1,u8 v.2.1,u8 v.2.2]:=by
 have hp:partsOf Tryz.prog 24=some [(5,0),(5,1),(5,2)]:=by kernel_rfl
 simp only [ArgT,hp] at h
 obtain⟨xs,rfl,h⟩:=h
 cases m with
 | zero=>exact h.elim
 | succ m=>
  rw [TyT] at h
  simp only [hp] at h
  obtain⟨x1,_,rfl,_,h1,x2,_,rfl,_,h2,x3,_,rfl,_,h3,rfl⟩:=h
  obtain⟨a,rfl⟩:=ta_u8 h1
  obtain⟨b,rfl⟩:=ta_u8 h2
  obtain⟨c,rfl⟩:=ta_u8 h3
  exact⟨(a,b,c),rfl⟩
theorem own:ownKnob Tryz.prog.godebug=none:=by kernel_rfl
abbrev laidP : List (String × DataW Unit) := [("haruspex/lex.keys", Rows.laid_haruspex_lex_keys), ("haruspex/lex.marks", Rows.laid_haruspex_lex_marks)]
theorem door_metP (os:Os) (args:Array Value):laidMetH Tryz.prog laidP ((World.laidAll Tryz.prog os laidP).forCall (fun _ _=>0) ⟨#[],args,[]⟩).memory:=by
 rw [MakeChecks.laidMetH_plain _ _ _ (by kernel_rfl)]
 exact laidMet_laidAll _ (by kernel_rfl) (by kernel_rfl)
theorem gt_okP:gtOK Tryz.prog 4 cx.gt laidP:=
 ⟨by kernel_rfl,⟨213,by kernel_rfl,by kernel_rfl⟩,rfl,by kernel_rfl,⟨214,by kernel_rfl,by kernel_rfl⟩,rfl,trivial⟩
theorem glob_okP {W:World} (h:laidMetH Tryz.prog laidP W):∀ g cs,gget cx.gt g=some cs→GlobV (fzOf W) g cs:=by
 rw [MakeChecks.laidMetH_plain _ _ _ (by kernel_rfl)] at h
 obtain⟨ps,h,_⟩:=h
 exact glob_of_laid gt_okP h
theorem scopeRefs_pure:∀ xs,ArgsT Tryz.prog 8 Tryz.f3.params.toList xs→Pure cx 3 xs (·=.ret [.bool true]):=by
 intro xs h
 rw [Tryz.params3] at h
 obtain⟨x0,_,rfl,h0,x1,_,rfl,h1,x2,_,rfl,h2,x3,_,rfl,h3,x4,_,rfl,h4,rfl⟩:=h
 obtain⟨v0,e0⟩:=ty_u8 (arg_plain (by simp [partsOf,Tryz.underlying5]) h0)
 injection e0 with e0
 subst e0
 obtain⟨v1,rfl,_⟩:=arg_ref h1
 obtain⟨v2,e2⟩:=ty_u8 (arg_plain (by simp [partsOf,Tryz.underlying5]) h2)
 injection e2 with e2
 subst e2
 obtain⟨v3,rfl⟩:=arg_arr3 h3
 obtain⟨v4,rfl⟩:=arg_arr2 h4
 exact scopeRefs_c v0 v1 v2 v3.1 v3.2.1 v3.2.2 v4.1 v4.2
theorem scopeRefs_lifted (os:Os) (started:os.Started) (H:Type) (enc:TypeId × Value→H) :
  ReturnsInHanded {} Tryz.checked os 3 .any (fun w args=>(Rows.scopeRefsSpec.pre enc Tryz.prog Tryz.f3 [] false w args∧laidMetH Tryz.prog laidP w)∧sizedMet enc Tryz.prog Tryz.f3 (OpenSpec.ofChange Rows.scopeRefsSpec) false w args)
   (Rows.scopeRefsSpec.post enc Tryz.prog Tryz.f3 false true false false):=by
 refine returnsInHanded_of_change_and (C:=Tryz.checked) (X:=fun w _=>laidMetH Tryz.prog laidP w) (fun _ _ _ hh h=>h.of_heap hh) own started (by kernel_rfl) Tryz.func3
  (ChangeSpec.witness_shaped (enc:=enc) (C:=Tryz.checked) (os:=os) (X:=fun w _=>laidMetH Tryz.prog laidP w) false (World.laidAll Tryz.prog os laidP) #[.int .u8 0, .agg #[.string ⟨#[]⟩, .int .i64 0, .string ⟨#[]⟩, .int .i64 0], .int .u8 0, .agg #[.int .u8 0, .int .u8 0, .int .u8 0], .agg #[.int .u8 0, .int .u8 0]] 8 (World.laidAll_os _ _ _) (World.shaped_of_ZipB (by kernel_rfl) (by kernel_rfl)) (by kernel_rfl) (by kernel_rfl) (by kernel_rfl) (door_metP os _)) ?_
 intro W base args ds gs before hval hW _ _ hL _
 obtain⟨p,q,hA,hV,_⟩:=id hW
 have hs:Tryz.f3.params.toList.all (supp Tryz.prog 8)=true:=by kernel_rfl
 obtain⟨_,_,_,hlen⟩:=args_of hs (fun j t v ht hv=>hval j t v (by simpa using ht) (by simpa using hv)) hA
 refine(calls_of_pure (cx:=cx) Tryz.func3 (by kernel_rfl) rfl hs scopeRefs_pure hval hA (glob_okP hL)).mono fun e W' ⟨he,h1,h2,h3⟩=>?_
 subst he
 exact⟨_,rfl,post_of_kept (cx:=cx) (m:=8) hs rfl (by kernel_rfl) Tryz.underlying4 (fun ds h=>by
  rw [Tryz.params3] at h
  match ds,h with
  | [_,_,_,_,_],_=>rfl) hW hlen h1 h2 h3⟩
theorem scopeRefs_holds:Rows.ScopeRefsSaid:=
 OpenClaim.holds_of_wide 3 Tryz.f3 rfl rfl rfl rfl rfl rfl rfl ⟨rfl,rfl,rfl,rfl,rfl⟩ rfl rfl rfl rfl rfl (by kernel_rfl) Tryz.func3 (by kernel_rfl)
  (of_decide_eq_true (by kernel_rfl)) (by unfold Func.isWrapper;first | (rw [if_pos (by decide +kernel)];kernel_rfl) | (rw [if_neg (by decide +kernel)];exact⟨rfl,rfl⟩))
  (fun os started H enc _=>scopeRefs_lifted os started H enc)
theorem scopeRefs_card:Rows.ScopeRefsCardSaid:=
 Claim7.holds_tied_plain_at .later [] [.data, .data] true (true, "2fbbf534a6e22c1c9b79bfd1496d202898ccabc8df399125808e88f9538ac76c") true
  scopeRefs_holds (fun _ h=>by cases h) (by kernel_rfl) (fun _ h=>by cases h) scopeRefs_row_tie rfl ⟨rfl,rfl⟩ (by kernel_rfl) rfl
  (fun f fn hf hfn=>by
   obtain rfl : f = 3 := Option.some.inj ((show Tryz.prog.funcNamed "haruspex/haruspexlaw39.ScopeRefs" = some 3 by kernel_rfl).symm.trans hf) |>.symm
   obtain rfl:fn=Tryz.f3:=(Option.some.inj (Tryz.func3.symm.trans hfn)).symm
   exact⟨by kernel_rfl,fun j t ht=>by
    have hall:(Tryz.f3.params.toList.all fun u=>!Tryz.prog.wantsStandIn u)=true:=by kernel_rfl
    exact(show Tryz.prog.wantsStandIn t=false by simpa using List.all_eq_true.1 hall t (by simpa using Array.mem_of_getElem? ht))⟩)
  (by kernel_rfl)
#print axioms scopeRefs_card
end Go.Proofs.YtmepdfingcmkmaaGreatDoor
