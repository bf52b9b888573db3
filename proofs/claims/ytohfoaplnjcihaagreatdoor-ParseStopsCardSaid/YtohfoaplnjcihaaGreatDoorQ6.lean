/- ParseStops: the row and the card. A syntax error of a changed canonical text stands at the first word that cannot be continued. Conditions: those of the card. -/
import Derived.ChangeArms
import Derived.OpenShut
import Derived.WideHanded
import Derived.ChangeSame
import Derived.ProofKit
import Derived.LaidMore
import Derived.LaidLaws
import Derived.Stop.Joined
import Derived.MakeChecks
import Derived.Test.YtohfoaplnjcihaaGreatDoorRows
import Derived.Lay
import Derived.Test.YtohfoaplnjcihaaGreatDoorCards
import Derived.Test.YtohfoaplnjcihaaGreatDoorTie
import Derived.SevenTiedAt
import Derived.Test.YtohfoaplnjcihaaGreatDoorQ5
namespace Go.Proofs.YtohfoaplnjcihaaGreatDoor
open Go Y
set_option maxRecDepth 100000
set_option maxHeartbeats 40000000
structure Dp where
 grain:UInt8
 plate:UInt8
 nodes:List Pt
 choice:Pt
 gains:List Pt
 chooses:Bool
abbrev Dp.cells (d:Dp):List PV:=[u8 d.grain,u8 d.plate, .lsts 9 (d.nodes.map Pt.cells),u8 d.choice.kind,u8 d.choice.card,u8 d.choice.frm,u8 d.choice.modes, .bool d.choice.pl, .lsts 7 (d.choice.cases.map Pc.cells),u8 d.choice.x,u8 d.choice.y,u8 d.choice.z, .lsts 9 (d.gains.map Pt.cells), .bool d.chooses]
structure Dp.ok (d:Dp):Prop where
 nodes:d.nodes.length≤9223372036854775807
 gains:d.gains.length≤9223372036854775807
 ncases:∀ p∈d.nodes,p.cases.length≤9223372036854775807
 gcases:∀ p∈d.gains,p.cases.length≤9223372036854775807
def pt0:Pt:=⟨0,0,0,0,false,[],0,0,0⟩
theorem ptcell {l:List Pt} {k:Nat} (h:k<l.length):(l.map Pt.cells)[k]?=some (l.getD k pt0).cells:=map_at pt0 h
abbrev TKn:TypeId:=100
abbrev TSrc:TypeId:=24
def dpO (d:Dp):AObj:=⟨31,false, .bx (d.cells.map .p)⟩
def kwO (l:List Kn):AObj:=⟨TKn,false, .pus (l.map Kn.cells)⟩
def dyO (Y:List (List PV)):AObj:=⟨TDecl,false, .pus Y⟩
def s1O (v:AV):AObj:=⟨TSrc,false, .bx [v]⟩
theorem flat_iO (l:List Int):flatO (iO l):=⟨rfl,rfl,by
 show flatAL ((l.map i64).map .p)=true
 rw [flatPL_map]
 induction l with
 | nil=>rfl
 | cons a l ih=>simp only [List.map_cons,flatPL,ih,Bool.and_true];rfl⟩
theorem flat_rfs (l:List Rf):flatO (rfsO l):=⟨rfl,rfl,by
 show flatAL ((l.map Rf.cells).flatten.map .p)=true
 rw [flatPL_map]
 induction l with
 | nil=>rfl
 | cons a l ih=>
  rw [List.map_cons,List.flatten_cons]
  simp only [Rf.cells,List.cons_append,List.nil_append,flatPL,ih,Bool.and_true];rfl⟩
theorem nilLL_app:∀ {a b:List (List PV)} {c d:List (List PV)},NilDLL a c→NilDLL b d→NilDLL (a++b) (c++d)
 | [],b,c,d,h,k=>by
  simp only [NilDLL] at h
  subst h;exact k
 | x::a,b,c,d,h,k=>by
  simp only [NilDLL,List.cons_append] at h ⊢
  obtain⟨z,zs,rfl,h1,h2⟩:=h
  exact⟨z,zs++d,rfl,h1,nilLL_app h2 k⟩
theorem nilLL_one {a b:List PV} (h:NilDL a b):NilDLL [a] [b]:=by
 simp only [NilDLL]
 exact⟨_,_,rfl,h,rfl⟩
structure PgS (Y:List (List PV)) (n k:Nat):Prop where
 ds:∃ ds:List De,NilDLL Y (ds.map De.cells)∧PrS ds k∧ds.length=n
theorem PgS.len {Y:List (List PV)} {n k:Nat} (h:PgS Y n k):Y.length=n:=by
 obtain⟨ds,h1,_,h3⟩:=h.ds
 have:=h1.len
 rw [List.length_map] at this
 omega
theorem PgS.snoc {Y:List (List PV)} {n k j:Nat} {c:List PV} {d:De} (h:PgS Y n k) (hc:NilDL c d.cells) (hd:DeS d j):PgS (Y++[c]) (n+1) (k+j):=by
 obtain⟨ds,h1,h2,h3⟩:=h.ds
 refine⟨ds++[d],?_,h2.snoc hd,by rw [List.length_append,h3];rfl⟩
 rw [List.map_append]
 exact nilLL_app h1 (nilLL_one hc)
theorem PgS.le {Y:List (List PV)} {n k k':Nat} (h:PgS Y n k) (hk:k≤k'):PgS Y n k':=by
 obtain⟨ds,h1,h2,h3⟩:=h.ds
 exact⟨ds,h1,h2.le hk,h3⟩
theorem nil_dk {k n:Int} {nm pl:List UInt8} {a b a' b':PV} (h1:NilD a a') (h2:NilD b b'):NilDL [i64 k,i64 n, .str nm, .str pl,a,b] [i64 k,i64 n, .str nm, .str pl,a',b']:=by
 simp only [NilDL]
 exact⟨_,_,rfl,NilD.refl _,_,_,rfl,NilD.refl _,_,_,rfl,NilD.refl _,_,_,rfl,NilD.refl _,_,_,rfl,h1,_,_,rfl,h2,rfl⟩
theorem nil_n0 (s:Nat):NilD .nils (.lsts s []):=by
 simp only [NilD]
 exact .inr (.inr ⟨s,rfl⟩)
theorem pg_two {g s:Int} (hg:0≤g∧g≤12) (hs:0≤s∧s≤2):PgS [[i64 1,i64 g, .str [], .str [], .nils, .nils],[i64 2,i64 s, .str [112], .str [], .nils, .nils]] 2 22:=by
 have h0:PgS [] 0 0:=⟨[],by simp only [NilDLL,List.map_nil],PrS.nil,rfl⟩
 have h1:=h0.snoc (d:=⟨1,g,[],[],[],[]⟩) (nil_dk (nil_n0 4) (nil_n0 11)) (grain_ok (nat_of hg.1 (by omega)))
 exact h1.snoc (d:=⟨2,s,[112],[],[],[]⟩) (nil_dk (nil_n0 4) (nil_n0 11)) (plate_ok (nat_of hs.1 (by omega)))
abbrev otP1:OT:=(.pure 0 (.pure 1 (.pure 2 (.pure 3 (.pure 4 (.pure 5 (.pure 6 (.pure 7 (.pure 8 (.pure 9 (.pure 10 (.pure 11 .fin))))))))))))
abbrev otP15:OT:=(.pure 0 (.pure 1 (.pure 2 (.pure 3 (.pure 4 (.pure 5 (.pure 6 (.pure 7 (.pure 8 (.pure 9 (.pure 10 (.pure 11 (.pure 12 (.pure 13 (.eff 14 [1] (.pure 15 (.eff 16 [1] (.eff 17 [] (.pure 18 (.eff 19 [] .fin .nil)) .nil) .nil)) .nil)))))))))))))))
abbrev otP16:OT:=(.pure 0 (.pure 1 (.pure 2 (.pure 3 (.pure 4 (.pure 5 (.pure 6 (.pure 7 (.pure 8 (.eff 9 [] (.eff 10 [] (.pure 11 .fin) .nil) .nil))))))))))
abbrev otP25:OT:=(.pure 0 (.pure 1 (.pure 2 (.pure 3 (.pure 4 (.pure 5 (.pure 6 (.pure 7 (.pure 8 (.pure 9 (.eff 10 [1] (.pure 11 (.eff 12 [1] (.eff 13 [] (.pure 14 (.eff 15 [] .fin .nil)) .nil) .nil)) .nil)))))))))))
def PqQ (r:PEnd):Prop:=∃ (Y:List (List PV)) (n k:Nat),r=.ret [.agg [.lsts 6 Y]]∧PgS Y n k∧n≤30∧k≤1300
structure LkS (l:List Kn) (i:Nat):Prop where
 ok:∀ k∈l,KnS k
 len:l.length=i
theorem LkS.snoc {l:List Kn} {i:Nat} {k:Kn} (h:LkS l i) (hk:KnS k):LkS (l++[k]) (i+1):=by
 refine⟨fun x hx=>?_,by rw [List.length_append,h.len];rfl⟩
 rcases List.mem_append.1 hx with hx | hx
 ·exact h.ok x hx
 ·rw [List.mem_singleton.1 hx];exact hk
def nmI (i:Nat):List UInt8:=(([97,98,99,100]:List UInt8).drop i).take (i+1 - i)
theorem nmI_ok:∀ i,i<4→nameN (nmI i)=true∧(nmI i).length=1:=by decide
theorem lendT {C:Cx} {g:FuncId} {pargs:List PV} {args:List AV} {H:Hp} {Q0 Q:AE→Hp→Prop} (h:Holds C g (pargs.map .p) ⟨0,[]⟩ Q0) (fs:List Nat) (hm:marksOK H.l fs=true) (ha:ResL (Res (marks H.l fs) 5) args pargs)
  (hQ:∀ e0 H0',Q0 e0 H0'→(nodupK H0'.l && flatAE e0)=true∧flatOs H0'.l∧∃ e H2,renE (rmap 0 [] 0 H.next) e0=e∧(⟨H.next+H0'.next,renH (rmap 0 [] 0 H.next) H0'.l++H.l⟩:Hp)=H2∧Q e H2):Holds C g args H Q:=
 h.lendN fs hm ha fun e0 H0 hq=>by
  obtain⟨h1,h2,e,H2,rfl,rfl,h3⟩:=hQ e0 H0 hq
  exact⟨h1,h2,h3⟩
theorem program_c' (d:Dp) (hd:d.ok):Pure cx 10 [.agg d.cells] PqQ:=by
 refine pure_of_vc Tryz.func10 rfl rfl rfl ?_
 obtain⟨gr,pt,ns,ch,gs,cz⟩:=d
 obtain⟨hd1,hd2,hd3,hd4⟩:=hd
 simp only [] at hd1 hd2 hd3 hd4
 have hns:(ns.map Pt.cells).length=ns.length:=List.length_map ..
 have hgs:(gs.map Pt.cells).length=gs.length:=List.length_map ..
 have hgr:=gr.toNat_lt
 have hpt:=pt.toNat_lt
 refine vdraw_ot otP1 (by kernel_rfl) ?_
 refine⟨by decide,?_⟩
 refine⟨((gr.toNat % 12:Nat):Int),by show _=IntKind.i64.wrap ((gr.toNat:Int).tmod 12);rw [show(gr.toNat:Int).tmod 12=((gr.toNat % 12:Nat):Int) from rfl];exact wrap_i64 (by omega) (by omega),?_⟩
 obtain⟨g,hge⟩:∃ g:Int,g=1+((gr.toNat % 12:Nat):Int):=⟨_,rfl⟩
 refine⟨g,by rw [hge];exact wrap_i64 (by omega) (by omega),?_⟩
 refine⟨by decide,?_⟩
 refine⟨((pt.toNat % 2:Nat):Int),by show _=IntKind.i64.wrap ((pt.toNat:Int).tmod 2);rw [show(pt.toNat:Int).tmod 2=((pt.toNat % 2:Nat):Int) from rfl];exact wrap_i64 (by omega) (by omega),?_⟩
 obtain⟨sz,hse⟩:∃ s:Int,s=1+((pt.toNat % 2:Nat):Int):=⟨_,rfl⟩
 refine⟨sz,by rw [hse];exact wrap_i64 (by omega) (by omega),?_⟩
 have hg:1≤g∧g≤12:=by omega
 have hs:sz=1∨sz=2:=by omega
 clear hge hse
 have hp2:=pg_two (g:=g) (s:=sz) (by omega) (by omega)
 refine⟨Nat × List (List PV) × List Kn,fun x=>[(1, .ptr 0 0 0),(2, .ptr 1 0 0),(3, .p (i64 g)),(4, .p (i64 sz)),(5, .ptr 3 0 0),(6, .sl 4 3 0 x.1),(7, .p (i64 x.1))],fun x=>⟨5,[(4,kwO x.2.2),(3,s1O (.sl 2 6 0 (2+x.1))),(2,dyO x.2.1),(1,s1O (.p .nils)),(0,dpO ⟨gr,pt,ns,ch,gs,cz⟩)]⟩,fun x=>x.1≤4∧PgS x.2.1 (2+x.1) (22+201 * x.1)∧LkS x.2.2 x.1,fun x=>4 - x.1,?_,?_⟩
 ·exact⟨(0,_,[]),⟨by show 0≤4;decide,hp2,⟨fun k hk=>(by cases hk),rfl⟩⟩,ent_of [] [] [(4,3)] rfl (sk) (sk) rfl⟩
 rintro⟨i,Y,l⟩ ⟨k1,k2,k3⟩
 simp only [] at k1 k2 k3
 have hY:=k2.len
 have hL:=k3.len
 by_cases ha:i<ns.length∧i<4
 rotate_left
 ·cases cz
  ·by_cases hi:i<ns.length
   ·refine And.intro (fun _=>?_) (fun h=>absurd (show(i:Int)<((ns.map Pt.cells).length:Nat) by rw [hns];omega) h)
    refine And.intro (fun h=>absurd (show(i:Int)<4 from h) (by omega)) (fun _=>?_)
    exact end1 (.agg [.lsts 6 Y]) rfl ⟨_,rfl,_,_,rfl,⟨_,rfl,by show 0+(2+i)≤Y.length;omega,takeAll (by omega)⟩,rfl⟩ ⟨_,_,_,rfl,k2,by omega,by omega⟩
   ·refine And.intro (fun h=>absurd (show(i:Int)<((ns.map Pt.cells).length:Nat) from h) (by rw [hns];omega)) (fun _=>?_)
    exact end1 (.agg [.lsts 6 Y]) rfl ⟨_,rfl,_,_,rfl,⟨_,rfl,by show 0+(2+i)≤Y.length;omega,takeAll (by omega)⟩,rfl⟩ ⟨_,_,_,rfl,k2,by omega,by omega⟩
  ·by_cases hi:i<ns.length
   ·refine And.intro (fun _=>?_) (fun h=>absurd (show(i:Int)<((ns.map Pt.cells).length:Nat) by rw [hns];omega) h)
    refine And.intro (fun h=>absurd (show(i:Int)<4 from h) (by omega)) (fun _=>?_)
    refine lendT (pargs:=[.agg (ch).cells, .lsts 3 ((l).map Kn.cells), .bool false,i64 sz]) (prefs_h ch (l) (k3).ok (by have:=(k3).len;omega) false sz hs).holds [4] rfl ⟨_,_,rfl,rfl,_,_,rfl,⟨_,rfl,by show 0+(i)≤((l).map Kn.cells).length;rw [List.length_map];have:=(k3).len;omega,takeAll (by rw [List.length_map];have:=(k3).len;omega)⟩,_,_,rfl,rfl,_,_,rfl,rfl,rfl⟩ fun e0 H0 hq=>?_
    obtain⟨rs,cs,rfl,rfl,hrc⟩:=hq
    refine⟨rfl,⟨flat_rfs _,flat_iO _,trivial⟩,_,⟨7,(5,rfsO rs)::(6,iO cs)::[(4,kwO l),(3,s1O (.sl 2 6 0 (2+i))),(2,dyO Y),(1,s1O (.p .nils)),(0,dpO ⟨gr,pt,ns,ch,gs,true⟩)]⟩,rfl,rfl,?_⟩
    refine⟨by show 0+1≤1;omega,_,rfl, .inl ⟨[5],[[i64 4,i64 2, .str [101], .str [],rfl_ rs, .nils]],rfl,⟨_,_,rfl,⟨_,_,rfl,rfl,_,_,rfl,rfl,_,_,rfl,rfl,_,_,rfl,rfl,_,_,rfl,⟨_,rfl,by show 0+rs.length≤(rs.map Rf.cells).length;simp,takeAll (by simp)⟩,_,_,rfl,(by first | exact rfl | exact .inl rfl),rfl⟩,rfl⟩,?_⟩⟩
    refine⟨by show 0+(2+i)≤Y.length;omega,Y,takeAll (by omega),by show(2+i+1) * 96≤140737488355328;omega,Y++[[i64 4,i64 2, .str [101], .str [],rfl_ rs, .nils]],rfl,?_⟩
    refine⟨by show 0+1≤1;omega,[((Kn.mk [101] 2 false)).cells],rfl,?_⟩
    refine⟨by show 0+i≤(l.map Kn.cells).length;rw [List.length_map];omega,l.map Kn.cells,takeAll (by rw [List.length_map];omega),by show(i+1) * 32≤140737488355328;omega,(l++[(Kn.mk [101] 2 false)]).map Kn.cells,by simp,?_⟩
    have k4:=k2.snoc (d:=⟨4,2,[101],[],rs,[]⟩) (nil_dk (NilD.refl _) (nil_n0 11)) (choose_ok (n:=2) (nm:=[101]) (by decide) (by decide) (by decide) hrc.refs hrc.len)
    have k5:LkS (l++[Kn.mk [101] 2 false]) (i+1):=k3.snoc ⟨by show nameN [101]=true;decide,rfl, .inl rfl⟩
    clear k2 k3 hp2 ha hY hL
    generalize Y++[[i64 4,i64 2, .str [101], .str [],rfl_ rs, .nils]]=Y at k4 ⊢
    generalize l++[Kn.mk [101] 2 false]=l at k5 ⊢
    refine⟨Nat × List (List PV),fun x=>[(1, .ptr 0 0 0),(2, .ptr 1 0 0),(4, .p (i64 sz)),(5, .ptr 3 0 0),(6, .sl 4 3 0 (i+1)),(15, .p (i64 x.1))],fun x=>⟨5,[(4,kwO l),(3,s1O (.sl 2 6 0 (2+i+1+x.1))),(2,dyO x.2),(1,s1O (.p .nils)),(0,dpO ⟨gr,pt,ns,ch,gs,true⟩)]⟩,fun x=>x.1≤2∧PgS x.2 (2+i+1+x.1) (22+201 * i+33+192 * x.1),fun x=>2 - x.1,?_,?_⟩
    ·exact⟨(0,Y),⟨by show 0≤2;decide,k4⟩,ent_of [] [(2,8),(4,10)] [] rfl (sk) (sk) rfl⟩
    rintro⟨j,Y⟩ ⟨j1,k2⟩
    simp only [] at j1 k2
    have hY:=k2.len
    by_cases hb:j<gs.length∧j<2
    rotate_left
    ·by_cases hj:j<gs.length
     ·refine And.intro (fun _=>?_) (fun h=>absurd (show(j:Int)<((gs.map Pt.cells).length:Nat) by rw [hgs];omega) h)
      refine And.intro (fun h=>absurd (show(j:Int)<2 from h) (by omega)) (fun _=>?_)
      exact end1 (.agg [.lsts 6 Y]) rfl ⟨_,rfl,_,_,rfl,⟨_,rfl,by show 0+(2+i+1+j)≤Y.length;omega,takeAll (by omega)⟩,rfl⟩ ⟨_,_,_,rfl,k2,by omega,by omega⟩
     ·refine And.intro (fun h=>absurd (show(j:Int)<((gs.map Pt.cells).length:Nat) from h) (by rw [hgs];omega)) (fun _=>?_)
      exact end1 (.agg [.lsts 6 Y]) rfl ⟨_,rfl,_,_,rfl,⟨_,rfl,by show 0+(2+i+1+j)≤Y.length;omega,takeAll (by omega)⟩,rfl⟩ ⟨_,_,_,rfl,k2,by omega,by omega⟩
    obtain⟨hj,hj2⟩:=hb
    have hcell:=ptcell hj
    have hpc:=hd4 _ (getD_memL pt0 hj)
    generalize gs.getD j pt0=p at hcell hpc
    obtain⟨kind,card,frm,modes,pl,ps,x,y,z⟩:=p
    refine And.intro (fun _=>?_) (fun h=>absurd (show(j:Int)<((gs.map Pt.cells).length:Nat) by rw [hgs];omega) h)
    refine And.intro (fun _=>?_) (fun h=>absurd (show(j:Int)<2 by omega) h)
    refine⟨_,⟨by omega,(Pt.mk kind card frm modes pl ps x y z).cells,hcell,rfl⟩,?_⟩
    refine lendT (pargs:=[.agg ((Pt.mk kind card frm modes pl ps x y z)).cells, .lsts 3 ((l).map Kn.cells), .bool false,i64 sz]) (prefs_h (Pt.mk kind card frm modes pl ps x y z) (l) (k5).ok (by have:=(k5).len;omega) false sz hs).holds [4] rfl ⟨_,_,rfl,rfl,_,_,rfl,⟨_,rfl,by show 0+(i+1)≤((l).map Kn.cells).length;rw [List.length_map];have:=(k5).len;omega,takeAll (by rw [List.length_map];have:=(k5).len;omega)⟩,_,_,rfl,rfl,_,_,rfl,rfl,rfl⟩ fun e0 H0 hq=>?_
    obtain⟨rs,cs,rfl,rfl,hrc⟩:=hq
    refine⟨rfl,⟨flat_rfs _,flat_iO _,trivial⟩,_,⟨7,(5,rfsO rs)::(6,iO cs)::[(4,kwO l),(3,s1O (.sl 2 6 0 (2+i+1+j))),(2,dyO Y),(1,s1O (.p .nils)),(0,dpO ⟨gr,pt,ns,ch,gs,true⟩)]⟩,rfl,rfl,?_⟩
    refine vdraw_ot otP25 (by kernel_rfl) ?_
    refine⟨_,⟨by omega,(Pt.mk kind card frm modes pl ps x y z).cells,hcell,rfl⟩,?_⟩
    refine(pcases_c _ rs cs hrc 0 0 ⟨.inl ⟨rfl,rfl⟩⟩ hpc).use [5,6] rfl ⟨_,_,rfl,rfl,_,_,rfl,⟨_,rfl,by show 0+rs.length≤(rs.map Rf.cells).length;simp,takeAll (by simp)⟩,_,_,rfl,⟨_,rfl,by show 0+cs.length≤(cs.map i64).length;simp,takeAll (by simp)⟩,_,_,rfl,rfl,_,_,rfl,rfl,rfl⟩ fun r hr=>?_
    obtain⟨L,rfl,hLs⟩:=hr
    refine⟨⟨rfl,trivial⟩,?_⟩
    refine⟨⟨rfl,trivial⟩,?_⟩
    refine⟨by show 0+1≤1;omega,_,rfl, .inl ⟨[],[[i64 5,i64 0, .str [], .str [],rfl_ rs,(css L)]],rfl,⟨_,_,rfl,⟨_,_,rfl,rfl,_,_,rfl,rfl,_,_,rfl,rfl,_,_,rfl,rfl,_,_,rfl,⟨_,rfl,by show 0+rs.length≤(rs.map Rf.cells).length;simp,takeAll (by simp)⟩,_,_,rfl,(by first | exact rfl | exact .inl rfl),rfl⟩,rfl⟩,?_⟩⟩
    refine⟨by show 0+(2+i+1+j)≤Y.length;omega,Y,takeAll (by omega),by show(2+i+1+j+1) * 96≤140737488355328;omega,Y++[[i64 5,i64 0, .str [], .str [],rfl_ rs,(css L)]],rfl,?_⟩
    refine⟨((j+1:Nat):Int),by rw [Int.natCast_add];exact wrap_i64 (by omega) (by omega),?_⟩
    exact⟨(j+1,Y++[[i64 5,i64 0, .str [], .str [],rfl_ rs,css L]]),⟨by show j+1≤2;omega,(k2.snoc (d:=⟨5,0,[],[],rs,L⟩) (NilDL.refl _) (gain_ok hrc.refs hrc.len hLs)).le (by show 22+201 * i+33+192 * j+192≤22+201 * i+33+192 * (j+1);omega)⟩,ent_of [] [(2,8)] [] rfl (sk) (sk) rfl,by show 2 - (j+1)<2 - j;omega⟩
   ·refine And.intro (fun h=>absurd (show(i:Int)<((ns.map Pt.cells).length:Nat) from h) (by rw [hns];omega)) (fun _=>?_)
    refine lendT (pargs:=[.agg (ch).cells, .lsts 3 ((l).map Kn.cells), .bool false,i64 sz]) (prefs_h ch (l) (k3).ok (by have:=(k3).len;omega) false sz hs).holds [4] rfl ⟨_,_,rfl,rfl,_,_,rfl,⟨_,rfl,by show 0+(i)≤((l).map Kn.cells).length;rw [List.length_map];have:=(k3).len;omega,takeAll (by rw [List.length_map];have:=(k3).len;omega)⟩,_,_,rfl,rfl,_,_,rfl,rfl,rfl⟩ fun e0 H0 hq=>?_
    obtain⟨rs,cs,rfl,rfl,hrc⟩:=hq
    refine⟨rfl,⟨flat_rfs _,flat_iO _,trivial⟩,_,⟨7,(5,rfsO rs)::(6,iO cs)::[(4,kwO l),(3,s1O (.sl 2 6 0 (2+i))),(2,dyO Y),(1,s1O (.p .nils)),(0,dpO ⟨gr,pt,ns,ch,gs,true⟩)]⟩,rfl,rfl,?_⟩
    refine⟨by show 0+1≤1;omega,_,rfl, .inl ⟨[5],[[i64 4,i64 2, .str [101], .str [],rfl_ rs, .nils]],rfl,⟨_,_,rfl,⟨_,_,rfl,rfl,_,_,rfl,rfl,_,_,rfl,rfl,_,_,rfl,rfl,_,_,rfl,⟨_,rfl,by show 0+rs.length≤(rs.map Rf.cells).length;simp,takeAll (by simp)⟩,_,_,rfl,(by first | exact rfl | exact .inl rfl),rfl⟩,rfl⟩,?_⟩⟩
    refine⟨by show 0+(2+i)≤Y.length;omega,Y,takeAll (by omega),by show(2+i+1) * 96≤140737488355328;omega,Y++[[i64 4,i64 2, .str [101], .str [],rfl_ rs, .nils]],rfl,?_⟩
    refine⟨by show 0+1≤1;omega,[((Kn.mk [101] 2 false)).cells],rfl,?_⟩
    refine⟨by show 0+i≤(l.map Kn.cells).length;rw [List.length_map];omega,l.map Kn.cells,takeAll (by rw [List.length_map];omega),by show(i+1) * 32≤140737488355328;omega,(l++[(Kn.mk [101] 2 false)]).map Kn.cells,by simp,?_⟩
    have k4:=k2.snoc (d:=⟨4,2,[101],[],rs,[]⟩) (nil_dk (NilD.refl _) (nil_n0 11)) (choose_ok (n:=2) (nm:=[101]) (by decide) (by decide) (by decide) hrc.refs hrc.len)
    have k5:LkS (l++[Kn.mk [101] 2 false]) (i+1):=k3.snoc ⟨by show nameN [101]=true;decide,rfl, .inl rfl⟩
    clear k2 k3 hp2 ha hY hL
    generalize Y++[[i64 4,i64 2, .str [101], .str [],rfl_ rs, .nils]]=Y at k4 ⊢
    generalize l++[Kn.mk [101] 2 false]=l at k5 ⊢
    refine⟨Nat × List (List PV),fun x=>[(1, .ptr 0 0 0),(2, .ptr 1 0 0),(4, .p (i64 sz)),(5, .ptr 3 0 0),(6, .sl 4 3 0 (i+1)),(15, .p (i64 x.1))],fun x=>⟨5,[(4,kwO l),(3,s1O (.sl 2 6 0 (2+i+1+x.1))),(2,dyO x.2),(1,s1O (.p .nils)),(0,dpO ⟨gr,pt,ns,ch,gs,true⟩)]⟩,fun x=>x.1≤2∧PgS x.2 (2+i+1+x.1) (22+201 * i+33+192 * x.1),fun x=>2 - x.1,?_,?_⟩
    ·exact⟨(0,Y),⟨by show 0≤2;decide,k4⟩,ent_of [] [(2,8),(4,10)] [] rfl (sk) (sk) rfl⟩
    rintro⟨j,Y⟩ ⟨j1,k2⟩
    simp only [] at j1 k2
    have hY:=k2.len
    by_cases hb:j<gs.length∧j<2
    rotate_left
    ·by_cases hj:j<gs.length
     ·refine And.intro (fun _=>?_) (fun h=>absurd (show(j:Int)<((gs.map Pt.cells).length:Nat) by rw [hgs];omega) h)
      refine And.intro (fun h=>absurd (show(j:Int)<2 from h) (by omega)) (fun _=>?_)
      exact end1 (.agg [.lsts 6 Y]) rfl ⟨_,rfl,_,_,rfl,⟨_,rfl,by show 0+(2+i+1+j)≤Y.length;omega,takeAll (by omega)⟩,rfl⟩ ⟨_,_,_,rfl,k2,by omega,by omega⟩
     ·refine And.intro (fun h=>absurd (show(j:Int)<((gs.map Pt.cells).length:Nat) from h) (by rw [hgs];omega)) (fun _=>?_)
      exact end1 (.agg [.lsts 6 Y]) rfl ⟨_,rfl,_,_,rfl,⟨_,rfl,by show 0+(2+i+1+j)≤Y.length;omega,takeAll (by omega)⟩,rfl⟩ ⟨_,_,_,rfl,k2,by omega,by omega⟩
    obtain⟨hj,hj2⟩:=hb
    have hcell:=ptcell hj
    have hpc:=hd4 _ (getD_memL pt0 hj)
    generalize gs.getD j pt0=p at hcell hpc
    obtain⟨kind,card,frm,modes,pl,ps,x,y,z⟩:=p
    refine And.intro (fun _=>?_) (fun h=>absurd (show(j:Int)<((gs.map Pt.cells).length:Nat) by rw [hgs];omega) h)
    refine And.intro (fun _=>?_) (fun h=>absurd (show(j:Int)<2 by omega) h)
    refine⟨_,⟨by omega,(Pt.mk kind card frm modes pl ps x y z).cells,hcell,rfl⟩,?_⟩
    refine lendT (pargs:=[.agg ((Pt.mk kind card frm modes pl ps x y z)).cells, .lsts 3 ((l).map Kn.cells), .bool false,i64 sz]) (prefs_h (Pt.mk kind card frm modes pl ps x y z) (l) (k5).ok (by have:=(k5).len;omega) false sz hs).holds [4] rfl ⟨_,_,rfl,rfl,_,_,rfl,⟨_,rfl,by show 0+(i+1)≤((l).map Kn.cells).length;rw [List.length_map];have:=(k5).len;omega,takeAll (by rw [List.length_map];have:=(k5).len;omega)⟩,_,_,rfl,rfl,_,_,rfl,rfl,rfl⟩ fun e0 H0 hq=>?_
    obtain⟨rs,cs,rfl,rfl,hrc⟩:=hq
    refine⟨rfl,⟨flat_rfs _,flat_iO _,trivial⟩,_,⟨7,(5,rfsO rs)::(6,iO cs)::[(4,kwO l),(3,s1O (.sl 2 6 0 (2+i+1+j))),(2,dyO Y),(1,s1O (.p .nils)),(0,dpO ⟨gr,pt,ns,ch,gs,true⟩)]⟩,rfl,rfl,?_⟩
    refine vdraw_ot otP25 (by kernel_rfl) ?_
    refine⟨_,⟨by omega,(Pt.mk kind card frm modes pl ps x y z).cells,hcell,rfl⟩,?_⟩
    refine(pcases_c _ rs cs hrc 0 0 ⟨.inl ⟨rfl,rfl⟩⟩ hpc).use [5,6] rfl ⟨_,_,rfl,rfl,_,_,rfl,⟨_,rfl,by show 0+rs.length≤(rs.map Rf.cells).length;simp,takeAll (by simp)⟩,_,_,rfl,⟨_,rfl,by show 0+cs.length≤(cs.map i64).length;simp,takeAll (by simp)⟩,_,_,rfl,rfl,_,_,rfl,rfl,rfl⟩ fun r hr=>?_
    obtain⟨L,rfl,hLs⟩:=hr
    refine⟨⟨rfl,trivial⟩,?_⟩
    refine⟨⟨rfl,trivial⟩,?_⟩
    refine⟨by show 0+1≤1;omega,_,rfl, .inl ⟨[],[[i64 5,i64 0, .str [], .str [],rfl_ rs,(css L)]],rfl,⟨_,_,rfl,⟨_,_,rfl,rfl,_,_,rfl,rfl,_,_,rfl,rfl,_,_,rfl,rfl,_,_,rfl,⟨_,rfl,by show 0+rs.length≤(rs.map Rf.cells).length;simp,takeAll (by simp)⟩,_,_,rfl,(by first | exact rfl | exact .inl rfl),rfl⟩,rfl⟩,?_⟩⟩
    refine⟨by show 0+(2+i+1+j)≤Y.length;omega,Y,takeAll (by omega),by show(2+i+1+j+1) * 96≤140737488355328;omega,Y++[[i64 5,i64 0, .str [], .str [],rfl_ rs,(css L)]],rfl,?_⟩
    refine⟨((j+1:Nat):Int),by rw [Int.natCast_add];exact wrap_i64 (by omega) (by omega),?_⟩
    exact⟨(j+1,Y++[[i64 5,i64 0, .str [], .str [],rfl_ rs,css L]]),⟨by show j+1≤2;omega,(k2.snoc (d:=⟨5,0,[],[],rs,L⟩) (NilDL.refl _) (gain_ok hrc.refs hrc.len hLs)).le (by show 22+201 * i+33+192 * j+192≤22+201 * i+33+192 * (j+1);omega)⟩,ent_of [] [(2,8)] [] rfl (sk) (sk) rfl,by show 2 - (j+1)<2 - j;omega⟩
 obtain⟨hi,hi4⟩:=ha
 have hcell:=ptcell hi
 have hpc:=hd3 _ (getD_memL pt0 hi)
 generalize ns.getD i pt0=p at hcell hpc
 obtain⟨kind,card,frm,modes,pl,ps,x,y,z⟩:=p
 have hcd:=card.toNat_lt
 have hnm:=nmI_ok i hi4
 refine And.intro (fun _=>?_) (fun h=>absurd (show(i:Int)<((ns.map Pt.cells).length:Nat) by rw [hns];omega) h)
 refine And.intro (fun _=>?_) (fun h=>absurd (show(i:Int)<4 by omega) h)
 cases pl
 ·refine⟨_,⟨by omega,(Pt.mk kind card frm modes false ps x y z).cells,hcell,rfl⟩,?_⟩
  refine⟨by decide,?_⟩
  refine⟨((card.toNat % 2:Nat):Int),by show _=IntKind.i64.wrap ((card.toNat:Int).tmod 2);rw [show(card.toNat:Int).tmod 2=((card.toNat % 2:Nat):Int) from rfl];exact wrap_i64 (by omega) (by omega),?_⟩
  obtain⟨kk,hkk⟩:∃ kk,kk=2+card.toNat % 2:=⟨_,rfl⟩
  refine⟨((kk:Nat):Int),by rw [hkk,Int.natCast_add];exact wrap_i64 (by omega) (by omega),?_⟩
  refine lendT (pargs:=[.agg ((Pt.mk kind card frm modes false ps x y z)).cells, .lsts 3 ((l).map Kn.cells), .bool false,i64 sz]) (prefs_h (Pt.mk kind card frm modes false ps x y z) (l) (k3).ok (by have:=(k3).len;omega) false sz hs).holds [4] rfl ⟨_,_,rfl,rfl,_,_,rfl,⟨_,rfl,by show 0+(i)≤((l).map Kn.cells).length;rw [List.length_map];have:=(k3).len;omega,takeAll (by rw [List.length_map];have:=(k3).len;omega)⟩,_,_,rfl,rfl,_,_,rfl,rfl,rfl⟩ fun e0 H0 hq=>?_
  obtain⟨rs,cs,rfl,rfl,hrc⟩:=hq
  refine⟨rfl,⟨flat_rfs _,flat_iO _,trivial⟩,_,⟨8,(6,rfsO rs)::(7,iO cs)::((5,ptO (Pt.mk kind card frm modes false ps x y z))::[(4,kwO l),(3,s1O (.sl 2 6 0 (2+i))),(2,dyO Y),(1,s1O (.p .nils)),(0,dpO ⟨gr,pt,ns,ch,gs,cz⟩)])⟩,rfl,rfl,?_⟩
  refine vdraw_ot otP15 (by kernel_rfl) ?_
  refine⟨((i+1:Nat):Int),by rw [Int.natCast_add];exact wrap_i64 (by omega) (by omega),?_⟩
  refine⟨by show(0:Int)≤(i:Nat)∧((i:Nat):Int)≤((i+1:Nat):Int)∧((i+1:Nat):Int)≤4;omega,?_⟩
  refine(pcases_c _ rs cs hrc kk g ⟨.inr ⟨by omega,hg⟩⟩ hpc).use [6,7] rfl ⟨_,_,rfl,rfl,_,_,rfl,⟨_,rfl,by show 0+rs.length≤(rs.map Rf.cells).length;simp,takeAll (by simp)⟩,_,_,rfl,⟨_,rfl,by show 0+cs.length≤(cs.map i64).length;simp,takeAll (by simp)⟩,_,_,rfl,rfl,_,_,rfl,rfl,rfl⟩ fun r hr=>?_
  obtain⟨L,rfl,hLs⟩:=hr
  refine⟨⟨rfl,trivial⟩,?_⟩
  refine⟨⟨rfl,trivial⟩,?_⟩
  refine⟨by show 0+1≤1;omega,_,rfl, .inl ⟨[],[[i64 3,i64 ((kk:Nat):Int), .str (nmI i), .str [],rfl_ rs,(css L)]],rfl,⟨_,_,rfl,⟨_,_,rfl,rfl,_,_,rfl,rfl,_,_,rfl,rfl,_,_,rfl,rfl,_,_,rfl,⟨_,rfl,by show 0+rs.length≤(rs.map Rf.cells).length;simp,takeAll (by simp)⟩,_,_,rfl,(by first | exact rfl | exact .inl rfl),rfl⟩,rfl⟩,?_⟩⟩
  refine⟨by show 0+(2+i)≤Y.length;omega,Y,takeAll (by omega),by show(2+i+1) * 96≤140737488355328;omega,Y++[[i64 3,i64 ((kk:Nat):Int), .str (nmI i), .str [],rfl_ rs,(css L)]],rfl,?_⟩
  refine vdraw_ot otP16 (by kernel_rfl) ?_
  refine⟨((i+1:Nat):Int),by rw [Int.natCast_add];exact wrap_i64 (by omega) (by omega),?_⟩
  refine⟨by show(0:Int)≤(i:Nat)∧((i:Nat):Int)≤((i+1:Nat):Int)∧((i+1:Nat):Int)≤4;omega,?_⟩
  refine⟨by show 0+1≤1;omega,[((Kn.mk (nmI i) ((kk:Nat):Int) false)).cells],rfl,?_⟩
  refine⟨by show 0+i≤(l.map Kn.cells).length;rw [List.length_map];omega,l.map Kn.cells,takeAll (by rw [List.length_map];omega),by show(i+1) * 32≤140737488355328;omega,(l++[(Kn.mk (nmI i) ((kk:Nat):Int) false)]).map Kn.cells,by simp,?_⟩
  refine⟨((i+1:Nat):Int),by rw [Int.natCast_add];exact wrap_i64 (by omega) (by omega),?_⟩
  exact⟨(i+1,Y++[[i64 3,i64 ((kk:Nat):Int), .str (nmI i), .str [],rfl_ rs,css L]],l++[Kn.mk (nmI i) ((kk:Nat):Int) false]),⟨by show i+1≤4;omega,(k2.snoc (d:=⟨3,((kk:Nat):Int),nmI i,[],rs,L⟩) (NilDL.refl _) (node_ok (n:=((kk:Nat):Int)) (nat_of (by omega) (by omega)) hnm.1 hnm.2 (.inl rfl) hrc.refs hrc.len hLs)).le (by show 22+201 * i+201≤22+201 * (i+1);omega),k3.snoc ⟨hnm.1,hnm.2,by show((kk:Nat):Int)=2∨((kk:Nat):Int)=3;omega⟩⟩,ent_of [] [(2,9),(4,11)] [] rfl (sk) (sk) rfl,by show 4 - (i+1)<4 - i;omega⟩
 ·refine⟨_,⟨by omega,(Pt.mk kind card frm modes true ps x y z).cells,hcell,rfl⟩,?_⟩
  refine⟨by decide,?_⟩
  refine⟨((card.toNat % 2:Nat):Int),by show _=IntKind.i64.wrap ((card.toNat:Int).tmod 2);rw [show(card.toNat:Int).tmod 2=((card.toNat % 2:Nat):Int) from rfl];exact wrap_i64 (by omega) (by omega),?_⟩
  refine⟨2+((card.toNat % 2:Nat):Int),wrap_i64 (by omega) (by omega),?_⟩
  refine lendT (pargs:=[.agg ((Pt.mk kind card frm modes true ps x y z)).cells, .lsts 3 ((l).map Kn.cells), .bool true,i64 sz]) (prefs_h (Pt.mk kind card frm modes true ps x y z) (l) (k3).ok (by have:=(k3).len;omega) true sz hs).holds [4] rfl ⟨_,_,rfl,rfl,_,_,rfl,⟨_,rfl,by show 0+(i)≤((l).map Kn.cells).length;rw [List.length_map];have:=(k3).len;omega,takeAll (by rw [List.length_map];have:=(k3).len;omega)⟩,_,_,rfl,rfl,_,_,rfl,rfl,rfl⟩ fun e0 H0 hq=>?_
  obtain⟨rs,cs,rfl,rfl,hrc⟩:=hq
  refine⟨rfl,⟨flat_rfs _,flat_iO _,trivial⟩,_,⟨8,(6,rfsO rs)::(7,iO cs)::((5,ptO (Pt.mk kind card frm modes true ps x y z))::[(4,kwO l),(3,s1O (.sl 2 6 0 (2+i))),(2,dyO Y),(1,s1O (.p .nils)),(0,dpO ⟨gr,pt,ns,ch,gs,cz⟩)])⟩,rfl,rfl,?_⟩
  refine vdraw_ot otP15 (by kernel_rfl) ?_
  refine⟨((i+1:Nat):Int),by rw [Int.natCast_add];exact wrap_i64 (by omega) (by omega),?_⟩
  refine⟨by show(0:Int)≤(i:Nat)∧((i:Nat):Int)≤((i+1:Nat):Int)∧((i+1:Nat):Int)≤4;omega,?_⟩
  refine(pcases_c _ rs cs hrc 2 g ⟨.inr ⟨by omega,hg⟩⟩ hpc).use [6,7] rfl ⟨_,_,rfl,rfl,_,_,rfl,⟨_,rfl,by show 0+rs.length≤(rs.map Rf.cells).length;simp,takeAll (by simp)⟩,_,_,rfl,⟨_,rfl,by show 0+cs.length≤(cs.map i64).length;simp,takeAll (by simp)⟩,_,_,rfl,rfl,_,_,rfl,rfl,rfl⟩ fun r hr=>?_
  obtain⟨L,rfl,hLs⟩:=hr
  refine⟨⟨rfl,trivial⟩,?_⟩
  refine⟨⟨rfl,trivial⟩,?_⟩
  refine⟨by show 0+1≤1;omega,_,rfl, .inl ⟨[],[[i64 3,i64 ((2:Nat):Int), .str (nmI i), .str [112],rfl_ rs,(css L)]],rfl,⟨_,_,rfl,⟨_,_,rfl,rfl,_,_,rfl,rfl,_,_,rfl,rfl,_,_,rfl,rfl,_,_,rfl,⟨_,rfl,by show 0+rs.length≤(rs.map Rf.cells).length;simp,takeAll (by simp)⟩,_,_,rfl,(by first | exact rfl | exact .inl rfl),rfl⟩,rfl⟩,?_⟩⟩
  refine⟨by show 0+(2+i)≤Y.length;omega,Y,takeAll (by omega),by show(2+i+1) * 96≤140737488355328;omega,Y++[[i64 3,i64 ((2:Nat):Int), .str (nmI i), .str [112],rfl_ rs,(css L)]],rfl,?_⟩
  refine vdraw_ot otP16 (by kernel_rfl) ?_
  refine⟨((i+1:Nat):Int),by rw [Int.natCast_add];exact wrap_i64 (by omega) (by omega),?_⟩
  refine⟨by show(0:Int)≤(i:Nat)∧((i:Nat):Int)≤((i+1:Nat):Int)∧((i+1:Nat):Int)≤4;omega,?_⟩
  refine⟨by show 0+1≤1;omega,[((Kn.mk (nmI i) ((2:Nat):Int) true)).cells],rfl,?_⟩
  refine⟨by show 0+i≤(l.map Kn.cells).length;rw [List.length_map];omega,l.map Kn.cells,takeAll (by rw [List.length_map];omega),by show(i+1) * 32≤140737488355328;omega,(l++[(Kn.mk (nmI i) ((2:Nat):Int) true)]).map Kn.cells,by simp,?_⟩
  refine⟨((i+1:Nat):Int),by rw [Int.natCast_add];exact wrap_i64 (by omega) (by omega),?_⟩
  exact⟨(i+1,Y++[[i64 3,i64 ((2:Nat):Int), .str (nmI i), .str [112],rfl_ rs,css L]],l++[Kn.mk (nmI i) ((2:Nat):Int) true]),⟨by show i+1≤4;omega,(k2.snoc (d:=⟨3,((2:Nat):Int),nmI i,[112],rs,L⟩) (NilDL.refl _) (node_ok (n:=((2:Nat):Int)) (nat_of (by omega) (by omega)) hnm.1 hnm.2 (.inr rfl) hrc.refs hrc.len hLs)).le (by show 22+201 * i+201≤22+201 * (i+1);omega),k3.snoc ⟨hnm.1,hnm.2,by show((2:Nat):Int)=2∨((2:Nat):Int)=3;omega⟩⟩,ent_of [] [(2,9),(4,11)] [] rfl (sk) (sk) rfl,by show 4 - (i+1)<4 - i;omega⟩
theorem program_c (d:Dp) (hd:d.ok):Pure cx 10 [.agg d.cells] fun r=>∃ ds,r=.ret [srcV ds]∧DrP ds:=
 (program_c' d hd).weak fun r hr=>by
  obtain⟨Y,n,k,rfl,h1,h2,h3⟩:=hr
  obtain⟨ds,g1,g2,g3⟩:=h1.ds
  refine⟨.ret [srcV ds],⟨_,rfl,_,_,rfl,?_,rfl⟩,ds,rfl,g2.fin (by omega) h3⟩
  show NilD (.agg [.lsts 6 Y]) (.agg [.lsts 6 (ds.map De.cells)])
  simp only [NilD,NilDL]
  exact⟨_,rfl,_,_,rfl,⟨_,rfl,g1⟩,rfl⟩
structure Ed where
 place:UInt16
 cut:UInt16
 kind:UInt8
abbrev Ed.cells (E:Ed):List PV:=[.int .u16 (E.place.toNat:Nat), .int .u16 (E.cut.toNat:Nat),u8 E.kind]
abbrev Ed.pv (E:Ed):PV:=.agg E.cells
def someL:List (List UInt8):=[[],[32],[32,59,32],[32,44,32],[32,58,32],[32,123,32],[32,125,32],[32,40,32],[32,41,32],[32,91,32],[32,93,32],[32,61,32],[32,45,32],[32,43,32],[32,105,110,32],[32,110,111,116,32],[32,97,110,100,32],[32,111,114,32],[32,101,108,115,101,32],[32,97,108,108,32],[32,99,111,117,110,116,32],[32,120,32],[32,55,32],[32,63,32]]
theorem edit_c (E:Ed) (s:List UInt8) (hs:s.length≤100000):Pure cx 21 [E.pv, .str s] fun r=>∃ (a b:Nat) (w:List UInt8),a≤b∧w∈someL∧r=.ret [.str ((s.take a++w)++s.drop b)]:=by
 refine pure_of_vc Tryz.func21 rfl rfl rfl ?_
 have hk:E.kind.toNat<256:=E.kind.toNat_lt
 have ha:E.place.toNat<65536:=E.place.toNat_lt
 have hc:E.cut.toNat<65536:=E.cut.toNat_lt
 obtain⟨w,hw⟩:∃ w,w=someL.getD (E.kind.toNat % 24) []:=⟨_,rfl⟩
 have hmem:w∈someL:=by rw [hw];exact getD_memL [] (by show _<24;omega)
 have hwl:w.length≤14:=by
  have:∀ v∈someL,v.length≤14:=by decide
  rw [hw]
  exact this _ (getD_memL [] (by show _<24;omega))
 have e1:((E.kind.toNat:Nat):Int).tmod 24=((E.kind.toNat % 24:Nat):Int):=rfl
 refine⟨by decide,?_⟩
 refine⟨_,⟨⟨by show(0:Int)≤((E.kind.toNat:Nat):Int).tmod 24;rw [e1];omega,by show((E.kind.toNat:Nat):Int).tmod 24<24;rw [e1];omega⟩, .str w,ldInP1 (by kernel_rfl) (by show(someL.map PV.str)[(((E.kind.toNat:Nat):Int).tmod 24).toNat * 1]?=_;rw [e1,hw,Int.toNat_natCast,Nat.mul_one];exact tcell (l:=someL) (by show _<24;omega)),rfl⟩,?_⟩
 refine⟨((E.place.toNat:Nat):Int),wrap_i64 (by omega) (by omega),?_⟩
 refine⟨((s.length+1:Nat):Int),by rw [Int.natCast_add];exact wrap_i64 (by omega) (by omega),?_⟩
 refine⟨by omega,?_⟩
 obtain⟨a,hA⟩:∃ a,a=E.place.toNat % (s.length+1):=⟨_,rfl⟩
 have hal:a<s.length+1:=by rw [hA];exact Nat.mod_lt _ (by omega)
 have e2:((E.place.toNat:Nat):Int).tmod ((s.length+1:Nat):Int)=(a:Nat):=by rw [hA];rfl
 have e3:((E.cut.toNat:Nat):Int).tmod 8=((E.cut.toNat % 8:Nat):Int):=rfl
 refine VDraw.seq rfl ?_
 refine⟨by show(0:Int)≤((E.place.toNat:Nat):Int).tmod ((s.length+1:Nat):Int)∧((E.place.toNat:Nat):Int).tmod ((s.length+1:Nat):Int)≤(s.length:Nat);rw [e2];omega,?_⟩
 have hm0:(((E.place.toNat:Nat):Int).tmod ((s.length+1:Nat):Int)).toNat=a:=by rw [e2];exact Int.toNat_natCast a
 refine⟨by show(s.take (((E.place.toNat:Nat):Int).tmod ((s.length+1:Nat):Int)).toNat).length+w.length≤9223372036854775807;rw [List.length_take];omega,?_⟩
 refine⟨by decide,?_⟩
 refine⟨((E.cut.toNat % 8:Nat):Int),by show _=IntKind.i64.wrap (((E.cut.toNat:Nat):Int).tmod 8);rw [e3];exact wrap_i64 (by omega) (by omega),?_⟩
 refine⟨((a+E.cut.toNat % 8:Nat):Int),by show _=IntKind.i64.wrap (((E.place.toNat:Nat):Int).tmod ((s.length+1:Nat):Int)+((E.cut.toNat % 8:Nat):Int));rw [e2,← Int.natCast_add];exact wrap_i64 (by omega) (by omega),?_⟩
 refine⟨by show(0:Int)≤(if ((a+E.cut.toNat % 8:Nat):Int)<(s.length:Nat) then((a+E.cut.toNat % 8:Nat):Int) else(s.length:Nat))∧(if ((a+E.cut.toNat % 8:Nat):Int)<(s.length:Nat) then((a+E.cut.toNat % 8:Nat):Int) else(s.length:Nat))≤(s.length:Nat);split <;> omega,?_⟩
 have hfin:∀ z:Int,(s.take (((E.place.toNat:Nat):Int).tmod ((s.length+1:Nat):Int)).toNat++w++s.drop z.toNat).length≤100000+100000+14:=fun z=>by
  rw [List.length_append,List.length_append,List.length_take,List.length_drop];omega
 refine⟨by have:=hfin (if ((a+E.cut.toNat % 8:Nat):Int)<(s.length:Nat) then((a+E.cut.toNat % 8:Nat):Int) else(s.length:Nat));rw [List.length_append] at this;exact Nat.le_trans this (by decide),?_⟩
 refine end1 _ rfl rfl ?_
 refine⟨a,(if ((a+E.cut.toNat % 8:Nat):Int)<(s.length:Nat) then((a+E.cut.toNat % 8:Nat):Int) else(s.length:Nat)).toNat,w,?_,hmem,?_⟩
 ·split <;> omega
 ·show PEnd.ret [.str ((s.take (((E.place.toNat:Nat):Int).tmod ((s.length+1:Nat):Int)).toNat++w)++s.drop (if ((a+E.cut.toNat % 8:Nat):Int)<(s.length:Nat) then((a+E.cut.toNat % 8:Nat):Int) else(s.length:Nat)).toNat)]=_
  rw [hm0]
end Go.Proofs.YtohfoaplnjcihaaGreatDoor
namespace Go.Proofs.YtohfoaplnjcihaaGreatDoor
open Go Y
set_option maxRecDepth 100000
set_option maxHeartbeats 4000000
def Fw {α:Type} (q:Nat) (r:Rd α):Prop:=match r with
 | .inl p=>q≤p
 | .inr x=>q≤x.2
theorem Fw.mono {α:Type} {q q0:Nat} {r:Rd α} (h:Fw q r) (hq:q0≤q):Fw q0 r:=by
 cases r with
 | inl p=>exact Nat.le_trans hq h
 | inr x=>exact Nat.le_trans hq h
theorem Fw.bind {α β:Type} {q:Nat} {r:Rd α} {k:α→Nat→Rd β} (h:Fw q r) (hk:∀ a q',q≤q'→Fw q' (k a q')):Fw q (r.then k):=by
 cases r with
 | inl p=>exact h
 | inr x=>exact(hk x.1 x.2 h).mono h
theorem Fw.ite {α:Type} {q:Nat} {c:Prop} [Decidable c] {a b:Rd α} (ha:Fw q a) (hb:Fw q b):Fw q (if c then a else b):=by
 split
 ·exact ha
 ·exact hb
theorem Fw.ret {α:Type} {q q':Nat} {a:α} (h:q≤q'):Fw q (.inr (a,q'):Rd α):=h
theorem Fw.no {α:Type} {q q':Nat} (h:q≤q'):Fw q (.inl q':Rd α):=h
structure LF {α:Type} (e q:Nat) (r r':Rd α):Prop where
 fw:Fw q r
 er:∀ p,r=.inl p→p<e→r'=.inl p
 ok:∀ a q',r=.inr (a,q')→q'<e→r'=.inr (a,q')
theorem LF.far {α:Type} {e q:Nat} {r r':Rd α} (h:Fw q r) (hq:e≤q):LF e q r r':=by
 refine⟨h,fun p e1 hp=>?_,fun a q' e1 hp=>?_⟩
 ·subst e1
  have h:q≤p:=h
  omega
 ·subst e1
  have h:q≤q':=h
  omega
theorem LF.near {α:Type} {e q:Nat} {r r':Rd α} (h:Fw q r) (hn:q<e→LF e q r r'):LF e q r r':=by
 rcases Nat.lt_or_ge q e with h1 | h1
 ·exact hn h1
 ·exact .far h h1
theorem LF.mono {α:Type} {e q q0:Nat} {r r':Rd α} (h:LF e q r r') (hq:q0≤q):LF e q0 r r':=⟨h.fw.mono hq,h.er,h.ok⟩
theorem LF.bind {α β:Type} {e q:Nat} {r r':Rd α} {k k':α→Nat→Rd β} (h:LF e q r r') (hk:∀ a q',q≤q'→LF e q' (k a q') (k' a q')):LF e q (r.then k) (r'.then k'):=by
 refine⟨h.fw.bind fun a q' hq=>(hk a q' hq).fw,fun p e1 hp=>?_,fun b q2 e1 hp=>?_⟩
 ·cases r with
  | inl p'=>
   injection e1 with e1
   subst e1
   rw [h.er _ rfl hp];rfl
  | inr x=>
   have h1:q≤x.2:=h.fw
   have e1:k x.1 x.2=.inl p:=e1
   have h2:=(hk x.1 x.2 h1).fw
   rw [e1] at h2
   have h2:x.2≤p:=h2
   rw [h.ok x.1 x.2 rfl (by omega)]
   exact(hk x.1 x.2 h1).er p e1 hp
 ·cases r with
  | inl p'=>cases e1
  | inr x=>
   have h1:q≤x.2:=h.fw
   have e1:k x.1 x.2=.inr (b,q2):=e1
   have h2:=(hk x.1 x.2 h1).fw
   rw [e1] at h2
   have h2:x.2≤q2:=h2
   rw [h.ok x.1 x.2 rfl (by omega)]
   exact(hk x.1 x.2 h1).ok b q2 e1 hp
theorem LF.ite {α:Type} {e q:Nat} {c c':Prop} [Decidable c] [Decidable c'] {a a' b b':Rd α} (hc:q<e→(c ↔ c')) (ha:LF e q a a') (hb:LF e q b b'):LF e q (if c then a else b) (if c' then a' else b'):=by
 refine .near (ha.fw.ite hb.fw) fun hq=>?_
 have hc:=hc hq
 by_cases h:c
 ·rw [if_pos h,if_pos (hc.1 h)];exact ha
 ·rw [if_neg h,if_neg (fun h'=>h (hc.2 h'))];exact hb
theorem LF.ret {α:Type} {e q q':Nat} {a:α} (h:q≤q'):LF e q (.inr (a,q'):Rd α) (.inr (a,q')):=⟨h,fun p e1 _=>(by cases e1),fun a q2 e1 _=>e1⟩
theorem LF.no {α:Type} {e q q':Nat} (h:q≤q'):LF e q (.inl q':Rd α) (.inl q'):=⟨h,fun p e1 _=>e1,fun a q2 e1 _=>(by cases e1)⟩
theorem int_mv {ws:List Wd} {q q':Nat} {n:Int} (h:intR ws q=.inr (n,q')):q+1≤q':=by
 have hn:∀ (q q':Nat) (n:Int),numR ws q=.inr (n,q')→q'=q+1:=fun q q' n h=>by
  unfold numR at h
  split at h
  ·injection h with h;injection h with _ h;exact h.symm
  ·cases h
 unfold intR at h
 split at h
 ·cases hx:numR ws (q+1) with
  | inl p=>rw [hx] at h;cases h
  | inr x=>
   rw [hx] at h
   have h:(Sum.inr (-x.1,x.2):Rd Int)=.inr (n,q'):=h
   injection h with h;injection h with _ h
   have:=hn _ _ _ hx
   omega
 ·have:=hn _ _ _ h;omega
def Agr (ws vs:List Wd) (e:Nat):Prop:=∀ i,i<e→txt ws i=txt vs i∧knd ws i=knd vs i
section
variable {ws vs:List Wd} {e:Nat} (A:Agr ws vs e)
include A
theorem agT {s:List UInt8} {q:Nat} (hq:q<e):txt ws q=s ↔ txt vs q=s:=by rw [(A q hq).1]
theorem agK {k:Int} {q:Nat} (hq:q<e):knd ws q=k ↔ knd vs q=k:=by rw [(A q hq).2]
theorem must_lf (s:List UInt8) (q:Nat):LF e q (mustR ws s q) (mustR vs s q):=.ite (agT A) (.ret (Nat.le_succ _)) (.no (Nat.le_refl _))
theorem musts_lf:∀ (l:List (List UInt8)) (q:Nat),LF e q (mustsR ws l q) (mustsR vs l q)
 | [],q=>.ret (Nat.le_refl _)
 | s::l,q=>(must_lf A s q).bind fun _ q' _=>musts_lf l q'
theorem name_lf (q:Nat):LF e q (nameR ws q) (nameR vs q):=by
 refine .near (Fw.ite (.ret (Nat.le_succ _)) (.no (Nat.le_refl _))) fun hq=>?_
 unfold nameR
 rw [(A q hq).1]
 exact .ite (agK A) (.ret (Nat.le_succ _)) (.no (Nat.le_refl _))
theorem num_lf (q:Nat):LF e q (numR ws q) (numR vs q):=by
 refine .near (Fw.ite (.ret (Nat.le_succ _)) (.no (Nat.le_refl _))) fun hq=>?_
 unfold numR
 rw [(A q hq).1]
 exact .ite (agK A) (.ret (Nat.le_succ _)) (.no (Nat.le_refl _))
theorem rtail_lf (nm:List UInt8) (m:Int) (pl:List UInt8) (n:Int) (q:Nat):LF e q (refTail ws nm m pl n q) (refTail vs nm m pl n q):=(must_lf A _ q).bind fun _ _ _=>.ret (Nat.le_refl _)
theorem ref_lf (q:Nat):LF e q (refR ws q) (refR vs q):=by
 refine(name_lf A q).bind fun nm q _=>.ite (agT A) (.mono (q:=q+1) ?_ (Nat.le_succ _)) (.ret (Nat.le_refl _))
 refine .ite (agT A) ((rtail_lf A _ _ _ _ _).mono (Nat.le_succ _)) (.ite (agK A) ((num_lf A _).bind fun n q _=>rtail_lf A _ _ _ _ _) ((name_lf A _).bind fun pl q _=>.ite (agT A) (((num_lf A _).bind fun n q _=>rtail_lf A _ _ _ _ _).mono (Nat.le_succ _)) (rtail_lf A _ _ _ _ _)))
theorem more_lf {α:Type} {rd rd':Nat→Rd α} (hrd:∀ q,LF e q (rd q) (rd' q)):∀ (F F':Nat) (acc:List α) (q:Nat),(q<e→e<q+F∧e<q+F')→LF e q (moreR ws rd F acc q) (moreR vs rd' F' acc q)
 | 0,F',acc,q,h=>.near (.no (Nat.le_refl _)) fun hq=>by have:=h hq;omega
 | F+1,F',acc,q,h=>by
  have step:∀ G,(q<e→e<q+(G+1))→LF e q (moreR ws rd (F+1) acc q) (moreR vs rd' (G+1) acc q):=fun G hG=>by
   rw [moreR,moreR]
   refine .ite (agT A) (.mono (q:=q+1) ?_ (Nat.le_succ _)) (.ret (Nat.le_refl _))
   exact(hrd (q+1)).bind fun a q' hq'=>more_lf hrd F G (acc++[a]) q' fun hq=>by
    have:=h (by omega);have:=hG (by omega);omega
  cases F' with
  | zero=>exact .near ((step e (fun _=>by omega)).fw) fun hq=>by have:=h hq;omega
  | succ G=>exact step G fun hq=>(h hq).2
theorem list_lf {α:Type} {rd rd':Nat→Rd α} (hrd:∀ q,LF e q (rd q) (rd' q)) {F F':Nat} (q:Nat) (h:q<e→e<q+F∧e<q+F'):LF e q (listR ws rd F q) (listR vs rd' F' q):=
 (hrd q).bind fun a q' _=>more_lf A hrd F F' [a] q' fun _=>by have:=h (by omega);omega
theorem refs_lf {F F':Nat} (h:e<F) (h':e<F') (key:List UInt8) (q:Nat):LF e q (refsR ws F key q) (refsR vs F' key q):=
 .ite (agT A) ((list_lf A (ref_lf A) (q+1) fun _=>by omega).mono (Nat.le_succ _)) (.ret (Nat.le_refl _))
theorem must_then {β:Type} {s:List UInt8} {q:Nat} {k k':Unit→Nat→Rd β} (hk:LF e (q+1) (k () (q+1)) (k' () (q+1))):LF e q ((mustR ws s q).then k) ((mustR vs s q).then k'):=by
 have e1:∀ (us:List Wd) (k:Unit→Nat→Rd β),(mustR us s q).then k=if txt us q=s then k () (q+1) else .inl q:=fun us k=>by
  unfold mustR
  split <;> rfl
 rw [e1,e1]
 exact .ite (agT A) (hk.mono (Nat.le_succ _)) (.no (Nat.le_refl _))
theorem rel_lf (q:Nat):LF e q (relR ws q) (relR vs q):=
 .ite (agT A) (.ret (Nat.le_succ _)) (.ite (agT A) (.ret (Nat.le_succ _)) (.ite (agT A) (.ret (Nat.le_succ _)) (.ite (agT A) (.ret (Nat.le_succ _)) (.no (Nat.le_refl _)))))
theorem int_lf (q:Nat):LF e q (intR ws q) (intR vs q):=.ite (agT A) (((num_lf A _).bind fun n q _=>.ret (Nat.le_refl _)).mono (Nat.le_succ _)) (num_lf A q)
theorem ints_lf:∀ (F F':Nat) (acc:List Int) (q:Nat),(q<e→e<q+F∧e<q+F')→LF e q (intsR ws F acc q) (intsR vs F' acc q)
 | 0,F',acc,q,h=>.near (.no (Nat.le_refl _)) fun hq=>by have:=h hq;omega
 | F+1,F',acc,q,h=>by
  have step:∀ G,(q<e→e<q+(G+1))→LF e q (intsR ws (F+1) acc q) (intsR vs (G+1) acc q):=fun G hG=>by
   rw [intsR,intsR]
   refine .ite (fun hq=>by rw [(A q hq).1,(A q hq).2]) ?_ (.ret (Nat.le_refl _))
   have hi:=int_lf A q
   cases hx:intR ws q with
   | inl p=>
    rw [hx] at hi
    exact⟨hi.fw,fun p' e1 hp=>by
     injection e1 with e1
     subst e1
     rw [hi.er _ rfl hp];rfl,fun a q' e1 _=>(by cases e1)⟩
   | inr x=>
    obtain⟨n,q1⟩:=x
    have hm:=int_mv hx
    rw [hx] at hi
    have hr:=ints_lf F G (acc++[n]) q1 fun hq=>by have:=h (by omega);have:=hG (by omega);omega
    refine⟨hr.fw.mono (by omega),fun p e1 hp=>?_,fun a q2 e1 hp=>?_⟩
    ·have e1:intsR ws F (acc++[n]) q1=.inl p:=e1
     have h2:=hr.fw
     rw [e1] at h2
     have h2:q1≤p:=h2
     rw [hi.ok _ _ rfl (by omega)]
     exact hr.er p e1 hp
    ·have e1:intsR ws F (acc++[n]) q1=.inr (a,q2):=e1
     have h2:=hr.fw
     rw [e1] at h2
     have h2:q1≤q2:=h2
     rw [hi.ok _ _ rfl (by omega)]
     exact hr.ok a q2 e1 hp
  cases F' with
  | zero=>exact .near ((step e (fun _=>by omega)).fw) fun hq=>by have:=h hq;omega
  | succ G=>exact step G fun hq=>(h hq).2
theorem nums_lf {F F':Nat} (h:e<F) (h':e<F') (q:Nat):LF e q (numsR ws F q) (numsR vs F' q):=(int_lf A q).bind fun n q' _=>ints_lf A F F' [n] q' fun _=>by omega
theorem fin_lf {α:Type} (s:List UInt8) (a:α) (q:Nat):LF e q ((mustR ws s q).then fun _ q=>(.inr (a,q):Rd α)) ((mustR vs s q).then fun _ q=>(.inr (a,q):Rd α)):=must_then A (.ret (Nat.le_refl _))
structure CL (ws vs:List Wd) (e F F':Nat):Prop where
 cond:∀ q,(q<e→4 * (e - q)+4≤F∧4 * (e - q)+4≤F')→LF e q (condR ws F q) (condR vs F' q)
 ors:∀ c q,(q<e→4 * (e - q)+1≤F∧4 * (e - q)+1≤F')→LF e q (orR ws F c q) (orR vs F' c q)
 conj:∀ q,(q<e→4 * (e - q)+3≤F∧4 * (e - q)+3≤F')→LF e q (conjR ws F q) (conjR vs F' q)
 ands:∀ c q,(q<e→4 * (e - q)+1≤F∧4 * (e - q)+1≤F')→LF e q (andR ws F c q) (andR vs F' c q)
 neg:∀ q,(q<e→4 * (e - q)+2≤F∧4 * (e - q)+2≤F')→LF e q (negR ws F q) (negR vs F' q)
 test:∀ q,(q<e→4 * (e - q)+1≤F∧4 * (e - q)+1≤F')→LF e q (testR ws F q) (testR vs F' q)
theorem cl_all:∀ F F',CL ws vs e F F'
 | 0,F'=>by
  refine⟨fun q h=>?_,fun c q h=>?_,fun q h=>?_,fun c q h=>?_,fun q h=>?_,fun q h=>?_⟩ <;>
  refine .near ?_ (fun hq=>by have:=h hq;omega)
  ·rw [condR];exact .no (Nat.le_refl _)
  ·rw [orR];exact .no (Nat.le_refl _)
  ·rw [conjR];exact .no (Nat.le_refl _)
  ·rw [andR];exact .no (Nat.le_refl _)
  ·rw [negR];exact .no (Nat.le_refl _)
  ·rw [testR];exact .no (Nat.le_refl _)
 | F+1,F'=>by
  have step:∀ G,CL ws vs e (F+1) (G+1):=fun G=>by
   have ih:=cl_all F G
   refine⟨fun q h=>?_,fun c q h=>?_,fun q h=>?_,fun c q h=>?_,fun q h=>?_,fun q h=>?_⟩
   ·rw [condR,condR]
    exact(ih.conj q fun hq=>by have:=h hq;omega).bind fun c q' hq'=>ih.ors c q' fun hq=>by have:=h (by omega);omega
   ·rw [orR,orR]
    exact .ite (agT A) (.mono (q:=q+1) ((ih.conj (q+1) fun hq=>by have:=h (by omega);omega).bind fun d q' hq'=>ih.ors _ q' fun hq=>by have:=h (by omega);omega) (Nat.le_succ _)) (.ret (Nat.le_refl _))
   ·rw [conjR,conjR]
    exact(ih.neg q fun hq=>by have:=h hq;omega).bind fun c q' hq'=>ih.ands c q' fun hq=>by have:=h (by omega);omega
   ·rw [andR,andR]
    exact .ite (agT A) (.mono (q:=q+1) ((ih.neg (q+1) fun hq=>by have:=h (by omega);omega).bind fun d q' hq'=>ih.ands _ q' fun hq=>by have:=h (by omega);omega) (Nat.le_succ _)) (.ret (Nat.le_refl _))
   ·rw [negR,negR]
    exact .ite (agT A) (.mono (q:=q+1) ((ih.neg (q+1) fun hq=>by have:=h (by omega);omega).bind fun d q' hq'=>.ret (Nat.le_refl _)) (Nat.le_succ _)) (ih.test q fun hq=>by have:=h (by omega);omega)
   ·rw [testR,testR]
    refine .ite (agT A) (.mono (q:=q+1) ((ih.cond (q+1) fun hq=>by have:=h (by omega);omega).bind fun c q' hq'=>fin_lf A _ _ _) (Nat.le_succ _)) (.ite (agT A) (.mono (q:=q+1) ?_ (Nat.le_succ _)) ?_)
    ·exact(must_lf A _ _).bind fun _ q _=>(name_lf A _).bind fun nm q _=>(musts_lf A _ _).bind fun _ q _=>(num_lf A _).bind fun v q _=>(must_lf A _ _).bind fun _ q _=>(rel_lf A _).bind fun r q _=>(num_lf A _).bind fun n q _=>.ret (Nat.le_refl _)
    ·refine(ref_lf A q).bind fun r q' hq'=>.ite (agT A) (.mono (q:=q'+1) ?_ (Nat.le_succ _)) ((rel_lf A _).bind fun o q _=>(num_lf A _).bind fun n q _=>.ret (Nat.le_refl _))
     exact must_then A ((list_lf A (num_lf A) (q'+1+1) fun hq=>by have:=h (by omega);omega).bind fun l q _=>fin_lf A _ _ _)
  cases F' with
  | succ G=>exact step G
  | zero=>
   have st:=step (4 * e+4)
   refine⟨fun q h=>?_,fun c q h=>?_,fun q h=>?_,fun c q h=>?_,fun q h=>?_,fun q h=>?_⟩ <;>
   refine .near ?_ (fun hq=>by have:=h hq;omega)
   ·exact(st.cond q fun hq=>by have:=h hq;omega).fw
   ·exact(st.ors c q fun hq=>by have:=h hq;omega).fw
   ·exact(st.conj q fun hq=>by have:=h hq;omega).fw
   ·exact(st.ands c q fun hq=>by have:=h hq;omega).fw
   ·exact(st.neg q fun hq=>by have:=h hq;omega).fw
   ·exact(st.test q fun hq=>by have:=h hq;omega).fw
variable {F F':Nat} (hF:4 * e+4≤F) (hF':4 * e+4≤F')
include hF hF'
theorem rend_lf (acc:List Cs) (q:Nat):LF e q (ruleEnd ws F acc q) (ruleEnd vs F' acc q):=
 (must_lf A _ _).bind fun _ q _=>(nums_lf A (by omega) (by omega) q).bind fun l q _=>fin_lf A _ _ _
theorem cond_lf (q:Nat):LF e q (condR ws F q) (condR vs F' q):=(cl_all A F F').cond q fun _=>by omega
theorem cases_lf:∀ (f f':Nat) (acc:List Cs) (q:Nat),(q<e→e<q+f∧e<q+f')→LF e q (casesR ws F f acc q) (casesR vs F' f' acc q)
 | 0,f',acc,q,h=>.near (by rw [casesR];exact .no (Nat.le_refl _)) fun hq=>by have:=h hq;omega
 | f+1,f',acc,q,h=>by
  have step:∀ G,(q<e→e<q+(G+1))→LF e q (casesR ws F (f+1) acc q) (casesR vs F' (G+1) acc q):=fun G hG=>by
   rw [casesR,casesR]
   refine .ite (agT A) ((rend_lf A hF hF' acc (q+1)).mono (Nat.le_succ _)) ?_
   refine(cond_lf A hF hF' q).bind fun c q1 h1=>must_then A ((nums_lf A (by omega) (by omega) (q1+1)).bind fun l q2 h2=>must_then A (cases_lf f G _ _ fun hq=>?_))
   have:=h (by omega);have:=hG (by omega);omega
  cases f' with
  | zero=>exact .near ((step e (fun _=>by omega)).fw) fun hq=>by have:=h hq;omega
  | succ G=>exact step G fun hq=>(h hq).2
theorem rule_lf (q:Nat):LF e q (ruleR ws F q) (ruleR vs F' q):=must_then A (cases_lf A hF hF' F F' [] (q+1) fun _=>by omega)
theorem ntail_lf (nm pl:List UInt8) (q:Nat):LF e q (nodeTail ws F nm pl q) (nodeTail vs F' nm pl q):=
 (must_lf A _ _).bind fun _ q _=>(num_lf A _).bind fun n q _=>(refs_lf A (by omega) (by omega) _ q).bind fun l q _=>(must_lf A _ _).bind fun _ q _=>(rule_lf A hF hF' q).bind fun cs q _=>.ret (Nat.le_refl _)
theorem decl_lf (q:Nat):LF e q (declR ws F q) (declR vs F' q):=by
 refine .ite (agT A) (.mono (q:=q+1) ?_ (Nat.le_succ _)) (.ite (agT A) (.mono (q:=q+1) ?_ (Nat.le_succ _)) (.ite (agT A) (.mono (q:=q+1) ?_ (Nat.le_succ _)) (.ite (agT A) (.mono (q:=q+1) ?_ (Nat.le_succ _)) (.ite (agT A) (.mono (q:=q+1) ?_ (Nat.le_succ _)) (.no (Nat.le_refl _))))))
 ·exact(num_lf A _).bind fun n q _=>.ret (Nat.le_refl _)
 ·exact(name_lf A _).bind fun nm q _=>(must_lf A _ _).bind fun _ q _=>(num_lf A _).bind fun n q _=>.ret (Nat.le_refl _)
 ·exact(name_lf A _).bind fun nm q _=>.ite (agT A) (.mono (q:=q+1) ((name_lf A _).bind fun pl q _=>(must_lf A _ _).bind fun _ q _=>ntail_lf A hF hF' _ _ q) (Nat.le_succ _)) (ntail_lf A hF hF' _ _ q)
 ·exact(name_lf A _).bind fun nm q _=>(must_lf A _ _).bind fun _ q _=>(num_lf A _).bind fun n q _=>(refs_lf A (by omega) (by omega) _ q).bind fun l q _=>.ret (Nat.le_refl _)
 ·exact(refs_lf A (by omega) (by omega) _ _).bind fun l q _=>(must_lf A _ _).bind fun _ q _=>(rule_lf A hF hF' q).bind fun cs q _=>.ret (Nat.le_refl _)
theorem prog_lf (hw:e≤ws.length) (hv:e≤vs.length):∀ (f f':Nat) (acc:List De) (q:Nat),(q<e→e<q+f∧e<q+f')→LF e q (progR ws F f acc q) (progR vs F' f' acc q)
 | 0,f',acc,q,h=>.near (by rw [progR];exact .no (Nat.le_refl _)) fun hq=>by have:=h hq;omega
 | f+1,f',acc,q,h=>by
  have step:∀ G,(q<e→e<q+(G+1))→LF e q (progR ws F (f+1) acc q) (progR vs F' (G+1) acc q):=fun G hG=>by
   rw [progR,progR]
   refine .ite (fun hq=>⟨fun _=>by omega,fun _=>by omega⟩) ?_ (.ret (Nat.le_refl _))
   refine(decl_lf A hF hF' q).bind fun d q1 h1=>must_then A (prog_lf hw hv f G _ _ fun hq=>?_)
   have:=h (by omega);have:=hG (by omega);omega
  cases f' with
  | zero=>exact .near ((step e (fun _=>by omega)).fw) fun hq=>by have:=h hq;omega
  | succ G=>exact step G fun hq=>(h hq).2
end
end Go.Proofs.YtohfoaplnjcihaaGreatDoor
namespace Go.Proofs.YtohfoaplnjcihaaGreatDoor
open Go Y
set_option maxRecDepth 100000
set_option maxHeartbeats 4000000
abbrev spP (t:List UInt8):List UInt8 × List UInt8:=(t,[32])
theorem lay_fin {u:List UInt8} (hu:TokOK u):∀ (x:Toks) (p:Nat × Nat) (g0:List UInt8),(g0=[]∨GapOK g0)→AllT x→Lay p (g0++(rendG (x.map spP)++u)) (wordsAt p g0 ((x++[u]).map spP)) []
 | [],p,g0,h0,_=>by
  have hr:=right_one (kindT_right hu)
  have hone:oneN (u++([]++[]))=(kindT u,u):=by rw [List.append_nil,List.append_nil];exact hr.1
  have hs:stopB (u++([]++[]))=true:=by rw [List.append_nil,List.append_nil];exact hr.2
  have:=Lay.cons (p:=p) (w:=⟨kindT u,u,(advs p g0).1,(advs p g0).2⟩) (skips_of h0 hs) hone (kindT_right hu) rfl rfl rfl (Lay.nil _ [])
  rw [List.append_nil] at this
  exact this
 | w::r,p,g0,h0,hx=>by
  have hw:=hx w (List.mem_cons_self ..)
  have hL:=lay_fin hu r ((advs p g0).1,(advs p g0).2+w.length) [32] (.inr gap_sp) fun t ht=>hx t (List.mem_cons_of_mem _ ht)
  have hs:=tok_stop (r:=rendG (r.map spP)++u) hw gap_sp
  have e2:rendG ((w::r).map spP)++u=w++([32]++(rendG (r.map spP)++u)):=by
   rw [List.map_cons,rendG,List.flatMap_cons];simp [rendG]
  rw [e2]
  have hone:oneN (w++(([32]++(rendG (r.map spP)++u))++[]))=(kindT w,w):=by rw [List.append_nil];exact hs.1
  have hst:stopB (w++(([32]++(rendG (r.map spP)++u))++[]))=true:=by rw [List.append_nil];exact hs.2
  exact Lay.cons (p:=p) (w:=⟨kindT w,w,(advs p g0).1,(advs p g0).2⟩) (skips_of h0 hst) hone (kindT_right hw) rfl rfl rfl hL
theorem readR_fin {u:List UInt8} (hu:TokOK u) {x:Toks} (hx:AllT x) (hn:x.length+1≤1500):readR (rendG (x.map spP)++u)=.ok (wordsAt (1,1) [] ((x++[u]).map spP)):=by
 have hL:=lay_fin hu x (1,1) [] (.inl rfl) hx
 rw [List.nil_append] at hL
 generalize hT:rendG (x.map spP)++u=T at hL
 have hlen:=hL.len
 have hw:=wordsAt_len (1,1) [] ((x++[u]).map spP)
 have hw2:(wordsAt (1,1) [] ((x++[u]).map spP)).length≤1500:=by rw [hw,List.length_map,List.length_append];exact hn
 have:=read_lay hL [] [] (T.length - (wordsAt (1,1) [] ((x++[u]).map spP)).length+1) rfl (by simpa using hw2)
 simp only [List.nil_append,List.length_nil,List.append_nil] at this
 rw [readR,show T.length+1=T.length - (wordsAt (1,1) [] ((x++[u]).map spP)).length+1+(wordsAt (1,1) [] ((x++[u]).map spP)).length by omega,this,readN]
 have hs:=skips_of (g:=[]) (.inl rfl) (show stopB []=true from rfl) T.length (by simp)
 rw [show T.drop (T.length)=([]:List UInt8) by simp]
 rw [List.append_nil] at hs
 rw [hs]
 show readB _ _ _ _=_
 rw [readB,if_pos (by simp)]
theorem place_at:∀ (x:Toks) (c:Nat) (g:List UInt8) (k:Nat),(g=[]∨g=[32])→k<x.length→(wat (wordsAt (1,c) g (x.map spP)) k).line=1∧(wat (wordsAt (1,c) g (x.map spP)) k).col=((c+g.length+(rend1 (x.take k)).length:Nat):Int)
 | [],_,_,k,_,h=>by simp at h
 | t::x,c,g,0,hg,_=>by
  have ha:advs (1,c) g=(1,c+g.length):=by rcases hg with rfl | rfl <;> rfl
  show((advs (1,c) g).1:Int)=1∧((advs (1,c) g).2:Int)=_
  rw [ha]
  exact⟨rfl,rfl⟩
 | t::x,c,g,k+1,hg,h=>by
  have ha:advs (1,c) g=(1,c+g.length):=by rcases hg with rfl | rfl <;> rfl
  have ih:=place_at x (c+g.length+t.length) [32] k (.inr rfl) (by simpa using h)
  have e:wat (wordsAt (1,c) g ((t::x).map spP)) (k+1)=wat (wordsAt ((advs (1,c) g).1,(advs (1,c) g).2+t.length) [32] (x.map spP)) k:=rfl
  rw [e,ha]
  refine⟨ih.1,ih.2.trans ?_⟩
  have e2:(rend1 ((t::x).take (k+1))).length=t.length+1+(rend1 (x.take k)).length:=by
   rw [List.take_succ_cons,rend1,List.flatMap_cons,List.length_append,List.length_append];rfl
  rw [e2]
  simp only [List.length_cons,List.length_nil]
  omega
theorem rend1_lw:∀ x:Toks,(rend1 x).length=lw x+x.length
 | []=>rfl
 | t::x=>by
  rw [rend1,List.flatMap_cons,List.length_append,List.length_append]
  have:=rend1_lw x
  rw [rend1] at this
  rw [this,lw_cons]
  simp only [List.length_cons,List.length_nil];omega
theorem nb_sp:∀ (b:Bool) (x:Toks),nb (spW b x)≤lw x
 | _,[]=>Nat.le_refl _
 | b,t::x=>by
  have h1:=nb_sp true x
  have h2:=nb_le t
  show nb ((if b then [32] else [])++(t++spW true x))≤_
  rw [nb_app,nb_app,lw_cons]
  have h3:nb (if b=true then [32] else [])=0:=by cases b <;> rfl
  omega
theorem nb_text:∀ ds:List De,nb (textT ds)≤lw (ds.flatMap declT)
 | []=>Nat.le_refl _
 | d::ds=>by
  have h1:=nb_text ds
  have h2:=nb_sp false (declT d)
  show nb ((spW false (declT d)++[10])++textT ds)≤_
  rw [nb_app,nb_app,List.flatMap_cons,lw_app]
  have h3:nb [10]=0:=rfl
  omega
theorem nb_edit {s w:List UInt8} {a b:Nat} (hab:a≤b) (hw:w∈someL):nb ((s.take a++w)++s.drop b)≤nb s+7:=by
 have h1:w.length≤7:=by
  have:∀ v∈someL,v.length≤7:=by decide
  exact this w hw
 have h2:=nb_le w
 have h3:s.drop b=(s.drop a).drop (b - a):=by rw [List.drop_drop];congr 1;omega
 have h4:=nb_drop (s.drop a) (b - a)
 have h5:nb s=nb (s.take a)+nb (s.drop a):=by
  conv=>lhs;rw [← List.take_append_drop a s]
  rw [nb_app]
 rw [nb_app,nb_app,h3]
 omega
def moreL:List Toks:=[[],[tSemi],[tCol,[49],tSemi,tElse,tCol,[50],tRC,tSemi],[[120],tEq,[49],tRC,tSemi,tGrain,[49],tSemi]]
theorem more_ok:∀ m∈moreL,∀ t∈m,TokOK t:=by
 have key:∀ m∈moreL,∀ t∈m,rightN 1 t=true∨rightN 2 t=true∨rightN 3 t=true∨rightN 4 t=true:=by decide
 intro m hm t ht
 rcases key m hm t ht with h | h | h | h
 ·exact⟨1,h⟩
 ·exact⟨2,h⟩
 ·exact⟨3,h⟩
 ·exact⟨4,h⟩
theorem more_len:∀ m∈moreL,m.length≤8∧(spW true m).length≤22:=by decide
theorem spW_rend (x:Toks) (u:List UInt8) (m:Toks):∃ y v,x++u::m=y++[v]∧(rend1 x++u)++spW true m=rendG (y.map spP)++v:=by
 induction m generalizing x u with
 | nil=>exact⟨x,u,rfl,by rw [rend1_rendG];simp [spW]⟩
 | cons t m ih=>
  obtain⟨y,v,h1,h2⟩:=ih (x++[u]) t
  refine⟨y,v,by rw [← h1,List.append_assoc];rfl,?_⟩
  rw [← h2,rend1_app]
  show(rend1 x++u)++([32]++(t++spW true m))=((rend1 x++rend1 [u])++t)++spW true m
  have:rend1 [u]=u++[32]:=by simp [rend1]
  rw [this]
  simp [List.append_assoc]
theorem right_kind {k:Int} {t:List UInt8} (h:rightN k t=true):k=kindT t:=by
 rw [kindT,(right_one h).1]
theorem agr_of {ws vs:List Wd} {e:Nat} (hw:∀ w∈ws,rightN w.kind w.text=true) (hv:∀ w∈vs,rightN w.kind w.text=true) (h1:e≤ws.length) (h2:e≤vs.length) (h:∀ i,i<e→txt ws i=txt vs i):Agr ws vs e:=by
 intro i hi
 refine⟨h i hi,?_⟩
 have a:=right_kind (hw _ (wat_mem (show i<ws.length by omega)))
 have b:=right_kind (hv _ (wat_mem (show i<vs.length by omega)))
 show(wat ws i).kind=(wat vs i).kind
 rw [a,b]
 exact congrArg kindT (h i hi)
theorem txt_map {ws:List Wd} {x:Toks} (h:ws.map Wd.text=x) {i:Nat} (hi:i<ws.length):txt ws i=x.getD i []:=by
 rw [← h,List.getD_eq_getElem?_getD,List.getElem?_map,txt,wat,List.getD_eq_getElem?_getD,List.getElem?_eq_getElem hi];rfl
structure StF (t:List UInt8) (l c:Int) (ws:List Wd) (k:Nat):Prop where
 read:readT t=(ws,0,0,0)
 lt:k<ws.length
 line:(wat ws k).line=l
 col:(wat ws k).col=c
 ne:∀ i,i<k→¬ ((wat ws i).line=l∧(wat ws i).col=c)
 small:(rend1 ((ws.map Wd.text).take k)).length≤2700
 word:(txt ws k).length≤1400
 again:∀ m∈moreL,parR ((rend1 ((ws.map Wd.text).take k)++txt ws k)++spW true m)=.inl ((1,(((rend1 ((ws.map Wd.text).take k)).length+1:Nat):Int)),381)
 head:∃ ds e,parV (parR (rend1 ((ws.map Wd.text).take k)))=[srcV ds,i64 0,i64 0,i64 e]∧(e=0∨e=381∨e=3)
theorem stops {t:List UInt8} {l c:Int} (hn:nb t≤1310) (h:parR t=.inl ((l,c),381)) (hl:l ≠ 0):∃ ws k,StF t l c ws k:=by
 rw [parR] at h
 split at h
 ·injection h with h;injection h with _ h;cases h
 rename_i h8
 cases hr:readR t with
 | err p e=>
  rw [hr] at h
  injection h with h;injection h with _ h
  rcases readN_errP t _ _ _ _ _ hr with h1 | h1 <;> rw [h1] at h <;> cases h
 | ok ws=>
  rw [hr] at h
  simp only [] at h
  cases hp:progR ws (fuelW ws) (fuelW ws) [] 0 with
  | inr x=>
   rw [hp] at h
   simp only [] at h
   split at h
   ·cases h
   ·injection h with h;injection h with _ h;cases h
  | inl k=>
   rw [hp] at h
   simp only [] at h
   injection h with h;injection h with h _;injection h with e1 e2
   obtain⟨p1,p2,p3⟩:=read_sp hr
   have hg:=read_good hr
   have hk:k<ws.length:=by
    rcases Nat.lt_or_ge k ws.length with h1 | h1
    ·exact h1
    ·rw [wat_end h1] at e1
     exact absurd e1.symm hl
   obtain⟨x,hx⟩:∃ x,x=ws.map Wd.text:=⟨_,rfl⟩
   have hxl:x.length=ws.length:=by rw [hx,List.length_map]
   have hxa:AllT x:=fun u hu=>by
    rw [hx] at hu
    obtain⟨w,hw,rfl⟩:=List.mem_map.1 hu
    exact⟨_,hg.right w hw⟩
   rw [← hx] at p3
   have hxn:=tok_lw hxa
   have hsplit:lw x=lw (x.take k)+lw (x.drop k):=by rw [← lw_app,List.take_append_drop]
   have htl:(x.take k).length=k:=by rw [List.length_take];omega
   have htx:txt ws k=x.getD k []:=txt_map hx.symm hk
   have hdk:x.drop k=x.getD k []::x.drop (k+1):=by
    rw [List.getD_eq_getElem?_getD,List.getElem?_eq_getElem (show k<x.length by omega)]
    exact List.drop_eq_getElem_cons (by omega)
   have hul:(x.getD k []).length≤1310:=by
    rw [hdk,lw_cons] at hsplit;omega
   have hhead:=rend1_lw (x.take k)
   rw [htl] at hhead
   have hta:AllT (x.take k):=fun u hu=>hxa u (List.mem_of_mem_take hu)
   have hu:TokOK (x.getD k []):=hxa _ (getD_memL [] (by omega))
   refine⟨ws,k,?_,hk,e1,e2,fun i hi hh=>p2 i k hi hk ⟨hh.1.trans e1.symm,hh.2.trans e2.symm⟩,by rw [← hx];omega,by rw [htx];omega,?_,?_⟩
   ·rw [readT,if_neg h8,hr]
   ·intro m hm
    rw [← hx,htx]
    obtain⟨y,v,hy1,hy2⟩:=spW_rend (x.take k) (x.getD k []) m
    have hml:=more_len m hm
    have hall:AllT (x.take k++x.getD k []::m):=allT_app hta (allT_cons hu (more_ok m hm))
    rw [hy1] at hall
    have hyl:y.length+1=k+1+m.length:=by
     have:=congrArg List.length hy1
     simp only [List.length_append,List.length_cons,List.length_nil,htl] at this
     omega
    have hrd:=readR_fin (u:=v) (x:=y) (hall v (by simp)) (fun t ht=>hall t (by simp [ht])) (by omega)
    have hwt:=wordsAt_text (1,1) [] ((y++[v]).map spP)
    rw [List.map_map,show(Prod.fst ∘ spP)=id from rfl,List.map_id] at hwt
    have hwt:=hwt.trans hy1.symm
    have hpl:=place_at (y++[v]) 1 [] k (.inl rfl) (by rw [List.length_append];simp only [List.length_cons,List.length_nil];omega)
    have htk:(y++[v]).take k=x.take k:=by
     rw [← hy1,List.take_append_of_le_length (by omega),List.take_of_length_le (by omega)]
    rw [htk] at hpl
    have hgv:=read_good hrd
    generalize wordsAt (1,1) [] ((y++[v]).map spP)=vs at hrd hwt hpl hgv
    have hvl:vs.length=k+1+m.length:=by
     have:=congrArg List.length hwt
     rw [List.length_map] at this
     rw [this]
     simp only [List.length_append,List.length_cons,htl]
     omega
    have hag:Agr ws vs (k+1):=agr_of hg.right hgv.right (by omega) (by omega) fun i hi=>by
     rw [txt_map hx.symm (by omega),txt_map hwt (by omega)]
     rcases Nat.lt_or_ge i k with h1 | h1
     ·rw [List.getD_eq_getElem?_getD,List.getD_eq_getElem?_getD,List.getElem?_append_left (by omega),List.getElem?_take,if_pos h1]
     ·obtain rfl:i=k:=by omega
      conv=>rhs;rw [List.getD_eq_getElem?_getD,List.getElem?_append_right (by omega),htl,Nat.sub_self]
      rfl
    have hF:4 * (k+1)+4≤fuelW ws:=by rw [fuelW];omega
    have hF':4 * (k+1)+4≤fuelW vs:=by rw [fuelW];omega
    have hlf:=prog_lf hag hF hF' (by omega) (by omega) (fuelW ws) (fuelW vs) [] 0 fun _=>by omega
    have hpv:=hlf.er k hp (by omega)
    rw [hy2,parR,if_neg,hrd]
    ·simp only []
     rw [hpv]
     simp only []
     rw [hpl.1,hpl.2]
     congr 3
     simp only [List.length_nil]
     omega
    ·rw [← hy2,List.length_append,List.length_append];omega
   ·rw [← hx]
    obtain⟨hs,hrh,hht⟩:=read_rend1 hta (by omega)
    have hgh:=read_good hrh
    have hhl:hs.length=k:=by
     have:=congrArg List.length hht
     rw [List.length_map,htl] at this
     exact this
    have hag:Agr hs ws k:=agr_of hgh.right hg.right (by omega) (by omega) fun i hi=>by
     rw [txt_map hx.symm (by omega),txt_map hht (by omega)]
     rw [List.getD_eq_getElem?_getD,List.getD_eq_getElem?_getD,List.getElem?_take,if_pos hi]
    have hF:4 * k+4≤fuelW hs:=by rw [fuelW];omega
    have hF':4 * k+4≤fuelW ws:=by rw [fuelW];omega
    have hlf:=prog_lf hag hF hF' (by omega) (by omega) (fuelW hs) (fuelW ws) [] 0 fun _=>by omega
    rw [parR,if_neg (by omega),hrh]
    simp only []
    cases hq:progR hs (fuelW hs) (fuelW hs) [] 0 with
    | inl p=>
     have hpk:k≤p:=by
      rcases Nat.lt_or_ge p k with h1 | h1
      ·have:=hlf.er p hq h1
       rw [hp] at this
       injection this with this
       omega
      ·exact h1
     simp only []
     rw [wat_end (by omega)]
     exact⟨[],381,rfl, .inr (.inl rfl)⟩
    | inr z=>
     simp only []
     split
     ·exact⟨z.1,0,rfl, .inl rfl⟩
     ·exact⟨[],3,rfl, .inr (.inr rfl)⟩
set_option maxHeartbeats 40000000
inductive StS (t:List UInt8):Prop
 | go (ds:List De) (l c e:Int) (h1:Pure cx 22 [.str t] (·=.ret [srcV ds,i64 l,i64 c,i64 e])) (hne:e=381→l=0):StS t
 | stop (l c:Int) (ws:List Wd) (k:Nat) (h1:Pure cx 22 [.str t] (·=.ret [srcV [],i64 l,i64 c,i64 381])) (hl:l ≠ 0) (hs:StF t l c ws k):StS t
theorem stS {t:List UInt8} (hn:nb t≤1310):StS t:=by
 have h1:=parse_c t
 cases hp:parR t with
 | inr ds=>
  rw [hp] at h1
  exact .go ds 0 0 0 h1 fun h=>absurd h (by decide)
 | inl x=>
  obtain⟨⟨l,c⟩,e⟩:=x
  rw [hp] at h1
  by_cases he:e=381
  ·subst he
   by_cases hl:l=0
   ·exact .go [] l c 381 h1 fun _=>hl
   ·obtain⟨ws,k,hs⟩:=stops hn hp hl
    exact .stop l c ws k h1 hl hs
  ·exact .go [] l c e h1 fun h=>absurd h he
def mtL:List (List UInt8):=moreL.map (spW true)
theorem step_head {ws:List Wd} {j:Nat} (h:j<ws.length):(rend1 ((ws.map Wd.text).take j)++txt ws j)++[32]=rend1 ((ws.map Wd.text).take (j+1)):=by
 rw [take_succ_getD [] (by rw [List.length_map];exact h),rend1_app,← txt_map rfl h]
 show _=_++([txt ws j].flatMap fun t=>t++[32])
 simp [List.append_assoc]
theorem head_mono {x:Toks} {i j:Nat} (h:i≤j):(rend1 (x.take i)).length≤(rend1 (x.take j)).length:=by
 have h1:=(List.take_append_drop i (x.take j)).symm
 rw [List.take_take,Nat.min_eq_left h] at h1
 rw [h1,rend1_app,List.length_append]
 omega
theorem parseStops_c (d:Dp) (E:Ed) (bh:UInt8) (hd:d.ok):Pure cx 7 [.agg d.cells,E.pv,u8 bh] (·=.ret [.bool true]):=by
 refine pure_of_vc Tryz.func7 rfl rfl rfl ?_
 refine works_c.eq rfl ?_
 refine(program_c d hd).at fun r hr=>?_
 obtain⟨ds,rfl,hds⟩:=hr
 have hT:=ptext_c ds hds.big
 rw [hds.txtV] at hT
 refine hT.eq rfl ?_
 refine And.intro (fun _=>?_) (fun h=>absurd rfl h)
 have htx:=hds.txt
 refine(edit_c E (textT ds) (by omega)).at fun r hr=>?_
 obtain⟨a,b,w,hab,hw,rfl⟩:=hr
 have hn:nb (((textT ds).take a++w)++(textT ds).drop b)≤1310:=by
  have h1:=nb_edit (s:=textT ds) hab hw
  have h2:=nb_text ds
  have h3:=hds.lw
  omega
 generalize ((textT ds).take a++w)++(textT ds).drop b=t at hn ⊢
 clear hT htx hds
 cases stS hn with
 | go ds l c e h1 hne=>
  refine h1.eq rfl ?_
  refine And.intro (fun h=>?_) (fun _=>?_)
  ·refine And.intro (fun _=>?_) (fun h2=>absurd (hne h) h2)
   exact end1 _ rfl rfl rfl
  ·exact end1 _ rfl rfl rfl
 | stop l c ws k h1 hl hs=>
  refine h1.eq rfl ?_
  refine And.intro (fun _=>?_) (fun h=>absurd rfl h)
  refine And.intro (fun h=>absurd h hl) (fun _=>?_)
  have hR:=readW_c t
  rw [hs.read] at hR
  have hwl:ws.length≤1500:=by
   have:=readT_len t
   rw [hs.read] at this
   exact this
  refine hR.eq rfl ?_
  refine And.intro (fun _=>?_) (fun h=>absurd rfl h)
  refine⟨Nat,fun i=>[(2, .p (u8 bh)),(11, .p (i64 l)),(12, .p (i64 c)),(14, .p (.lsts 4 (ws.map Wd.cells))),(18, .p (i64 i))],fun _=>⟨0,[]⟩,fun i=>i≤k,fun i=>k - i,?_,?_⟩
  ·exact⟨0,Nat.zero_le _,ent_of [] [] [] rfl (sk) trivial rfl⟩
  intro i hi
  have hlt:=hs.lt
  refine And.intro (fun _=>?_) (fun h=>absurd (show(i:Int)<((ws.map Wd.cells).length:Nat) by rw [List.length_map];omega) h)
  refine⟨_,⟨by omega,(wat ws i).cells,wdcell (by omega),rfl⟩,?_⟩
  by_cases hl2:(wat ws i).line=l
  rotate_left
  ·refine And.intro (fun h=>absurd h hl2) (fun _=>?_)
   have hik:i ≠ k:=fun h=>hl2 (by rw [h];exact hs.line)
   refine⟨((i+1:Nat):Int),by rw [Int.natCast_add];exact wrap_i64 (by have:=hR;omega) (by have:=readT_len t;rw [hs.read] at this;have:ws.length≤1500:=this;omega),?_⟩
   exact⟨i+1,by show i+1≤k;omega,ent_of [] [] [] rfl (sk) trivial rfl,by show k - (i+1)<k - i;omega⟩
  refine And.intro (fun _=>?_) (fun h=>absurd hl2 h)
  refine⟨_,⟨by omega,(wat ws i).cells,wdcell (by omega),rfl⟩,?_⟩
  by_cases hc2:(wat ws i).col=c
  rotate_left
  ·refine And.intro (fun h=>absurd h hc2) (fun _=>?_)
   have hik:i ≠ k:=fun h=>hc2 (by rw [h];exact hs.col)
   refine⟨((i+1:Nat):Int),by rw [Int.natCast_add];exact wrap_i64 (by omega) (by have:=readT_len t;rw [hs.read] at this;have:ws.length≤1500:=this;omega),?_⟩
   exact⟨i+1,by show i+1≤k;omega,ent_of [] [] [] rfl (sk) trivial rfl,by show k - (i+1)<k - i;omega⟩
  refine And.intro (fun _=>?_) (fun h=>absurd hc2 h)
  have hik:i=k:=by
   rcases Nat.lt_or_ge i k with h | h
   ·exact absurd ⟨hl2,hc2⟩ (hs.ne i h)
   ·omega
  subst hik
  refine And.intro (fun h=>absurd (show(i:Int)=((ws.map Wd.cells).length:Nat) from h) (by rw [List.length_map];have:=hs.lt;omega)) (fun _=>?_)
  refine⟨Nat,fun j=>[(2, .p (u8 bh)),(14, .p (.lsts 4 (ws.map Wd.cells))),(18, .p (i64 i)),(19,vS (rend1 ((ws.map Wd.text).take j))),(20, .p (i64 j))],fun _=>⟨0,[]⟩,fun j=>j≤i,fun j=>i - j,?_,?_⟩
  ·exact⟨0,Nat.zero_le _,ent_of [] [] [] rfl (sk) trivial rfl⟩
  intro j hj
  have hklt:=hs.lt
  by_cases hjk:j<i
  ·refine And.intro (fun _=>?_) (fun h=>absurd (show(j:Int)<(i:Int) by omega) h)
   have hst:=step_head (ws:=ws) (j:=j) (by omega)
   have hjl:=head_mono (x:=ws.map Wd.text) (show j+1≤i by omega)
   have hsm:=hs.small
   rw [← hst,List.length_append,List.length_append] at hjl
   refine⟨_,⟨by omega,(wat ws j).cells,wdcell (by omega),rfl⟩,?_⟩
   refine⟨by show(rend1 ((ws.map Wd.text).take j)).length+(txt ws j).length≤9223372036854775807;omega,?_⟩
   refine⟨by show(rend1 ((ws.map Wd.text).take j)++txt ws j).length+1≤9223372036854775807;rw [List.length_append];omega,?_⟩
   refine⟨((j+1:Nat):Int),by rw [Int.natCast_add];exact wrap_i64 (by omega) (by omega),?_⟩
   exact⟨j+1,by show j+1≤i;omega,ent_of [] [] [] rfl ⟨rfl,rfl,rfl,congrArg PV.str hst.symm,rfl,trivial⟩ trivial rfl,by show i - (j+1)<i - j;omega⟩
  refine And.intro (fun h=>absurd (show(j:Int)<(i:Int) from h) (by omega)) (fun _=>?_)
  obtain rfl:j=i:=by omega
  have hag:=hs.again
  obtain⟨ds2,e2,hv2,he2⟩:=hs.head
  have hP2:=parse_c (rend1 ((ws.map Wd.text).take j))
  rw [hv2] at hP2
  have hsm:=hs.small
  have hwd:=hs.word
  have hb:=bh.toNat_lt
  obtain⟨m,hm⟩:∃ m,m=mtL.getD (bh.toNat % 4) []:=⟨_,rfl⟩
  have hmm:∃ y∈moreL,m=spW true y:=by
   have h4:bh.toNat % 4<4:=Nat.mod_lt _ (by decide)
   refine⟨moreL.getD (bh.toNat % 4) [],getD_memL [] h4,?_⟩
   rw [hm]
   have:∀ i,i<4→mtL.getD i []=spW true (moreL.getD i []):=by decide
   exact this _ h4
  obtain⟨y,hy,hym⟩:=hmm
  have hml:=(more_len y hy).2
  rw [← hym] at hml
  have hR:=refused_yes _ _ _ _ (hag y hy)
  rw [← hym] at hR
  refine⟨by decide,?_⟩
  refine⟨_,⟨⟨by show(0:Int)≤((bh.toNat:Nat):Int).tmod 4;rw [show((bh.toNat:Nat):Int).tmod 4=((bh.toNat % 4:Nat):Int) from rfl];omega,by show((bh.toNat:Nat):Int).tmod 4<4;rw [show((bh.toNat:Nat):Int).tmod 4=((bh.toNat % 4:Nat):Int) from rfl];omega⟩, .str m,ldInP1 (by kernel_rfl) (by show(mtL.map PV.str)[(((bh.toNat:Nat):Int).tmod 4).toNat * 1]?=_;rw [show((bh.toNat:Nat):Int).tmod 4=((bh.toNat % 4:Nat):Int) from rfl,hm,Int.toNat_natCast,Nat.mul_one];exact tcell (l:=mtL) (by show _<4;omega)),rfl⟩,?_⟩
  refine⟨(((rend1 ((ws.map Wd.text).take j)).length+1:Nat):Int),by rw [Int.natCast_add];exact wrap_i64 (by omega) (by omega),?_⟩
  refine⟨_,⟨by omega,(wat ws j).cells,wdcell (by omega),rfl⟩,?_⟩
  refine⟨by show(rend1 ((ws.map Wd.text).take j)).length+(txt ws j).length≤9223372036854775807;omega,?_⟩
  refine⟨by show((rend1 ((ws.map Wd.text).take j))++txt ws j).length+m.length≤9223372036854775807;rw [List.length_append];omega,?_⟩
  refine hR.eq rfl ?_
  refine hP2.eq rfl ?_
  rcases he2 with rfl | rfl | rfl
  ·refine And.intro (fun _=>?_) (fun h=>absurd rfl h)
   refine And.intro (fun _=>?_) (fun h=>absurd rfl h)
   refine And.intro (fun _=>?_) (fun h=>absurd rfl h)
   exact end1 _ rfl rfl rfl
  ·refine And.intro (fun _=>?_) (fun h=>absurd rfl h)
   refine And.intro (fun _=>?_) (fun h=>absurd rfl h)
   refine And.intro (fun h=>absurd h (by decide)) (fun _=>?_)
   refine And.intro (fun _=>?_) (fun h=>absurd rfl h)
   exact end1 _ rfl rfl rfl
  ·refine And.intro (fun _=>?_) (fun h=>absurd rfl h)
   refine And.intro (fun _=>?_) (fun h=>absurd rfl h)
   refine And.intro (fun h=>absurd h (by decide)) (fun _=>?_)
   refine And.intro (fun h=>absurd h (by decide)) (fun _=>?_)
   refine And.intro (fun _=>?_) (fun h=>absurd rfl h)
   exact end1 _ rfl rfl rfl
end Go.Proofs.YtohfoaplnjcihaaGreatDoor
namespace Go.Proofs.YtohfoaplnjcihaaGreatDoor.Y
open Go
def partsOf (P:Program) (t:TypeId):Option (List (TypeId × Nat)):=
 match P.underlying t with
 | some (.struct fs)=>some (fs.toList.map fun f=>(f.type,f.offset))
 | some (.array k e)=>some ((List.range k).map fun i=>(e,i * P.cellsOf e))
 | _=>none
def tiles (P:Program):List (TypeId × Nat)→Nat→Option Nat
 | [],o=>some o
 | f::r,o=>if f.2=o then tiles P r (o+P.cellsOf f.1) else none
theorem tiles_le {P:Program}:∀ {l:List (TypeId × Nat)} {o n:Nat},tiles P l o=some n→o≤n
 | [],o,n,h=>by simp only [tiles,Option.some.injEq] at h;omega
 | f::r,o,n,h=>by
  simp only [tiles] at h
  split at h
  ·have:=tiles_le h;omega
  ·cases h
def basic:TypeDesc→Bool
 | .bool=>true
 | .int _=>true
 | .string=>true
 | _=>false
def supp (P:Program):Nat→TypeId→Bool
 | 0,_=>false
 | n+1,t=>match partsOf P t with
  | some l=>decide (tiles P l 0=some (P.cellsOf t)) && l.all fun f=>supp P n f.1
  | none=>match P.underlying t with
   | some (.slice e)=>decide (0<P.cellsOf e) && supp P n e
   | some d=>basic d
   | none=>false
def Flds (P:Program) (p:TypeId→List PV→Prop):List (TypeId × Nat)→List PV→Prop
 | [],xs=>xs=[]
 | f::r,xs=>∃ ys zs,xs=ys++zs∧ys.length=P.cellsOf f.1∧p f.1 ys∧Flds P p r zs
def TyT (P:Program):Nat→TypeId→List PV→Prop
 | 0,_,_=>False
 | m+1,t,xs=>match partsOf P t with
  | some l=>Flds P (TyT P m) l xs
  | none=>match P.underlying t with
   | some .bool=>∃ b,xs=[.bool b]
   | some (.int k)=>∃ n,xs=[.int k n]∧(Lit.int k n).wf=true
   | some .string=>∃ s,xs=[.str s]∧s.length≤maxLen
   | some (.slice e)=>match Nat.beq (P.cellsOf e) 1 with
    | true=>∃ ys,xs=[.lst ys]∧ys.length≤maxLen∧∀ y∈ys,TyT P m e [y]
    | false=>∃ yss,xs=[.lsts (P.cellsOf e) yss]∧yss.length≤maxLen∧∀ ys∈yss,TyT P m e ys
   | _=>False
section
variable {H:Type} {enc:TypeId × Value→H} {P:Program} {W:World} {sp:Nat→Bool} {held:Bool}
theorem cells_take {a:Addr} {n:Nat} {cs:List Value} (hn:0<n) (h:W.cells? 0 a n=some cs) :
  ∃ c t z,W.heap[a.block]?=some (.cells c t z)∧a.spot=none∧cs.length=n∧a.off+n≤c.toList.length∧cs=(c.toList.drop a.off).take n:=by
 unfold World.cells? at h
 rw [if_pos (Nat.zero_le _)] at h
 have hl:=mapM_some_length h
 rw [List.length_range] at hl
 have hg:∀ i,i<n→W.cell? (a.add i)=cs[i]?:=fun i hi=>mapM_some_get h i i (by simp [hi])
 have h0:=hg 0 hn
 have ha:a.add 0=a:=by simp [Addr.add]
 rw [ha,List.getElem?_eq_getElem (by omega)] at h0
 unfold World.cell? at h0
 split at h0
 ·rename_i c t z hb
  have hs:a.spot=none:=by
   cases hs:a.spot with
   | none=>rfl
   | some _=>simp [hs] at h0
  have hcell:∀ i,i<n→c[a.off+i]?=cs[i]?:=by
   intro i hi
   have:=hg i hi
   unfold World.cell? at this
   have hblk:(a.add i).block=a.block:=by unfold Addr.add;split <;> rfl
   have hsp:(a.add i).spot=none:=by unfold Addr.add;split <;> first | exact hs | rfl
   have hoff:(a.add i).off=a.off+i:=by unfold Addr.add;split <;> simp_all
   rw [hblk,hb] at this
   simp only [hsp,hoff] at this
   simpa using this
  have hlen:a.off+n≤c.toList.length:=by
   have:=hcell (n - 1) (by omega)
   rw [List.getElem?_eq_getElem (by omega)] at this
   have:=(Array.getElem?_eq_some_iff.1 this).1
   simp
   omega
  refine⟨c,t,z,hb,hs,hl,hlen,?_⟩
  refine List.ext_getElem? fun i=>?_
  by_cases hi:i<n
  ·rw [← hcell i hi,List.getElem?_take_of_lt hi,List.getElem?_drop]
   simp
  ·rw [List.getElem?_eq_none (by omega),List.getElem?_eq_none (by simp;omega)]
 ·cases h0
def AllCells (fz:Fzn) (W:World):Prop:=∀ b c t z,W.heap[b]?=some (.cells c t z)→fz b=some c.toList
def Rd (P:Program) (fz:Fzn) (m:Nat) (t:TypeId) (cs:List Value):Prop:=∃ xs,VPL fz xs cs∧(∀ u∈cs,plainV u=true)∧TyT P m t xs
theorem flds_of {fz:Fzn} {m:Nat} {cs:List Value}:∀ (l:List (TypeId × Nat)) (o:Nat),tiles P l o=some cs.length→(∀ f∈l,Rd P fz m f.1 ((cs.drop f.2).take (P.cellsOf f.1))) →
  ∃ xs,VPL fz xs (cs.drop o)∧(∀ u∈cs.drop o,plainV u=true)∧Flds P (TyT P m) l xs
 | [],o,ht,_=>by
  simp only [tiles,Option.some.injEq] at ht
  subst ht
  exact⟨[],by simp [VPL],by simp,rfl⟩
 | f::r,o,ht,hr=>by
  simp only [tiles] at ht
  split at ht
  ·rename_i ho
   have hle:=tiles_le ht
   obtain⟨ys,h1,h2,h3⟩:=hr f (by simp)
   obtain⟨zs,k1,k2,k3⟩:=flds_of r (o+P.cellsOf f.1) ht fun g hg=>hr g (by simp [hg])
   rw [ho] at h1 h2
   have e:cs.drop o=(cs.drop o).take (P.cellsOf f.1)++cs.drop (o+P.cellsOf f.1):=by
    rw [← List.drop_drop,List.take_append_drop]
   refine⟨ys++zs,?_,?_,ys,zs,rfl,?_,h3,k3⟩
   ·rw [e];exact VPL_append h1 k1
   ·rw [e];intro u hu;rcases List.mem_append.1 hu with hu | hu
    ·exact h2 u hu
    ·exact k2 u hu
   ·rw [← VPL_length h1,List.length_take,List.length_drop];omega
  ·cases ht
theorem parts_trod {t:TypeId} {l:List (TypeId × Nat)} (hp:partsOf P t=some l) {n:Nat} {cs:List Value} {x:DataW H × List MemPlace} (h:DataW.trod enc P W 0 sp held n t cs=some x) :
  ∃ (xs:List (DataW H × List MemPlace)) (k:Nat),n=k+1∧x=(.agg (xs.map (·.1)),xs.flatMap (·.2))∧cs.length=P.cellsOf t∧xs.length=l.length ∧
   ∀ (i:Nat) (f:TypeId × Nat),l[i]?=some f→DataW.trod enc P W 0 sp held k f.1 ((cs.drop f.2).take (P.cellsOf f.1))=xs[i]?:=by
 unfold partsOf at hp
 split at hp
 ·rename_i fs hu
  injection hp with hp
  subst hp
  obtain⟨xs,k,h1,h2,h3,h4,h5⟩:=DataW.trod_struct hu h
  refine⟨xs,k,h1,h2,h3,by simpa using h4,fun i f hf=>?_⟩
  rw [List.getElem?_map,Option.map_eq_some_iff] at hf
  obtain⟨g,hg,rfl⟩:=hf
  exact h5 i g (by simpa using hg)
 ·rename_i k' e hu
  injection hp with hp
  subst hp
  obtain⟨xs,k,h1,h2,h3,h4,h5⟩:=DataW.trod_array hu h
  refine⟨xs,k,h1,h2,h3,by simpa using h4,fun i f hf=>?_⟩
  rw [List.getElem?_map,Option.map_eq_some_iff] at hf
  obtain⟨j,hj,rfl⟩:=hf
  have hi:=(List.getElem?_eq_some_iff.1 hj)
  obtain⟨hi,hj⟩:=hi
  simp at hi hj
  subst hj
  exact h5 i hi
 ·cases hp
theorem flat_singles {l:List (List PV)} (h:∀ cs∈l,cs.length=1):l.flatten.length=l.length∧∀ y∈l.flatten,[y]∈l:=by
 induction l with
 | nil=>simp
 | cons x r ih=>
  have hx:=h x (by simp)
  obtain⟨y,rfl⟩:∃ y,x=[y]:=by
   match x,hx with
   | [y],_=>exact⟨y,rfl⟩
  obtain⟨h1,h2⟩:=ih fun c hc=>h c (by simp [hc])
  refine⟨by simp [h1],fun z hz=>?_⟩
  simp at hz
  rcases hz with rfl | hz
  ·simp
  ·have:=h2 z (by simpa using hz)
   simp [this]
theorem typed_of_trod {fz:Fzn} (hfz:AllCells fz W):∀ (m:Nat) (t:TypeId) (n:Nat) (cs:List Value) (x:DataW H × List MemPlace),supp P m t=true→DataW.trod enc P W 0 sp held n t cs=some x→Rd P fz m t cs
 | 0,_,_,_,_,hs,_=>by simp [supp] at hs
 | m+1,t,n,cs,x,hs,h=>by
  have ih:=typed_of_trod hfz m
  simp only [supp] at hs
  cases hp:partsOf P t with
  | some l=>
   simp only [hp,Bool.and_eq_true,decide_eq_true_eq,List.all_eq_true] at hs
   obtain⟨xs,k,h1,h2,h3,h4,h5⟩:=parts_trod hp h
   obtain⟨ys,g1,g2,g3⟩:=flds_of (fz:=fz) (m:=m) (cs:=cs) l 0 (by rw [h3];exact hs.1) fun f hf=>by
    obtain⟨i,hi,rfl⟩:=List.getElem_of_mem hf
    have:=h5 i _ (List.getElem?_eq_getElem hi)
    rw [List.getElem?_eq_getElem (by omega)] at this
    exact ih _ _ _ _ (hs.2 _ hf) this
   exact⟨ys,by simpa using g1,by simpa using g2,by simp only [TyT,hp];exact g3⟩
  | none=>
   simp only [hp] at hs
   cases hu:P.underlying t with
   | none=>simp [hu] at hs
   | some d=>
    simp only [hu] at hs
    cases d with
    | bool=>
     obtain⟨b,rfl,_⟩:=DataW.trod_bool hu h
     exact⟨[.bool b],by simp [VPL,VP],by simp [plainV],by simp [TyT,hp,hu]⟩
    | int k=>
     obtain⟨b,rfl,_,hw⟩:=DataW.trod_int hu h
     exact⟨[.int k b],by simp [VPL,VP],by simp [plainV],by simp [TyT,hp,hu,hw]⟩
    | string=>
     obtain⟨⟨⟨s⟩⟩,rfl,_,hw⟩:=DataW.trod_string hu h
     exact⟨[.str s],by simp [VPL,VP],by simp [plainV],by simp only [TyT,hp,hu];exact⟨s,rfl,hw⟩⟩
    | slice e=>
     simp only [Bool.and_eq_true,decide_eq_true_eq] at hs
     obtain⟨hs0,hse⟩:=hs
     have fin:∀ (v:Value) (len:Nat) (yss:List (List PV)),len≤maxLen→yss.length=len→(∀ ys∈yss,ys.length=P.cellsOf e∧TyT P m e ys)→plainV v=true →
       (yss=[]→∃ a c,v=.slice a 0 c)→(yss ≠ []→∃ b o c arr us,v=.slice (some ⟨b,o,none⟩) len c∧len≤c∧fz b=some arr∧VPLL fz (P.cellsOf e) yss us∧Seg arr o us)→Rd P fz (m+1) t [v]:=by
      intro v len yss hml hlen hty hpl hnil hcons
      by_cases h1:P.cellsOf e=1
      ·have hfl:=flat_singles (l:=yss) fun c hc=>by rw [(hty c hc).1,h1]
       refine⟨[.lst yss.flatten],?_,by simpa using hpl,?_⟩
       ·simp only [VPL]
        refine⟨v,[],rfl,?_,rfl⟩
        simp only [VP]
        by_cases hy:yss=[]
        ·exact .inl ⟨by simp [hy],hnil hy⟩
        ·obtain⟨b,o,c,arr,us,k1,k2,k3,k4,k5⟩:=hcons hy
         exact .inr ⟨b,o,c,arr,us,by rw [hfl.1,hlen];exact k1,by rw [hfl.1,hlen];exact k2,k3,(VPLL_flat.1 k4).1,k5⟩
       ·simp only [TyT,hp,hu,h1]
        exact⟨_,rfl,by rw [hfl.1,hlen];exact hml,fun y hy=>(hty _ (hfl.2 y hy)).2⟩
      ·refine⟨[.lsts (P.cellsOf e) yss],?_,by simpa using hpl,?_⟩
       ·simp only [VPL]
        refine⟨v,[],rfl,?_,rfl⟩
        simp only [VP]
        by_cases hy:yss=[]
        ·exact .inl ⟨hy,hnil hy⟩
        ·obtain⟨b,o,c,arr,us,k1,k2,k3,k4,k5⟩:=hcons hy
         exact .inr ⟨b,o,c,arr,us,by rw [hlen];exact k1,by rw [hlen];exact k2,k3,k4,k5⟩
       ·have hb:Nat.beq (P.cellsOf e) 1=false:=beq_ne h1
        simp only [TyT,hp,hu,hb]
        exact⟨_,rfl,by rw [hlen];exact hml,fun y hy=>(hty _ hy).2⟩
     rcases DataW.trod_slice hu h with ⟨rfl,_⟩ | ⟨a,len,cap,elems,rest,n',rfl,rfl,_,_,hlc,hcm,hel,hE,_,_⟩
     ·exact fin _ 0 [] (by simp [maxLen]) rfl (by simp) rfl (fun _=>⟨none,0,rfl⟩) (by simp)
     ·have hcs:∀ i,i<len→∃ cs',W.cells? 0 (a.add (i * P.cellsOf e)) (P.cellsOf e)=some cs'∧Rd P fz m e cs':=by
       intro i hi
       have:=hE i hi
       rw [List.getElem?_eq_getElem (by omega),Option.bind_eq_some_iff] at this
       obtain⟨cs',h1,h2⟩:=this
       exact⟨cs',h1,ih _ _ _ _ hse h2⟩
      by_cases hl0:len=0
      ·subst hl0
       exact fin _ 0 [] (by simp [maxLen]) rfl (by simp) rfl (fun _=>⟨_,_,rfl⟩) (by simp)
      ·obtain⟨cs0,c1,_⟩:=hcs 0 (by omega)
       have ha:a.add (0 * P.cellsOf e)=a:=by simp [Addr.add]
       rw [ha] at c1
       obtain⟨c,tt,z,hb,hsp,_,_,_⟩:=cells_take hs0 c1
       have key:∀ k,k≤len→∃ yss us,yss.length=k∧VPLL fz (P.cellsOf e) yss us∧(∀ u∈us,plainV u=true)∧(∀ ys∈yss,ys.length=P.cellsOf e∧TyT P m e ys)∧(k ≠ 0→a.off+k * P.cellsOf e≤c.toList.length)∧us=(c.toList.drop a.off).take (k * P.cellsOf e):=by
        intro k
        induction k with
        | zero=>intro _;exact⟨[],[],rfl,by simp [VPLL],by simp,by simp,by simp,by simp⟩
        | succ k ihk=>
         intro hk
         obtain⟨yss,us,k1,k2,k3,k4,k5,k6⟩:=ihk (by omega)
         obtain⟨cs',d1,ys,d2,d3,d4⟩:=hcs k (by omega)
         obtain⟨c',tt',z',e1,e2,e3,e4,e5⟩:=cells_take hs0 d1
         have hblk:(a.add (k * P.cellsOf e)).block=a.block:=by unfold Addr.add;split <;> rfl
         have hoff:(a.add (k * P.cellsOf e)).off=a.off+k * P.cellsOf e:=by unfold Addr.add;split <;> simp_all
         rw [hblk,hb] at e1
         simp only [Option.some.injEq,Obj.cells.injEq] at e1
         obtain⟨rfl,_,_⟩:=e1
         rw [hoff] at e4 e5
         have hys:ys.length=P.cellsOf e:=by rw [← VPL_length d2,e3]
         have hf:=VPLL_flat.1 k2
         refine⟨yss++[ys],us++cs',by simp [k1],VPLL_flat.2 ⟨?_,?_⟩,?_,?_,fun _=>by rw [Nat.succ_mul];omega,?_⟩
         ·simpa using VPL_append hf.1 d2
         ·intro q hq;rcases List.mem_append.1 hq with hq | hq
          ·exact hf.2 q hq
          ·simp at hq;subst hq;exact hys
         ·intro u hu;rcases List.mem_append.1 hu with hu | hu
          ·exact k3 u hu
          ·exact d3 u hu
         ·intro q hq;rcases List.mem_append.1 hq with hq | hq
          ·exact k4 q hq
          ·simp at hq;subst hq;exact⟨hys,d4⟩
         ·rw [k6,e5,Nat.succ_mul,List.take_add,List.drop_drop]
       obtain⟨yss,us,k1,k2,k3,k4,k5,k6⟩:=key len (Nat.le_refl _)
       have k5:=k5 hl0
       have hne:yss ≠ []:=by intro e;subst e;simp at k1;omega
       refine fin _ len yss (by omega) k1 k4 rfl (fun e=>absurd e hne) fun _=>⟨a.block,a.off,cap,c.toList,us,?_,hlc,hfz _ _ _ _ hb,k2,?_⟩
       ·obtain⟨ab,ao,asp⟩:=a;simp only [] at hsp;subst hsp;rfl
       ·refine⟨c.toList.take a.off,c.toList.drop (a.off+len * P.cellsOf e),?_,?_,k3⟩
        ·rw [k6,List.append_assoc,← List.drop_drop,List.take_append_drop,List.take_append_drop]
        ·rw [List.length_take];omega
    | _=>simp [basic] at hs
mutual
def flatD:DataW H→Option (List PV)
 | .lit (.bool b)=>some [.bool b]
 | .lit (.int k n)=>some [.int k n]
 | .lit (.string s)=>some [.str s]
 | .agg ps=>flatDL ps
 | _=>none
def flatDL:List (DataW H)→Option (List PV)
 | []=>some []
 | d::r=>match flatD d,flatDL r with
  | some xs,some ys=>some (xs++ys)
  | _,_=>none
end
theorem fldsD_of {fz:Fzn} {cs:List Value} {Q:DataW H→List Value→Prop} (hQ:∀ d us xs,Q d us→flatD d=some xs→VPL fz xs us∧∀ u∈us,plainV u=true):∀ (l:List (TypeId × Nat)) (ds:List (DataW H)) (o:Nat) (xs:List PV),tiles P l o=some cs.length→ds.length=l.length →
  (∀ (i:Nat) f d,l[i]?=some f→ds[i]?=some d→Q d ((cs.drop f.2).take (P.cellsOf f.1)))→flatDL ds=some xs→VPL fz xs (cs.drop o)∧∀ u∈cs.drop o,plainV u=true
 | [],ds,o,xs,ht,hl,_,hd=>by
  simp only [tiles,Option.some.injEq] at ht
  subst ht
  obtain rfl:=List.eq_nil_of_length_eq_zero hl
  simp only [flatDL,Option.some.injEq] at hd
  subst hd
  simp [VPL]
 | f::r,[],o,xs,ht,hl,_,hd=>by simp at hl
 | f::r,d::ds,o,xs,ht,hl,hr,hd=>by
  simp only [tiles] at ht
  split at ht
  ·rename_i ho
   simp only [flatDL] at hd
   split at hd
   ·rename_i ys zs e1 e2
    injection hd with hd
    subst hd
    have h1:=hQ d _ ys (hr 0 f d rfl rfl) e1
    have h2:=fldsD_of hQ r ds (o+P.cellsOf f.1) zs ht (by simpa using hl) (fun i g e hg he=>hr (i+1) g e hg he) e2
    rw [ho] at h1
    have e:cs.drop o=(cs.drop o).take (P.cellsOf f.1)++cs.drop (o+P.cellsOf f.1):=by
     rw [← List.drop_drop,List.take_append_drop]
    rw [e]
    refine⟨VPL_append h1.1 h2.1,fun u hu=>?_⟩
    rcases List.mem_append.1 hu with hu | hu
    ·exact h1.2 u hu
    ·exact h2.2 u hu
   ·cases hd
  ·cases ht
theorem laid_of_trod {fz:Fzn}:∀ (m:Nat) (t:TypeId) (n:Nat) (cs:List Value) (x:DataW H × List MemPlace) (xs:List PV),supp P m t=true→DataW.trod enc P W 0 sp held n t cs=some x→flatD x.1=some xs→VPL fz xs cs∧∀ u∈cs,plainV u=true
 | 0,_,_,_,_,_,hs,_,_=>by simp [supp] at hs
 | m+1,t,n,cs,x,xs,hs,h,hd=>by
  have ih:=laid_of_trod (fz:=fz) m
  simp only [supp] at hs
  cases hp:partsOf P t with
  | some l=>
   simp only [hp,Bool.and_eq_true,decide_eq_true_eq,List.all_eq_true] at hs
   obtain⟨ys,k,h1,h2,h3,h4,h5⟩:=parts_trod hp h
   rw [h2] at hd
   simp only [flatD] at hd
   have:=fldsD_of (fz:=fz) (P:=P) (cs:=cs) (Q:=fun d us=>∀ xs,flatD d=some xs→VPL fz xs us∧∀ u∈us,plainV u=true) (fun d us xs hq hx=>hq xs hx) l (ys.map (·.1)) 0 xs (by rw [h3];exact hs.1) (by simpa using h4) (fun i f d hf hd'=>by
    rw [List.getElem?_map,Option.map_eq_some_iff] at hd'
    obtain⟨y,hy,rfl⟩:=hd'
    have e:=h5 i f hf
    rw [hy] at e
    intro xs hx
    exact ih _ _ _ _ xs (hs.2 _ (List.mem_of_getElem? hf)) e hx) hd
   simpa using this
  | none=>
   simp only [hp] at hs
   cases hu:P.underlying t with
   | none=>simp [hu] at hs
   | some d=>
    simp only [hu] at hs
    cases d with
    | bool=>
     obtain⟨b,rfl,rfl⟩:=DataW.trod_bool hu h
     simp only [flatD,Option.some.injEq] at hd
     subst hd
     exact⟨by simp [VPL,VP],by simp [plainV]⟩
    | int k=>
     obtain⟨b,rfl,rfl,hw⟩:=DataW.trod_int hu h
     simp only [flatD,Option.some.injEq] at hd
     subst hd
     exact⟨by simp [VPL,VP],by simp [plainV]⟩
    | string=>
     obtain⟨⟨⟨s⟩⟩,rfl,rfl,hw⟩:=DataW.trod_string hu h
     simp only [flatD,Option.some.injEq] at hd
     subst hd
     exact⟨by simp [VPL,VP],by simp [plainV]⟩
    | slice e=>
     rcases DataW.trod_slice hu h with ⟨rfl,rfl⟩ | ⟨a,len,cap,elems,rest,n',rfl,rfl,rfl,_⟩
     ·simp [flatD] at hd
     ·simp [flatD] at hd
    | _=>simp [basic] at hs
end
end Go.Proofs.YtohfoaplnjcihaaGreatDoor.Y
namespace Go.Proofs.YtohfoaplnjcihaaGreatDoor.Y
open Go
theorem mapM_mono {α β:Type} {f g:α→Option β}:∀ {l:List α} {r:List β},(∀ x∈l,∀ y,f x=some y→g x=some y)→l.mapM f=some r→l.mapM g=some r
 | [],r,_,h=>by simpa using h
 | x::l,r,hfg,h=>by
  simp only [List.mapM_cons,Option.bind_eq_bind,Option.bind_eq_some_iff,Option.pure_def,Option.some.injEq] at h ⊢
  obtain⟨y,h1,ys,h2,h3⟩:=h
  exact⟨y,hfg x (by simp) y h1,ys,mapM_mono (fun z hz=>hfg z (by simp [hz])) h2,h3⟩
def Kept (W W':World):Prop:=∀ (b:Nat) (o:Obj),W.heap[b]?=some o→W'.heap[b]?=some o
section
variable {H:Type} {enc:TypeId × Value→H} {P:Program} {W W':World} {sp':Nat→Bool} {held:Bool}
theorem Kept.cell (hk:Kept W W') {a:Addr} {v:Value} (h:W.cell? a=some v):W'.cell? a=some v:=by
 unfold World.cell? at h ⊢
 split at h
 ·rename_i c t z hb
  rw [hk _ _ hb]
  exact h
 ·cases h
theorem Kept.cells (hk:Kept W W') {a:Addr} {n:Nat} {cs:List Value} (h:W.cells? 0 a n=some cs):W'.cells? 0 a n=some cs:=by
 unfold World.cells? at h ⊢
 rw [if_pos (Nat.zero_le _)] at h ⊢
 exact mapM_mono (fun _ _ _ hx=>hk.cell hx) h
theorem trod_kept (hk:Kept W W') (hsp:∀ b,b<W.heap.size→sp' b=true):∀ (m:Nat) (t:TypeId) (n:Nat) (cs:List Value) (x:DataW H × List MemPlace),supp P m t=true→DataW.trod enc P W 0 (fun _=>true) held n t cs=some x→DataW.trod enc P W' 0 sp' held n t cs=some x
 | 0,_,_,_,_,hs,_=>by simp [supp] at hs
 | m+1,t,0,cs,x,hs,h=>by simp [DataW.trod] at h
 | m+1,t,n+1,cs,x,hs,h=>by
  have ih:=trod_kept hk hsp m
  simp only [supp] at hs
  cases hu:P.underlying t with
  | none=>
   have hp:partsOf P t=none:=by simp [partsOf,hu]
   simp [hp,hu] at hs
  | some d=>
   cases d with
   | struct fs=>
    have hp:partsOf P t=some (fs.toList.map fun f=>(f.type,f.offset)):=by simp [partsOf,hu]
    simp only [hp,Bool.and_eq_true,List.all_eq_true] at hs
    unfold DataW.trod at h ⊢
    rw [hu] at h ⊢
    simp only [] at h ⊢
    split at h
    ·rename_i hl
     rw [if_pos hl]
     rw [Option.map_eq_some_iff] at h ⊢
     obtain⟨xs,h1,h2⟩:=h
     exact⟨xs,mapM_mono (fun f hf y hy=>ih _ _ _ _ (hs.2 (f.type,f.offset) (List.mem_map_of_mem hf)) hy) h1,h2⟩
    ·cases h
   | array k e=>
    have hp:partsOf P t=some ((List.range k).map fun i=>(e,i * P.cellsOf e)):=by simp [partsOf,hu]
    simp only [hp,Bool.and_eq_true,List.all_eq_true] at hs
    unfold DataW.trod at h ⊢
    rw [hu] at h ⊢
    simp only [] at h ⊢
    split at h
    ·rename_i hl
     rw [if_pos hl]
     rw [Option.map_eq_some_iff] at h ⊢
     obtain⟨xs,h1,h2⟩:=h
     exact⟨xs,mapM_mono (fun i hi y hy=>ih _ _ _ _ (hs.2 (e,i * P.cellsOf e) (List.mem_map_of_mem hi)) hy) h1,h2⟩
    ·cases h
   | bool=>
    obtain⟨b,rfl,rfl⟩:=DataW.trod_bool hu h
    unfold DataW.trod;rw [hu]
   | int k=>
    obtain⟨b,rfl,rfl,hw⟩:=DataW.trod_int hu h
    unfold DataW.trod;rw [hu];simp [hw]
   | string=>
    obtain⟨s,rfl,rfl,hw⟩:=DataW.trod_string hu h
    unfold DataW.trod;rw [hu];simp [hw]
   | slice e=>
    have hp:partsOf P t=none:=by simp [partsOf,hu]
    simp only [hp,hu,Bool.and_eq_true,decide_eq_true_eq] at hs
    rcases DataW.trod_slice hu h with ⟨rfl,rfl⟩ | ⟨a,len,cap,_,_,_,_,rfl,_⟩
    ·unfold DataW.trod;rw [hu];rfl
    unfold DataW.trod at h ⊢
    rw [hu] at h ⊢
    simp only [if_true] at h ⊢
    split at h
    rotate_left
    ·cases h
    rename_i hc
    rw [if_pos hc]
    rw [Option.bind_eq_some_iff] at h ⊢
    obtain⟨elems,h1,h2⟩:=h
    rw [Option.map_eq_some_iff] at h2
    obtain⟨rest,h2,h3⟩:=h2
    have el:∀ i y,(W.cells? 0 (a.add (i * P.cellsOf e)) (P.cellsOf e)).bind (DataW.trod enc P W 0 (fun _=>true) held n e)=some y→(W'.cells? 0 (a.add (i * P.cellsOf e)) (P.cellsOf e)).bind (DataW.trod enc P W' 0 sp' held n e)=some y:=by
     intro i y hy
     rw [Option.bind_eq_some_iff] at hy ⊢
     obtain⟨cs',g1,g2⟩:=hy
     exact⟨cs',hk.cells g1,ih _ _ _ _ hs.2 g2⟩
    refine⟨elems,mapM_mono (fun i _ y hy=>el i y hy) h1,?_⟩
    rw [Option.map_eq_some_iff]
    refine⟨rest,?_,h3⟩
    by_cases hd:cap - len=0
    ·rw [hd] at h2 ⊢
     simp at h2
     subst h2
     cases sp' a.block <;> simp
    ·have hb:a.block<W.heap.size:=by
      have hl:=mapM_some_length h2
      rw [List.length_range] at hl
      have:=mapM_some_get h2 0 0 (by rw [List.getElem?_eq_getElem (by simp;omega)];simp)
      rw [List.getElem?_eq_getElem (by omega),Option.bind_eq_some_iff] at this
      obtain⟨cs',g1,_⟩:=this
      obtain⟨c,t',z,g3,_⟩:=cells_take hs.1 g1
      have hblk:(a.add ((len+0) * P.cellsOf e)).block=a.block:=by unfold Addr.add;split <;> rfl
      rw [hblk] at g3
      exact(Array.getElem?_eq_some_iff.1 g3).1
     rw [if_pos (hsp _ hb)]
     exact mapM_mono (fun i _ y hy=>el (len+i) y hy) h2
   | _=>
    have hp:partsOf P t=none:=by simp [partsOf,hu]
    simp [hp,hu,basic] at hs
theorem trodAll_kept (hk:Kept W W') (hsp:∀ b,b<W.heap.size→sp' b=true) (m:Nat):∀ {ts:List TypeId} {vs:List Value} {ds:List (DataW H)} {ps:List MemPlace},ts.all (supp P m)=true→DataW.TrodAll enc P W 0 (fun _=>true) held ts vs ds ps→DataW.TrodAll enc P W' 0 sp' held ts vs ds ps
 | [],[],[],ps,_,h=>h
 | t::ts,v::vs,d::ds,ps,hs,h=>by
  simp only [List.all_cons,Bool.and_eq_true] at hs
  obtain⟨p,q,⟨fuel,h1⟩,h2,h3⟩:=h
  exact⟨p,q,⟨fuel,trod_kept hk hsp m _ _ _ _ hs.1 h1⟩,trodAll_kept hk hsp m hs.2 h2,h3⟩
 | [],[],_::_,ps,_,h=>by simp [DataW.TrodAll] at h
 | [],_::_,_,ps,_,h=>by simp [DataW.TrodAll] at h
 | _::_,[],_,ps,_,h=>by simp [DataW.TrodAll] at h
 | _::_,_::_,[],ps,_,h=>by simp [DataW.TrodAll] at h
def ArgT (P:Program) (m:Nat) (t:TypeId) (x:PV):Prop:=match partsOf P t with
 | some _=>∃ xs,x=.agg xs∧TyT P m t xs
 | none=>TyT P m t [x]
def ArgsT (P:Program) (m:Nat):List TypeId→List PV→Prop
 | [],xs=>xs=[]
 | t::ts,xs=>∃ x r,xs=x::r∧ArgT P m t x∧ArgsT P m ts r
def fzOf (W:World):Fzn:=fun b=>match W.heap[b]? with
 | some (.cells c _ _)=>some c.toList
 | _=>none
theorem fzOf_all (W:World):AllCells (fzOf W) W:=fun b c t z h=>by simp [fzOf,h]
theorem fzOf_some {b:Nat} {arr:List Value} (h:fzOf W b=some arr):∃ c t z,W.heap[b]?=some (.cells c t z)∧arr=c.toList:=by
 unfold fzOf at h
 split at h
 ·rename_i c t z hb
  injection h with h
  exact⟨c,t,z,hb,h.symm⟩
 ·cases h
theorem arg_of {m:Nat} {base:Nat} {t:TypeId} {v:Value} {d:DataW H} {ps:List MemPlace} (hs:supp P m t=true) (hval:Value.okWide P W .any base t v) (h:DataW.Trod enc P W 0 (fun _=>true) true t v d ps):∃ x,VP (fzOf W) x v∧ArgT P m t x:=by
 obtain⟨fuel,h⟩:=h
 obtain⟨xs,h1,h2,h3⟩:=typed_of_trod (fzOf_all W) m t fuel _ _ hs h
 unfold Value.okWide at hval
 cases hp:partsOf P t with
 | some l=>
  have:∃ cs,v=.agg cs:=by
   unfold partsOf at hp
   split at hp
   ·rename_i fs hu;simp only [hu] at hval;obtain⟨cs,h,_⟩:=hval;exact⟨cs,h⟩
   ·rename_i k e hu;simp only [hu] at hval;obtain⟨cs,h,_⟩:=hval;exact⟨cs,h⟩
   ·cases hp
  obtain⟨cs,rfl⟩:=this
  exact⟨.agg xs,by simp only [VP];exact⟨cs,rfl,h1⟩,by simp only [ArgT,hp];exact⟨xs,rfl,h3⟩⟩
 | none=>
  have hv:v.cells=#[v]:=by
   cases m with
   | zero=>simp [supp] at hs
   | succ m=>
    simp only [supp,hp] at hs
    cases hu:P.underlying t with
    | none=>simp [hu] at hs
    | some d=>
     simp only [hu] at hs hval
     cases d with
     | struct fs=>simp [partsOf,hu] at hp
     | array k e=>simp [partsOf,hu] at hp
     | bool=>cases v <;> simp_all [Cell.okWide,Cell.ok,Value.cells]
     | int k=>cases v <;> simp_all [Cell.okWide,Cell.ok,Value.cells]
     | string=>cases v <;> simp_all [Cell.okWide,Cell.ok,Value.cells]
     | slice e=>cases v <;> simp_all [Cell.okWide,Cell.ok,Value.cells]
     | _=>simp [basic] at hs
  rw [hv] at h1
  obtain⟨x,rfl,h4⟩:∃ x,xs=[x]∧VP (fzOf W) x v:=by
   match xs,h1 with
   | [],h1=>simp [VPL] at h1
   | x::r,h1=>
    simp only [VPL] at h1
    obtain⟨u,us,e,g1,g2⟩:=h1
    simp only [List.cons.injEq] at e
    obtain⟨rfl,rfl⟩:=e
    match r,g2 with
    | [],_=>exact⟨x,rfl,g1⟩
    | y::r,g2=>simp [VPL] at g2
  exact⟨x,h4,by simp only [ArgT,hp];exact h3⟩
theorem args_of {m base:Nat}:∀ {ts:List TypeId} {vs:List Value} {ds:List (DataW H)} {ps:List MemPlace},ts.all (supp P m)=true→(∀ (j:Nat) t v,ts[j]?=some t→vs[j]?=some v→Value.okWide P W .any base t v)→DataW.TrodAll enc P W 0 (fun _=>true) true ts vs ds ps →
  ∃ xs,VPL (fzOf W) xs vs∧ArgsT P m ts xs∧ds.length=ts.length
 | [],[],[],ps,_,_,_=>⟨[],by simp [VPL],rfl,rfl⟩
 | t::ts,v::vs,d::ds,ps,hs,hv,h=>by
  simp only [List.all_cons,Bool.and_eq_true] at hs
  obtain⟨p,q,h1,h2,h3⟩:=h
  obtain⟨x,g1,g2⟩:=arg_of hs.1 (hv 0 t v rfl rfl) h1
  obtain⟨xs,k1,k2,k3⟩:=args_of hs.2 (fun j t v ht hv'=>hv (j+1) t v ht hv') h2
  exact⟨x::xs,by simp only [VPL];exact⟨v,vs,rfl,g1,k1⟩,⟨x,xs,rfl,g2,k2⟩,by simp [k3]⟩
 | [],[],_::_,ps,_,_,h=>by simp [DataW.TrodAll] at h
 | [],_::_,_,ps,_,_,h=>by simp [DataW.TrodAll] at h
 | _::_,[],_,ps,_,_,h=>by simp [DataW.TrodAll] at h
 | _::_,_::_,[],ps,_,_,h=>by simp [DataW.TrodAll] at h
end
def gtOK (P:Program) (m:Nat):List (Nat × List PV)→List (String × DataW Unit)→Prop
 | [],_=>True
 | (g,cs)::r,(n,d)::r'=>P.globalNamed n=some g∧(∃ t,(P.globals[g]?).map (·.type)=some t∧supp P m t=true)∧flatD d=some cs∧gtOK P m r r'
 | _::_,[]=>False
theorem glob_of_laid {P:Program} {m:Nat} {W:World}:∀ {gt:List (Nat × List PV)} {laid:List (String × DataW Unit)} {ps:List MemPlace},gtOK P m gt laid→DataW.LaidVars P W laid ps→∀ g cs,gget gt g=some cs→GlobV (fzOf W) g cs
 | [],_,_,_,_,g,cs,h=>by simp [gget] at h
 | (g',cs')::r,[],_,hg,_,g,cs,h=>by simp [gtOK] at hg
 | (g',cs')::r,(n,d)::r',ps,hg,hl,g,cs,h=>by
  obtain⟨h1,⟨t,h2,h3⟩,h4,h5⟩:=hg
  obtain⟨g0,t0,cs0,fuel,p,q,k1,k2,k3,k4,k5,k6⟩:=hl
  rw [h1] at k1
  injection k1 with k1
  subst k1
  rw [h2] at k2
  injection k2 with k2
  subst k2
  simp only [gget] at h
  split at h
  ·rename_i he
   have he:=Nat.eq_of_beq_eq_true he
   subst he
   injection h with h
   subst h
   obtain⟨g1,g2⟩:=laid_of_trod (fz:=fzOf W) m t fuel _ _ _ h3 k4 h4
   have hb:∃ ty z,W.heap[g']?=some (.cells cs0 ty z):=by
    unfold World.var? at k3
    rw [h1] at k3
    simp only [Option.bind_some] at k3
    split at k3
    ·rename_i c ty z hb
     injection k3 with k3
     subst k3
     exact⟨ty,z,hb⟩
    ·cases k3
   obtain⟨ty,z,hb⟩:=hb
   exact⟨by simp only [VP];exact⟨g',0,cs0.toList,cs0.toList,rfl,fzOf_all W _ _ _ _ hb,g1,[],[],by simp,rfl,g2⟩,cs0.toList,fzOf_all W _ _ _ _ hb,VPL_length g1⟩
  ·exact glob_of_laid h5 k5 g cs h
section
variable {cx:Cx}
theorem calls_of_pure {H:Type} {enc:TypeId × Value→H} {W:World} {f:FuncId} {fn:Func} {c:Code} {m base:Nat} {args:Array Value} {ds:List (DataW H)} {ps:List MemPlace}
  (hf : cx.P.funcs[f]? = some fn) (hname : (fn.name == "runtime.NumGoroutine") = false) (hb : fn.body = some c) (hs : fn.params.toList.all (supp cx.P m) = true)
  (hpure:∀ xs,ArgsT cx.P m fn.params.toList xs→Pure cx f xs (·=.ret [.bool true]))
  (hval:∀ (j:Nat) t v,fn.params[j]?=some t→args[j]?=some v→Value.okWide cx.P W .any base t v)
  (hA:DataW.TrodAll enc cx.P W 0 (fun _=>true) true fn.params.toList args.toList ds ps)
  (hglob:∀ g cs,gget cx.gt g=some cs→GlobV (fzOf W) g cs) :
  Calls cx.P f args W fun e W'=>e=.returned (.bool true)∧W'.os=W.os∧W'.output=W.output∧∀ k,k<W.heap.size→W'.heap[k]?=W.heap[k]?:=by
 obtain⟨xs,h1,h2,_⟩:=args_of hs (fun j t v ht hv=>hval j t v (by simpa using ht) (by simpa using hv)) hA
 have hR:R cx ⟨fun _=>none,fzOf W⟩ ⟨0,[]⟩ W:=by
  refine⟨hglob,fun _ _=>rfl,fun b arr hb=>?_,fun n o hn=>by simp [lget] at hn,fun n o q hn=>by simp [lget] at hn,fun n o m p q q' hn=>by simp [lget] at hn⟩
  obtain⟨c,t,z,g1,rfl⟩:=fzOf_some hb
  exact⟨t,z,g1⟩
 have key:∀ e w',Post cx ⟨fun _=>none,fzOf W⟩ ⟨0,[]⟩ W (EndP (·=.ret [.bool true])) e w'→e=.returned (.bool true)∧w'.os=W.os∧w'.output=W.output∧∀ k,k<W.heap.size→w'.heap[k]?=W.heap[k]?:=by
  intro e w' hP
  obtain⟨r,Γ',hq,_,hE,_,hT,_⟩:=pure_post hR hP
  subst hq
  obtain⟨v',rfl,hv⟩:=hE
  simp only [VR,VP] at hv
  subst hv
  exact⟨rfl,hT.os,hT.output,fun k hk=>hT.kept k hk own_nil⟩
 have hrun:=run_enter hf hname hb args W
 rcases hpure xs h2 ⟨fun _=>none,fzOf W⟩ W args.toList hR (VRL_p.2 h1) with ⟨_,h4⟩ | ⟨v',w',h4,_⟩
 ·exact h4.mono key
 ·rw [hrun] at h4
  injection h4 with h4
  cases h4
theorem post_of_kept {H:Type} {enc:TypeId × Value→H} {W W':World} {fn:Func} {s:ChangeSpec} {m:Nat} {bt:TypeId} {apart fresh handsOn:Bool} {args:Array Value} {ds gs:List (DataW H)} {before:List MemPlace}
  (hs:fn.params.toList.all (supp cx.P m)=true) (hvars:s.vars=[]) (hres:fn.resultTypes=#[bt]) (hbt:cx.P.underlying bt=some .bool)
  (hfn:∀ ds:List (DataW H),ds.length=fn.params.toList.length→s.fn H ds={ results:=[.lit (.bool true)],args:=ds })
  (hW:DataW.Whole enc cx.P fn.params.toList s.vars apart W args.toList ds gs before) (hlen:ds.length=fn.params.toList.length)
  (hos:W'.os=W.os) (hout:W'.output=W.output) (hkept:∀ k,k<W.heap.size→W'.heap[k]?=W.heap[k]?) :
  s.post enc cx.P fn apart fresh handsOn false W args (.bool true) W':=by
 have hk:Kept W W':=fun b o hb=>by rw [hkept b (Array.getElem?_eq_some_iff.1 hb).1];exact hb
 have hW':=hW
 obtain⟨p,q,h1,h2,_,_,_⟩:=hW'
 rw [hvars] at h2
 obtain⟨rfl,rfl⟩:=Go.ChangeShapes.trodVars_none h2
 have e:s.fn H (ds++[])={ results:=[.lit (.bool true)],args:=ds }:=by rw [List.append_nil];exact hfn ds hlen
 refine⟨ds,[],before,[],p,[],hW,?_,?_,?_,?_,fun h=>by cases h⟩
 ·rw [e,hres]
  exact Go.ChangeShapes.trodAll_mk1 (Go.RowKit.shut_bool hbt true)
 ·rw [e]
  exact trodAll_kept hk (fun b hb=>by simpa using hb) m hs h1
 ·rw [e,hvars]
  rfl
 ·refine⟨hos,hout,fun i hi=>?_⟩
  rw [hkept i hi]
  have:=Array.getElem?_eq_getElem hi
  rw [this]
  cases W.heap[i] <;> simp
end
end Go.Proofs.YtohfoaplnjcihaaGreatDoor.Y
namespace Go.Proofs.YtohfoaplnjcihaaGreatDoor
open Go Y
set_option maxRecDepth 100000
set_option maxHeartbeats 4000000
theorem ty_u8 {m:Nat} {xs:List PV} (h:TyT Tryz.prog (m+1) 5 xs):∃ b:UInt8,xs=[u8 b]:=by
 have hp:partsOf Tryz.prog 5=none:=by simp [partsOf,Tryz.underlying5]
 simp only [TyT,hp,Tryz.underlying5] at h
 obtain⟨n,rfl,hw⟩:=h
 have:=bounds_u8 hw
 refine⟨UInt8.ofNat n.toNat,?_⟩
 have e:((UInt8.ofNat n.toNat).toNat:Int)=n:=by
  simp
  omega
 rw [u8,e]
theorem lift_lists {α:Type} {f:α→List PV} {P:α→Prop} {ys:List (List PV)} (h:∀ y∈ys,∃ a,y=f a∧P a):∃ zs:List α,ys=zs.map f∧∀ z∈zs,P z:=by
 induction ys with
 | nil=>exact⟨[],rfl,by simp⟩
 | cons y r ih=>
  obtain⟨a,rfl,ha⟩:=h y (by simp)
  obtain⟨zs,rfl,hz⟩:=ih fun z hz=>h z (by simp [hz])
  exact⟨a::zs,rfl,fun z hm=>by rcases List.mem_cons.1 hm with rfl | hm;exact ha;exact hz z hm⟩
theorem ty_u16 {m:Nat} {xs:List PV} (h:TyT Tryz.prog (m+1) 52 xs):∃ b:UInt16,xs=[.int .u16 (b.toNat:Int)]:=by
 have hp:partsOf Tryz.prog 52=none:=by simp [partsOf,Tryz.underlying52]
 simp only [TyT,hp,Tryz.underlying52] at h
 obtain⟨n,rfl,hw⟩:=h
 have:=bounds_u16 hw
 refine⟨UInt16.ofNat n.toNat,?_⟩
 have e:((UInt16.ofNat n.toNat).toNat:Int)=n:=by
  simp
  omega
 rw [e]
theorem ty_bool {m:Nat} {xs:List PV} (h:TyT Tryz.prog (m+1) 4 xs):∃ b,xs=[.bool b]:=by
 have hp:partsOf Tryz.prog 4=none:=by simp [partsOf,Tryz.underlying4]
 simp only [TyT,hp,Tryz.underlying4] at h
 exact h
theorem arg_plain {m:Nat} {t:TypeId} {x:PV} (hp:partsOf Tryz.prog t=none) (h:ArgT Tryz.prog m t x):TyT Tryz.prog m t [x]:=by
 simpa only [ArgT,hp] using h
theorem ty_arr3 {m:Nat} {xs:List PV} (h:TyT Tryz.prog (m+2) 27 xs):∃ a b c:UInt8,xs=[u8 a,u8 b,u8 c]:=by
 have hp:partsOf Tryz.prog 27=some [(5,0),(5,1),(5,2)]:=by kernel_rfl
 rw [TyT] at h
 simp only [hp] at h
 obtain⟨x1,_,rfl,_,h1,x2,_,rfl,_,h2,x3,_,rfl,_,h3,rfl⟩:=h
 obtain⟨a,rfl⟩:=ty_u8 h1
 obtain⟨b,rfl⟩:=ty_u8 h2
 obtain⟨c,rfl⟩:=ty_u8 h3
 exact⟨a,b,c,rfl⟩
theorem ty_piece {m:Nat} {xs:List PV} (h:TyT Tryz.prog (m+3) 155 xs):∃ p:Pc,xs=p.cells:=by
 have hp:partsOf Tryz.prog 155=some [(5,0),(5,1),(5,2),(5,3),(27,4)]:=by kernel_rfl
 rw [TyT] at h
 simp only [hp] at h
 obtain⟨x1,_,rfl,_,h1,x2,_,rfl,_,h2,x3,_,rfl,_,h3,x4,_,rfl,_,h4,x5,_,rfl,_,h5,rfl⟩:=h
 obtain⟨a,rfl⟩:=ty_u8 h1
 obtain⟨b,rfl⟩:=ty_u8 h2
 obtain⟨c,rfl⟩:=ty_u8 h3
 obtain⟨d,rfl⟩:=ty_u8 h4
 obtain⟨x,y,z,rfl⟩:=ty_arr3 h5
 exact⟨⟨a,b,c,d,x,y,z⟩,rfl⟩
theorem ty_pieces {m:Nat} {xs:List PV} (h:TyT Tryz.prog (m+4) 26 xs):∃ l:List Pc,xs=[.lsts 7 (l.map Pc.cells)]∧l.length≤9223372036854775807:=by
 have hp:partsOf Tryz.prog 26=none:=by simp [partsOf,Tryz.underlying26]
 have hc:Tryz.prog.cellsOf 155=7:=by kernel_rfl
 rw [TyT] at h
 simp only [hp,Tryz.underlying26,hc] at h
 obtain⟨ys,rfl,hn,hy⟩:=h
 obtain⟨l,rfl,_⟩:=lift_lists (f:=Pc.cells) (P:=fun _=>True) fun y hy'=>by
  obtain⟨p,hp⟩:=ty_piece (hy y hy')
  exact⟨p,hp,trivial⟩
 rw [List.length_map] at hn
 exact⟨l,rfl,hn⟩
theorem ty_part {m:Nat} {xs:List PV} (h:TyT Tryz.prog (m+5) 29 xs):∃ p:Pt,xs=p.cells∧p.cases.length≤9223372036854775807:=by
 have hp:partsOf Tryz.prog 29=some [(5,0),(5,1),(5,2),(5,3),(4,4),(26,5),(27,6)]:=by kernel_rfl
 rw [TyT] at h
 simp only [hp] at h
 obtain⟨x1,_,rfl,_,h1,x2,_,rfl,_,h2,x3,_,rfl,_,h3,x4,_,rfl,_,h4,x5,_,rfl,_,h5,x6,_,rfl,_,h6,x7,_,rfl,_,h7,rfl⟩:=h
 obtain⟨a,rfl⟩:=ty_u8 h1
 obtain⟨b,rfl⟩:=ty_u8 h2
 obtain⟨c,rfl⟩:=ty_u8 h3
 obtain⟨d,rfl⟩:=ty_u8 h4
 obtain⟨g,rfl⟩:=ty_bool h5
 obtain⟨l,rfl,hl⟩:=ty_pieces h6
 obtain⟨x,y,z,rfl⟩:=ty_arr3 h7
 exact⟨⟨a,b,c,d,g,l,x,y,z⟩,rfl,hl⟩
theorem ty_parts {m:Nat} {xs:List PV} (h:TyT Tryz.prog (m+6) 25 xs):∃ l:List Pt,xs=[.lsts 9 (l.map Pt.cells)]∧l.length≤9223372036854775807∧∀ p∈l,p.cases.length≤9223372036854775807:=by
 have hp:partsOf Tryz.prog 25=none:=by simp [partsOf,Tryz.underlying25]
 have hc:Tryz.prog.cellsOf 29=9:=by kernel_rfl
 rw [TyT] at h
 simp only [hp,Tryz.underlying25,hc] at h
 obtain⟨ys,rfl,hn,hy⟩:=h
 obtain⟨l,rfl,hl⟩:=lift_lists (f:=Pt.cells) (P:=fun p=>p.cases.length≤9223372036854775807) fun y hy'=>ty_part (hy y hy')
 rw [List.length_map] at hn
 exact⟨l,rfl,hn,hl⟩
theorem arg_draft38 {m:Nat} {x:PV} (h:ArgT Tryz.prog (m+7) 31 x):∃ d:Dp,x=.agg d.cells∧d.ok:=by
 have hp:partsOf Tryz.prog 31=some [(5,0),(5,1),(25,2),(29,3),(25,12),(4,13)]:=by kernel_rfl
 simp only [ArgT,hp] at h
 obtain⟨xs,rfl,h⟩:=h
 rw [TyT] at h
 simp only [hp] at h
 obtain⟨x1,_,rfl,_,h1,x2,_,rfl,_,h2,x3,_,rfl,_,h3,x4,_,rfl,_,h4,x5,_,rfl,_,h5,x6,_,rfl,_,h6,rfl⟩:=h
 obtain⟨a,rfl⟩:=ty_u8 h1
 obtain⟨b,rfl⟩:=ty_u8 h2
 obtain⟨l,rfl,l1,l2⟩:=ty_parts h3
 obtain⟨c,rfl,_⟩:=ty_part h4
 obtain⟨k,rfl,k1,k2⟩:=ty_parts h5
 obtain⟨g,rfl⟩:=ty_bool h6
 exact⟨⟨a,b,l,c,k,g⟩,rfl,l1,k1,l2,k2⟩
theorem arg_edit38 {m:Nat} {x:PV} (h:ArgT Tryz.prog (m+2) 54 x):∃ E:Ed,x=E.pv:=by
 have hp:partsOf Tryz.prog 54=some [(52,0),(52,1),(5,2)]:=by kernel_rfl
 simp only [ArgT,hp] at h
 obtain⟨xs,rfl,h⟩:=h
 rw [TyT] at h
 simp only [hp] at h
 obtain⟨x1,_,rfl,_,h1,x2,_,rfl,_,h2,x3,_,rfl,_,h3,rfl⟩:=h
 obtain⟨a,rfl⟩:=ty_u16 h1
 obtain⟨b,rfl⟩:=ty_u16 h2
 obtain⟨c,rfl⟩:=ty_u8 h3
 exact⟨⟨a,b,c⟩,rfl⟩
theorem own:ownKnob Tryz.prog.godebug=none:=by kernel_rfl
abbrev laidP : List (String × DataW Unit) := [("math/bits.deBruijn32tab", Rows.laid_math_bits_deBruijn32tab), ("math/bits.deBruijn64tab", Rows.laid_math_bits_deBruijn64tab), ("internal/strconv.uint64pow10", Rows.laid_internal_strconv_uint64pow10), ("haruspex/lex.keys", Rows.laid_haruspex_lex_keys), ("haruspex/lex.marks", Rows.laid_haruspex_lex_marks)]
theorem door_metP (os:Os) (args:Array Value):laidMetH Tryz.prog laidP ((World.laidAll Tryz.prog os laidP).forCall (fun _ _=>0) ⟨#[],args,[]⟩).memory:=by
 rw [MakeChecks.laidMetH_plain _ _ _ (by kernel_rfl)]
 exact laidMet_laidAll _ (by kernel_rfl) (by kernel_rfl)
abbrev gt3:List (Nat × List PV):=[(5,pow10L.map (.int .u64)),(0,keysL.map .str),(1,marksL.map .str)]
theorem gt_okP : gtOK Tryz.prog 4 gt3 [("internal/strconv.uint64pow10", Rows.laid_internal_strconv_uint64pow10), ("haruspex/lex.keys", Rows.laid_haruspex_lex_keys), ("haruspex/lex.marks", Rows.laid_haruspex_lex_marks)] :=
 ⟨by kernel_rfl,⟨245,by kernel_rfl,by kernel_rfl⟩,rfl,by kernel_rfl,⟨226,by kernel_rfl,by kernel_rfl⟩,rfl,by kernel_rfl,⟨227,by kernel_rfl,by kernel_rfl⟩,rfl,trivial⟩
theorem gget_cases {k n:Nat} {o cs:List PV} {r:List (Nat × List PV)} (h:gget ((k,o)::r) n=some cs):(k=n∧o=cs)∨(¬ k=n∧gget r n=some cs):=by
 simp only [gget] at h
 split at h
 ·rename_i e
  injection h with h
  exact .inl ⟨Nat.eq_of_beq_eq_true e,h⟩
 ·rename_i e
  exact .inr ⟨fun c=>by rw [c] at e;simp at e,h⟩
theorem gt_reord {g:Nat} {cs:List PV} (h:gget cx.gt g=some cs):gget gt3 g=some cs:=by
 rcases gget_cases h with ⟨rfl,rfl⟩ | ⟨_,h⟩
 ·rfl
 ·rcases gget_cases h with ⟨rfl,rfl⟩ | ⟨_,h⟩
  ·rfl
  ·rcases gget_cases h with ⟨rfl,rfl⟩ | ⟨_,h⟩
   ·rfl
   ·cases h
theorem glob_okP {W:World} (h:laidMetH Tryz.prog laidP W):∀ g cs,gget cx.gt g=some cs→GlobV (fzOf W) g cs:=by
 rw [MakeChecks.laidMetH_plain _ _ _ (by kernel_rfl)] at h
 obtain⟨ps,h,_⟩:=h
 obtain⟨_,_,_,_,_,_,_,_,_,_,h,_⟩:=h
 obtain⟨_,_,_,_,_,_,_,_,_,_,h,_⟩:=h
 intro g cs hg
 exact glob_of_laid gt_okP h g cs (gt_reord hg)
theorem parseStops_pure:∀ xs,ArgsT Tryz.prog 8 Tryz.f7.params.toList xs→Pure cx 7 xs (·=.ret [.bool true]):=by
 intro xs h
 rw [Tryz.params7] at h
 obtain⟨x0,_,rfl,h0,x1,_,rfl,h1,x2,_,rfl,h2,rfl⟩:=h
 obtain⟨v0,rfl,g0⟩:=arg_draft38 h0
 obtain⟨v1,rfl⟩:=arg_edit38 h1
 obtain⟨v2,e2⟩:=ty_u8 (arg_plain (by simp [partsOf,Tryz.underlying5]) h2)
 injection e2 with e2
 subst e2
 exact parseStops_c v0 v1 v2 g0
theorem parseStops_lifted (os:Os) (started:os.Started) (H:Type) (enc:TypeId × Value→H) :
  ReturnsInHanded {} Tryz.checked os 7 .any (fun w args=>(Rows.parseStopsSpec.pre enc Tryz.prog Tryz.f7 [] false w args∧laidMetH Tryz.prog laidP w)∧sizedMet enc Tryz.prog Tryz.f7 (OpenSpec.ofChange Rows.parseStopsSpec) false w args)
   (Rows.parseStopsSpec.post enc Tryz.prog Tryz.f7 false true false false):=by
 refine returnsInHanded_of_change_and (C:=Tryz.checked) (X:=fun w _=>laidMetH Tryz.prog laidP w) (fun _ _ _ hh h=>h.of_heap hh) own started (by kernel_rfl) Tryz.func7
  (ChangeSpec.witness_shaped (enc:=enc) (C:=Tryz.checked) (os:=os) (X:=fun w _=>laidMetH Tryz.prog laidP w) false (World.laidAll Tryz.prog os laidP) #[.agg #[.int .u8 0, .int .u8 0, .slice none 0 0, .int .u8 0, .int .u8 0, .int .u8 0, .int .u8 0, .bool false, .slice none 0 0, .int .u8 0, .int .u8 0, .int .u8 0, .slice none 0 0, .bool false], .agg #[.int .u16 0, .int .u16 0, .int .u8 0], .int .u8 0] 8 (World.laidAll_os _ _ _) (World.shaped_of_ZipB (by kernel_rfl) (by kernel_rfl)) (by kernel_rfl) (by kernel_rfl) (by kernel_rfl) (door_metP os _)) ?_
 intro W base args ds gs before hval hW _ _ hL _
 obtain⟨p,q,hA,hV,_⟩:=id hW
 have hs:Tryz.f7.params.toList.all (supp Tryz.prog 8)=true:=by kernel_rfl
 obtain⟨_,_,_,hlen⟩:=args_of hs (fun j t v ht hv=>hval j t v (by simpa using ht) (by simpa using hv)) hA
 refine(calls_of_pure (cx:=cx) Tryz.func7 (by kernel_rfl) rfl hs parseStops_pure hval hA (glob_okP hL)).mono fun e W' ⟨he,h1,h2,h3⟩=>?_
 subst he
 exact⟨_,rfl,post_of_kept (cx:=cx) (m:=8) hs rfl (by kernel_rfl) Tryz.underlying4 (fun ds h=>by
  rw [Tryz.params7] at h
  match ds,h with
  | [_,_,_],_=>rfl) hW hlen h1 h2 h3⟩
theorem parseStops_holds:Rows.ParseStopsSaid:=
 OpenClaim.holds_of_wide 7 Tryz.f7 rfl rfl rfl rfl rfl rfl rfl ⟨rfl,rfl,rfl,rfl,rfl⟩ rfl rfl rfl rfl rfl (by kernel_rfl) Tryz.func7 (by kernel_rfl)
  (of_decide_eq_true (by kernel_rfl)) (by unfold Func.isWrapper;first | (rw [if_pos (by decide +kernel)];kernel_rfl) | (rw [if_neg (by decide +kernel)];exact⟨rfl,rfl⟩))
  (fun os started H enc _=>parseStops_lifted os started H enc)
theorem parseStops_card:Rows.ParseStopsCardSaid:=
 Claim7.holds_tied_plain_at .later [] [.data, .data, .data, .data, .data] true (true, "b46c99eb2204dd8b467615443c82243f622f25a7b7341c27729da0866b8561af") true
  parseStops_holds (fun _ h=>by cases h) (by kernel_rfl) (fun _ h=>by cases h) parseStops_row_tie rfl ⟨rfl,rfl⟩ (by kernel_rfl) rfl
  (fun f fn hf hfn=>by
   obtain rfl : f = 7 := Option.some.inj ((show Tryz.prog.funcNamed "haruspex/haruspexlaw38.ParseStops" = some 7 by kernel_rfl).symm.trans hf) |>.symm
   obtain rfl:fn=Tryz.f7:=(Option.some.inj (Tryz.func7.symm.trans hfn)).symm
   exact⟨by kernel_rfl,fun j t ht=>by
    have hall:(Tryz.f7.params.toList.all fun u=>!Tryz.prog.wantsStandIn u)=true:=by kernel_rfl
    exact(show Tryz.prog.wantsStandIn t=false by simpa using List.all_eq_true.1 hall t (by simpa using Array.mem_of_getElem? ht))⟩)
  (by kernel_rfl)
#print axioms parseStops_card
end Go.Proofs.YtohfoaplnjcihaaGreatDoor
