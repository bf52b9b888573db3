/- Part 5 of the proof: Eva Evb Evc Evd Eve -/
import Derived.Test.YtkegmchjobphdaaGreatDoorQ4
namespace Go.Proofs.YtkegmchjobphdaaGreatDoor.Y
open Go
noncomputable def Cb {α:Type} (n:Nat) (K:Nat->α):α:=Nat.rec (motive:=fun _=>α) (K 0) (fun m _=>K (Nat.succ m)) n
theorem FD {α:Type} (n:Nat) (K:Nat->α):Cb n K=K n:=by cases n <;> rfl
noncomputable def oo {α:Type} (n:Int) (K:Int->α):α:=Int.rec (motive:=fun _=>α) (fun m=>Cb m fun m=>K (.ofNat m)) (fun m=>Cb m fun m=>K (.negSucc m)) n
theorem Va {α:Type} (n:Int) (K:Int->α):oo n K=K n:=by
 cases n with
 | ofNat m=>exact FD m fun m=>K (.ofNat m)
 | negSucc m=>exact FD m fun m=>K (.negSucc m)
noncomputable def Ow {α:Type} (v:AV) (K:AV->α):α:=
 match v with
 | .p x=>match x with
  | .int k n=>oo n fun n=>K (.p (.int k n))
  | .bool b=>(match b with | true=>K (.p (.bool true)) | false=>K (.p (.bool false)))
  | x=>K (.p x)
 | .ptr n i f=>Cb n fun n=>Cb i fun i=>Cb f fun f=>K (.ptr n i f)
 | .Lx n i f=>Cb n fun n=>Cb i fun i=>Cb f fun f=>K (.Lx n i f)
 | .sl n s off len=>Cb n fun n=>Cb off fun off=>Cb len fun len=>K (.sl n s off len)
 | v=>K v
theorem JK {α:Type} (v:AV) (K:AV->α):Ow v K=K v:=by
 unfold Ow
 split
 ·split
  ·exact Va _ _
  ·split <;> rfl
  ·rfl
 ·grind [FD]
 ·grind [FD]
 ·grind [FD]
 ·rfl
theorem y9 {v:AV} {K:AV->Prop} (h:K v):force v K:=by
 unfold force
 grind
noncomputable def lF {α:Type} (l:List α) (n:Nat):List α:=Nat.rec (motive:=fun _=>List α) l (fun _ ih=>List.rec (motive:=fun _=>List α) [] (fun _ r _=>r) ih) n
theorem ah {α:Type} (l:List α) (n:Nat):lF l n=l.drop n:=by
 induction n with
 | zero=>rfl
 | succ n ih=>
  show List.rec (motive:=fun _=>List α) [] (fun _ r _=>r) (lF l n)=_
  have e:l.drop (n+1)=(l.drop n).drop 1:=by rw [vX]
  rw [ih,e]
  cases l.drop n <;> rfl
noncomputable def KD {α:Type} (l:List α) (n:Nat):Option α:=List.rec (motive:=fun _=>Option α) none (fun x _ _=>some x) (lF l n)
theorem Il {α:Type} (l:List α) (n:Nat):KD l n=nth l n:=by
 unfold KD
 rw [ah,Hw]
 induction l generalizing n with
 | nil=>simp
 | cons x l ih=>cases n with
  | zero=>rfl
  | succ n=>simpa using ih n
noncomputable def yj {α:Type} (v:α) (n:Nat):List α->List α:=
 Nat.rec (motive:=fun _=>List α->List α) (fun l=>List.rec (motive:=fun _=>List α) [] (fun _ r _=>v::r) l) (fun _ ih l=>List.rec (motive:=fun _=>List α) [] (fun x r _=>x::ih r) l) n
theorem yl {α:Type} (v:α):∀ (n:Nat) (l:List α),yj v n l=Fv l n [v]
 | 0,[]=>rfl
 | 0,x::l=>by rfl
 | n+1,[]=>rfl
 | n+1,x::l=>by
  show x::yj v n l=_
  rw [yl v n l];simp only [Fv]
theorem aAF {α:Type} (v:α):∀ (n:Nat) (l:List α),yj v n l=l.set n v
 | 0,[]=>rfl
 | 0,x::l=>rfl
 | n+1,[]=>rfl
 | n+1,x::l=>by
  show x::yj v n l=_
  rw [aAF v n l];rfl
theorem ym {α:Type} {l:List α} {n:Nat}:(∃ x,nth l n=some x) ↔ n<l.length:=by
 rw [Hw]
 constructor
 ·grind
 simp_all
noncomputable def IV {α:Type} (l:List α):Nat:=List.rec (motive:=fun _=>Nat) 0 (fun _ _ ih=>Nat.succ ih) l
theorem GK {α:Type}:∀ l:List α,IV l=l.length
 | []=>rfl
 | _::l=>qH Nat.succ (GK l)
noncomputable def aDT {α:Type} (n:Nat):List α->List α:=Nat.rec (motive:=fun _=>List α->List α) (fun _=>[]) (fun _ ih l=>List.rec (motive:=fun _=>List α) [] (fun x r _=>x::ih r) l) n
theorem ag {α:Type}:∀ (n:Nat) (l:List α),aDT n l=l.take n
 | 0,_=>rfl
 | _+1,[]=>rfl
 | n+1,x::l=>qH (x::·) (ag n l)
noncomputable def dV {α:Type} (l r:List α):List α:=List.rec (motive:=fun _=>List α) r (fun x _ ih=>x::ih) l
theorem pU {α:Type} (r:List α):∀ l:List α,dV l r=l++r
 | []=>rfl
 | x::l=>qH (x::·) (pU r l)
noncomputable def aN5 {α β:Type} (f:α->β) (l:List α):List β:=List.rec (motive:=fun _=>List β) [] (fun x _ ih=>f x::ih) l
theorem pR {α β:Type} (f:α->β):∀ l:List α,aN5 f l=l.map f
 | []=>rfl
 | x::l=>qH (f x::·) (pR f l)
inductive ST where
 | e
 | n (v:AV) (a b:ST)
noncomputable def aDX (f:Nat):Nat->List Bool:=
 Nat.rec (motive:=fun _=>Nat->List Bool) (fun _=>[]) (fun _ ih t=>Bool.rec (motive:=fun _=>List Bool) (Bool.rec (motive:=fun _=>List Bool) (false::ih (Nat.div (Nat.sub t 2) 2)) (true::ih (Nat.div (Nat.sub t 1) 2)) (Nat.beq (Nat.mod t 2) 1)) [] (Nat.beq t 0)) f
noncomputable def pathOf (t:Nat):List Bool:=aDX (Nat.succ t) t
def Eg:List Bool->Nat
 | []=>0
 | true::p=>2 * Eg p+1
 | false::p=>2 * Eg p+2
theorem pV:∀ (f t:Nat),t<f->Eg (aDX f t)=t
 | 0,_,h=>by omega
 | f+1,t,h=>by
  show Eg (Bool.rec (motive:=fun _=>List Bool) (Bool.rec (motive:=fun _=>List Bool) (false::aDX f (Nat.div (Nat.sub t 2) 2)) (true::aDX f (Nat.div (Nat.sub t 1) 2)) (Nat.beq (Nat.mod t 2) 1)) [] (Nat.beq t 0))=t
  have hd:∀ a b,Nat.div a b=a / b:=fun _ _=>rfl
  have hs:∀ a b,Nat.sub a b=a - b:=fun _ _=>rfl
  have hm:Nat.mod t 2=t % 2:=rfl
  rw [hd,hd,hs,hs,hm]
  cases e:Nat.beq t 0 with
  | true=>exact(qI e).symm
  | false=>
   have e0:t ≠ 0:=fun h=>MAe
   cases e2:Nat.beq (t % 2) 1 with
   | true=>
    have:=qI e2
    simp only [Eg]
    rw [pV f _ ME];omega
   | false=>
    have:t % 2 ≠ 1:=fun h=>MAe
    simp only [Eg]
    rw [pV f _ ME];omega
theorem Vh (t:Nat):Eg (pathOf t)=t:=pV _ t (zZ t)
noncomputable def gT (p:List Bool):ST->AV->AV:=
 List.rec (motive:=fun _=>ST->AV->AV) (fun s z=>ST.rec (motive:=fun _=>AV) z (fun v _ _ _ _=>v) s)
  (fun b _ ih s z=>ST.rec (motive:=fun _=>AV) z (fun _ a c _ _=>Bool.rec (motive:=fun _=>AV) (ih c z) (ih a z) b) s) p
noncomputable def pT (v z:AV) (p:List Bool):ST->ST:=
 List.rec (motive:=fun _=>ST->ST) (fun s=>ST.rec (motive:=fun _=>ST) (.n v .e .e) (fun _ a b _ _=>.n v a b) s)
  (fun b _ ih s=>ST.rec (motive:=fun _=>ST) (Bool.rec (motive:=fun _=>ST) (.n z .e (ih .e)) (.n z (ih .e) .e) b) (fun u a c _ _=>Bool.rec (motive:=fun _=>ST) (.n u a (ih c)) (.n u (ih a) c) b) s) p
noncomputable def sg (z:AV) (s:ST):Sg:=fun t=>gT (pathOf t) s z
noncomputable def aBi (z v:AV) (d:Nat) (s:ST):ST:=pT v z (pathOf d) s
theorem XI (z:AV) (p:List Bool):gT p .e z=z:=by cases p <;> rfl
theorem Ub (v z:AV):∀ (p:List Bool) (s:ST),gT p (pT v z p s) z=v
 | [], .e=>rfl
 | [], .n ..=>rfl
 | true::p, .e=>Ub v z p .e
 | true::p, .n _ a _=>Ub v z p a
 | false::p, .e=>Ub v z p .e
 | false::p, .n _ _ b=>Ub v z p b
theorem QO (v z:AV):∀ (p q:List Bool) (s:ST),q ≠ p->gT q (pT v z p s) z=gT q s z
 | [],[],_,h=>(h rfl).elim
 | [],true::q, .e,_=>XI z q
 | [],false::q, .e,_=>XI z q
 | [],true::q, .n _ a b,_=>rfl
 | [],false::q, .n _ a b,_=>rfl
 | true::p,[], .e,_=>rfl
 | true::p,[], .n ..,_=>rfl
 | false::p,[], .e,_=>rfl
 | false::p,[], .n ..,_=>rfl
 | true::p,true::q, .e,h=>(QO v z p q .e fun e=>h (by rw [e])).trans (XI z q)
 | true::p,true::q, .n _ a _,h=>QO v z p q a fun e=>h (by rw [e])
 | false::p,false::q, .e,h=>(QO v z p q .e fun e=>h (by rw [e])).trans (XI z q)
 | false::p,false::q, .n _ _ b,h=>QO v z p q b fun e=>h (by rw [e])
 | true::p,false::q, .e,_=>XI z q
 | true::p,false::q, .n ..,_=>rfl
 | false::p,true::q, .e,_=>XI z q
 | false::p,true::q, .n ..,_=>rfl
theorem SF (z v:AV) (s:ST) (d:Nat):bI (sg z s) d v=sg z (aBi z v d s):=by
 funext t
 by_cases e:t=d
 ·subst e
  rw [Jb]
  exact(Ub v z _ s).symm
 ·rw [E9 _ _ e]
  exact(QO v z _ _ s fun h=>e (by grind [Vh])).symm
noncomputable def ofL (z:AV) (vs:List AV):Nat->ST:=List.rec (motive:=fun _=>Nat->ST) (fun _=>.e) (fun v _ ih k=>aBi z v k (ih (Nat.succ k))) vs
theorem UW (z:AV):∀ (vs:List AV) (k:Nat),Bh (fun _=>z) (Ru k vs)=sg z (ofL z vs k)
 | [],k=>by
  funext t
  exact(XI z _).symm
 | v::vs,k=>by
  simp only [Ru,Bh]
  rw [UW z vs (k+1),SF];rfl
def prA:ST->(List Bool->List Bool)->List (Nat × AV)
 | .e,_=>[]
 | .n v a b,f=>(Eg (f []),v)::(prA a (fun p=>f (true::p))++prA b (fun p=>f (false::p)))
def prs (s:ST):List (Nat × AV):=prA s id
theorem aAM (σ:Sg):∀ l r:List (Nat × AV),Bh σ (l++r)=Bh (Bh σ r) l
 | [],r=>rfl
 | (k,v)::l,r=>by simp only [kD,Bh,aAM σ l r]
theorem Lu (p:List Bool):pathOf (Eg p)=p:=by
 have inj:∀ p q:List Bool,Eg p=Eg q->p=q:=by
  intro p
  induction p with
  | nil=>
   intro q h
   cases q with
   | nil=>rfl
   | cons b q=>cases b <;> simp only [Eg] at h <;> omega
  | cons b p ih=>
   intro q h
   cases q with
   | nil=>cases b <;> simp only [Eg] at h <;> omega
   | cons c q=>
    cases b <;> cases c <;> simp only [Eg] at h <;> first | omega | rw [ih q ME]
 grind [Vh]
theorem aJB (z:AV):∀ (s:ST) (f:List Bool->List Bool) (σ:Sg),(∀ p q,f p=f q->p=q)->(∀ p,σ (Eg (f p))=z)->(∀ p,Bh σ (prA s f) (Eg (f p))=gT p s z)/\∀ t,(∀ p,t ≠ Eg (f p))->Bh σ (prA s f) t=σ t:=by
 intro s
 induction s with
 | e=>exact fun f σ hf hz=>⟨fun p=>by rw [XI];exact hz p,fun t _=>rfl⟩
 | n v a b PS QU=>
  intro f σ hf hz
  have ui:∀ p q,Eg p=Eg q->p=q:=fun p q h=>by grind [Lu]
  have un:∀ {p q},p ≠ q->Eg (f p) ≠ Eg (f q):=fun h e=>h (hf _ _ (ui _ _ e))
  obtain⟨b1,b2⟩:=QU (fun p=>f (false::p)) σ (fun p q h=>by grind) (fun p=>hz _)
  obtain⟨a1,a2⟩:=PS (fun p=>f (true::p)) (Bh σ (prA b fun p=>f (false::p))) (fun p q h=>by grind) (fun p=>by
   grind)
  simp only [prA,Bh]
  rw [aAM]
  constructor
  ·intro p
   match p with
   | []=>rw [Jb];rfl
   | true::p=>rw [E9 _ _ (un MBV),a1];rfl
   | false::p=>rw [E9 _ _ (un (by simp)),a2 _ fun q=>un MBV,b1];rfl
  grind [E9]
theorem ow (z:AV) (s:ST):Bh (fun _=>z) (prs s)=sg z s:=by
 funext t
 have:=(aJB z s id (fun _=>z) (fun p q h=>h) (fun _=>rfl)).1 (pathOf t)
 rw [show Eg (id (pathOf t))=t from Vh t] at this
 exact this
noncomputable def yX (s:ST) (r:List AV):List AV:=ST.rec (motive:=fun _=>List AV->List AV) (fun r=>r) (fun v _ _ PS QU r=>v::PS (QU r)) s r
inductive XC where
 | cn (c:Cn)
 | lp (st:LoopState) (E5:Option Code) (lim N:Nat) (z:AV) (l:ST) (params:List Tmp) (assign body:Code) (dn:Nat)
structure XO where
 t:TypeId
 fr:Bool
 c:XC
structure XH where
 next:Nat
 l:List (Nat × XO)
noncomputable def Uk:XC->Cn
 | .cn c=>c
 | .lp st E5 lim N z l ps a b dn=>.lp st E5 lim N (sg z l) ps a b dn
noncomputable def Ls (o:XO):Ag:=⟨o.t,o.fr,Uk o.c⟩
noncomputable def Jw:List (Nat × XO)->List (Nat × Ag)
 | []=>[]
 | (k,o)::r=>(k,Ls o)::Jw r
noncomputable def Br (X:XH):Hp:=⟨X.next,Jw X.l⟩
noncomputable def EL (l:List (Nat × XO)) (n:Nat):Option XO:=
 List.rec (motive:=fun _=>Option XO) none (fun p _ ih=>match Nat.beq p.1 n with
  | true=>some p.2
  | false=>ih) l
noncomputable def Jy (n:Nat) (o:XO) (l:List (Nat × XO)):List (Nat × XO):=
 List.rec (motive:=fun _=>List (Nat × XO)) [] (fun p r ih=>match Nat.beq p.1 n with
  | true=>(p.1,o)::r
  | false=>p::ih) l
noncomputable def aBn (n:Nat) (l:List (Nat × XO)):List (Nat × XO):=
 List.rec (motive:=fun _=>List (Nat × XO)) [] (fun p _ ih=>match Nat.beq p.1 n with
  | true=>ih
  | false=>p::ih) l
theorem He (n:Nat):∀ l:List (Nat × XO),Aq (Jw l) n=(EL l n).map Ls
 | []=>rfl
 | (k,o)::r=>by
  simp only [Jw,Aq,EL]
  cases Nat.beq k n
  ·exact He n r
  ·rfl
theorem K5 (n:Nat) (o:XO):∀ l:List (Nat × XO),DJ (Jw l) n (Ls o)=Jw (Jy n o l)
 | []=>rfl
 | (k,p)::r=>by
  simp only [Jw,DJ,Jy]
  cases Nat.beq k n
  ·exact qH ((k,Ls p)::·) (K5 n o r)
  ·rfl
theorem ae (n:Nat):∀ l:List (Nat × XO),HV (Jw l) n=Jw (aBn n l)
 | []=>rfl
 | (k,p)::r=>by
  simp only [Jw,HV,aBn]
  cases Nat.beq k n
  ·exact qH ((k,Ls p)::·) (ae n r)
  ·exact ae n r
noncomputable def XJ (X:XH):Nat->Option Ag:=fun n=>match EL X.l n with
 | some o=>some (Ls o)
 | none=>none
theorem pF (X:XH):Aq (Br X).l=XJ X:=by
 funext n
 show Aq (Jw X.l) n=_
 rw [He]
 unfold XJ
 grind
noncomputable def QN {α:Type} (X:XH) (t:TypeId) (c:Cn) (K:Nat->XH->α):α:=Cb X.next fun n=>K n ⟨Nat.succ n,(n,⟨t,false, .cn c⟩)::X.l⟩
theorem Hf {α:Type} (X:XH) (t:TypeId) (c:Cn) (K:Nat->XH->α):QN X t c K=K X.next ⟨Nat.succ X.next,(X.next,⟨t,false, .cn c⟩)::X.l⟩:=FD _ _
theorem aI1 (X:XH) (t:TypeId) (c:Cn):Br ⟨Nat.succ X.next,(X.next,⟨t,false, .cn c⟩)::X.l⟩=(Br X).push ⟨t,false,c⟩:=rfl
def ieq:Int->Int->Bool
 | .ofNat a, .ofNat b=>Nat.beq a b
 | .negSucc a, .negSucc b=>Nat.beq a b
 | _,_=>false
theorem LZ (a b:Int):ieq a b=true ↔ a=b:=by
 cases a <;> cases b <;> simp only [ieq]
 ·rw [Nat.beq_eq];exact⟨qH _,Int.ofNat.inj⟩
 ·simp_all
 ·simp_all
 simp_all
def QL:Int->Int->Bool
 | .ofNat a, .ofNat b=>Nat.blt a b
 | .negSucc a, .negSucc b=>Nat.blt b a
 | .negSucc _, .ofNat _=>true
 | .ofNat _, .negSucc _=>false
theorem Uc (a b:Int):QL a b=true ↔ a<b:=by
 have e:∀ n:Nat,Int.ofNat n=(n:Int):=fun _=>rfl
 cases a <;> cases b <;> simp only [QL]
 ·rw [zS,e,e];omega
 ·grind
 ·grind
 ·rw [zS];omega
def bEq (a b:UInt8):Bool:=Nat.beq a.toNat b.toNat
theorem aDY (a b:UInt8):bEq a b=true ↔ a=b:=by
 unfold bEq
 rw [Nat.beq_eq]
 exact UInt8.toNat_inj
noncomputable def dU (a:List UInt8):List UInt8->Bool:=List.rec (motive:=fun _=>List UInt8->Bool) (fun b=>List.rec (motive:=fun _=>Bool) true (fun _ _ _=>false) b) (fun x _ ih b=>List.rec (motive:=fun _=>Bool) false (fun y r _=>Bool.rec (motive:=fun _=>Bool) false (ih r) (bEq x y)) b) a
theorem Hl:∀ a b:List UInt8,dU a b=true ↔ a=b
 | [],[]=>⟨fun _=>rfl,fun _=>rfl⟩
 | [],b::bs=>⟨nofun,nofun⟩
 | a::r,[]=>⟨nofun,nofun⟩
 | a::r,b::bs=>by
  show Bool.rec (motive:=fun _=>Bool) false (dU r bs) (bEq a b)=true ↔ _
  cases h:bEq a b with
  | true=>
   show dU r bs=true ↔ _
   rw [Hl r bs,(aDY a b).1 h];simp
  | false=>
   constructor
   ·intro h;cases h
   ·intro e;injection e with e _;rw [(aDY a b).2 e] at h;cases h
def kEq:IntKind->IntKind->Bool
 | .i8, .i8=>true
 | .i16, .i16=>true
 | .i32, .i32=>true
 | .i64, .i64=>true
 | .u8, .u8=>true
 | .u16, .u16=>true
 | .u32, .u32=>true
 | .u64, .u64=>true
 | _,_=>false
theorem Ov (a b:IntKind):kEq a b=true ↔ a=b:=by cases a <;> cases b <;> simp [kEq]
noncomputable def cEq:PV->PV->Option Bool
 | .int k a, .int k' b=>match kEq k k' with
  | true=>some (ieq a b)
  | false=>none
 | .str a, .str b=>some (dU a b)
 | .bool a, .bool b=>some (a == b)
 | _,_=>none
theorem aDZ {x y:PV} {b:Bool} (h:cEq x y=some b):b=true ↔ x=y:=by
 unfold cEq at h
 grind [Ov,LZ,Hl]
noncomputable def aFQ:List PV->List PV->Option Bool
 | [],[]=>some true
 | x::xs,y::ys=>match cEq x y with
  | some true=>aFQ xs ys
  | some false=>some false
  | none=>none
 | _,_=>none
theorem K7:∀ {x y:List PV} {b:Bool},aFQ x y=some b->(b=true ↔ x=y)
 | [],[],b,h=>by injection h with h;simp [<- h]
 | [],_::_,b,h=>by cases h
 | _::_,[],b,h=>by cases h
 | x::xs,y::ys,b,h=>by
  simp only [aFQ] at h
  split at h
  ·rename_i e
   rw [K7 h,(aDZ e).1 rfl];simp
  ·grind [aDZ]
  ·cases h
def aO:IntKind->Nat
 | .i8 | .u8=>128
 | .i16 | .u16=>32768
 | .i32 | .u32=>2147483648
 | .i64 | .u64=>9223372036854775808
def O5 (k:IntKind) (n:Int):Int:=
 match n with
 | .ofNat m=>match Nat.blt m (aO k) with
  | true=>.ofNat m
  | false=>k.wrap n
 | .negSucc m=>match k.signed && Nat.blt m (aO k) with
  | true=>.negSucc m
  | false=>k.wrap n
theorem wrap_small {k:IntKind} {n L:Int} (h1:(2:Int) ^ k.bits=2 * L) (h2:(2:Int) ^ (k.bits - 1)=L) (h0:0<=n) (h:n<L):k.wrap n=n:=by
 unfold IntKind.wrap
 rw [h1,h2,Int.emod_eq_of_lt h0 ME]
 grind
theorem aJC {k:IntKind} {n L:Int} (hs:k.signed=true) (h1:(2:Int) ^ k.bits=2 * L) (h2:(2:Int) ^ (k.bits - 1)=L) (h0:n<0) (h:-L<=n):k.wrap n=n:=by
 unfold IntKind.wrap
 have e:n % (2 * L)=n+2 * L:=by rw [<- Int.add_emod_right,Int.emod_eq_of_lt MBc ME]
 grind
theorem aJD (k:IntKind):(2:Int) ^ k.bits=2 * (aO k:Nat)/\(2:Int) ^ (k.bits - 1)=(aO k:Nat):=by cases k <;> exact⟨MBM,ML⟩
theorem K8 (k:IntKind) (n:Int):O5 k n=k.wrap n:=by
 obtain⟨h1,h2⟩:=aJD k
 have e:∀ n:Nat,Int.ofNat n=(n:Int):=fun _=>rfl
 unfold O5
 split
 ·rename_i m
  split
  ·rename_i h
   have h:m<aO k:=MIw
   exact(wrap_small h1 h2 (by rw [e];omega) (by rw [e];omega)).symm
  ·rfl
 ·rename_i m
  split
  ·rename_i h
   simp only [qC] at h
   have h3:m<aO k:=by simpa using h.2
   exact(aJC h.1 h1 h2 MBc ME).symm
  ·rfl
theorem Ba.Xo {r:Ba} {v:AV} {K:AV->Prop} (h:r.EW v) (k:K v):r.bu K:=by
 cases r with
 | val u=>simp only [Ba.EW] at h;subst h;exact k
 | cond c u=>obtain⟨h1,rfl⟩:=h;exact⟨h1,k⟩
 | split c a b=>
  rcases h with ⟨h1,rfl⟩ | ⟨h1,rfl⟩
  ·exact⟨fun _=>k,fun h=>absurd h1 h⟩
  ·exact⟨fun h=>absurd h h1,fun _=>k⟩
 | ZO g c a b=>
  obtain⟨h0,⟨h1,rfl⟩ | ⟨h1,rfl⟩⟩:=h
  ·exact⟨h0,fun _=>k,fun h=>absurd h1 h⟩
  ·exact⟨h0,fun h=>absurd h h1,fun _=>k⟩
 | wrap kk n=>simp only [Ba.EW] at h;subst h;exact⟨_,rfl,k⟩
 | fq c kk n=>obtain⟨h1,rfl⟩:=h;exact⟨h1,_,rfl,k⟩
 | ex p=>exact⟨v,h,k⟩
 | bad=>exact h.elim
def J5:Ba->Option AV
 | .val v=>some v
 | .wrap k n=>some (.p (.int k (O5 k n)))
 | _=>none
theorem Q5 {r:Ba} {v:AV} (h:J5 r=some v):r.EW v:=by
 cases r <;> simp only [J5,qo,reduceCtorEq] at h
 ·exact h.symm
 ·rw [K8] at h;exact h.symm
section
variable (P:Program)
def aK (t:TypeId) (v:AV) (lk:Nat->Option Ag):Option AV:=
 match v with
 | .ptr n i f=>
  match lk n with
  | some o=>match o.c with
   | .bx cs=>match Nat.beq i 0,G9 P t cs f with
    | true,some u=>some u
    | _,_=>none
   | .pu xs=>match Nat.beq f 0,NP P t with
    | true,some none=>match nth xs i with
     | some x=>some (.p x)
     | none=>none
    | _,_=>none
   | .GN xss=>match nth xss i with
    | some cs=>match Ka P t cs f with
     | some x=>some (.p x)
     | none=>none
    | none=>none
   | .mx xs=>match Nat.beq f 0,NP P t,nth xs i with
    | true,some none,some x=>some x
    | _,_,_=>none
   | .Gw xss=>match nth xss i with
    | some cs=>G9 P t cs f
    | none=>none
   | _=>none
  | none=>none
 | .Lx n i f=>
  match lk n with
  | some o=>match o.c with
   | .bx cs=>match Nat.beq i 0 with
    | true=>G9 P t cs f
    | false=>none
   | _=>none
  | none=>none
 | .p (.fp cs)=>match Ka P t cs 0 with
  | some x=>some (.p x)
  | none=>none
 | _=>none
theorem iy {t:TypeId} {v u:AV} {lk:Nat->Option Ag} (h:aK P t v lk=some u):(Qc P t v lk).EW u:=by
 unfold aK at h
 unfold Qc
 split at h
 ·split at h <;> try cases h
  rename_i o ho
  simp only [ho]
  split at h <;> try cases h
  ·rename_i hc
   simp only [hc]
   split at h <;> try cases h
   rename_i h1 h2
   simp only [h1,h2];rfl
  ·rename_i hc
   simp only [hc]
   split at h <;> try cases h
   rename_i h1 h2
   simp only [h1,h2]
   split at h <;> cases h
   rename_i h3
   rw [Hw] at h3
   exact⟨_,h3,rfl⟩
  ·rename_i hc
   simp only [hc]
   split at h <;> try cases h
   rename_i h1
   split at h <;> cases h
   rename_i h3
   rw [Hw] at h1
   exact⟨_,_,h1,h3,rfl⟩
  ·rename_i hc
   simp only [hc]
   split at h <;> try cases h
   rename_i h1 h2 h3
   simp only [h1,h2,h3];rfl
  ·rename_i hc
   simp only [hc]
   split at h <;> try cases h
   rename_i h1
   rw [Hw] at h1
   exact⟨_,h1,h⟩
 ·split at h <;> try cases h
  rename_i o ho
  simp only [ho]
  split at h <;> try cases h
  rename_i hc
  simp only [hc]
  split at h <;> try cases h
  rename_i h1
  simp only [h1]
  exact h
 ·split at h <;> try cases h
  rename_i h1
  simp only [h1];rfl
 ·cases h
def aIf (op:BinOp) (k:IntKind) (a b:Int):Option AV:=
 match op with
 | .add=>some (.p (.int k (O5 k (Int.add a b))))
 | .sub=>some (.p (.int k (O5 k (Int.sub a b))))
 | .mul=>some (.p (.int k (O5 k (Int.mul a b))))
 | .quo=>match ieq b 0 with
  | true=>none
  | false=>some (.p (.int k (O5 k (Int.tdiv a b))))
 | .rem=>match ieq b 0 with
  | true=>none
  | false=>some (.p (.int k (Int.tmod a b)))
 | .eql=>some (.p (.bool (ieq a b)))
 | .neq=>some (.p (.bool (!ieq a b)))
 | .lss=>some (.p (.bool (QL a b)))
 | .leq=>some (.p (.bool (!QL b a)))
 | .gtr=>some (.p (.bool (QL b a)))
 | .geq=>some (.p (.bool (!QL a b)))
 | op=>J5 (ZM op k a b)
theorem aJE {op:BinOp} {k:IntKind} {a b:Int} {u:AV} (h:aIf op k a b=some u):(ZM op k a b).EW u:=by
 have he:∀ x y,(ieq x y=true/\x=y)∨(ieq x y=false/\¬ x=y):=fun x y=>by
  cases e:ieq x y
  ·exact .inr ⟨rfl,fun hh=>by grind [LZ]⟩
  ·exact .inl ⟨rfl,(LZ x y).1 e⟩
 have hl:∀ x y,(QL x y=true/\x<y)∨(QL x y=false/\¬ x<y):=fun x y=>by
  cases e:QL x y
  ·exact .inr ⟨rfl,fun hh=>by grind [Uc]⟩
  ·exact .inl ⟨rfl,(Uc x y).1 e⟩
 unfold aIf at h
 split at h
 ·cases h;rw [K8];rfl
 ·cases h;rw [K8];rfl
 ·cases h;rw [K8];rfl
 ·split at h <;> cases h
  rename_i e
  rw [K8]
  exact MIA
 ·split at h <;> cases h
  rename_i e
  exact MIA
 ·exact MGd
 ·exact MGd
 ·cases h
  rcases hl a b with ⟨e1,e2⟩ | ⟨e1,e2⟩ <;> rw [e1]
  ·exact .inl MC0
  ·exact .inr MC0
 ·cases h
  rcases hl b a with ⟨e1,e2⟩ | ⟨e1,e2⟩ <;> rw [e1]
  ·exact .inr MEF
  ·exact .inl MEF
 ·cases h
  rcases hl b a with ⟨e1,e2⟩ | ⟨e1,e2⟩ <;> rw [e1]
  ·exact .inl MC0
  ·exact .inr MC0
 ·cases h
  rcases hl a b with ⟨e1,e2⟩ | ⟨e1,e2⟩ <;> rw [e1]
  ·exact .inr MEF
  ·exact .inl MEF
 ·exact Q5 h
noncomputable def aBm (op:BinOp) (a b:List UInt8):Option AV:=
 match op with
 | .add=>match Nat.ble (Nat.add (IV a) (IV b)) 9223372036854775807 with
  | true=>some (.p (.str (dV a b)))
  | false=>none
 | .eql=>some (.p (.bool (dU a b)))
 | .neq=>some (.p (.bool (!dU a b)))
 | .lss=>some (.p (.bool (Op.bytesLess a b)))
 | .geq=>some (.p (.bool (!Op.bytesLess a b)))
 | .leq=>some (.p (.bool (Op.bytesLess a b || dU a b)))
 | .gtr=>some (.p (.bool (!(Op.bytesLess a b || dU a b))))
 | _=>none
theorem aJF {op:BinOp} {a b:List UInt8} {u:AV} (h:aBm op a b=some u):(mq op a b).EW u:=by
 have hs:(dU a b=true/\a=b)∨(dU a b=false/\¬ a=b):=by
  cases e:dU a b
  ·exact .inr ⟨rfl,fun hh=>by grind [Hl]⟩
  ·exact .inl ⟨rfl,(Hl a b).1 e⟩
 have hl:(Op.bytesLess a b=true)∨(Op.bytesLess a b=false):=by cases Op.bytesLess a b <;> simp
 unfold aBm at h
 split at h
 ·split at h <;> cases h
  rename_i e
  rw [GK,GK] at e
  rw [pU]
  exact⟨qp e,rfl⟩
 ·exact MGu
 ·exact MGu
 ·exact MG7
 ·exact MG7
 ·exact MDH
 ·exact MDH
 ·cases h
noncomputable def xEq (t:TypeId) (x y:AV) (neg:Bool) (ZP:Bool):Option AV:=
 match x,y with
 | .p (.bool a), .p (.bool b)=>match P.underlying t with
  | some .bool=>some (.p (.bool (match a == b with | true=>!neg | false=>neg)))
  | _=>none
 | .p (.agg xs), .p (.agg ys)=>match aBH P t xs && Aw xs ys && (!P.stoodInHeld t && !P.eqGuardType P.depth t),aFQ xs ys with
  | true,some true=>some (.p (.bool (!neg)))
  | true,some false=>some (.p (.bool neg))
  | _,_=>none
 | x,y=>J5 (aBI P t x y neg ZP)
theorem aLb {t:TypeId} {x y:AV} {neg ZP:Bool} {u:AV} (h:xEq P t x y neg ZP=some u):(fo P t x y neg ZP).EW u:=by
 unfold xEq at h
 unfold fo
 split at h
 ·split at h <;> try cases h
  rename_i a b _ e
  simp only [e]
  cases a <;> cases b
  ·exact .inl MC
  ·exact .inr ⟨by simp,rfl⟩
  ·exact .inr ⟨by simp,rfl⟩
  ·exact .inl MC
 ·split at h <;> cases h
  ·rename_i e1 e2
   simp only [qC,ku] at e1
   simp only [e1.1.1,e1.1.2,wC]
   exact⟨e1.2, .inl ⟨(K7 e2).1 rfl,rfl⟩⟩
  ·rename_i e1 e2
   simp only [qC,ku] at e1
   simp only [e1.1.1,e1.1.2,wC]
   exact⟨e1.2, .inr ⟨fun hh=>(by have:=(K7 e2).2 hh;cases this),rfl⟩⟩
 ·rename_i n1 n2
  split
  ·trivial
  ·trivial
  ·exact Q5 h
noncomputable def yg (op:BinOp) (t:TypeId) (x y:AV) (ZP:Bool):Option AV:=
 match x,y with
 | .p (.int k a), .p (.int k' b)=>
  match op with
  | .shl=>match QL b 0 with
   | true=>none
   | false=>some (.p (.int k (O5 k (Int.mul a (.ofNat (Nat.pow 2 (min b.toNat k.bits)))))))
  | .shr=>match QL b 0 with
   | true=>none
   | false=>some (.p (.int k (Int.fdiv a (.ofNat (Nat.pow 2 (min b.toNat k.bits))))))
  | op=>match kEq k k' with
   | true=>aIf op k a b
   | false=>none
 | .p (.str a), .p (.str b)=>aBm op a b
 | x,y=>match op with
  | .eql=>xEq P t x y false ZP
  | .neq=>xEq P t x y true ZP
  | _=>none
theorem au (m:Nat):(Int.ofNat (Nat.pow 2 m))=(2:Int) ^ m:=by
 rfl
theorem aJG {op:BinOp} {t:TypeId} {x y:AV} {ZP:Bool} {u:AV} (h:yg P op t x y ZP=some u):(ZN P op t x y ZP).EW u:=by
 have hl:∀ x,QL x 0=false->0<=x:=fun x e=>by
  grind [Uc]
 unfold yg at h
 unfold ZN
 split at h
 ·rename_i k a k' b
  split at h
  ·split at h <;> cases h
   rename_i e
   rw [K8,au]
   exact⟨hl _ e,rfl⟩
  ·split at h <;> cases h
   rename_i e
   rw [au]
   exact⟨hl _ e,rfl⟩
  ·rename_i n1 n2
   split at h <;> try cases h
   rename_i e
   have e:=(Ov _ _).1 e
   subst e
   have h:=aJE h
   simp_all
 ·exact aJF h
 ·rename_i n1 n2
  split
  ·grind
  ·simp_all
  grind [aLb]
def okB (n:Nat):Option Int->Option Int->Bool
 | none,none=>true
 | none,some h=>!QL h 0 && !QL (.ofNat n) h
 | some l,none=>!QL l 0 && !QL (.ofNat n) l
 | some l,some h=>!QL l 0 && (!QL h l && !QL (.ofNat n) h)
theorem ige {a b:Int} (h:QL a b=false):b<=a:=by
 grind [Uc]
theorem ax {n:Nat} {l h:Option Int} (e:okB n l h=true):Nc n l h:=by
 cases l <;> cases h <;> simp only [okB,Nc,qC,ku] at e ⊢
 ·exact⟨ige e.1,ige e.2⟩
 ·exact⟨ige e.1,ige e.2⟩
 ·exact⟨ige e.1,ige e.2.1,ige e.2.2⟩
noncomputable def aJH {α:Type} (s:List α):Option Int->Option Int->List α
 | none,none=>s
 | none,some h=>aDT h.toNat s
 | some l,none=>lF s l.toNat
 | some l,some h=>aDT (Nat.sub h.toNat l.toNat) (lF s l.toNat)
theorem pW {α:Type} (s:List α) (l h:Option Int):aJH s l h=sub s l h:=by
 cases l <;> cases h <;> simp only [aJH,sub,ag,ah]
 rfl
noncomputable def oZ (t:TypeId) (x:AV) (lo hi mx:Option AV):Option AV:=
 match mx with
 | some _=>none
 | none=>match bnd lo,bnd hi with
  | some l,some h=>
   match P.underlying t with
   | some .string=>match x with
    | .p (.str s)=>match okB (IV s) l h with
     | true=>some (.p (.str (aJH s l h)))
     | false=>none
    | _=>none
   | some (.slice e)=>match szOf P e with
    | some s=>match x with
     | .sl n s' off len=>match Nat.beq s s',okB len l h with
      | true,true=>some (.sl n s' (off+P9 l) (dH len h - P9 l))
      | _,_=>none
     | .p (.Dh xs)=>match Nat.beq s 1,okB (IV xs) l h with
      | true,true=>some (.p (.Dh (aJH xs l h)))
      | _,_=>none
     | .p (.Ai s' xss)=>match Nat.beq s s',okB (IV xss) l h with
      | true,true=>some (.p (.Ai s' (aJH xss l h)))
      | _,_=>none
     | .p .Ad=>match okB 0 l h with
      | true=>some (.p .Ad)
      | false=>none
     | _=>none
    | none=>none
   | _=>none
  | _,_=>none
theorem aBx {t:TypeId} {x:AV} {lo hi mx:Option AV} {u:AV} (h:oZ P t x lo hi mx=some u):(QA P t x lo hi mx).EW u:=by
 unfold oZ at h
 unfold QA
 split at h
 ·cases h
 ·split at h <;> try cases h
  rename_i l hh e1 e2
  simp only [e1,e2]
  split at h <;> try cases h
  ·rename_i e3
   simp only [e3]
   split at h <;> try cases h
   split at h <;> cases h
   rename_i e4
   rw [GK] at e4
   rw [pW]
   exact⟨ax e4,rfl⟩
  ·rename_i e3
   simp only [e3]
   split at h <;> try cases h
   rename_i e4
   simp only [e4]
   split at h <;> try cases h
   ·split at h <;> cases h
    rename_i e5 e6
    simp only [e5]
    exact⟨ax e6,rfl⟩
   ·exact MGw
   ·exact MGw
   ·split at h <;> cases h
    rename_i e6
    exact⟨ax e6,rfl⟩
def inB (i:Int) (n:Nat):Bool:=!QL i 0 && QL i (.ofNat n)
theorem Vi {i:Int} {n:Nat} (h:inB i n=true):0<=i/\i<n:=by
 grind [inB,Uc]
noncomputable def JL (t:TypeId) (x i:AV):Option AV:=
 match i with
 | .p (.int _ i)=>
  match P.underlying t with
  | some (.slice e)=>match szOf P e with
   | some s=>match x with
    | .sl n s' off len=>match Nat.beq s s',inB i len with
     | true,true=>some (.ptr n (off+i.toNat) 0)
     | _,_=>none
    | .p (.Dh xs)=>match Nat.beq s 1,QL i 0,KD xs i.toNat with
     | true,false,some x=>some (.p (.fp [x]))
     | _,_,_=>none
    | .p (.Ai s' xss)=>match Nat.beq s s',QL i 0,KD xss i.toNat with
     | true,false,some x=>some (.p (.fp x))
     | _,_,_=>none
    | _=>none
   | none=>none
  | some (.array n e)=>match szOf P e with
   | some (s+1)=>match x with
    | .ptr m j f=>match inB i n with
     | true=>some (.Lx m j (f+i.toNat * (s+1)))
     | false=>none
    | .Lx m j f=>match inB i n with
     | true=>some (.Lx m j (f+i.toNat * (s+1)))
     | false=>none
    | .p (.fp cs)=>match inB i n,LD cs (i.toNat * (s+1)) (s+1) with
     | true,some r=>some (.p (.fp r))
     | _,_=>none
    | _=>none
   | _=>none
  | _=>none
 | _=>none
theorem ay {t:TypeId} {x i:AV} {u:AV} (h:JL P t x i=some u):(Ib P t x i).EW u:=by
 unfold JL at h
 unfold Ib
 split at h <;> try cases h
 split at h <;> try cases h
 ·rename_i e1
  simp only [e1]
  split at h <;> try cases h
  rename_i e2
  simp only [e2]
  split at h <;> try cases h
  ·split at h <;> cases h
   rename_i e3 e4
   simp only [e3]
   exact MKS
  ·exact MGY
  ·exact MGY
 ·rename_i e1
  simp only [e1]
  split at h <;> try cases h
  rename_i e2
  simp only [e2]
  split at h <;> try cases h
  ·split at h <;> cases h
   rename_i e4
   exact MKS
  ·split at h <;> cases h
   rename_i e4
   exact MKS
  ·split at h <;> cases h
   rename_i e4 e5
   exact⟨Vi e4,_,e5,rfl⟩
noncomputable def aM (t:TypeId) (x i:AV):Option AV:=
 match i with
 | .p (.int _ i)=>
  match P.underlying t with
  | some .string=>match x with
   | .p (.str s)=>match QL i 0,KD s i.toNat with
    | false,some b=>some (.p (.int .u8 (.ofNat b.toNat)))
    | _,_=>none
   | _=>none
  | some (.array n e)=>match szOf P e with
   | some s=>match x with
    | .p (.agg cs)=>match inB i n,Ka P e cs (i.toNat * s) with
     | true,some v=>some (.p v)
     | _,_=>none
    | .agg cs=>match inB i n with
     | true=>G9 P e cs (i.toNat * s)
     | false=>none
    | _=>none
   | none=>none
  | _=>none
 | _=>none
theorem aBy {t:TypeId} {x i:AV} {u:AV} (h:aM P t x i=some u):(P8 P t x i).EW u:=by
 unfold aM at h
 unfold P8
 split at h <;> try cases h
 split at h <;> try cases h
 ·rename_i e1
  simp only [e1]
  split at h <;> try cases h
  split at h <;> cases h
  rename_i e3 e4
  rw [Il,Hw] at e4
  exact⟨ige e3,_,e4,rfl⟩
 ·rename_i e1
  simp only [e1]
  split at h <;> try cases h
  rename_i e2
  simp only [e2]
  split at h <;> try cases h
  ·split at h <;> cases h
   rename_i e3 e4
   exact⟨Vi e3,_,e4,rfl⟩
  ·split at h <;> try cases h
   rename_i e3
   exact⟨Vi e3,h⟩
def aFO:List PV->Option (List UInt8)
 | []=>some []
 | .int k n::r=>match kEq k .u8,n,aFO r with
  | true, .ofNat m,some s=>match Nat.blt m 256 with
   | true=>some (UInt8.ofNat m::s)
   | false=>none
  | _,_,_=>none
 | _::_=>none
theorem Xt:∀ {xs:List PV} {s:List UInt8},aFO xs=some s->xs=s.map ub
 | [],s,h=>by injection h with h;subst h;rfl
 | x::r,s,h=>by
  cases x <;> simp only [aFO,reduceCtorEq] at h
  split at h <;> try cases h
  rename_i k n _ m s' e1 e2
  split at h <;> cases h
  rename_i e3
  have e1:=(Ov _ _).1 e1
  subst e1
  have hm:m<256:=by simpa using e3
  have e2:=Xt e2
  subst e2
  simp only [kI,ub]
  congr 2
  grind [UInt8.toNat_ofNat']
def pX (x:AV) (lk:Nat->Option Ag):Option AV:=
 match x with
 | .p .Ad=>some (.p (.str []))
 | .p (.Dh xs)=>match aFO xs with
  | some s=>some (.p (.str s))
  | none=>none
 | .sl n s off len=>match lk n,Nat.beq s 1 with
  | some o,true=>match o.c with
   | .pu xs=>match Nat.ble (off+len) xs.length,aFO ((xs.drop off).take len) with
    | true,some s=>some (.p (.str s))
    | _,_=>none
   | _=>none
  | _,_=>none
 | _=>none
theorem aBz {x:AV} {lk:Nat->Option Ag} {u:AV} (h:pX x lk=some u):(Nb x lk).EW u:=by
 unfold pX at h
 unfold Nb
 split at h
 ·cases h;rfl
 ·split at h <;> cases h
  rename_i e
  exact⟨_,Xt e,rfl⟩
 ·split at h <;> try cases h
  rename_i e1 e2
  simp only [e1,e2]
  split at h <;> try cases h
  rename_i e3
  simp only [e3]
  split at h <;> cases h
  rename_i e4 e5
  exact⟨qp e4,_,Xt e5,rfl⟩
 ·cases h
noncomputable def yh (src dst:TypeId) (x:AV) (lk:Nat->Option Ag):Option AV:=
 match Oi P src dst x lk with
 | .val v=>some v
 | .wrap k n=>some (.p (.int k (O5 k n)))
 | _=>match P.underlying src,P.underlying dst with
  | some sd,some .string=>match ma P sd,x with
   | true, .p .Ad=>none
   | true, .p (.Dh xs)=>pX (.p (.Dh xs)) lk
   | true, .sl n s off len=>pX (.sl n s off len) lk
   | _,_=>none
  | _,_=>none
theorem aFT {src dst:TypeId} {x:AV} {lk:Nat->Option Ag} {u:AV} (h:yh P src dst x lk=some u):(Oi P src dst x lk).EW u:=by
 unfold yh at h
 split at h
 ·rename_i e;rw [e];injection h with h;exact h.symm
 ·rename_i e;rw [e];rw [K8] at h;injection h with h;exact h.symm
 grind [Oi,aBz]
noncomputable def aDa:List (List UInt8 × PV)->List UInt8->Option PV
 | [],_=>none
 | (k,x)::r,a=>match dU a k with
  | true=>some x
  | false=>aDa r a
theorem bA:∀ (es:List (List UInt8 × PV)) (a:List UInt8),aDa es a=BR es a
 | [],_=>rfl
 | (k,x)::r,a=>by
  simp only [aDa,BR]
  by_cases h:a=k
  ·rw [(Hl a k).2 h,qE h]
  ·rw [qF h,show dU a k=false by rw [xZ];exact fun hh=>h ((Hl a k).1 hh)]
   exact bA r a
noncomputable def pY:List (List PV × PV)->List PV->Option (Option PV)
 | [],_=>some none
 | (k,x)::r,a=>match aFQ a k with
  | some true=>some (some x)
  | some false=>pY r a
  | none=>none
theorem Vj:∀ {es:List (List PV × PV)} {a:List PV} {o:Option PV},pY es a=some o->H9 es a=o
 | [],_,_,h=>by injection h
 | (k,x)::r,a,o,h=>by
  simp only [pY] at h
  simp only [H9]
  split at h
  ·rename_i e
   injection h with h
   rw [qM ((K7 e).1 rfl),h]
  ·rename_i e
   rw [qG fun hh=>by grind [K7]]
   exact Vj h
  ·cases h
def aJI (ok:Bool) (x:PV) (b:Bool):AV:=match ok with
 | true=>.GG [.p x, .p (.bool b)]
 | false=>.p x
noncomputable def aB0 (t:TypeId) (m k:AV) (ok:Bool) (lk:Nat->Option Ag):Option AV:=
 match P.underlying t with
 | some (.map kt e)=>match P.underlying kt,k,zeroOf P e with
  | some (.struct _), .p (.agg cs),some z=>match m with
   | .mp n=>match lk n with
    | some o=>match o.c with
     | .mk zs es=>match NW P 9 kt zs && Aw zs cs,pY es cs with
      | true,some (some x)=>some (aJI ok x true)
      | true,some none=>some (aJI ok z false)
      | _,_=>none
     | _=>none
    | none=>none
   | _=>none
  | _,_,_=>none
 | _=>none
theorem aB1 {t:TypeId} {m k:AV} {ok:Bool} {lk:Nat->Option Ag} {u:AV} (h:aB0 P t m k ok lk=some u):(P6 P t m k ok lk).EW u:=by
 unfold aB0 at h
 unfold P6
 split at h <;> try cases h
 rename_i e1
 simp only [e1]
 split at h <;> try cases h
 rename_i e2 e3
 simp only [e2,e3]
 split at h <;> try cases h
 split at h <;> try cases h
 rename_i e4
 simp only [e4]
 split at h <;> try cases h
 rename_i e5
 simp only [e5]
 split at h <;> cases h
 ·rename_i e6 e7
  exact⟨e6, .inl ⟨_,Vj e7,MJL⟩⟩
 ·rename_i e6 e7
  exact⟨e6, .inr ⟨Vj e7,MJL⟩⟩
noncomputable def aB2 (t:TypeId) (m k:AV) (ok:Bool) (lk:Nat->Option Ag):Option AV:=
 match P.underlying t with
 | some (.map kt e)=>match P.underlying kt,k,zeroOf P e with
  | some .string, .p (.str a),some z=>match m with
   | .mp n=>match lk n with
    | some o=>match o.c with
     | .ms es=>match aDa es a with
      | some x=>some (aJI ok x true)
      | none=>some (aJI ok z false)
     | _=>none
    | none=>none
   | .p .Sw=>some (aJI ok z false)
   | _=>none
  | _,_,_=>none
 | _=>none
theorem aB3 {t:TypeId} {m k:AV} {ok:Bool} {lk:Nat->Option Ag} {u:AV} (h:aB2 P t m k ok lk=some u):(Pz P t m k ok lk).EW u:=by
 unfold aB2 at h
 unfold Pz
 split at h <;> try cases h
 rename_i e1
 simp only [e1]
 split at h <;> try cases h
 rename_i e2 e3
 simp only [e2,e3]
 split at h <;> try cases h
 ·split at h <;> try cases h
  rename_i e4
  simp only [e4]
  split at h <;> try cases h
  rename_i e5
  simp only [e5]
  split at h <;> cases h
  ·rename_i e6
   rw [bA] at e6
   exact .inl ⟨_,e6,MJL⟩
  ·rename_i e6
   rw [bA] at e6
   exact .inr ⟨e6,MJL⟩
 rfl
noncomputable def aDE (t:TypeId) (m k:AV) (ok:Bool) (lk:Nat->Option Ag):Option AV:=
 match k with
 | .p (.agg cs)=>aB0 P t m (.p (.agg cs)) ok lk
 | k=>aB2 P t m k ok lk
theorem aFU {t:TypeId} {m k:AV} {ok:Bool} {lk:Nat->Option Ag} {u:AV} (h:aDE P t m k ok lk=some u):(Ti P t m k ok lk).EW u:=by
 unfold aDE at h
 unfold Ti
 split at h
 ·exact aB1 P h
 ·rename_i n1
  split
  ·simp_all
  ·exact aB3 P h
noncomputable def Iw (op:Op) (ev:Operand->AV) (lk:Nat->Option Ag):Option AV:=
 match op with
 | .load t a=>aK P t (ev a) lk
 | .binOp op t x y _=>yg P op t (ev x) (ev y) (isC x || isC y)
 | .convert s d x=>yh P s d (ev x) lk
 | .indexAddr t x i=>JL P t (ev x) (ev i)
 | .index t x i=>aM P t (ev x) (ev i)
 | .slice t x lo hi mx=>oZ P t (ev x) (lo.map ev) (hi.map ev) (mx.map ev)
 | .lookup t m k ok=>aDE P t (ev m) (ev k) ok lk
 | op=>J5 (pop P op ev lk)
theorem aS {op:Op} {ev:Operand->AV} {lk:Nat->Option Ag} {u:AV} (h:Iw P op ev lk=some u):(pop P op ev lk).EW u:=by
 unfold Iw at h
 split at h
 ·exact iy P h
 ·exact aJG P h
 ·exact aFT P h
 ·exact ay P h
 ·exact aBy P h
 ·exact aBx P h
 ·exact aFU P h
 ·exact Q5 h
end
end Go.Proofs.YtkegmchjobphdaaGreatDoor.Y
namespace Go.Proofs.YtkegmchjobphdaaGreatDoor.Y
open Go
def G1 (r:Option (AV × XH)) (K:KH):Prop:=match r with
 | some (v,X)=>K v (Br X)
 | none=>False
theorem yz {X:XH} {n:Nat} {o:XO} (h:EL X.l n=some o):Aq (Br X).l n=some (Ls o):=by
 show Aq (Jw X.l) n=_
 rw [He,h];rfl
theorem aLV (X:XH) (n:Nat) (t:TypeId) (fr:Bool) (c:Cn):Br ⟨X.next,Jy n ⟨t,fr, .cn c⟩ X.l⟩={ Br X with l:=DJ (Br X).l n ⟨t,fr,c⟩ }:=by
 exact MJ1
theorem aLL (X:XH) (n:Nat):Br ⟨X.next,aBn n X.l⟩={ Br X with l:=HV (Br X).l n }:=by
 show Hp.mk _ (Jw _)=Hp.mk _ (HV (Jw X.l) _)
 rw [<- ae];rfl
noncomputable def Ij (l:List (Nat × XO)):List Nat->List (Nat × XO)
 | []=>l
 | n::r=>match EL l n with
  | some o=>Ij (Jy n ⟨o.t,true,o.c⟩ l) r
  | none=>Ij l r
noncomputable def Np (l:List (Nat × XO)):List Nat->Bool
 | []=>true
 | n::r=>match EL l n with
  | some ⟨t,_, .cn c⟩=>BV c && Np (Jy n ⟨t,true, .cn c⟩ l) r
  | _=>false
theorem Nq:∀ (fs:List Nat) (l:List (Nat × XO)),marks (Jw l) fs=Jw (Ij l fs)
 | [],l=>rfl
 | n::r,l=>by
  simp only [marks,Ij,He]
  cases h:EL l n with
  | none=>exact Nq r l
  | some o=>
   simp only [xg]
   rw [show DJ (Jw l) n { Ls o with fr:=true }=Jw (Jy n ⟨o.t,true,o.c⟩ l) from K5 n ⟨o.t,true,o.c⟩ l]
   exact Nq r _
theorem La:∀ (fs:List Nat) (l:List (Nat × XO)),Np l fs=true->CV (Jw l) fs=true
 | [],l,_=>rfl
 | n::r,l,h=>by
  simp only [Np] at h
  simp only [CV,He]
  split at h <;> try cases h
  rename_i t fr c e
  rw [e]
  simp only [xg,qC] at h ⊢
  refine⟨h.1,?_⟩
  rw [show DJ (Jw l) n { Ls ⟨t,fr, .cn c⟩ with fr:=true }=Jw (Jy n ⟨t,true, .cn c⟩ l) from K5 n ⟨t,true, .cn c⟩ l]
  exact La r _ h.2
noncomputable def rch (l:List (Nat × XO)) (d:Nat):List AV->List Nat->List Nat:=
 Nat.rec (motive:=fun _=>List AV->List Nat->List Nat) (fun _ s=>s) (fun _ ih vs s=>
  vs.foldl (fun s v=>
   let go (n:Nat) (s:List Nat):List Nat:=match D6 n s with
    | true=>s
    | false=>match EL l n with
     | some ⟨_,_, .cn c⟩=>match c with
      | .bx cs=>ih cs (n::s)
      | .mx cs=>ih cs (n::s)
      | .Gw OI=>OI.foldl (fun s cs=>ih cs s) (n::s)
      | _=>n::s
     | some ⟨_,_, .lp ..⟩=>n::s
     | none=>s
   match v with
   | .p _=>s
   | .ptr n _ _=>go n s
   | .Lx n _ _=>go n s
   | .sl n _ _ _=>go n s
   | .mp n=>go n s
   | .fn (.yield n) a b=>ih b (ih a (go n s))
   | .fn _ a b=>ih b (ih a s)
   | .iface _ v=>ih [v] s
   | .agg cs=>ih cs s
   | .GG cs=>ih cs s
   | _=>s) s) d
def FK {α β:Type} (f:α->Option β):List α->Option (List β)
 | []=>some []
 | x::xs=>match f x,FK f xs with
  | some y,some ys=>some (y::ys)
  | _,_=>none
noncomputable def oN (l:List (Nat × XO)) (d:Nat):AV->Option PV:=
 Nat.rec (motive:=fun _=>AV->Option PV) (fun v=>match v with
  | .p y=>some y
  | _=>none) (fun _ ih v=>match v with
  | .p y=>some y
  | .sl n s off len=>match EL l n with
   | some ⟨_,true, .cn c⟩=>match c with
    | .pu xs=>match Nat.ble (off+len) xs.length with
     | true=>some (.Dh ((xs.drop off).take len))
     | false=>none
    | .GN xss=>match Nat.ble (off+len) xss.length with
     | true=>some (.Ai s ((xss.drop off).take len))
     | false=>none
    | .mx vs=>match LD vs off len with
     | some us=>match FK ih us with
      | some ys=>some (.Dh ys)
      | none=>none
     | none=>none
    | .Gw Ui=>match Nat.ble (off+len) Ui.length,FK (FK ih) ((Ui.drop off).take len) with
     | true,some ys=>some (.Ai s ys)
     | _,_=>none
    | _=>none
   | _=>none
  | .ptr n i f=>match EL l n,Nat.beq i 0 && Nat.beq f 0 with
   | some ⟨_,true, .cn (.bx cs)⟩,true=>match FK ih cs with
    | some ys=>some (.fp ys)
    | none=>none
   | _,_=>none
  | .fn f a b=>match mZ f,FK ih a,FK ih b with
   | true,some a,some b=>some (.fn f a b)
   | _,_,_=>none
  | .iface t v=>match ih v with
   | some y=>some (.iface t y)
   | none=>none
  | .agg cs=>match FK ih cs with
   | some ys=>some (.agg ys)
   | none=>none
  | _=>none) d
theorem Ik {L:List (Nat × Ag)} {d:Nat} {f:AV->Option PV} (h:∀ v x,f v=some x->GH L d v x):∀ {vs:List AV} {ys:List PV},FK f vs=some ys->EJ (GH L d) vs ys
 | [],ys,e=>by injection e with e;exact e.symm
 | v::vs,ys,e=>by
  simp only [FK] at e
  split at e <;> cases e
  rename_i e1 e2
  exact⟨_,_,rfl,h _ _ e1,Ik h e2⟩
theorem lD {L:List (Nat × Ag)} {d:Nat} {f:AV->Option PV} (h:∀ v x,f v=some x->GH L d v x):∀ {vs:List (List AV)} {ys:List (List PV)},FK (FK f) vs=some ys->J4 (GH L d) vs ys
 | [],ys,e=>by injection e with e;exact e.symm
 | v::vs,ys,e=>by
  simp only [FK] at e
  split at e <;> cases e
  rename_i e1 e2
  exact⟨_,_,rfl,Ik h e1,lD h e2⟩
theorem pI (L:List (Nat × Ag)) (d:Nat) (x:PV):GH L d (.p x) x:=by
 cases d with
 | zero=>rfl
 | succ d=>
  cases x with
  | Ad=>exact .inl rfl
  | agg cs=>
   cases cs with
   | nil=>rfl
   | cons c r=>
    cases c with
    | Ad=>
     refine⟨_,rfl,?_⟩
     have go:∀ l:List PV,Ps l l:=fun l=>by
      induction l with
      | nil=>rfl
      | cons x l ih=>
       refine⟨x,l,rfl,?_,ih⟩
       cases x <;> first | rfl | exact .inl rfl
     exact go _
    | _=>rfl
  | _=>rfl
theorem UM {l:List (Nat × XO)}:∀ (d:Nat) (v:AV) (x:PV),oN l d v=some x->GH (Jw l) d v x
 | 0,v,x,h=>by
  cases v with
  | p y=>injection h with h;grind [pI]
  | _=>cases h
 | d+1,v,x,h=>by
  have ih:=UM (l:=l) d
  cases v with
  | p y=>injection h with h;grind [pI]
  | sl n s off len=>
   change (match EL l n with
    | some ⟨_,true, .cn c⟩=>_
    | _=>none)=_ at h
   simp only [GH,He]
   split at h <;> try cases h
   rename_i t c e
   rw [e]
   simp only [xg,Ls,Uk]
   split at h <;> try cases h
   ·exact MJ0
   ·exact MJ0
   ·split at h <;> try cases h
    rename_i e1
    split at h <;> cases h
    rename_i e2
    exact⟨_,_,e1,rfl,Ik ih e2⟩
   ·split at h <;> cases h
    rename_i e1 e2
    exact⟨_,rfl,qp e1,lD ih e2⟩
  | ptr n i f=>
   change (match EL l n,Nat.beq i 0 && Nat.beq f 0 with
    | some ⟨_,true, .cn (.bx cs)⟩,true=>_
    | _,_=>none)=_ at h
   simp only [GH,He]
   split at h <;> try cases h
   rename_i t cs e e0
   rw [e,e0]
   simp only [xg,Ls,Uk]
   split at h <;> cases h
   rename_i e1
   exact⟨_,rfl,Ik ih e1⟩
  | fn f a b=>
   change (match mZ f,FK (oN l d) a,FK (oN l d) b with
    | true,some a,some b=>some (PV.fn f a b)
    | _,_,_=>none)=_ at h
   split at h <;> cases h
   rename_i e0 e1 e2
   exact⟨e0,_,_,rfl,Ik ih e1,Ik ih e2⟩
  | iface t v=>
   change (match oN l d v with
    | some y=>some (PV.iface t y)
    | none=>none)=_ at h
   split at h <;> cases h
   rename_i e
   exact⟨_,rfl,ih _ _ e⟩
  | agg cs=>
   change (match FK (oN l d) cs with
    | some ys=>some (PV.agg ys)
    | none=>none)=_ at h
   split at h <;> cases h
   rename_i e
   exact⟨_,rfl,Ik ih e⟩
  | _=>cases h
section
variable (C:Cx)
noncomputable def aDS (t:TypeId) (cs:List AV) (X:XH):Option (AV × XH):=
 match szOf C.P t with
 | some s=>match Nat.blt 0 s && Nat.beq cs.length s && cs.all pl with
  | true=>QN X t (.bx cs) fun n X=>some (.ptr n 0 0,X)
  | false=>none
 | none=>none
theorem aAE {t:TypeId} {cs:List AV} {X:XH} {K:KH} (h:G1 (aDS C t cs X) K):fP C t cs (Br X) K:=by
 unfold aDS at h
 unfold fP
 split at h <;> try exact h.elim
 rename_i e
 simp only [e]
 exact MIV
noncomputable def oh (t:TypeId) (X:XH):Option (AV × XH):=
 match zeroOf C.P t with
 | some z=>aDS C t (BI (.p z)) X
 | none=>none
theorem aFL {t:TypeId} {X:XH} {K:KH} (h:G1 (oh C t X) K):ZC C t (Br X) K:=by
 unfold oh at h
 unfold ZC
 split at h <;> try exact h.elim
 grind [aAE]
noncomputable def aLK (t:TypeId) (v:AV) (X:XH):Option (AV × XH):=
 match known v with
 | true=>aDS C t (BI v) X
 | false=>none
theorem aLW {t:TypeId} {v:AV} {X:XH} {K:KH} (h:G1 (aLK C t v X) K):aGr C t v (Br X) K:=by
 unfold aLK at h
 unfold aGr
 split at h <;> try exact h.elim
 grind [aAE]
noncomputable def aLX (X:XH) (n:Nat) (t:TypeId) (c:Cn):Option (AV × XH):=some (Bv,⟨X.next,Jy n ⟨t,false, .cn c⟩ X.l⟩)
theorem pM {X:XH} {n:Nat} {t:TypeId} {c:Cn} {K:KH} (h:G1 (aLX X n t c) K):K Bv { Br X with l:=DJ (Br X).l n ⟨t,false,c⟩ }:=by
 have h:K Bv (Br ⟨X.next,Jy n ⟨t,false, .cn c⟩ X.l⟩):=h
 grind [aLV]
noncomputable def og (c:Cn) (i f s:Nat) (v:AV):Option Cn:=
 match c with
 | .bx cs=>match Nat.beq i 0 && Nat.ble (Nat.add f s) (IV cs) with
  | true=>some (.bx (Fv cs f (BI v)))
  | false=>none
 | .pu xs=>match Nat.blt i (IV xs),Nat.beq f 0 && pl v,v with
  | true,true, .p x=>some (.pu (yj x i xs))
  | true,true,v=>some (.mx (Fv (xs.map .p) i [v]))
  | _,_,_=>none
 | .GN xss=>match KD xss i with
  | some cs=>match Nat.ble (Nat.add f s) (IV cs),Wx (BI v) with
   | true,some ps=>some (.GN (yj (Fv cs f ps) i xss))
   | true,none=>some (.Gw ((Cg xss).set i (Fv (cs.map .p) f (BI v))))
   | _,_=>none
  | none=>none
 | .mx xs=>match Nat.beq f 0 && Nat.blt i (IV xs) && pl v with
  | true=>some (.mx (Fv xs i [v]))
  | false=>none
 | .Gw xss=>match KD xss i with
  | some cs=>match Nat.ble (Nat.add f s) (IV cs) with
   | true=>some (.Gw (yj (Fv cs f (BI v)) i xss))
   | false=>none
  | none=>none
 | _=>none
noncomputable def Ox (t:TypeId) (a v:AV) (X:XH):Option (AV × XH):=
 match szOf C.P t with
 | some s=>match known v && Nat.beq (BI v).length s && (BI v).all pl with
  | true=>match a with
   | .ptr n i f=>match EL X.l n with
    | some ⟨t,false, .cn c⟩=>match og c i f s v with
     | some c=>aLX X n t c
     | none=>none
    | _=>none
   | .Lx n i f=>match EL X.l n with
    | some ⟨t,false, .cn (.bx cs)⟩=>match Nat.beq i 0,Nat.ble (f+s) cs.length with
     | true,true=>aLX X n t (.bx (Fv cs f (BI v)))
     | _,_=>none
    | _=>none
   | _=>none
  | false=>none
 | none=>none
theorem aFM {t:TypeId} {a v:AV} {X:XH} {K:KH} (h:G1 (Ox C t a v X) K):ZG C t a v (Br X) K:=by
 unfold Ox at h
 unfold ZG
 split at h <;> try exact h.elim
 rename_i e
 simp only [e]
 split at h <;> try exact h.elim
 rename_i e
 simp only [e]
 split at h <;> try exact h.elim
 ·split at h <;> try exact h.elim
  rename_i e
  simp only [yz e,Ls,Uk]
  split at h <;> try exact h.elim
  rename_i e
  replace h:=pM h
  unfold og at e
  simp only [GK,Il,aAF,show ∀ a b,Nat.add a b=a+b from fun _ _=>rfl] at e
  split at e
  ·exact MLI
  ·split at e <;> cases e
   ·rename_i e1 e2
    simp only [e2]
    exact⟨by simpa using e1,h⟩
   ·rename_i n1 e1 e2
    simp only [e2]
    exact⟨by simpa using n1,h⟩
  ·split at e <;> try cases e
   rename_i e1
   rw [Hw] at e1
   split at e <;> cases e
   ·rename_i e2 e3
    simp only [e3]
    exact⟨_,e1,qp e2,h⟩
   ·rename_i e2 e3
    simp only [e3]
    exact⟨_,e1,qp e2,h⟩
  ·exact MLI
  ·split at e <;> try cases e
   rename_i e1
   rw [Hw] at e1
   split at e <;> cases e
   rename_i e2
   exact⟨_,e1,qp e2,h⟩
  ·cases e
 ·split at h <;> try exact h.elim
  rename_i e
  simp only [yz e,Ls,Uk]
  split at h <;> try exact h.elim
  rename_i e1 e2
  simp only [e1]
  exact⟨qp e2,pM h⟩
noncomputable def om (t:TypeId) (len:Nat) (parts:List (Nat × Operand)) (ev:Operand->AV) (X:XH):Option (AV × XH):=
 match C.P.underlying t with
 | some (.slice e)=>
  match szOf C.P e,zeroOf C.P e with
  | some s,some z=>
   match Nat.ble (len * s) 16777216 && Nat.beq (BI (.p z)).length s && Nat.blt 0 s && parts.all (fun p=>known (ev p.2)) with
   | true=>match bld ev (fun i=>some (i * s,s)) (Qg len (BI (.p z))) parts with
    | some cs=>match cs.all pl,aGp s len cs with
     | true,some c=>QN X e c fun n X=>some (.sl n s 0 len,X)
     | _,_=>none
    | none=>none
   | false=>none
  | _,_=>none
 | _=>none
theorem aFN {t:TypeId} {len:Nat} {parts:List (Nat × Operand)} {ev:Operand->AV} {X:XH} {K:KH} (h:G1 (om C t len parts ev X) K):Pm C t len parts ev (Br X) K:=by
 unfold om at h
 unfold Pm
 split at h <;> try exact h.elim
 rename_i e
 simp only [e]
 split at h <;> try exact h.elim
 rename_i e1 e2
 simp only [e1,e2]
 split at h <;> try exact h.elim
 rename_i e
 simp only [e]
 split at h <;> try exact h.elim
 rename_i e
 simp only [e]
 split at h <;> try exact h.elim
 rename_i e1 e2
 simp only [e1,e2]
 rw [Hf] at h
 exact h
noncomputable def aDF (t:TypeId) (l c:AV) (X:XH):Option (AV × XH):=
 match C.P.underlying t,l,c with
 | some (.slice e), .p (.int _ l), .p (.int _ c)=>
  match szOf C.P e,zeroOf C.P e,aA9 C e with
  | some s,some z,some b=>
   match Nat.beq (BI (.p z)).length s && Nat.blt 0 s && (BI (.p z)).all pl,!QL l 0 && (!QL c l && (!QL 281474976710656 (Int.mul c (.ofNat b)) && !QL 281474976710656 c)) with
   | true,true=>
    match Nat.beq s 1 && pl (.p z) with
    | true=>QN X e (.pu (List.replicate l.toNat z)) fun n X=>some (.sl n s 0 l.toNat,X)
    | false=>QN X e (.GN (List.replicate l.toNat (mW z))) fun n X=>some (.sl n s 0 l.toNat,X)
   | _,_=>none
  | _,_,_=>none
 | _,_,_=>none
theorem aIw {t:TypeId} {l c:AV} {X:XH} {K:KH} (h:G1 (aDF C t l c X) K):uT C t l c (Br X) K:=by
 unfold aDF at h
 unfold uT
 split at h <;> try exact h.elim
 rename_i e
 simp only [e]
 split at h <;> try exact h.elim
 rename_i e1 e2 e3
 simp only [e1,e2,e3]
 split at h <;> try exact h.elim
 rename_i e1 e2
 simp only [e1]
 simp only [qC,ku] at e2
 refine⟨⟨ige e2.1,ige e2.2.1,ige e2.2.2.1,ige e2.2.2.2⟩,?_⟩
 split at h
 ·exact MDf
 ·exact MDf
noncomputable def aAG {α:Type} (off len:Nat) (l:List α):Option (List α):=Bool.rec (motive:=fun _=>Option (List α)) (Bool.rec (motive:=fun _=>Option (List α)) none (some (aDT len (lF l off))) (Nat.ble (Nat.add off len) (IV l))) (some l) (Nat.beq (IV l) len && Nat.beq off 0)
theorem aIx {α:Type} {off len:Nat} {l r:List α} (h:aAG off len l=some r):off+len<=l.length/\r=(l.drop off).take len:=by
 unfold aAG at h
 rw [GK,ag,ah] at h
 cases e:(Nat.beq l.length len && Nat.beq off 0) with
 | true=>
  rw [e] at h
  injection h with h
  subst h
  simp only [qC] at e
  have e1:=qI e.1
  have e2:=qI e.2
  grind
 | false=>
  rw [e] at h
  cases e2:Nat.ble (Nat.add off len) l.length with
  | false=>simp_all
  | true=>
   rw [e2] at h
   simp_all
noncomputable def aDU (c:Cn) (off len:Nat):Option Cn:=
 match c with
 | .pu xs=>match aAG off len xs with
  | some ys=>some (.pu ys)
  | none=>none
 | .GN xss=>match aAG off len xss with
  | some ys=>some (.GN ys)
  | none=>none
 | .mx xs=>match LD xs off len with
  | some ys=>some (.mx ys)
  | none=>none
 | .Gw xss=>match aAG off len xss with
  | some ys=>some (.Gw ys)
  | none=>none
 | _=>none
theorem aAH {c c':Cn} {off len:Nat} {K:Cn->Prop} (h:aDU c off len=some c') (hk:K c'):O1 c off len K:=by
 unfold aDU at h
 grind [O1,aIx]
noncomputable def aIy (s:Nat) (x:AV) (X:XH):Option (Nat × Cn):=
 match x with
 | .p .Ad=>match Nat.beq s 1 with
  | true=>some (0, .pu [])
  | false=>some (0, .GN [])
 | .p (.Dh xs)=>match Nat.beq s 1 with
  | true=>some (IV xs, .pu xs)
  | false=>none
 | .p (.Ai s' xss)=>match Nat.beq s s' && !Nat.beq s 1 with
  | true=>some (IV xss, .GN xss)
  | false=>none
 | .sl n s' off len=>match EL X.l n,Nat.beq s s' with
  | some ⟨_,_, .cn c⟩,true=>match aDU c off len with
   | some c=>some (len,c)
   | none=>none
  | _,_=>none
 | .p (.str str)=>match Nat.beq s 1 with
  | true=>some (IV str, .pu (aN5 ub str))
  | false=>none
 | _=>none
theorem pQ {s:Nat} {x:AV} {X:XH} {m:Nat} {c:Cn} {K:Nat->Cn->Hp->Prop} (h:aIy s x X=some (m,c)) (hk:K m c (Br X)):aA8 s x (Br X) K:=by
 unfold aIy at h
 simp only [GK,pR] at h
 unfold aA8
 split at h
 ·grind
 ·exact MF1
 ·exact MF1
 ·split at h <;> try cases h
  rename_i e1 e2
  simp only [yz e1,e2,Ls,Uk]
  split at h <;> cases h
  rename_i e3
  refine aAH e3 ?_
  split
  ·exact .inr hk
  ·exact .inr hk
  ·exact hk
 ·exact MF1
 ·cases h
noncomputable def aIz (a b:Cn):Option Cn:=
 match a,b with
 | .pu xs, .pu ys=>some (.pu (dV xs ys))
 | .GN xs, .GN ys=>some (.GN (dV xs ys))
 | .mx xs, .mx ys=>some (.mx (dV xs ys))
 | .pu [], .mx ys=>some (.mx ys)
 | .mx xs, .pu ys=>some (.mx (dV xs (aN5 .p ys)))
 | .Gw xs, .Gw ys=>some (.Gw (dV xs ys))
 | .Gw xs, .GN ys=>some (.Gw (dV xs (Cg ys)))
 | .GN xs, .Gw ys=>some (.Gw (dV (Cg xs) ys))
 | _,_=>none
theorem aI0 {a b c:Cn} {K:Cn->Prop} (h:aIz a b=some c) (hk:K c):uR a b K:=by
 unfold aIz at h
 simp only [pU,pR] at h
 unfold uR
 grind
noncomputable def Xn (t:TypeId) (sv x:AV) (X:XH):Option (AV × XH):=
 match C.P.underlying t with
 | some (.slice e)=>
  match szOf C.P e,zeroOf C.P e,aA9 C e with
  | some s,some z,some b=>
   match Nat.beq (BI (.p z)).length s && Nat.blt 0 s && Nat.blt 0 b && (BI (.p z)).all pl with
   | true=>
    match sv with
    | .p .Ad=>match aIy s x X with
     | some (m,c)=>match Nat.ble (m * b) 140737488355328 with
      | true=>QN X e c fun n X=>some (.sl n s 0 m,X)
      | false=>none
     | none=>none
    | .sl n s' off len=>
     match Nat.beq s s' && Nat.beq off 0 with
     | true=>match aIy s x X with
      | some (m,c1)=>match EL X.l n with
       | some ⟨t,false, .cn c⟩=>match Nat.beq t e,Nat.ble ((len+m) * b) 140737488355328,aDU c 0 len with
        | true,true,some c0=>match aIz c0 c1 with
         | some c=>QN ⟨X.next,aBn n X.l⟩ e c fun n X=>some (.sl n s 0 (len+m),X)
         | none=>none
        | _,_,_=>none
       | _=>none
      | none=>none
     | false=>none
    | _=>none
   | false=>none
  | _,_,_=>none
 | _=>none
theorem aBt {t:TypeId} {sv x:AV} {X:XH} {K:KH} (h:G1 (Xn C t sv x X) K):Td C t sv x (Br X) K:=by
 unfold Xn at h
 unfold Td
 split at h <;> try exact h.elim
 rename_i e
 simp only [e]
 split at h <;> try exact h.elim
 rename_i e1 e2 e3
 simp only [e1,e2,e3]
 split at h <;> try exact h.elim
 rename_i e
 simp only [e]
 split at h <;> try exact h.elim
 ·split at h <;> try exact h.elim
  rename_i e
  split at h <;> try exact h.elim
  rename_i e4
  rw [Hf] at h
  exact pQ e ⟨qp e4,h⟩
 ·split at h <;> try exact h.elim
  rename_i e
  simp only [e]
  split at h <;> try exact h.elim
  rename_i e
  split at h <;> try exact h.elim
  rename_i e5
  split at h <;> try exact h.elim
  rename_i e6 e7 e8
  split at h <;> try exact h.elim
  rename_i e9
  rw [Hf] at h
  refine pQ e ?_
  simp only [yz e5,Ls,Uk,e6,Bool.not_true,zP]
  refine aAH e8 ⟨qp e7,aI0 e9 ?_⟩
  have h:K _ (Br ⟨Nat.succ _,_⟩):=h
  rw [aI1,aLL] at h
  exact h
noncomputable def aI2 (t:TypeId) (d x:AV) (X:XH):Option (AV × XH):=
 match C.P.underlying t with
 | some (.slice e)=>match szOf C.P e with
  | some s=>match d with
   | .sl n s' off len=>match Nat.beq s s' && Nat.blt 0 s with
    | true=>match aIy s x X with
     | some (m, .pu ys)=>match EL X.l n with
      | some ⟨t,false, .cn (.pu xs)⟩=>match Nat.ble (off+len) xs.length,Nat.ble m len with
       | true,true=>some (.p (.int .i64 (.ofNat m)),⟨X.next,Jy n ⟨t,false, .cn (.pu (Fv xs off ys))⟩ X.l⟩)
       | _,_=>none
      | _=>none
     | _=>none
    | false=>none
   | _=>none
  | none=>none
 | _=>none
theorem aI3 {t:TypeId} {d x:AV} {X:XH} {K:KH} (h:G1 (aI2 C t d x X) K):uN C t d x (Br X) K:=by
 unfold aI2 at h
 unfold uN
 split at h <;> try exact h.elim
 rename_i e
 simp only [e]
 split at h <;> try exact h.elim
 rename_i e
 simp only [e]
 split at h <;> try exact h.elim
 split at h <;> try exact h.elim
 rename_i e
 simp only [e]
 split at h <;> try exact h.elim
 rename_i e
 split at h <;> try exact h.elim
 rename_i e5
 split at h <;> try exact h.elim
 rename_i e6 e7
 refine pQ e ?_
 simp only [yz e5,Ls,Uk]
 refine⟨⟨qp e6,qp e7⟩,_,rfl,?_⟩
 have h:K _ (Br ⟨_,_⟩):=h
 grind [aLV]
noncomputable def aI4 (ty:TypeId) (x:AV) (X:XH):Option (AV × XH):=
 match C.P.underlying ty with
 | some (.pointer _)=>match x with
  | .p .Ad=>some (.p .J6,X)
  | .sl n _ off len=>match EL X.l n with
   | some ⟨_,_, .cn c⟩=>match BV c,len with
    | true,0=>some (.LC,X)
    | true,_+1=>some (.ptr n off 0,X)
    | _,_=>none
   | _=>none
  | _=>none
 | _=>none
theorem aI5 {ty:TypeId} {x:AV} {X:XH} {K:KH} (h:G1 (aI4 C ty x X) K):uP C ty x (Br X) K:=by
 unfold aI4 at h
 unfold uP
 split at h <;> try exact h.elim
 rename_i e
 simp only [e]
 split at h <;> try exact h.elim
 ·exact h
 ·split at h <;> try exact h.elim
  rename_i e
  simp only [yz e,Ls,Uk]
  split at h <;> try exact h.elim
  ·rename_i e
   simp only [e]
   exact⟨fun h=>absurd h (Nat.lt_irrefl 0),fun _=>h⟩
  ·rename_i e
   simp only [e]
   exact⟨fun _=>h,fun h=>MGA⟩
noncomputable def aI6 (pt:TypeId) (p n:AV) (X:XH):Option (AV × XH):=
 match n with
 | .p (.int k m)=>match kEq k .i64 with
  | false=>none
  | true=>match p with
   | .p .J6=>match ieq m 0 with
    | true=>some (.p (.str []),X)
    | false=>none
   | .LC=>match ieq m 0 with
    | true=>some (.p (.str []),X)
    | false=>none
   | .ptr a i f=>match Nat.beq i 0 && Nat.beq f 0,EL X.l a with
    | true,some ⟨t,false, .cn (.pu xs)⟩=>match C.P.underlying pt with
     | some (.pointer e)=>match !Nat.beq t e || !Nat.beq (C.P.cellsOf e) 1,aFO (xs.take m.toNat) with
      | false,some (b::s)=>match ieq m (.ofNat (b::s).length) && (Nat.ble (b::s).length 9223372036854775807 && Nat.ble (b::s).length xs.length) with
       | true=>some (.p (.str (b::s)),⟨X.next,aBn a X.l⟩)
       | false=>none
      | _,_=>none
     | _=>none
    | _,_=>none
   | _=>none
 | _=>none
theorem aI7 {pt:TypeId} {p n:AV} {X:XH} {K:KH} (h:G1 (aI6 C pt p n X) K):uQ C pt p n (Br X) K:=by
 unfold aI6 at h
 unfold uQ
 split at h <;> try exact h.elim
 split at h <;> try exact h.elim
 rename_i e
 have e:=(Ov _ _).1 e
 subst e
 simp only [beq_self_eq_true]
 split at h <;> try exact h.elim
 ·exact MJB
 ·exact MJB
 ·split at h <;> try exact h.elim
  rename_i e1 e2
  simp only [e1,yz e2,Ls,Uk]
  split at h <;> try exact h.elim
  rename_i e3
  simp only [e3]
  split at h <;> try exact h.elim
  rename_i e4 e5
  simp only [jC,e4]
  split at h <;> try exact h.elim
  rename_i e6
  simp only [qC] at e6
  have e7:=(LZ _ _).1 e6.1
  have e8:=Xt e5
  refine⟨_,by simp,e7,qp e6.2.1,qp e6.2.2,?_,?_⟩
  ·rw [<- e8,e7];rfl
  ·have h:K _ (Br ⟨_,_⟩):=h
   rw [aLL] at h
   exact h
noncomputable def aBu (s e:TypeId) (x:AV) (X:XH):Option (AV × XH):=
 match C.P.underlying s,C.P.underlying e,szOf C.P e with
 | some .string,some (.int k),some z=>match kEq k .u8 && Nat.beq z 1,x with
  | true, .p (.str b)=>QN X e (.pu (b.map ub)) fun n X=>some (.sl n 1 0 b.length,X)
  | _,_=>none
 | _,_,_=>none
theorem aLY {a b:IntKind} (h:kEq a b=true):(a == b)=true:=by
 rw [(Ov a b).1 h];cases b <;> rfl
theorem aFP {s e:TypeId} {x:AV} {X:XH} {K:KH} (h:G1 (aBu C s e x X) K):Y5 C s e x (Br X) K:=by
 unfold aBu at h
 unfold Y5
 split at h <;> try exact h.elim
 rename_i e1 e2 e3
 simp only [e1,e2,e3]
 split at h <;> try exact h.elim
 rename_i e4
 simp only [qC] at e4
 simp only [aLY e4.1,e4.2,wC]
 rw [Hf] at h
 exact h
noncomputable def ai (t:TypeId) (X:XH):Option (AV × XH):=
 match Ry C t with
 | true=>QN X t (.ms []) fun n X=>some (.mp n,X)
 | false=>match aEQ C t with
  | some zs=>QN X t (.mk zs []) fun n X=>some (.mp n,X)
  | none=>none
theorem aAI {t:TypeId} {X:XH} {K:KH} (h:G1 (ai C t X) K):Pn C t (Br X) K:=by
 unfold ai at h
 unfold Pn
 split at h
 ·exact MDf
 ·rename_i e
  simp only [e]
  exact MIV
noncomputable def aLZ:List (List UInt8 × PV)->List UInt8->PV->List (List UInt8 × PV)
 | [],a,x=>[(a,x)]
 | (k,y)::r,a,x=>match dU a k with
  | true=>(k,x)::r
  | false=>(k,y)::aLZ r a x
theorem aDV:∀ (es:List (List UInt8 × PV)) (a:List UInt8) (x:PV),aLZ es a x=Ed es a x
 | [],_,_=>rfl
 | (k,y)::r,a,x=>by
  simp only [aLZ,Ed]
  by_cases h:a=k
  ·grind [Hl]
  ·rw [qF h,show dU a k=false by grind [Hl]]
   exact qH ((k,y)::·) (aDV r a x)
noncomputable def aDW:List (List PV × PV)->List PV->PV->Option (List (List PV × PV))
 | [],a,x=>some [(a,x)]
 | (k,y)::r,a,x=>match aFQ a k with
  | some true=>some ((k,x)::r)
  | some false=>match aDW r a x with
   | some r=>some ((k,y)::r)
   | none=>none
  | none=>none
theorem aAJ:∀ {es:List (List PV × PV)} {a:List PV} {x:PV} {es':List (List PV × PV)},aDW es a x=some es'->es'=PH es a x
 | [],_,_,_,h=>by injection h with h;exact h.symm
 | (k,y)::r,a,x,es',h=>by
  simp only [aDW] at h
  simp only [PH]
  split at h
  ·rename_i e
   injection h with h
   rw [qM ((K7 e).1 rfl),h]
  ·rename_i e
   rw [qG fun hh=>by grind [K7]]
   split at h <;> cases h
   rename_i e2
   rw [aAJ e2]
  ·cases h
noncomputable def aj (t:TypeId) (m:AV) (cs:List PV) (x:AV) (X:XH):Option (AV × XH):=
 match aEQ C t,m with
 | some zk, .mp n=>match aCS C t zk,Np X.l (rch X.l 9 [x] []) with
  | true,true=>match oN (Ij X.l (rch X.l 9 [x] [])) 5 x,EL (Ij X.l (rch X.l 9 [x] [])) n with
   | some y,some ⟨t,false, .cn (.mk zs es)⟩=>match Aw zk zs && Aw zs cs,aDW es cs y with
    | true,some es=>some (Bv,⟨X.next,Jy n ⟨t,false, .cn (.mk zs es)⟩ (Ij X.l (rch X.l 9 [x] []))⟩)
    | _,_=>none
   | _,_=>none
  | _,_=>none
 | _,_=>none
theorem aAK {t:TypeId} {m:AV} {cs:List PV} {x:AV} {X:XH} {K:KH} (h:G1 (aj C t m cs x X) K):Po C t m cs x (Br X) K:=by
 unfold aj at h
 unfold Po
 split at h <;> try exact h.elim
 rename_i zk n e
 simp only [e]
 split at h <;> try exact h.elim
 rename_i e1 e2
 split at h <;> try exact h.elim
 rename_i y t0 zs es e3 e4
 split at h <;> try exact h.elim
 rename_i es' e5 e6
 have hm:marks (Br X).l (rch X.l 9 [x] [])=Jw (Ij X.l (rch X.l 9 [x] [])):=Nq _ _
 refine⟨e1,rch X.l 9 [x] [],y,La _ _ e2,by grind [UM],?_⟩
 rw [hm,He,e4]
 simp only [xg,Ls,Uk]
 refine⟨e5,_,aAJ e6,?_⟩
 have h:K Bv (Br ⟨_,_⟩):=h
 have e7:Br ⟨X.next,Jy n ⟨t0,false, .cn (.mk zs es')⟩ (Ij X.l (rch X.l 9 [x] []))⟩={ (Br X).TA (rch X.l 9 [x] []) with l:=DJ ((Br X).TA (rch X.l 9 [x] [])).l n ⟨t0,false, .mk zs es'⟩ }:=by
  show Hp.mk _ (Jw _)=Hp.mk _ (DJ (marks (Br X).l _) _ _)
  rw [hm,<- K5];rfl
 simp_all
noncomputable def Xu (t:TypeId) (m k x:AV) (X:XH):Option (AV × XH):=
 match k with
 | .p (.agg cs)=>aj C t m cs x X
 | k=>match Ry C t,m,k,x with
  | true, .mp n, .p (.str a), .p y=>match EL X.l n with
   | some ⟨t,fr, .cn (.ms es)⟩=>some (Bv,⟨X.next,Jy n ⟨t,fr, .cn (.ms (aLZ es a y))⟩ X.l⟩)
   | _=>none
  | _,_,_,_=>none
theorem ak {t:TypeId} {m k x:AV} {X:XH} {K:KH} (h:G1 (Xu C t m k x X) K):Qf C t m k x (Br X) K:=by
 unfold Xu at h
 unfold Qf
 split at h
 ·exact aAK C h
 ·rename_i n1
  split
  ·simp_all
  ·unfold TS
   split at h <;> try exact h.elim
   simp only [show Ry C t=true by assumption]
   split at h <;> try exact h.elim
   rename_i e
   simp only [yz e,Ls,Uk]
   refine⟨_,rfl,?_⟩
   have h:K Bv (Br ⟨_,_⟩):=h
   grind [aLV,aDV]
noncomputable def aBv (t:TypeId) (x:AV) (X:XH):Option (AV × XH):=
 match C.P.underlying t,x with
 | some .string, .p (.str s)=>QN X t (.it s 0) fun n X=>some (.ptr n 0 0,X)
 | _,_=>none
theorem aFR {t:TypeId} {x:AV} {X:XH} {K:KH} (h:G1 (aBv C t x X) K):Y2 C t x (Br X) K:=by
 unfold aBv at h
 unfold Y2
 exact MIV
noncomputable def aI8 (x:AV) (str:Bool) (X:XH):Option (AV × XH):=
 match str,x with
 | true, .ptr n 0 0=>match EL X.l n with
  | some ⟨t,fr, .cn (.it s i)⟩=>match Nat.blt i s.length with
   | false=>some (.GG [.p (.bool false)],X)
   | true=>Cb (Utf8.decode ⟨⟨s⟩⟩ i).2 fun d=>oo (Utf8.decode ⟨⟨s⟩⟩ i).1 fun c=>some (.GG [.p (.bool true), .p (.int .i64 (.ofNat i)), .p (.int .i32 c)],⟨X.next,Jy n ⟨t,fr, .cn (.it s (i+d))⟩ X.l⟩)
  | _=>none
 | _,_=>none
theorem aI9 {x:AV} {str:Bool} {X:XH} {K:KH} (h:G1 (aI8 x str X) K):uF x str (Br X) K:=by
 unfold aI8 at h
 unfold uF
 split at h <;> try exact h.elim
 split at h <;> try exact h.elim
 rename_i e
 simp only [yz e,Ls,Uk]
 split at h
 ·rename_i e
  refine⟨fun _=>h,fun hh=>?_⟩
  rw [show Nat.blt _ _=true by simpa using hh] at e
  cases e
 ·rename_i e
  rw [FD,Va] at h
  rw [zS] at e
  refine⟨fun hh=>by omega,fun _=>⟨_,_,rfl,?_⟩⟩
  have h:K _ (Br ⟨_,_⟩):=h
  rw [aLV] at h
  exact h
noncomputable def aBw (t:TypeId) (x:AV) (X:XH):Option (AV × XH):=
 match C.P.underlying t with
 | some (.slice e)=>match szOf C.P e,zeroOf C.P e with
  | some s,some z=>match Nat.beq s 1 && pl (.p z) && Nat.beq (BI (.p z)).length 1,x with
   | true, .sl n s' off len=>match Nat.beq s' 1,EL X.l n with
    | true,some ⟨t,false, .cn (.pu xs)⟩=>match Nat.ble (off+len) xs.length with
     | true=>aLX X n t (.pu (Fv xs off (List.replicate len z)))
     | false=>none
    | _,_=>none
   | _,_=>none
  | _,_=>none
 | _=>none
theorem aFS {t:TypeId} {x:AV} {X:XH} {K:KH} (h:G1 (aBw C t x X) K):Y3 C t x (Br X) K:=by
 unfold aBw at h
 unfold Y3
 split at h <;> try exact h.elim
 rename_i e
 simp only [e]
 split at h <;> try exact h.elim
 rename_i e1 e2
 simp only [e1,e2]
 split at h <;> try exact h.elim
 rename_i e3
 simp only [e3]
 split at h <;> try exact h.elim
 rename_i e4 e5
 simp only [e4,yz e5,Ls,Uk]
 split at h <;> try exact h.elim
 rename_i e6
 exact⟨qp e6,_,rfl,pM h⟩
noncomputable def lG (x:AV) (neg:Bool):Option AV:=
 match x with
 | .p .Ad=>some (.p (.bool (!neg)))
 | .p (.Dh (_::_))=>some (.p (.bool neg))
 | .p (.Ai _ (_::_))=>some (.p (.bool neg))
 | .sl _ _ _ (_+1)=>some (.p (.bool neg))
 | _=>none
noncomputable def aN6 (t:TypeId) (op:BinOp) (x:AV) (X:XH):Option (AV × XH):=
 match C.P.underlying t with
 | some (.slice _)=>match op with
  | .eql=>match lG x false with
   | some v=>some (v,X)
   | none=>none
  | .neq=>match lG x true with
   | some v=>some (v,X)
   | none=>none
  | _=>none
 | _=>none
theorem aAL {x v:AV} {ng neg b:Bool} {p:Prop} {K:AV->Prop} (h1:lG x ng=some v) (h2:aA2 x ng=some (neg,b,p)) (h3:K v):(b=true->K (vB neg))/\(p->K (vB (!neg))):=by
 unfold lG at h1
 grind [aA2]
theorem aLa {t:TypeId} {op:BinOp} {x y:AV} {X:XH} {K:KH} {neg b:Bool} {p:Prop} (hq:dA op x y=some (neg,b,p)) (h:G1 (aN6 C t op x X) K):aGm C t neg b p (Br X) K:=by
 unfold aN6 at h
 unfold aGm
 split at h <;> try exact h.elim
 rename_i e
 simp only [e]
 unfold dA at hq
 split at hq <;> try cases hq
 cases op <;> first | (cases hq;done) | skip
 ·cases e:lG x false with
  | none=>simp only [e] at h;exact h.elim
  | some v=>
   exact MIL
 ·cases e:lG x true with
  | none=>simp only [e] at h;exact h.elim
  | some v=>
   exact MIL
structure Xm where
 call:FuncId->List AV->XH->Option (AE × XH)
 YY:Nat->List AV->XH->Option (AE × XH)
structure UT (O:Xm):Prop where
 call:∀ g args X e X',O.call g args X=some (e,X')->Holds C g args (Br X) fun a b=>a=e/\b=Br X'
 YY:∀ L args X e X',O.YY L args X=some (e,X')->Li C L args (Br X) fun a b=>a=e/\b=Br X'
inductive OR where
 | val (v:AV) (ds:List AD) (X:XH)
 | F7 (ch:List AP) (X:XH)
 | bad
def OR.Lt (r:OR) (K:AV->List AD->Hp->Prop) (Z:List AP->Hp->Prop):Prop:=match r with
 | .val v ds X=>K v ds (Br X)
 | .F7 ch X=>Z ch (Br X)
 | .bad=>False
def vO (ds:List AD) (r:Option (AV × XH)):OR:=match r with
 | some (v,X)=>.val v ds X
 | none=>.bad
def eO (ds:List AD) (r:Option (AE × XH)):OR:=match r with
 | some (.returned v,X)=>.val v ds X
 | some (.panicked ch,X)=>.F7 ch X
 | none=>.bad
def pO (ds:List AD) (X:XH) (r:Option AV):OR:=match r with
 | some v=>.val v ds X
 | none=>.bad
theorem Gl {ds:List AD} {r:Option (AV × XH)} {K:AV->List AD->Hp->Prop} {Z:List AP->Hp->Prop} (h:(vO ds r).Lt K Z):G1 r fun v H'=>K v ds H':=by
 cases r with
 | none=>exact h
 | some p=>exact h
theorem Vg {ds:List AD} {X:XH} {op:Op} {ev:Operand->AV} {K:AV->List AD->Hp->Prop} {Z:List AP->Hp->Prop} (h:(pO ds X (Iw C.P op ev (XJ X))).Lt K Z):(pop C.P op ev (Aq (Br X).l)).bu fun v=>K v ds (Br X):=by
 rw [pF]
 unfold pO at h
 split at h
 ·rename_i e
  exact Ba.Xo (aS _ e) h
 ·exact h.elim
noncomputable def yo (O:Xm) (f:AV) (args:List AV) (X:XH):Option (AE × XH):=
 match U2 f with
 | some (.func g,first,cap)=>O.call g (first++args++cap) X
 | some (.yield L,[],[])=>O.YY L args X
 | _=>none
noncomputable def aNy (O:Xm) (r:AV) (name:String) (args:List AV) (X:XH):Option (AE × XH):=
 match IU r with
 | some (some (t,v))=>match aCR C t name with
  | some (g,k)=>match tu v k with
   | some u=>O.call g (u::args) X
   | none=>none
  | none=>none
 | _=>none
noncomputable def N7 (O:Xm) (rd:Bool) (o:Oper) (σ:Sg) (ds:List AD) (X:XH):OR:=
 match o.op with
 | .alloc t=>vO ds (oh C t X)
 | .box t x=>vO ds (aLK C t (Ci C σ x) X)
 | .store t a x=>vO ds (Ox C t (Ci C σ a) (Ci C σ x) X)
 | .buildSlice t n parts=>vO ds (om C t n parts.toList (Ci C σ) X)
 | .makeSlice t l c=>vO ds (aDF C t (Ci C σ l) (Ci C σ c) X)
 | .call ⟨.value f,args,_⟩=>eO ds (yo O (Ci C σ f) (args.toList.map (Ci C σ)) X)
 | .call ⟨.invoke r name,args,_⟩=>eO ds (aNy C O (Ci C σ r) name (args.toList.map (Ci C σ)) X)
 | .call ⟨.builtin b,args,argTypes⟩=>match b with
  | .append=>match args.toList,argTypes.toList with
   | [s,x],[t,t']=>match Od C t' with
    | true=>vO ds (Xn C t (Ci C σ s) (Ci C σ x) X)
    | false=>.bad
   | _,_=>.bad
  | .copy=>match args.toList,argTypes.toList with
   | [s,x],[t,_]=>vO ds (aI2 C t (Ci C σ s) (Ci C σ x) X)
   | _,_=>.bad
  | .clear=>match args.toList,argTypes.toList with
   | [x],[t]=>vO ds (aBw C t (Ci C σ x) X)
   | _,_=>.bad
  | .unsafeSliceData=>match args.toList with
   | [x]=>vO ds (aI4 C o.type (Ci C σ x) X)
   | _=>.bad
  | .unsafeString=>match args.toList,argTypes.toList with
   | [p,n],[t,_]=>vO ds (aI6 C t (Ci C σ p) (Ci C σ n) X)
   | _,_=>.bad
  | _=>pO ds X (Iw C.P o.op (Ci C σ) (XJ X))
 | .convert s d x=>match C.P.underlying d with
  | some (.slice e)=>vO ds (aBu C s e (Ci C σ x) X)
  | _=>pO ds X (Iw C.P o.op (Ci C σ) (XJ X))
 | .defer ⟨.value f,args,_⟩=>match rd,U2 (Ci C σ f) with
  | false,some (.func g,first,cap)=>.val Bv (.fn g cap (first++args.toList.map (Ci C σ))::ds) X
  | _,_=>.bad
 | .panic x=>match IU (Ci C σ x) with
  | some (some _)=>.F7 [⟨Ci C σ x,false⟩] X
  | _=>.bad
 | .makeMap t none=>vO ds (ai C t X)
 | .insert t m k x=>vO ds (Xu C t (Ci C σ m) (Ci C σ k) (Ci C σ x) X)
 | .mapUpdate t m k x=>vO ds (Xu C t (Ci C σ m) (Ci C σ k) (Ci C σ x) X)
 | .range t x=>vO ds (aBv C t (Ci C σ x) X)
 | .next x str=>vO ds (aI8 (Ci C σ x) str X)
 | .binOp op t x y _=>match dA op (Ci C σ x) (Ci C σ y) with
  | some _=>vO ds (aN6 C t op (Ci C σ x) X)
  | none=>pO ds X (Iw C.P o.op (Ci C σ) (XJ X))
 | _=>pO ds X (Iw C.P o.op (Ci C σ) (XJ X))
theorem aJA {ds:List AD} {r:Option (AE × XH)} {K:AV->List AD->Hp->Prop} {Z:List AP->Hp->Prop} (h:(eO ds r).Lt K Z):∃ e X',r=some (e,X')/\onE (fun v H'=>K v ds H') Z e (Br X'):=by
 unfold eO at h
 split at h
 ·exact⟨_,_,rfl,h⟩
 ·exact⟨_,_,rfl,h⟩
 ·exact h.elim
theorem aIs {O:Xm} (hO:UT C O) {rd:Bool} {o:Oper} {σ:Sg} {ds:List AD} {X:XH} {K:AV->List AD->Hp->Prop} {Z:List AP->Hp->Prop} (h:(N7 C O rd o σ ds X).Lt K Z):Wu C rd o σ ds (Br X) K Z:=by
 obtain⟨dst,op,ty,pos,af,gu⟩:=o
 cases op with
 | alloc t=>exact aFL C (Gl h)
 | box t x=>exact aLW C (Gl h)
 | store t a x=>exact aFM C (Gl h)
 | buildSlice t n parts=>exact aFN C (Gl h)
 | makeSlice t l c=>exact aIw C (Gl h)
 | call c=>
  obtain⟨callee,args,argTypes⟩:=c
  cases callee with
  | value f=>
   obtain⟨e,X',h1,h2⟩:=aJA h
   unfold yo at h1
   unfold Wu
   simp only
   split at h1 <;> try cases h1
   ·rename_i e1
    simp only [e1]
    exact(hO.call _ _ _ _ _ h1).mono fun a b ⟨ha,hb⟩=>MIv
   ·rename_i e1
    simp only [e1]
    intro Γ w args' ro hR hA
    obtain⟨q,f,tm,Fq,bd,k1,k2,k3⟩:=hO.YY _ _ _ _ _ h1 Γ w args' ro hR hA
    exact⟨q,f,tm,Fq,bd,k1,k2,k3.mono fun _ _ hp=>Fs.mono (fun a b ⟨ha,hb⟩=>MIv) hp⟩
  | invoke r name=>
   obtain⟨e,X',h1,h2⟩:=aJA h
   unfold aNy at h1
   unfold Wu
   simp only
   split at h1 <;> try cases h1
   rename_i e1
   simp only [e1]
   split at h1 <;> try cases h1
   rename_i e2
   split at h1 <;> try cases h1
   rename_i e3
   exact⟨_,_,_,e2,e3,(hO.call _ _ _ _ _ h1).mono fun a b ⟨ha,hb⟩=>MIv⟩
  | builtin b=>
   cases b with
   | append=>
    unfold N7 at h
    unfold Wu
    simp only at h ⊢
    split at h <;> try exact h.elim
    rename_i e1 e2
    simp only [e1,e2]
    split at h <;> try exact h.elim
    rename_i e3
    simp only [e3]
    exact aBt C (Gl h)
   | copy=>
    unfold N7 at h
    unfold Wu
    simp only at h ⊢
    split at h <;> try exact h.elim
    rename_i e1 e2
    simp only [e1,e2]
    exact aI3 C (Gl h)
   | clear=>
    unfold N7 at h
    unfold Wu
    simp only at h ⊢
    split at h <;> try exact h.elim
    rename_i e1 e2
    simp only [e1,e2]
    exact aFS C (Gl h)
   | unsafeSliceData=>
    unfold N7 at h
    unfold Wu
    simp only at h ⊢
    split at h <;> try exact h.elim
    rename_i e1
    simp only [e1]
    exact aI5 C (Gl h)
   | unsafeString=>
    unfold N7 at h
    unfold Wu
    simp only at h ⊢
    split at h <;> try exact h.elim
    rename_i e1 e2
    simp only [e1,e2]
    exact aI7 C (Gl h)
   | _=>
    exact MGj
 | convert s d x=>
  unfold N7 at h
  unfold Wu
  simp only at h ⊢
  split at h
  ·rename_i e
   simp only [e]
   exact aFP C (Gl h)
  ·rename_i n1
   split
   ·exact absurd ‹_› (n1 _)
   ·exact Vg C h
 | defer c=>
  obtain⟨callee,args,argTypes⟩:=c
  cases callee with
  | value f=>
   unfold N7 at h
   unfold Wu
   exact MH3
  | _=>
   exact MGj
 | panic x=>
  unfold N7 at h
  unfold Wu aA7
  exact MH3
 | makeMap t r=>
  cases r with
  | none=>exact aAI C (Gl h)
  | some r=>
   exact MGj
 | insert t m k x=>exact ak C (Gl h)
 | mapUpdate t m k x=>exact ak C (Gl h)
 | range t x=>exact aFR C (Gl h)
 | next x str=>exact aI9 (Gl h)
 | binOp op t x y c=>
  unfold N7 at h
  unfold Wu
  simp only at h ⊢
  split at h
  ·rename_i e
   simp only [e]
   exact aLa C e (Gl h)
  ·rename_i e
   simp only [e]
   exact Vg C h
 | _=>
  exact MGj
end
end Go.Proofs.YtkegmchjobphdaaGreatDoor.Y
namespace Go.Proofs.YtkegmchjobphdaaGreatDoor.Y
open Go
mutual
theorem Xr {ρ:Nat->Nat} {L:List (Nat × Ag)}:∀ v:AV,U0 ρ [] L (FH ρ v) v
 | .p x=>by grind [FH,U0,pI]
 | .ptr n i f=>by trivial
 | .Lx n i f=>by trivial
 | .sl n s off len=>by rfl
 | .mp n=>by trivial
 | .fn f a b=>by
  simp only [FH,U0]
  exact⟨by cases f <;> rfl,_,_,rfl,FV a,FV b⟩
 | .iface t v=>by simp only [FH,U0];exact⟨_,rfl,Xr v⟩
 | .agg cs=>by simp only [FH,U0];exact⟨_,rfl,FV cs⟩
 | .GG cs=>by simp only [FH,U0];exact⟨_,rfl,FV cs⟩
 | .LC=>by rfl
 | .junk=>by simp only [U0]
theorem FV {ρ:Nat->Nat} {L:List (Nat × Ag)}:∀ vs:List AV,GM ρ [] L (Ip ρ vs) vs
 | []=>by rfl
 | v::vs=>by simp only [Ip,GM];exact⟨_,_,rfl,Xr v,FV vs⟩
end
theorem Ve {ρ:Nat->Nat} {L:List (Nat × Ag)}:∀ vs:List (List AV),Pf ρ [] L (RI ρ vs) vs
 | []=>by rfl
 | v::vs=>by simp only [RI,Pf];exact⟨_,_,rfl,FV v,Ve vs⟩
mutual
theorem pJ {ρ:Nat->Nat} (h:∀ n,ρ n=n):∀ v:AV,FH ρ v=v
 | .p x=>rfl
 | .ptr n i f=>by simp only [FH,h]
 | .Lx n i f=>by simp only [FH,h]
 | .sl n s off len=>by simp only [FH,h]
 | .mp n=>by simp only [FH,h]
 | .fn f a b=>by
  simp only [FH,Oz h]
  cases f <;> simp only [aD3,h]
 | .iface t v=>by simp only [FH,pJ h]
 | .agg cs=>by simp only [FH,Oz h]
 | .GG cs=>by simp only [FH,Oz h]
 | .LC=>rfl
 | .junk=>rfl
theorem Oz {ρ:Nat->Nat} (h:∀ n,ρ n=n):∀ v:List AV,Ip ρ v=v
 | []=>rfl
 | v::vs=>by simp only [Ip,pJ h,Oz h]
end
theorem aBr {ρ:Nat->Nat} (h:∀ n,ρ n=n) {L:List (Nat × Ag)} (v:AV):U0 ρ [] L v v:=by
 have:=Xr (ρ:=ρ) (L:=L) v
 grind [pJ]
theorem aDQ {ρ:Nat->Nat} (h:∀ n,ρ n=n) {L:List (Nat × Ag)} (v:List AV):GM ρ [] L v v:=by
 have:=FV (ρ:=ρ) (L:=L) v
 grind [Oz]
theorem JQ {n0 N n:Nat}:CW n0 [] N N n=n:=by
 unfold CW
 split
 ·rfl
 ·split
  ·rfl
  ·rename_i h
   have:N<=n:=by
    rcases xB n N with h1 | h1
    ·rw [show Nat.blt n N=true by rw [zS];exact h1] at h;cases h
    ·exact h1
   omega
noncomputable def pK (n0:Nat):XC->Bool
 | .lp st _ lim _ _ _ _ _ _ dn=>match st with
  | .exhausted=>false
  | _=>Nat.ble lim n0 && Nat.blt dn n0
 | .cn (.lp ..)=>false
 | .cn .df=>true
 | .cn _=>true
theorem aIu {n0:Nat} {ρ:Nat->Nat} {L:List (Nat × Ag)} {c:XC} (h:pK n0 c=true):bz ρ [] L n0 (O8 ρ (Uk c)) (Uk c):=by
 cases c with
 | lp st E5 lim N z l ps a b dn=>
  simp only [pK] at h
  split at h
  ·cases h
  ·simp only [qC] at h
   trivial
 | cn c=>
  cases c with
  | bx cs=>exact⟨_,rfl,FV cs⟩
  | pu xs=>rfl
  | GN xs=>rfl
  | mx xs=>exact⟨_,rfl,FV xs⟩
  | Gw xs=>exact⟨_,rfl,Ve xs⟩
  | lp=>cases h
  | df=>rfl
  | ms es=>rfl
  | mk zs es=>rfl
  | it s i=>rfl
theorem aLS {ρ:Nat->Nat} (h:∀ n,ρ n=n) (c:Cn):O8 ρ c=c:=by
 cases c <;> simp only [O8,Oz h]
 rename_i OI
 congr 1
 induction OI with
 | nil=>rfl
 | cons x l ih=>grind [RI,Oz]
noncomputable def srt (l:List (Nat × XO)) (b:Nat):Bool:=
 List.rec (motive:=fun _=>Nat->Bool) (fun _=>true) (fun p _ ih b=>match Nat.blt p.1 b with
  | true=>ih p.1
  | false=>false) l b
theorem aBs:∀ {l:List (Nat × XO)} {b n:Nat} {o:XO},srt l b=true->EL l n=some o->n<b
 | [],_,_,_,_,h=>by cases h
 | p::r,b,n,o,hs,h=>by
  have hs:(match Nat.blt p.1 b with | true=>srt r p.1 | false=>false)=true:=hs
  have h:(match Nat.beq p.1 n with | true=>some p.2 | false=>EL r n)=some o:=h
  split at hs <;> try cases hs
  rename_i e
  rw [zS] at e
  split at h
  ·simp_all
  ·have:=aBs hs h;omega
noncomputable def aAC (n0:Nat) (ns:List Nat) (l:List (Nat × XO)):List (Nat × XO):=
 List.rec (motive:=fun _=>List (Nat × XO)) [] (fun p _ ih=>match (Nat.blt p.1 n0 || D6 p.1 ns) && pK n0 p.2.c with
  | true=>p::ih
  | false=>ih) l
theorem aAD {n0:Nat} {ns:List Nat}:∀ {l:List (Nat × XO)} {b:Nat},srt l b=true->∀ p∈aAC n0 ns l,EL l p.1=some p.2/\pK n0 p.2.c=true
 | [],_,_,p,h=>by cases h
 | q::r,b,hs,p,h=>by
  have hs:(match Nat.blt q.1 b with | true=>srt r q.1 | false=>false)=true:=hs
  have h:p∈(match (Nat.blt q.1 n0 || D6 q.1 ns) && pK n0 q.2.c with | true=>q::aAC n0 ns r | false=>aAC n0 ns r):=h
  split at hs <;> try cases hs
  show(match Nat.beq q.1 p.1 with | true=>some q.2 | false=>EL r p.1)=some p.2/\_
  have aQC:p∈aAC n0 ns r->(match Nat.beq q.1 p.1 with | true=>some q.2 | false=>EL r p.1)=some p.2/\pK n0 p.2.c=true:=fun h=>by
   obtain⟨h1,h2⟩:=aAD hs p h
   have:=aBs hs h1
   grind [Ll]
  split at h
  ·rename_i e
   rcases qw.1 h with rfl | h
   ·simp_all
   ·exact aQC h
  ·exact aQC h
theorem Vf {n0 N:Nat} {l:List (Nat × XO)}:∀ {k:List (Nat × XO)},(∀ p∈k,EL l p.1=some p.2/\pK n0 p.2.c=true)->Uw (CW n0 [] N N) [] (Jw l) n0 (Jw k)
 | [],_=>by trivial
 | p::k,h=>by
  obtain⟨n,o⟩:=p
  obtain⟨h1,h2⟩:=h (n,o) MBV
  simp only [Jw,Uw]
  refine⟨?_,Vf fun q hq=>h q (qh _ hq)⟩
  simp only [aAo,D8,JQ,He]
  simp only at h1 h2
  rw [h1]
  refine⟨_,rfl,rfl,rfl,?_⟩
  have:=aIu (ρ:=CW n0 [] N N) (L:=Jw l) h2
  rwa [aLS fun n=>JQ] at this
theorem aZ {ρ:Nat->Nat} (h:∀ n,ρ n=n):∀ l:List (Nat × Ag),NL ρ [] l=true
 | []=>rfl
 | (n,o)::r=>by
  simp only [NL,aZ h r,xX,D8,jM,jC,h,qi]
  simp_all
noncomputable def aN2:XC->List AV
 | .cn (.bx cs)=>cs
 | .cn (.mx cs)=>cs
 | .cn (.Gw OI)=>OI.flatten
 | _=>[]
noncomputable def aIt (n0:Nat):List (Nat × XO)->List AV->List AV
 | [],s=>s
 | p::r,s=>match Nat.blt p.1 n0 with
  | true=>aIt n0 r (aN2 p.2.c++s)
  | false=>aIt n0 r s
noncomputable def gc (n0:Nat) (vs:List AV) (X:XH):Option XH:=
 match X.l with
 | []=>match Nat.ble n0 X.next with
  | true=>some X
  | false=>none
 | p::_=>match Nat.blt p.1 n0 && Nat.ble n0 X.next && srt X.l X.next && X.l.all (fun p=>pK n0 p.2.c) with
  | true=>some X
  | false=>match Nat.ble n0 X.next && srt X.l X.next with
   | true=>some ⟨X.next,aAC n0 (rch X.l 40 (aIt n0 X.l vs) []) X.l⟩
   | false=>none
theorem aMR {n0:Nat} {vs:List AV} {X Y:XH} (h:gc n0 vs X=some Y):X.next=Y.next/\n0<=X.next/\∀ p∈Y.l,EL X.l p.1=some p.2/\pK n0 p.2.c=true:=by
 have self:∀ {l:List (Nat × XO)} {b:Nat},srt l b=true->∀ p∈l,EL l p.1=some p.2:=by
  intro l
  induction l with
  | nil=>simp_all
  | cons q r ih=>
   intro b hs p hp
   have hs:(match Nat.blt q.1 b with | true=>srt r q.1 | false=>false)=true:=hs
   split at hs <;> try cases hs
   show(match Nat.beq q.1 p.1 with | true=>some q.2 | false=>EL r p.1)=some p.2
   rcases qw.1 hp with rfl | hp
   ·rw [gD]
   ·have h1:=ih hs p hp
    have:=aBs hs h1
    grind [Ll]
 unfold gc at h
 split at h
 ·rename_i e0
  split at h <;> cases h
  simp_all
 ·split at h
  ·rename_i e
   injection h with h
   subst h
   simp only [qC,qi] at e
   exact⟨rfl,qp e.1.1.2,fun p hp=>⟨self e.1.2 p hp,e.2 p hp⟩⟩
  ·split at h <;> cases h
   rename_i e
   simp only [qC] at e
   exact⟨rfl,qp e.1,fun p hp=>aAD e.2 p hp⟩
theorem aLT {z:AV}:∀ (s:ST) (f:List Bool->List Bool) (p:Nat × AV),p∈prA s f->∃ q,p.1=Eg (f q)/\gT q s z=p.2:=by
 intro s
 induction s with
 | e=>intro f p h;cases h
 | n v a b PS QU=>
  intro f p h
  simp only [prA,qw,qa] at h
  rcases h with rfl | h | h
  ·exact MH1
  ·obtain⟨q,h1,h2⟩:=PS _ _ h
   exact⟨true::q,h1,h2⟩
  ·obtain⟨q,h1,h2⟩:=QU _ _ h
   exact⟨false::q,h1,h2⟩
theorem aLU {z:AV} {s:ST} {p:Nat × AV} (h:p∈prs s):sg z s p.1=p.2:=by
 obtain⟨q,h1,h2⟩:=aLT (z:=z) s id p h
 show gT (pathOf p.1) s z=p.2
 rw [h1,id,Lu,h2]
theorem aV {ρ:Nat->Nat} {L:List (Nat × Ag)} {σ:Sg}:∀ {l:List (Nat × AV)},(∀ p∈l,U0 ρ [] L (σ p.1) p.2)->lh ρ [] L σ l
 | [],_=>by simp only [lh]
 | (k,v)::l,h=>by
  simp only [lh]
  exact⟨h (k,v) (by simp),aV fun p hp=>h p (qh _ hp)⟩
theorem aN4 {C:Cx} {n0 N:Nat} {z:AV} {l:ST} {ds:List AD} {vs:List AV} {X Y:XH} (h:gc n0 vs X=some Y):O9 C n0 N (sg z l) ds (Br X) (Bh (fun _=>.junk) (prs l)) ds (Br Y):=by
 obtain⟨h1,h2,h3⟩:=aMR h
 have hr:CW n0 [] (Br Y).next (Br X).next=CW n0 [] X.next X.next:=by
  show CW n0 [] Y.next X.next=_
  rw [<- h1]
 refine AA [] [] [] ?_ ?_ ?_ ?_
 ·exact MHk
 ·rw [hr]
  exact aV fun p hp=>by grind [aLU,aBr,JQ]
 ·rw [hr];exact Vf h3
 ·rw [hr]
  have go:∀ ds:List AD,YS (CW n0 [] X.next X.next) [] (marks (Br X).l []) ds ds:=by
   intro ds
   induction ds with
   | nil=>simp only [YS]
   | cons d ds ih=>
    cases d with
    | fn g cap args=>exact⟨_,_,_,rfl,aDQ (fun n=>JQ) _,aDQ (fun n=>JQ) _,ih⟩
    | Le n=>exact⟨rfl,_,by rw [JQ],ih⟩
  exact go ds
noncomputable def aLM {α:Type} (l:List α) (n:Nat):Bool:=List.rec (motive:=fun _=>Nat->Bool) (fun _=>true) (fun _ _ ih n=>Nat.rec (motive:=fun _=>Bool) false (fun m _=>ih m) n) l n
theorem aIv {C:Cx} {n0 N:Nat} {z:AV} {l:ST} {ds:List AD} {X:XH}:O9 C n0 N (sg z l) ds (Br X) (Bh (fun _=>.junk) (prs l)) ds (Br X):=by
 rintro r B Γ w a hn hR ⟨hd,hs,hx⟩
 refine⟨Γ,⟨hd,⟨hs.size,fun t=>?_,hs.df⟩,hx⟩,hR,Ext.refl _ _,hn,MDY⟩
 have h:=hs.tm t
 rw [ow]
 have go:∀ (s:ST) (p:List Bool),gT p s .junk=gT p s z∨gT p s .junk=.junk:=by
  intro s
  induction s with
  | e=>intro p;rw [XI];exact .inr rfl
  | n v a b PS QU=>
   intro p
   match p with
   | []=>exact .inl rfl
   | true::p=>exact PS p
   | false::p=>exact QU p
 rcases go l (pathOf t) with e | e
 ·show VR Γ (gT (pathOf t) l .junk) _
  rw [e];exact h
 ·show VR Γ (gT (pathOf t) l .junk) _
  grind [XY]
noncomputable def gcs (n0:Nat) (l:ST) (X:XH):Option XH:=Bool.rec (motive:=fun _=>Option XH) (gc n0 (yX l []) X) (some X) (aLM X.l 30)
theorem ou {C:Cx} {n0 N:Nat} {z:AV} {l:ST} {ds:List AD} {X Y:XH} (h:gcs n0 l X=some Y):O9 C n0 N (sg z l) ds (Br X) (Bh (fun _=>.junk) (prs l)) ds (Br Y):=by
 unfold gcs at h
 cases e:aLM X.l 30 with
 | false=>rw [e] at h;exact aN4 h
 | true=>rw [e] at h;grind [aIv]
theorem aN0 {n0:Nat} {vs:List AV} {X Y:XH} {Q:AE->Hp->Prop} {e:AE} (h:gc n0 vs X=some Y) (hq:Q e (Br Y)):Ux n0 Q e (Br X):=by
 obtain⟨h1,h2,h3⟩:=aMR h
 have hr:CW n0 [] (Br Y).next (Br X).next=CW n0 [] X.next X.next:=by
  show CW n0 [] Y.next X.next=_
  rw [<- h1]
 refine⟨[],[],[],e,Br Y,?_,?_,?_,hq⟩
 ·exact MHk
 ·rw [hr]
  cases e with
  | returned v=>exact⟨_,rfl,aBr (fun n=>JQ) v⟩
  | panicked ch=>
   refine⟨_,rfl,?_⟩
   clear hq
   induction ch with
   | nil=>rfl
   | cons p ps ih=>exact⟨_,_,rfl,aBr (fun n=>JQ) _,ih⟩
 ·rw [hr];exact Vf h3
inductive RR where
 | ok (z:AV) (l:ST) (ds:List AD) (X:XH)
 | F7 (ch:List AP) (z:AV) (l:ST) (ds:List AD) (X:XH)
 | bad
def RR.Lt (r:RR) (K:Sg->List AD->Hp->Prop) (Z:List AP->Sg->List AD->Hp->Prop):Prop:=match r with
 | .ok z l ds X=>K (sg z l) ds (Br X)
 | .F7 ch z l ds X=>Z ch (sg z l) ds (Br X)
 | .bad=>False
section
variable (C:Cx)
noncomputable def Lr {α:Type} (N:Nat) (dst:Option Tmp) (z:AV) (l:ST) (v:AV) (bad:α) (K:ST->α):α:=
 match dst with
 | none=>K l
 | some d=>match Nat.blt d N with
  | true=>Ow v fun v=>K (aBi z v d l)
  | false=>bad
theorem aDR {N:Nat} {dst:Option Tmp} {z:AV} {l:ST} {v:AV} {K:ST->RR} {K':Sg->Prop} {A:Sg->List AD->Hp->Prop} {B:List AP->Sg->List AD->Hp->Prop} (h:(Lr N dst z l v .bad K).Lt A B) (hk:∀ l',(K l').Lt A B->K' (sg z l')):Rs N dst (sg z l) v K':=by
 unfold Lr at h
 unfold Rs
 split at h
 ·exact hk _ h
 ·split at h
  ·grind [JK,y9,SF]
  ·exact h.elim
noncomputable def aBh (O:Xm) (rd:Bool) (N:Nat) (all:List Oper) (r:List Oper):AV->ST->List AD->XH->RR:=
 List.rec (motive:=fun _=>AV->ST->List AD->XH->RR)
  (fun z l ds X=>.ok z l ds X)
  (fun o _ ih z l ds X=>match gd all o (sg z l) with
   | some true=>match N7 C O rd o (sg z l) ds X with
    | .val v ds X=>Lr N o.dst z l v .bad fun l=>ih z l ds X
    | .F7 ch X=>.F7 ch z l ds X
    | .bad=>.bad
   | some false=>Lr N o.dst z l Bv .bad fun l=>ih z l ds X
   | none=>.bad) r
theorem pE {O:Xm} (hO:UT C O) {rd:Bool} {N:Nat} {all:List Oper} {K:Sg->List AD->Hp->Prop} {Z:List AP->Sg->List AD->Hp->Prop}:∀ (r:List Oper) (z:AV) (l:ST) (ds:List AD) (X:XH),(aBh C O rd N all r z l ds X).Lt K Z->dG C rd N all r (sg z l) ds (Br X) K Z
 | [],z,l,ds,X,h=>h
 | o::r,z,l,ds,X,h=>by
  have h:RR.Lt (match gd all o (sg z l) with
   | some true=>match N7 C O rd o (sg z l) ds X with
    | .val v ds X=>Lr N o.dst z l v .bad fun l=>aBh C O rd N all r z l ds X
    | .F7 ch X=>.F7 ch z l ds X
    | .bad=>.bad
   | some false=>Lr N o.dst z l Bv .bad fun l=>aBh C O rd N all r z l ds X
   | none=>.bad) K Z:=h
  rw [fK]
  split at h
  ·rename_i e
   simp only [e]
   refine aIs C hO ?_
   split at h
   ·rename_i e2
    rw [e2]
    exact MHc
   ·rename_i e2
    rw [e2]
    exact h
   ·exact h.elim
  ·rename_i e
   simp only [e]
   exact MHc
  ·exact h.elim
end
end Go.Proofs.YtkegmchjobphdaaGreatDoor.Y
namespace Go.Proofs.YtkegmchjobphdaaGreatDoor.Y
open Go
def aLQ:Fn->Fn->Bool
 | .func a, .func b=>Nat.beq a b
 | .yield a, .yield b=>Nat.beq a b
 | _,_=>false
theorem aDM {a b:Fn} (h:aLQ a b=true):a=b:=by
 unfold aLQ at h
 split at h
 ·simp_all
 ·simp_all
 ·cases h
mutual
noncomputable def Ns:PV->PV->Bool
 | .bool a, .bool b=>a == b
 | .int k a, .int k' b=>kEq k k' && ieq a b
 | .str a, .str b=>dU a b
 | .J6, .J6=>true
 | .fp a, .fp b=>Lb a b
 | .Ad, .Ad=>true
 | .Dh a, .Dh b=>Lb a b
 | .Ai s a, .Ai s' b=>Nat.beq s s' && Vb a b
 | .Sw, .Sw=>true
 | .fn f a b, .fn f' a' b'=>aLQ f f' && (Lb a a' && Lb b b')
 | .NK, .NK=>true
 | .iface t v, .iface t' v'=>Nat.beq t t' && Ns v v'
 | .nilIface, .nilIface=>true
 | .agg a, .agg b=>Lb a b
 | _,_=>false
noncomputable def Lb:List PV->List PV->Bool
 | [],[]=>true
 | x::xs,y::ys=>Ns x y && Lb xs ys
 | _,_=>false
noncomputable def Vb:List (List PV)->List (List PV)->Bool
 | [],[]=>true
 | x::xs,y::ys=>Lb x y && Vb xs ys
 | _,_=>false
end
mutual
theorem UX:∀ (a b:PV),Ns a b=true->a=b
 | .bool a,b,h=>by cases b <;> simp only [Ns,qV,zw] at h;rw [h]
 | .int k a,b,h=>by
  cases b <;> simp only [Ns,qV,qC] at h
  grind [Ov,LZ]
 | .str a,b,h=>by cases b <;> simp only [Ns,qV] at h;rw [(Hl _ _).1 h]
 | .J6,b,h=>by cases b <;> simp only [Ns,qV] at h;rfl
 | .fp a,b,h=>by cases b <;> simp only [Ns,qV] at h;rw [Gj _ _ h]
 | .Ad,b,h=>by cases b <;> simp only [Ns,qV] at h;rfl
 | .Dh a,b,h=>by cases b <;> simp only [Ns,qV] at h;rw [Gj _ _ h]
 | .Ai s a,b,h=>by
  cases b <;> simp only [Ns,qV,qC] at h
  rw [qI h.1,Vd _ _ h.2]
 | .Sw,b,h=>by cases b <;> simp only [Ns,qV] at h;rfl
 | .fn f x y,b,h=>by
  cases b <;> simp only [Ns,qV,qC] at h
  rw [aDM h.1,Gj _ _ h.2.1,Gj _ _ h.2.2]
 | .NK,b,h=>by cases b <;> simp only [Ns,qV] at h;rfl
 | .iface t v,b,h=>by
  cases b <;> simp only [Ns,qV,qC] at h
  rw [qI h.1,UX _ _ h.2]
 | .nilIface,b,h=>by cases b <;> simp only [Ns,qV] at h;rfl
 | .agg a,b,h=>by cases b <;> simp only [Ns,qV] at h;rw [Gj _ _ h]
theorem Gj:∀ (a b:List PV),Lb a b=true->a=b
 | [],b,h=>by cases b <;> simp only [Lb,qV] at h;rfl
 | x::xs,b,h=>by
  cases b <;> simp only [Lb,qV,qC] at h
  rw [UX _ _ h.1,Gj _ _ h.2]
theorem Vd:∀ (a b:List (List PV)),Vb a b=true->a=b
 | [],b,h=>by cases b <;> simp only [Vb,qV] at h;rfl
 | x::xs,b,h=>by
  cases b <;> simp only [Vb,qV,qC] at h
  rw [Gj _ _ h.1,Vd _ _ h.2]
end
mutual
noncomputable def Nu:AV->AV->Bool
 | .p a, .p b=>Ns a b
 | .ptr n i f, .ptr n' i' f'=>Nat.beq n n' && (Nat.beq i i' && Nat.beq f f')
 | .Lx n i f, .Lx n' i' f'=>Nat.beq n n' && (Nat.beq i i' && Nat.beq f f')
 | .sl n s i f, .sl n' s' i' f'=>Nat.beq n n' && (Nat.beq s s' && (Nat.beq i i' && Nat.beq f f'))
 | .mp n, .mp n'=>Nat.beq n n'
 | .fn f a b, .fn f' a' b'=>aLQ f f' && (K4 a a' && K4 b b')
 | .iface t v, .iface t' v'=>Nat.beq t t' && Nu v v'
 | .agg a, .agg b=>K4 a b
 | .GG a, .GG b=>K4 a b
 | .LC, .LC=>true
 | .junk, .junk=>true
 | _,_=>false
noncomputable def K4:List AV->List AV->Bool
 | [],[]=>true
 | x::xs,y::ys=>Nu x y && K4 xs ys
 | _,_=>false
end
mutual
theorem UY:∀ (a b:AV),Nu a b=true->a=b
 | .p a,b,h=>by cases b <;> simp only [Nu,qV] at h;rw [UX _ _ h]
 | .ptr n i f,b,h=>by
  cases b <;> simp only [Nu,qV,qC] at h
  simp_all
 | .Lx n i f,b,h=>by
  cases b <;> simp only [Nu,qV,qC] at h
  simp_all
 | .sl n s i f,b,h=>by
  cases b <;> simp only [Nu,qV,qC] at h
  simp_all
 | .mp n,b,h=>by
  cases b <;> simp only [Nu,qV] at h
  simp_all
 | .fn f x y,b,h=>by
  cases b <;> simp only [Nu,qV,qC] at h
  rw [aDM h.1,Fx _ _ h.2.1,Fx _ _ h.2.2]
 | .iface t v,b,h=>by
  cases b <;> simp only [Nu,qV,qC] at h
  rw [qI h.1,UY _ _ h.2]
 | .agg x,b,h=>by cases b <;> simp only [Nu,qV] at h;rw [Fx _ _ h]
 | .GG x,b,h=>by cases b <;> simp only [Nu,qV] at h;rw [Fx _ _ h]
 | .LC,b,h=>by cases b <;> simp only [Nu,qV] at h;rfl
 | .junk,b,h=>by cases b <;> simp only [Nu,qV] at h;rfl
theorem Fx:∀ (a b:List AV),K4 a b=true->a=b
 | [],b,h=>by cases b <;> simp only [K4,qV] at h;rfl
 | x::xs,b,h=>by
  cases b <;> simp only [K4,qV,qC] at h
  rw [UY _ _ h.1,Fx _ _ h.2]
end
noncomputable def aT:List (List AV)->List (List AV)->Bool
 | [],[]=>true
 | x::xs,y::ys=>K4 x y && aT xs ys
 | _,_=>false
theorem j6:∀ (a b:List (List AV)),aT a b=true->a=b
 | [],b,h=>by cases b <;> simp only [aT,qV] at h;rfl
 | x::xs,b,h=>by
  cases b <;> simp only [aT,qV,qC] at h
  rw [Fx _ _ h.1,j6 _ _ h.2]
noncomputable def aFJ:List (List UInt8 × PV)->List (List UInt8 × PV)->Bool
 | [],[]=>true
 | (k,x)::a,(k',y)::b=>dU k k' && (Ns x y && aFJ a b)
 | _,_=>false
theorem aDN:∀ (a b:List (List UInt8 × PV)),aFJ a b=true->a=b
 | [],[],_=>rfl
 | [],_::_,h=>by simp [aFJ] at h
 | (_,_)::_,[],h=>by simp [aFJ] at h
 | (k,x)::a,(k',y)::b,h=>by
  simp only [aFJ,qC] at h
  rw [(Hl _ _).1 h.1,UX _ _ h.2.1,aDN _ _ h.2.2]
noncomputable def mkEq:List (List PV × PV)->List (List PV × PV)->Bool
 | [],[]=>true
 | (k,x)::a,(k',y)::b=>Lb k k' && (Ns x y && mkEq a b)
 | _,_=>false
theorem aDO:∀ (a b:List (List PV × PV)),mkEq a b=true->a=b
 | [],[],_=>rfl
 | [],_::_,h=>by simp [mkEq] at h
 | (_,_)::_,[],h=>by simp [mkEq] at h
 | (k,x)::a,(k',y)::b,h=>by
  simp only [mkEq,qC] at h
  rw [Gj _ _ h.1,UX _ _ h.2.1,aDO _ _ h.2.2]
noncomputable def aBp (ρ:Nat->Nat) (o0 o1:XO):Bool:=
 Nat.beq o0.t o1.t && ((o0.fr == o1.fr) && match o0.c,o1.c with
  | .cn (.bx a), .cn (.bx b)=>K4 a (Ip ρ b)
  | .cn (.pu a), .cn (.pu b)=>Lb a b
  | .cn (.GN a), .cn (.GN b)=>Vb a b
  | .cn (.mx a), .cn (.mx b)=>K4 a (Ip ρ b)
  | .cn (.Gw a), .cn (.Gw b)=>aT a (RI ρ b)
  | .cn .df, .cn .df=>true
  | .cn (.it s i), .cn (.it s' i')=>dU s s' && Nat.beq i i'
  | .cn (.ms a), .cn (.ms b)=>aFJ a b
  | .cn (.mk zs a), .cn (.mk zs' b)=>Lb zs zs' && mkEq a b
  | _,_=>false)
theorem aFK {n0:Nat} {ρ:Nat->Nat} {L:List (Nat × Ag)} {o0 o1:XO} (h:aBp ρ o0 o1=true):(Ls o0).t=(Ls o1).t/\(Ls o0).fr=(Ls o1).fr/\bz ρ [] L n0 (Ls o0).c (Ls o1).c:=by
 obtain⟨t0,f0,c0⟩:=o0
 obtain⟨t1,f1,c1⟩:=o1
 unfold aBp at h
 simp only [qC,zw] at h
 obtain⟨h1,h2,h3⟩:=h
 refine⟨qI h1,h2,?_⟩
 split at h3 <;> try cases h3
 ·rw [show Ls ⟨t0,f0, .cn (.bx _)⟩=⟨t0,f0, .bx _⟩ from rfl,Fx _ _ h3]
  exact⟨_,rfl,FV _⟩
 ·rw [Gj _ _ h3];rfl
 ·rw [Vd _ _ h3];rfl
 ·rw [show Ls ⟨t0,f0, .cn (.mx _)⟩=⟨t0,f0, .mx _⟩ from rfl,Fx _ _ h3]
  exact⟨_,rfl,FV _⟩
 ·rw [show Ls ⟨t0,f0, .cn (.Gw _)⟩=⟨t0,f0, .Gw _⟩ from rfl,j6 _ _ h3]
  exact⟨_,rfl,Ve _⟩
 ·rfl
 ·simp only [qC] at h3
  rw [(Hl _ _).1 h3.1,qI h3.2];rfl
 ·rw [aDN _ _ h3];rfl
 ·simp only [qC] at h3
  rw [Gj _ _ h3.1,aDO _ _ h3.2];rfl
noncomputable def Xq (ρ:Nat->Nat) (l:List (Nat × XO)):List (Nat × XO)->Bool
 | []=>true
 | p::r=>match EL l (ρ p.1) with
  | some o=>aBp ρ o p.2 && Xq ρ l r
  | none=>false
theorem aU {n0:Nat} {ρ:Nat->Nat} {l:List (Nat × XO)}:∀ {k:List (Nat × XO)},Xq ρ l k=true->Uw ρ [] (Jw l) n0 (Jw k)
 | [],_=>by trivial
 | p::k,h=>by
  obtain⟨n,o⟩:=p
  simp only [Xq] at h
  split at h <;> try cases h
  rename_i o0 e
  simp only [qC] at h
  simp only [Jw,Uw]
  refine⟨?_,aU h.2⟩
  simp only [aAo,D8,He]
  rw [e]
  obtain⟨h1,h2,h3⟩:=aFK (n0:=n0) (L:=Jw l) h.1
  simp_all
noncomputable def Oy (ρ:Nat->Nat) (z:AV) (s1:ST):ST->Bool:=
 ST.rec (motive:=fun _=>ST->Bool) (fun _=>true) (fun v _ _ PS QU s=>ST.rec (motive:=fun _=>Bool) (Nu z (FH ρ v) && (PS .e && QU .e)) (fun u a b _ _=>Nu u (FH ρ v) && (PS a && QU b)) s) s1
theorem aBq {ρ:Nat->Nat} {z:AV}:∀ {s1 s:ST} {f:List Bool->List Bool} {p:Nat × AV},Oy ρ z s1 s=true->p∈prA s1 f->∃ q,p.1=Eg (f q)/\gT q s z=FH ρ p.2:=by
 intro s1
 induction s1 with
 | e=>intro s f p _ h;cases h
 | n v a b PS QU=>
  intro s f p h hp
  simp only [prA,qw,qa] at hp
  cases s with
  | e=>
   have h:(Nu z (FH ρ v) && (Oy ρ z a .e && Oy ρ z b .e))=true:=h
   simp only [qC] at h
   rcases hp with rfl | hp | hp
   ·exact⟨[],rfl,UY _ _ h.1⟩
   ·grind [XI]
   grind [XI]
  | n u c d=>
   have h:(Nu u (FH ρ v) && (Oy ρ z a c && Oy ρ z b d))=true:=h
   simp only [qC] at h
   rcases hp with rfl | hp | hp
   ·exact⟨[],rfl,UY _ _ h.1⟩
   ·obtain⟨q,h1,h2⟩:=PS h.2.1 hp
    exact⟨true::q,h1,h2⟩
   ·obtain⟨q,h1,h2⟩:=QU h.2.2 hp
    exact⟨false::q,h1,h2⟩
theorem z8 {ρ:Nat->Nat} {z:AV} {s1 s:ST} {L:List (Nat × Ag)} (h:Oy ρ z s1 s=true):lh ρ [] L (sg z s) (prs s1):=
 aV fun p hp=>by
  obtain⟨q,h1,h2⟩:=aBq (f:=id) h hp
  grind [sg,Lu,Xr]
noncomputable def lC (ρ:Nat->Nat):List AD->Bool
 | []=>true
 | .fn _ cap args::r=>K4 cap (Ip ρ cap) && (K4 args (Ip ρ args) && lC ρ r)
 | .Le n::r=>Nat.beq (ρ n) n && lC ρ r
theorem aW {ρ:Nat->Nat} {L:List (Nat × Ag)}:∀ {ds:List AD},lC ρ ds=true->YS ρ [] L ds ds
 | [],_=>rfl
 | .fn g cap args::r,h=>by
  simp only [lC,qC] at h
  refine⟨_,_,_,rfl,?_,?_,aW h.2.2⟩
  ·grind [FV,Fx]
  grind [FV,Fx]
 | .Le n::r,h=>by
  simp only [lC,qC] at h
  refine⟨rfl,r,?_,aW h.2⟩
  simp_all
noncomputable def aLR (ρ:Nat->Nat):List (Nat × XO)->Bool
 | []=>true
 | p::r=>r.all (fun q=>Nat.beq q.1 p.1 || !Nat.beq (ρ q.1) (ρ p.1)) && aLR ρ r
theorem aDP {ρ:Nat->Nat}:∀ {l:List (Nat × XO)},aLR ρ l=true->NL ρ [] (Jw l)=true
 | [],_=>rfl
 | (n,o)::r,h=>by
  simp only [aLR,qC] at h
  simp only [Jw,NL,aDP h.2,D8,jM,jC,xX]
  have h1:=h.1
  clear h
  induction r with
  | nil=>rfl
  | cons p r ih=>
   grind [Jw]
noncomputable def pG (n0:Nat) (ps:List (Nat × Nat)) (z:AV) (l:ST) (ds:List AD) (X:XH) (l1:ST) (Y:XH):Bool:=
 Nat.ble n0 Y.next && (aLR (CW n0 ps Y.next X.next) Y.l && (Oy (CW n0 ps Y.next X.next) z l1 l && (Xq (CW n0 ps Y.next X.next) X.l Y.l && lC (CW n0 ps Y.next X.next) ds)))
theorem aAA {C:Cx} {n0 N:Nat} {ps:List (Nat × Nat)} {z:AV} {l:ST} {ds:List AD} {X:XH} {l1:ST} {Y:XH} (h:pG n0 ps z l ds X l1 Y=true):O9 C n0 N (sg z l) ds (Br X) (Bh (fun _=>.junk) (prs l1)) ds (Br Y):=by
 unfold pG at h
 simp only [qC] at h
 obtain⟨h1,h2,h3,h4,h5⟩:=h
 refine AA [] ps [] ?_ (z8 h3) (aU h4) (aW h5)
 show(true && Nat.ble n0 Y.next && true && NL (CW n0 ps Y.next X.next) [] (Jw Y.l))=true
 rw [h1,aDP h2];rfl
noncomputable def uni (n0:Nat) (l1 l0:List (Nat × XO)) (d:Nat):List AV->List AV->List (Nat × Nat)->List (Nat × Nat):=
 Nat.rec (motive:=fun _=>List AV->List AV->List (Nat × Nat)->List (Nat × Nat)) (fun _ _ s=>s) (fun _ ih vs us s=>
  (vs.zip us).foldl (fun s p=>
   let go (n m:Nat) (s:List (Nat × Nat)):List (Nat × Nat):=match Nat.blt n n0 || (D8 s n).isSome with
    | true=>s
    | false=>match EL l1 n,EL l0 m with
     | some o1,some o0=>ih (aN2 o1.c) (aN2 o0.c) ((n,m)::s)
     | _,_=>s
   match p.1,p.2 with
   | .ptr n _ _, .ptr m _ _=>go n m s
   | .Lx n _ _, .Lx m _ _=>go n m s
   | .sl n _ _ _, .sl m _ _ _=>go n m s
   | .mp n, .mp m=>go n m s
   | .fn (.yield n) a b, .fn (.yield m) a' b'=>ih b b' (ih a a' (go n m s))
   | .fn _ a b, .fn _ a' b'=>ih b b' (ih a a' s)
   | .iface _ v, .iface _ v'=>ih [v] [v'] s
   | .agg cs, .agg Dt=>ih cs Dt s
   | .GG cs, .GG Dt=>ih cs Dt s
   | _,_=>s) s) d
section
variable (C:Cx)
def aQA (P:Program) (b:Bool):Op->Bool
 | .move _ | .assign _ | .pick .. | .load .. | .nilCheck _ | .binOp .. | .unOp .. | .makeInterface .. | .makeFunc .. | .fieldAddr .. | .field .. | .indexAddr .. | .index .. | .slice .. | .extract .. | .build .. | .typeAssert .. | .lookup ..=>true
 | .convert _ d _=>match P.underlying d with
  | some (.slice _)=>false
  | _=>true
 | .buildSlice ..=>b
 | .call { callee:=.builtin k, .. }=>match k with
  | .len | .cap | .min | .max=>true
  | _=>false
 | _=>false
noncomputable def aR0 (b:Bool) (ms:List Nat) (all:List Oper) (f:Nat):List Nat->List Nat->OT:=
 Nat.rec (motive:=fun _=>List Nat->List Nat->OT) (fun _ _=>.fin) (fun _ ih Nw pu=>match TC (fun i o=>!D6 i Nw && (aQA C.P b o.op && sQ (YQ o) Nw)) 0 all with
  | some i=>.pure i (ih (i::Nw) (match Du all i with
   | some o=>match Fp o.op with
    | true=>i::pu
    | false=>pu
   | none=>pu))
  | none=>match TD (fun i o=>!D6 i Nw && sQ (YQ o) Nw) 0 all with
   | []=>.fin
   | es=>es.foldr (fun i t=>.A8 i (pu.filter fun k=>!(Lg ms i).testBit k) (ih (i::Nw) pu) t) .nil) f
def isB:Op->Bool
 | .buildSlice ..=>true
 | _=>false
def aQB (all:List Oper):Bool:=Nat.blt 2 (all.filter fun o=>isB o.op).length
noncomputable def otX (all:List Oper):OT:=aR0 C (aQB all) (Cr all []) all (Nat.succ all.length) [] []
noncomputable def oP (op:Op) (ev:Operand->AV) (lk:Nat->Option Ag):Option AV:=match op with
 | .buildSlice t n parts=>J5 (aGi C t n parts.toList ev)
 | op=>Iw C.P op ev lk
theorem aAB {op:Op} {ev:Operand->AV} {lk:Nat->Option Ag} {u:AV} (h:oP C op ev lk=some u):(tX C op ev lk).EW u:=by
 unfold oP at h
 unfold tX
 split at h
 ·exact Q5 h
 ·rename_i n1
  split
  ·trivial
  ·exact aS _ h
noncomputable def lkX (op:Op) (X:XH):Nat->Option Ag:=match Fp op with
 | true=>XJ X
 | false=>fun _=>none
theorem aIp (op:Op) (X:XH):lkO op (Br X)=lkX op X:=by
 unfold lkO lkX
 cases Fp op
 ·rfl
 ·exact pF X
noncomputable def aIq (all:List Oper) (σ0:Sg) (X:XH) (e:En) (L:List En):Bool:=
 match gd all e.o (Oc (looks all e.o) (ap σ0 L)) with
 | some true=>match oP C e.o.op (Ci C (Oc (looks all e.o) (ap σ0 L))) (lkX e.o.op X) with
  | some v=>Nu v e.v
  | none=>false
 | some false=>Nu e.v Bv
 | none=>false
theorem aIr {all:List Oper} {σ0:Sg} {X:XH} {e:En} {L:List En} (h:aIq C all σ0 X e L=true):IX C all σ0 (Br X) e L:=by
 grind [aIq,IX,aIp,UY,aAB]
noncomputable def QI (all:List Oper) (σ0:Sg) (hs:List Nat) (X:XH):List En->Bool
 | []=>true
 | e::L=>match D6 e.i hs with
  | true=>aIq C all σ0 X e L && QI all σ0 hs X L
  | false=>QI all σ0 hs X L
theorem aX {all:List Oper} {σ0:Sg} {hs:List Nat} {X:XH}:∀ {L:List En},QI C all σ0 hs X L=true->Wt C all σ0 hs (Br X) L
 | [],_=>trivial
 | e::L,h=>by
  simp only [QI] at h
  simp only [Wt]
  split at h
  ·rename_i e1
   simp only [e1]
   simp only [qC] at h
   exact⟨aIr C h.1,aX h.2⟩
  ·rename_i e1
   simp only [e1]
   exact aX h
noncomputable def Ha (z:AV) (dst:Option Tmp) (v:AV) (l:ST):ST:=match dst with
 | none=>l
 | some d=>aBi z v d l
noncomputable def aH (z:AV):List Nat->ST->ST
 | [],l=>l
 | d::r,l=>aBi z .junk d (aH z r l)
theorem aN3 (z:AV) (all:List Oper) (l:ST):unw all (sg z l)=sg z (aH z (dstsOf all) l):=by
 have go:∀ ds:List Nat,(fun t=>match D6 t ds with | true=>AV.junk | false=>sg z l t)=sg z (aH z ds l):=by
  intro ds
  induction ds with
  | nil=>rfl
  | cons d r ih=>
   simp only [aH]
   rw [<- SF,<- ih]
   funext t
   simp only [bI,D6]
   grind
 exact go (dstsOf all)
noncomputable def yV (a b:Option (List RR)):Option (List RR):=match a with
 | none=>none
 | some a=>match b with
  | none=>none
  | some b=>some (a++b)
noncomputable def xD (O:Xm) (rd:Bool) (all:List Oper) (z:AV) (l0:ST) (ot:OT):List En->ST->List AD->XH->Option (List RR):=
 OT.rec (motive:=fun _=>List En->ST->List AD->XH->Option (List RR))
  (fun _ l ds X=>some [.ok z l ds X])
  (fun i _ ih L l ds X=>match Du all i with
   | none=>none
   | some o=>match gd all o (Oc (looks all o) (sg z l)) with
    | some true=>match oP C o.op (Ci C (Oc (looks all o) (sg z l))) (lkX o.op X) with
     | some v=>Ow v fun v=>ih (⟨i,o,v,false⟩::L) (Ha z o.dst v l) ds X
     | none=>none
    | some false=>ih (⟨i,o,Bv,false⟩::L) (Ha z o.dst Bv l) ds X
    | none=>none)
  (fun i hs _ alt ih ihA L l ds X=>
   let it:Option (List RR):=match Du all i with
    | none=>none
    | some o=>match gd all o (Oc (looks all o) (sg z l)) with
     | some true=>match N7 C O rd o (Oc (looks all o) (sg z l)) ds X with
      | .val v ds X=>match (match hs with
       | []=>true
       | hs=>QI C all (sg z l0) hs X L) with
       | true=>Ow v fun v=>ih (⟨i,o,v,true⟩::L) (Ha z o.dst v l) ds X
       | false=>none
      | .F7 ch X=>some [.F7 ch z (aH z (dstsOf all) l0) ds X]
      | .bad=>none
     | some false=>ih (⟨i,o,Bv,true⟩::L) (Ha z o.dst Bv l) ds X
     | none=>none
   match alt with
   | .nil=>it
   | _=>yV it (ihA L l ds X))
  (fun _ _ _ _=>some []) ot
theorem UZ {z:AV} {l l0:ST} {L:List En} (h:sg z l=ap (sg z l0) L) (e:En):sg z (Ha z e.o.dst e.v l)=ap (sg z l0) (e::L):=by
 grind [ap,Ha,SF]
theorem aY {O:Xm} (hO:UT C O) {rd:Bool} {all:List Oper} {z:AV} {l0:ST} {K:Sg->List AD->Hp->Prop} {Z:List AP->Sg->List AD->Hp->Prop}:∀ (ot:OT) (L:List En) (l:ST) (ds:List AD) (X:XH) (rs:List RR),sg z l=ap (sg z l0) L->xD C O rd all z l0 ot L l ds X=some rs->(∀ r∈rs,r.Lt K Z)->vD C rd all (sg z l0) K Z ot L ds (Br X)
 | .fin,L,l,ds,X,rs,hl,h,hr=>by
  injection h with h
  subst h
  rw [aMx,<- hl]
  exact hr (.ok z l ds X) (by simp)
 | .pure i t,L,l,ds,X,rs,hl,h,hr=>by
  have h:(match Du all i with
   | none=>none
   | some o=>match gd all o (Oc (looks all o) (sg z l)) with
    | some true=>match oP C o.op (Ci C (Oc (looks all o) (sg z l))) (lkX o.op X) with
     | some v=>Ow v fun v=>xD C O rd all z l0 t (⟨i,o,v,false⟩::L) (Ha z o.dst v l) ds X
     | none=>none
    | some false=>xD C O rd all z l0 t (⟨i,o,Bv,false⟩::L) (Ha z o.dst Bv l) ds X
    | none=>none)=some rs:=h
  rw [aCQ,<- hl]
  split at h <;> try cases h
  rename_i e1
  simp only [e1]
  split at h <;> try cases h
  ·rename_i e2
   simp only [e2]
   split at h <;> try cases h
   rename_i e3
   rw [JK] at h
   rw [aIp]
   exact Ba.Xo (aAB C e3) (aY hO t _ _ ds X rs (UZ hl ⟨_,_,_,_⟩) h hr)
  ·rename_i e2
   simp only [e2]
   exact aY hO t _ _ ds X rs (UZ hl ⟨_,_,_,_⟩) h hr
 | .A8 i hs t alt,L,l,ds,X,rs,hl,h,hr=>by
  obtain⟨it,hit⟩:∃ it:Option (List RR),it=(match Du all i with
    | none=>none
    | some o=>match gd all o (Oc (looks all o) (sg z l)) with
     | some true=>match N7 C O rd o (Oc (looks all o) (sg z l)) ds X with
      | .val v ds X=>match (match hs with
       | []=>true
       | hs=>QI C all (sg z l0) hs X L) with
       | true=>Ow v fun v=>xD C O rd all z l0 t (⟨i,o,v,true⟩::L) (Ha z o.dst v l) ds X
       | false=>none
      | .F7 ch X=>some [.F7 ch z (aH z (dstsOf all) l0) ds X]
      | .bad=>none
     | some false=>xD C O rd all z l0 t (⟨i,o,Bv,true⟩::L) (Ha z o.dst Bv l) ds X
     | none=>none):=⟨_,rfl⟩
  have h:(match (generalizing:=false) alt with
   | .nil=>it
   | _=>yV it (xD C O rd all z l0 alt L l ds X))=some rs:=by rw [hit];exact h
  obtain⟨P,hP⟩:∃ P:Prop,P=(match Du all i with
   | none=>False
   | some o=>match gd all o (Oc (looks all o) (ap (sg z l0) L)) with
    | some true=>Wu C rd o (Oc (looks all o) (ap (sg z l0) L)) ds (Br X)
      (fun v CS H'=>match hs with
       | []=>vD C rd all (sg z l0) K Z t (⟨i,o,v,true⟩::L) CS H'
       | hs=>Wt C all (sg z l0) hs H' L/\vD C rd all (sg z l0) K Z t (⟨i,o,v,true⟩::L) CS H')
      (fun ch H'=>Z ch (unw all (sg z l0)) ds H')
    | some false=>vD C rd all (sg z l0) K Z t (⟨i,o,Bv,true⟩::L) ds (Br X)
    | none=>False):=⟨_,rfl⟩
  have key:∀ rs',it=some rs'->(∀ r∈rs',r.Lt K Z)->P:=by
   intro rs' h hr
   rw [hit] at h
   rw [hP,<- hl]
   cases e1:Du all i with
   | none=>simp only [e1] at h;cases h
   | some o=>
    simp only [e1] at h
    simp only
    cases e2:gd all o (Oc (looks all o) (sg z l)) with
    | none=>simp only [e2] at h;cases h
    | some b=>
     cases b with
     | false=>
      simp only [e2] at h
      exact aY hO t _ _ _ _ rs' (UZ hl ⟨_,_,_,_⟩) h hr
     | true=>
      simp only [e2] at h
      refine aIs C hO ?_
      cases e3:N7 C O rd o (Oc (looks all o) (sg z l)) ds X with
      | bad=>simp only [e3] at h;cases h
      | F7 ch X'=>
       simp only [e3] at h
       injection h with h
       subst h
       have:=hr _ (kC ..)
       simp only [OR.Lt]
       rw [aN3]
       exact this
      | val v CS X'=>
       simp only [e3] at h
       split at h <;> try cases h
       rename_i e4
       rw [JK] at h
       have hv:=aY hO t _ _ _ _ rs' (UZ hl ⟨_,_,_,_⟩) h hr
       simp only [OR.Lt]
       cases hs with
       | nil=>exact hv
       | cons a hs=>exact⟨aX C e4,hv⟩
  rw [aGg]
  have both:yV it (xD C O rd all z l0 alt L l ds X)=some rs->P/\vD C rd all (sg z l0) K Z alt L ds (Br X):=by
   intro h
   cases ha:it with
   | none=>rw [ha] at h;cases h
   | some a=>
    cases hb:xD C O rd all z l0 alt L l ds X with
    | none=>rw [ha,hb] at h;cases h
    | some b=>
     rw [ha,hb] at h
     injection h with h
     subst h
     exact⟨key a ha fun r hm=>hr r (vF _ hm),aY hO alt L l ds X b hl hb fun r hm=>hr r (zB _ hm)⟩
  cases alt with
  | nil=>have:=key rs h hr;rw [hP] at this;exact this
  | fin=>have:=both h;rw [hP] at this;exact this
  | pure=>have:=both h;rw [hP] at this;exact this
  | A8=>have:=both h;rw [hP] at this;exact this
 | .nil,L,l,ds,X,rs,hl,h,hr=>by
  trivial
noncomputable def Nr (n0:Nat) (ds:List AD) (l1:ST) (Y:XH):List RR->Bool
 | []=>true
 | .ok z l [] X::r=>(match ds with
  | []=>pG n0 (uni n0 Y.l X.l 40 (aIt n0 Y.l (yX l1 [])) (aIt n0 X.l (yX l [])) []) z l [] X l1 Y
  | _=>false) && Nr n0 ds l1 Y r
 | _::_=>false
theorem Ua {C:Cx} {n0 N:Nat} {l1:ST} {Y:XH} {Z:List AP->Sg->List AD->Hp->Prop}:∀ {rs:List RR},Nr n0 [] l1 Y rs=true->∀ r∈rs,r.Lt (fun σ' CS H'=>∃ x:Unit,True/\O9 C n0 N σ' CS H' (Bh (fun _=>.junk) ((fun _=>prs l1) x)) [] ((fun _=>Br Y) x)) Z
 | [],_,r,hm=>by cases hm
 | q::rs,h,r,hm=>by
  unfold Nr at h
  split at h
  ·trivial
  ·rename_i e
   injection e with e1 e2
   subst e1;subst e2
   simp only [qC] at h
   rcases qw.1 hm with rfl | hm
   ·exact⟨(),trivial,aAA h.1⟩
   ·exact Ua h.2 r hm
  ·cases h
noncomputable def yY (O:Xm) (rd:Bool) (n0 N:Nat) (all:List Oper) (z:AV) (l:ST) (ds:List AD) (X:XH):RR:=
 match C.P.follows .mixedOrders && FN N all (Cr all []) && JB all (Cr all []) (otX C all) [] [] [] with
 | false=>.bad
 | true=>match xD C O rd all z l (otX C all) [] l ds X with
  | some [r]=>r
  | some (.ok z1 l1 PG X1::rs)=>match ds,gc n0 (yX l1 []) X1 with
   | [],some Y=>match Nr n0 [] l1 Y (.ok z1 l1 PG X1::rs) with
    | true=>.ok .junk l1 [] Y
    | false=>.bad
   | _,_=>.bad
  | _=>.bad
theorem aIo {O:Xm} (hO:UT C O) {rd:Bool} {n0 N:Nat} {all:List Oper} {z:AV} {l:ST} {ds:List AD} {X:XH} {K:Sg->List AD->Hp->Prop} {Z:List AP->Sg->List AD->Hp->Prop} (h:(yY C O rd n0 N all z l ds X).Lt K Z):FI C rd n0 N all (sg z l) ds (Br X) K Z:=by
 unfold yY at h
 split at h
 ·exact h.elim
 ·rename_i e0
  refine⟨_,e0,?_⟩
  split at h
  ·rename_i r e1
   exact .inl (aY C hO _ [] l ds X [r] rfl e1 fun q hq=>MAe)
  ·rename_i z1 l1 PG X1 rs n1 e1
   split at h
   ·rename_i Y e2
    split at h
    ·rename_i e3
     refine .inr ⟨Unit,fun _=>prs l1,fun _=>Br Y,fun _=>True,aY C hO _ [] l [] X _ rfl e1 (Ua e3),fun _ _=>?_⟩
     rw [ow]
     exact h
    ·exact h.elim
   ·exact h.elim
  ·exact h.elim
end
end Go.Proofs.YtkegmchjobphdaaGreatDoor.Y
namespace Go.Proofs.YtkegmchjobphdaaGreatDoor.Y
open Go
theorem yw {hd:Option (List Deferred)} {Γ:Gm} {n:Nat}:∀ {pre:List AD} {dd:List Deferred},Uh hd Γ (pre++[.Le n]) dd->∃ q,hd.isSome=true/\Γ.nm n=some q/\Uh (some (aED q.blk::hd.getD [])) Γ pre dd
 | [],dd,h=>by
  simp only [kg,Uh,DR] at h
  obtain⟨u,us,rfl,⟨h0,q,hq,rfl⟩,rfl⟩:=h
  exact⟨q,h0,hq,rfl⟩
 | d::pre,dd,h=>by
  simp only [kD,Uh] at h
  obtain⟨u,us,rfl,hd',h⟩:=h
  obtain⟨q,h0,hq,hr⟩:=yw h
  refine⟨q,h0,hq,?_⟩
  simp only [Uh]
  refine⟨u,us,rfl,?_,hr⟩
  cases d with
  | fn f cap args=>exact hd'
  | Le m=>exact⟨rfl,hd'.2⟩
theorem O9.aP9 {C:Cx} {n0 N:Nat} {σ σ':Sg} {pre CS:List AD} {H H':Hp} (n:Nat) {t:TypeId} (ho:Aq H.l n=some ⟨t,false, .df⟩) (h:O9 C n0 N σ pre { H with l:=HV H.l n } σ' CS H'):O9 C n0 N σ (pre++[.Le n]) H σ' CS H':=by
 rintro r B Γ w a hn hR ⟨df0,hs,hx⟩
 obtain⟨q,OQ,hq,SL⟩:=yw hs.df
 obtain⟨q',Gp,Em⟩:=hR.Dz n _ ho
 rw [hq] at Gp
 injection Gp with eq
 subst eq
 simp only [Cv] at Em
 obtain⟨BF,_,Em⟩:=Em
 have U1:RJ Γ H q.blk:=⟨n,_,q,ho,rfl,hq,BF,rfl⟩
 have U3:∀ k,RJ Γ { H with l:=HV H.l n } k->RJ Γ H k:=fun k ⟨m,p,q1,h1,h2⟩=>⟨m,p,q1,(Bc.1 h1).2,h2⟩
 have Bt:¬ RJ Γ { H with l:=HV H.l n } q.blk:=fun ⟨m,p,q1,h1,h2,h3,h4,h5⟩=>
  hR.apart m p n _ q1 q (Bc.1 h1).2 ho (Bc.1 h1).1 h3 hq h2 h4 BF h5
 have hR':R C Γ { H with l:=HV H.l n } w:=⟨hR.Jq,hR.fresh,hR.Io,fun m p hp=>hR.Dz m p (Bc.1 hp).2,fun m p q1 hp=>hR.own m p q1 (Bc.1 hp).2,fun m p m' p' q1 q2 hp Q6=>hR.apart m p m' p' q1 q2 (Bc.1 hp).2 (Bc.1 Q6).2⟩
 have hL:Au C n0 Γ H w Γ { H with l:=HV H.l n } w:=MEd
 obtain⟨bs,ebs,hnd,hbs⟩:=hx.hid
 have GL:q.blk<w.heap.size:=by
  exact MJs
 obtain⟨BU,h1,h2⟩:=h r B Γ w a hn hR' ⟨some (aED q.blk::df0.getD []),⟨hs.size,hs.tm,SL⟩,
  ⟨by rw [<- hx.si,OQ];rfl,⟨q.blk::bs,MAe,zA.2 ⟨fun hm=>(hbs _ hm).2.2.1 U1,hnd⟩,fun b hb=>by
   rcases qw.1 hb with rfl | hb
   ·exact⟨hx.own _ U1,GL,Bt,Em⟩
   grind⟩,fun k hk=>hx.own k (U3 k hk),hx.size⟩⟩
 exact⟨BU,h1,hL.trans h2⟩
noncomputable def aIj:List AD->Option (List Nat)
 | []=>some []
 | .Le n::r=>match aIj r with
  | some ns=>some (n::ns)
  | none=>none
 | _::_=>none
theorem aDG:∀ {ds:List AD} {ns:List Nat},aIj ds=some ns->ds=ns.map .Le
 | [],ns,h=>by injection h with h;subst h;rfl
 | .Le n::r,ns,h=>by
  simp only [aIj] at h
  split at h <;> cases h
  rename_i e
  rw [aDG e];rfl
 | .fn ..::r,ns,h=>by simp [aIj] at h
noncomputable def aDH:List Nat->XH->Option XH
 | [],X=>some X
 | n::r,X=>match aDH r X with
  | some X=>match EL X.l n with
   | some ⟨_,false, .cn .df⟩=>some ⟨X.next,aBn n X.l⟩
   | _=>none
  | none=>none
theorem yx {C:Cx} {n0 N:Nat} {σ σ':Sg} {CS:List AD} {H':Hp}:∀ {ns:List Nat} {X Y:XH} (pre:List AD),aDH ns X=some Y->O9 C n0 N σ pre (Br Y) σ' CS H'->O9 C n0 N σ (pre++ns.map .Le) (Br X) σ' CS H'
 | [],X,Y,pre,h,k=>by
  injection h with h
  simp_all
 | n::r,X,Y,pre,h,k=>by
  simp only [aDH] at h
  split at h <;> try cases h
  rename_i X' e
  split at h <;> cases h
  rename_i t e2
  have k:O9 C n0 N σ pre { Br X' with l:=HV (Br X').l n } σ' CS H':=by rw [<- aLL];exact k
  have:=O9.aP9 (pre:=pre) n (yz e2) k
  have:=yx (pre++[.Le n]) e this
  exact MHw
inductive CR where
 | out (e:AX) (z:AV) (l:ST) (ds:List AD) (X:XH)
 | bad
def CR.Lt (r:CR) (Q:KQ):Prop:=match r with
 | .out e z l ds X=>Q e (sg z l) ds (Br X)
 | .bad=>False
noncomputable def rrC:RR->CR
 | .ok z l ds X=>.out .normal z l ds X
 | .F7 ch z l ds X=>.out (.panic ch) z l ds X
 | .bad=>.bad
theorem aDI {r:RR} {Q:KQ} (h:(rrC r).Lt Q):r.Lt (Q .normal) (fun ch=>Q (.panic ch)):=by
 cases r <;> exact h
noncomputable def aP (n0:Nat) (D:List AD) (l:ST) (ds:List AD) (X:XH):Option XH:=
 match D,aIj ds with
 | [],some ns=>match aDH ns X with
  | some X=>gcs n0 l X
  | none=>none
 | _,_=>match aFH D ds with
  | true=>gcs n0 l X
  | false=>none
where
 aFH:List AD->List AD->Bool
  | [],[]=>true
  | .fn g cap args::r, .fn g' FZ args'::r'=>Nat.beq g g' && (K4 cap FZ && (K4 args args' && aFH r r'))
  | .Le n::r, .Le n'::r'=>Nat.beq n n' && aFH r r'
  | _,_=>false
theorem oq:∀ {a b:List AD},aP.aFH a b=true->a=b
 | [],[],_=>rfl
 | [],_::_,h=>by trivial
 | .fn ..::_,[],h=>by trivial
 | .Le ..::_,[],h=>by trivial
 | .fn ..::_, .Le ..::_,h=>by trivial
 | .Le ..::_, .fn ..::_,h=>by trivial
 | .fn g cap args::r, .fn g' FZ args'::r',h=>by
  simp only [aP.aFH,qC] at h
  rw [qI h.1,Fx _ _ h.2.1,Fx _ _ h.2.2.1,oq h.2.2.2]
 | .Le n::r, .Le n'::r',h=>by
  simp only [aP.aFH,qC] at h
  rw [qI h.1,oq h.2]
theorem aIk {C:Cx} {n0 N:Nat} {D:List AD} {z:AV} {l:ST} {ds:List AD} {X Y:XH} (h:aP n0 D l ds X=some Y):O9 C n0 N (sg z l) ds (Br X) (Bh (fun _=>.junk) (prs l)) D (Br Y):=by
 unfold aP at h
 split at h
 ·rename_i ns e
  split at h <;> try cases h
  rename_i X' e2
  rw [aDG e]
  exact yx [] e2 (ou h)
 grind [oq,ou]
noncomputable def Wh (body:AV->ST->List AD->XH->CR) (n0:Nat) (D:List AD) (F:Nat):ST->XH->CR:=
 Nat.rec (motive:=fun _=>ST->XH->CR) (fun _ _=>.bad) (fun _ ih l X=>match body .junk l D X with
  | .out e z l ds X=>match e with
   | .normal=>match aP n0 D l ds X with
    | some X=>ih l X
    | none=>.bad
   | e=>.out e z l ds X
  | .bad=>.bad) F
theorem aBo (body:AV->ST->List AD->XH->CR) (n0:Nat) (D:List AD) (F:Nat) (l:ST) (X:XH):Wh body n0 D (F+1) l X=match body .junk l D X with
  | .out e z l ds X=>match e with
   | .normal=>match aP n0 D l ds X with
    | some X=>Wh body n0 D F l X
    | none=>.bad
   | e=>.out e z l ds X
  | .bad=>.bad:=rfl
section
variable (C:Cx)
theorem aIl {n0 N F:Nat} {body:AV->ST->List AD->XH->CR} {vb:Sg->List AD->Hp->KQ->Prop} (hb:∀ z l ds X Q,(body z l ds X).Lt Q->vb (sg z l) ds (Br X) Q) {z:AV} {l:ST} {ds:List AD} {X Y:XH} {Q:KQ} (hg:gcs n0 l X=some Y) (h:(Wh body n0 ds F l Y).Lt Q):lY C n0 N vb (sg z l) ds (Br X) Q:=by
 refine⟨Nat × ST × XH,fun x=>prs x.2.1,fun x=>Br x.2.2,fun x=>(Wh body n0 ds x.1 x.2.1 x.2.2).Lt Q,fun x=>x.1,⟨(F,l,Y),h,ou hg⟩,?_⟩
 rintro⟨n,l,X⟩ hx
 simp only at hx ⊢
 rw [ow]
 apply hb
 cases n with
 | zero=>exact hx.elim
 | succ n=>
  rw [aBo] at hx
  split at hx
  ·rename_i e z' l' CS X' e1
   rw [e1]
   split at hx
   ·split at hx
    ·rename_i Y' e2
     exact⟨(n,l',Y'),hx,aIk e2,zZ n⟩
    ·exact hx.elim
   grind [CR.Lt]
  ·exact hx.elim
noncomputable def aDJ (z:AV) (l:ST) (ds:List AD) (X:XH):Option Code->CR
 | none=>.out .normal z l ds X
 | some .ret=>.out .ret z l ds X
 | some (.exit i)=>.out (.exit i) z l ds X
 | some (.goto i)=>.out (.goto i) z l ds X
 | _=>.bad
theorem aIm {z:AV} {l:ST} {ds:List AD} {X:XH} {p:Option Code} {Q:KQ} (h:(aDJ z l ds X p).Lt Q):YR p Q (sg z l) ds (Br X):=by
 unfold aDJ at h
 split at h <;> first | exact h | exact h.elim
noncomputable def oz (L:Nat) (z:AV) (l:ST) (ds:List AD):Option (AE × XH)->CR
 | some (.returned _,X)=>match EL X.l L with
  | some ⟨t,fr, .lp st E5 lim n z' l' a b c dn⟩=>match st with
   | .busy=>.bad
   | _=>aDJ z l ds ⟨X.next,Jy L ⟨t,fr, .lp .exhausted E5 lim n z' l' a b c dn⟩ X.l⟩ E5
  | _=>.bad
 | some (.panicked ch,X)=>.out (.panic ch) z l ds X
 | none=>.bad
theorem aIn {N:Nat} {OG:FuncId->List AV->XH->Option (AE × XH)} (hG:∀ g args X e X',OG g args X=some (e,X')->A7 C g args (Br X) fun a b=>a=e/\b=Br X') {g:FuncId} {first cap:List AV} {L:Nat} {z:AV} {l:ST} {ds:List AD} {X:XH} {Q:KQ}
  (h:(oz L z l ds (OG g (first++[.fn (.yield L) [] []]++cap) X)).Lt Q):OZ C N g first cap L (sg z l) ds (Br X) Q:=by
 unfold OZ
 cases e:OG g (first++[.fn (.yield L) [] []]++cap) X with
 | none=>rw [e] at h;exact h.elim
 | some r=>
  obtain⟨a,X'⟩:=r
  rw [e] at h
  intro Γ w args' hR hA
  obtain⟨h1,h2⟩:=hG _ _ _ _ _ e Γ w args' hR hA
  refine⟨h1,h2.mono fun _ _=>Fs.mono ?_⟩
  rintro a' b' ⟨rfl,rfl⟩
  cases a' with
  | panicked ch=>exact h
  | returned v=>
   unfold oz at h
   simp only at h ⊢
   split at h <;> try exact h.elim
   rename_i t fr st E5 lim n z' l' a b c dn e2
   simp only [yz e2,Ls,Uk]
   have go:(aDJ z l ds ⟨X'.next,Jy L ⟨t,fr, .lp .exhausted E5 lim n z' l' a b c dn⟩ X'.l⟩ E5).Lt Q->YR E5 Q (sg z l) ds { Br X' with l:=DJ (Br X').l L ⟨t,fr, .lp .exhausted E5 lim n (sg z' l') a b c dn⟩ }:=fun h=>by
    have h:=aIm h
    have e3:Br ⟨X'.next,Jy L ⟨t,fr, .lp .exhausted E5 lim n z' l' a b c dn⟩ X'.l⟩={ Br X' with l:=DJ (Br X').l L ⟨t,fr, .lp .exhausted E5 lim n (sg z' l') a b c dn⟩ }:=by
     show Hp.mk _ (Jw _)=Hp.mk _ (DJ (Jw X'.l) _ _)
     rw [<- K5];rfl
    simp_all
   cases st <;> first | exact h.elim | exact go h
noncomputable def UQ (OG:FuncId->List AV->XH->Option (AE × XH)) (rn:Option Nat) (N:Nat) (f:AV) (params:Array Tmp) (Fq bd:Code) (z:AV) (l:ST) (ds:List AD) (X:XH):CR:=
 match U2 f with
 | some (.func g,first,cap)=>match rn with
  | none=>Cb X.next fun n=>oz (Nat.succ n) z l (.Le n::ds) (OG g (first++[.fn (.yield (Nat.succ n)) [] []]++cap) ⟨Nat.succ (Nat.succ n),(Nat.succ n,⟨0,false, .lp .ready none n N z l params.toList Fq bd n⟩)::(n,⟨0,false, .cn .df⟩)::X.l⟩)
  | some k=>match EL X.l k with
   | some ⟨_,_, .lp _ _ _ _ _ _ _ _ _ dn⟩=>Cb X.next fun n=>oz n z l ds (OG g (first++[.fn (.yield n) [] []]++cap) ⟨Nat.succ n,(n,⟨0,false, .lp .ready none n N z l params.toList Fq bd dn⟩)::X.l⟩)
   | _=>.bad
 | _=>.bad
noncomputable def I6 (O:Xm) (OG:FuncId->List AV->XH->Option (AE × XH)) (F:Nat) (rn:Option Nat) (n0 N:Nat) (c:Code):AV->ST->List AD->XH->CR:=
 Code.rec (motive:=fun _=>AV->ST->List AD->XH->CR)
  (fun z l ds X=>.out .normal z l ds X)
  (fun _ ops draw z l ds X=>match draw with
   | false=>rrC (aBh C O rn.isSome N ops.toList ops.toList z l ds X)
   | true=>rrC (yY C O rn.isSome n0 N ops.toList z l ds X))
  (fun _ _ PS QU z l ds X=>match PS z l ds X with
   | .out e z l ds X=>match e with
    | .normal=>QU z l ds X
    | e=>.out e z l ds X
   | .bad=>.bad)
  (fun c _ _ PS QU z l ds X=>match Ci C (sg z l) c with
   | .p (.bool true)=>PS z l ds X
   | .p (.bool false)=>QU z l ds X
   | _=>.bad)
  (fun id _ ih z l ds X=>match ih z l ds X with
   | .out e z l ds X=>match e with
    | .exit j=>match Nat.beq j id with
     | true=>.out .normal z l ds X
     | false=>.out (.exit j) z l ds X
    | e=>.out e z l ds X
   | .bad=>.bad)
  (fun _ ih _ l ds X=>match gcs n0 l X with
   | some Y=>Wh ih n0 ds F l Y
   | none=>.bad)
  (fun f params Fq bd _ _ z l ds X=>UQ OG rn N (Ci C (sg z l) f) params Fq bd z l ds X)
  (fun id z l ds X=>.out (.exit id) z l ds X)
  (fun _ ih z l ds X=>match ih z l ds X with
   | .out e z l ds X=>match e with
    | .goto _=>.bad
    | e=>.out e z l ds X
   | .bad=>.bad)
  (fun _ z l ds X=>.out .normal z l ds X)
  (fun i z l ds X=>.out (.goto i) z l ds X)
  (fun z l ds X=>.out .ret z l ds X)
  (fun _ _ _ _ _=>.bad) c
theorem QM {O:Xm} (hO:UT C O) {OG:FuncId->List AV->XH->Option (AE × XH)} (hG:∀ g args X e X',OG g args X=some (e,X')->A7 C g args (Br X) fun a b=>a=e/\b=Br X') {F:Nat} {rn:Option Nat} {n0 N:Nat}:∀ (c:Code) (z:AV) (l:ST) (ds:List AD) (X:XH) (Q:KQ),(I6 C O OG F rn n0 N c z l ds X).Lt Q->vc C rn n0 N c (sg z l) ds (Br X) Q:=by
 intro c
 induction c with
 | skip=>intro z l ds X Q h;exact h
 | region id ops draw=>
  intro z l ds X Q h
  rw [U5]
  cases draw with
  | false=>exact pE C hO _ _ _ _ _ (aDI h)
  | true=>exact aIo C hO (aDI h)
 | seq a b PS QU=>
  intro z l ds X Q h
  rw [aGZ]
  apply PS
  change CR.Lt (match I6 C O OG F rn n0 N a z l ds X with
   | .out e z l ds X=>match e with
    | .normal=>I6 C O OG F rn n0 N b z l ds X
    | e=>.out e z l ds X
   | .bad=>.bad) Q at h
  grind [CR.Lt]
 | cond c a b PS QU=>
  intro z l ds X Q h
  rw [aCM]
  change CR.Lt (match Ci C (sg z l) c with
   | .p (.bool true)=>I6 C O OG F rn n0 N a z l ds X
   | .p (.bool false)=>I6 C O OG F rn n0 N b z l ds X
   | _=>.bad) Q at h
  split at h
  ·simp_all
  ·simp_all
  ·exact h.elim
 | block id b ih=>
  intro z l ds X Q h
  rw [tH]
  apply ih
  change CR.Lt (match I6 C O OG F rn n0 N b z l ds X with
   | .out e z l ds X=>match e with
    | .exit j=>match Nat.beq j id with
     | true=>.out .normal z l ds X
     | false=>.out (.exit j) z l ds X
    | e=>.out e z l ds X
   | .bad=>.bad) Q at h
  grind [CR.Lt]
 | loop b ih=>
  intro z l ds X Q h
  rw [aCN]
  change CR.Lt (match gcs n0 l X with
   | some Y=>Wh (I6 C O OG F rn n0 N b) n0 ds F l Y
   | none=>.bad) Q at h
  split at h
  ·grind [aIl]
  ·exact h.elim
 | rangeFunc f params Fq bd _ _=>
  intro z l ds X Q h
  rw [TP]
  change CR.Lt (UQ OG rn N (Ci C (sg z l) f) params Fq bd z l ds X) Q at h
  unfold UQ at h
  split at h
  ·rename_i e
   rw [e]
   cases rn with
   | none=>
    simp only at h ⊢
    rw [FD] at h
    exact aIn C hG h
   | some k=>
    simp only at h ⊢
    split at h
    ·rename_i e2
     rw [FD] at h
     rw [yz e2]
     exact aIn C hG h
    ·exact h.elim
  ·exact h.elim
 | exit id=>intro z l ds X Q h;exact h
 | scope b ih=>
  intro z l ds X Q h
  rw [tJ]
  apply ih
  change CR.Lt (match I6 C O OG F rn n0 N b z l ds X with
   | .out e z l ds X=>match e with
    | .goto _=>.bad
    | e=>.out e z l ds X
   | .bad=>.bad) Q at h
  grind [CR.Lt]
 | label i=>intro z l ds X Q h;exact h
 | goto i=>intro z l ds X Q h;exact h
 | ret=>intro z l ds X Q h;exact h
 | refuse w=>intro z l ds X Q h;exact h
noncomputable def y7 (σ:Sg) (X:XH):List ResultVar->Option (List AV)
 | []=>some []
 | .tmp t::r=>match y7 σ X r with
  | some vs=>some (σ t::vs)
  | none=>none
 | .cell a t::r=>match aK C.P t (σ a) (XJ X),y7 σ X r with
  | some v,some vs=>some (v::vs)
  | _,_=>none
theorem UU {σ:Sg} {X:XH}:∀ {rs:List ResultVar} {vs:List AV} {K:List AV->Prop},y7 C σ X rs=some vs->K vs->Wp C σ (Br X) rs K
 | [],vs,K,h,k=>by injection h with h;subst h;exact k
 | .tmp t::r,vs,K,h,k=>by
  simp only [y7] at h
  split at h <;> cases h
  rename_i e
  simp only [Wp]
  exact UU e k
 | .cell a t::r,vs,K,h,k=>by
  simp only [y7] at h
  split at h <;> cases h
  rename_i e1 e2
  simp only [Wp]
  rw [pF]
  exact Ba.Xo (iy _ e1) (UU e2 k)
noncomputable def aRz:AE->List AV
 | .returned v=>[v]
 | .panicked ch=>ch.map (·.v)
noncomputable def aFI (n0:Nat) (e:AE) (X:XH):Option (AE × XH):=match gc n0 (aRz e) X with
 | some Y=>some (e,Y)
 | none=>none
theorem Xp {n0:Nat} {e e':AE} {X Y:XH} (h:aFI n0 e X=some (e',Y)):Ux n0 (fun a b=>a=e'/\b=Br Y) e (Br X):=by
 unfold aFI at h
 split at h <;> cases h
 rename_i e1
 exact aN0 e1 MC
noncomputable def aMQ (n0:Nat) (e:AE) (X:XH):Option (AE × XH):=Bool.rec (motive:=fun _=>Option (AE × XH)) (aFI n0 e X) (some (e,X)) (aLM X.l 30)
noncomputable def K6 (OD:FuncId->List AV->Md->XH->Option (AE × Md × XH)) (σ:Sg) (rs:List ResultVar):List AD->Md->XH->Option (AE × XH)
 | [], .ret,X=>match y7 C σ X rs with
  | some vs=>some (.returned (bq vs),X)
  | none=>none
 | [], .F7 ch,X=>some (.panicked ch,X)
 | .Le n::ds,u,X=>match EL X.l n with
  | some ⟨_,_, .cn .df⟩=>K6 OD σ rs ds u ⟨X.next,aBn n X.l⟩
  | _=>none
 | .fn g cap args::ds,u,X=>match OD g (args++cap) u X with
  | some (.returned _,u,X)=>K6 OD σ rs ds (TJ u) X
  | some (.panicked ch,u,X)=>K6 OD σ rs ds (XZ u ch) X
  | none=>none
theorem KP {OD:FuncId->List AV->Md->XH->Option (AE × Md × XH)} (hD:∀ g args u X e u' X',OD g args u X=some (e,u',X')->Pd C g args u (Br X) fun a b c=>a=e/\b=u'/\c=Br X') {σ:Sg} {rs:List ResultVar} {e:AE} {Y:XH} {Q:AE->Hp->Prop} (hq:Q e (Br Y)):∀ (ds:List AD) (u:Md) (X:XH),K6 C OD σ rs ds u X=some (e,Y)->GX C σ rs Q ds u (Br X)
 | [], .ret,X,h=>by
  grind [K6,GX,UU]
 | [], .F7 ch,X,h=>by
  grind [K6,GX]
 | .Le n::ds,u,X,h=>by
  simp only [K6] at h
  split at h <;> try cases h
  rename_i e1
  simp only [GX,yz e1,Ls,Uk]
  have:=KP hD hq ds u _ h
  rw [aLL] at this
  exact this
 | .fn g cap args::ds,u,X,h=>by
  simp only [K6] at h
  simp only [GX]
  split at h <;> try cases h
  ·rename_i v u' X' e1
   exact MDO
  ·rename_i ch u' X' e1
   exact MDO
noncomputable def aK5 (OD:FuncId->List AV->Md->XH->Option (AE × Md × XH)) (n0:Nat) (rs:List ResultVar):CR->Option (AE × XH)
 | .out e z l ds Y=>match (match e with
   | .normal=>K6 C OD (sg z l) rs ds .ret Y
   | .ret=>K6 C OD (sg z l) rs ds .ret Y
   | .panic ch=>K6 C OD (sg z l) rs ds (.F7 ch) Y
   | _=>none) with
  | some (e,Y)=>aMQ n0 e Y
  | none=>none
 | .bad=>none
theorem aLN {OD:FuncId->List AV->Md->XH->Option (AE × Md × XH)} (hD:∀ g args u X e u' X',OD g args u X=some (e,u',X')->Pd C g args u (Br X) fun a b c=>a=e/\b=u'/\c=Br X') {n0:Nat} {rs:List ResultVar} {r:CR} {e:AE} {Y:XH} (h:aK5 C OD n0 rs r=some (e,Y)):r.Lt (Fin C rs fun a b=>a=e/\b=Br Y)∨r.Lt (Fin C rs (Ux n0 fun a b=>a=e/\b=Br Y)):=by
 unfold aK5 at h
 split at h
 ·rename_i a z l ds X
  split at h
  ·rename_i e1 Y1 e2
   have key:∀ Q:AE->Hp->Prop,Q e1 (Br Y1)->(CR.out a z l ds X).Lt (Fin C rs Q):=fun Q hq=>by
    cases a with
    | normal=>exact KP C hD hq _ _ _ e2
    | ret=>exact KP C hD hq _ _ _ e2
    | panic ch=>exact KP C hD hq _ _ _ e2
    | exit i=>cases e2
    | goto i=>cases e2
   unfold aMQ at h
   cases e3:aLM Y1.l 30 with
   | true=>
    simp_all
   | false=>
    rw [e3] at h
    grind [Xp]
  ·cases h
 ·cases h
noncomputable def xFn (O:Xm) (OG:FuncId->List AV->XH->Option (AE × XH)) (OD:FuncId->List AV->Md->XH->Option (AE × Md × XH)) (F:Nat) (g:FuncId) (args:List AV) (X:XH):Option (AE × XH):=
 match C.P.funcs[g]? with
 | some fn=>match fn.body with
  | some c => match !(fn.name == "runtime.NumGoroutine") && Nat.ble args.length fn.ntmps with
   | true=>aK5 C OD X.next fn.results.toList (I6 C O OG F none X.next fn.ntmps c Bv (ofL Bv args 0) [] X)
   | false=>none
  | none=>none
 | none=>none
theorem aBl {O:Xm} (hO:UT C O) {OG:FuncId->List AV->XH->Option (AE × XH)} (hG:∀ g args X e X',OG g args X=some (e,X')->A7 C g args (Br X) fun a b=>a=e/\b=Br X') {OD:FuncId->List AV->Md->XH->Option (AE × Md × XH)} (hD:∀ g args u X e u' X',OD g args u X=some (e,u',X')->Pd C g args u (Br X) fun a b c=>a=e/\b=u'/\c=Br X') {F:Nat} {g:FuncId} {args:List AV} {X Y:XH} {e:AE} (h:xFn C O OG OD F g args X=some (e,Y)):A7 C g args (Br X) fun a b=>a=e/\b=Br Y:=by
 unfold xFn at h
 split at h <;> try cases h
 rename_i fn e1
 split at h <;> try cases h
 rename_i c e2
 split at h <;> try cases h
 rename_i e3
 simp only [qC,ku] at e3
 rcases aLN C hD h with k | k
 ·refine holds_of_vc e1 e3.1 e2 e3.2 ?_
  rw [UW]
  exact QM C hO hG (F:=F) _ _ _ _ _ _ k
 ·refine holdsN_of_vc e1 e3.1 e2 e3.2 ?_
  rw [UW]
  exact QM C hO hG (F:=F) _ _ _ _ _ _ k
noncomputable def aFF (z:AV):ST->List Tmp->List AV->ST
 | l,p::ps,v::vs=>aFF z (aBi z v p l) ps vs
 | l,_,_=>l
theorem aDK (z:AV):∀ (ps:List Tmp) (vs:List AV) (l:ST),aAs (sg z l) ps vs=sg z (aFF z l ps vs)
 | [],vs,l=>by cases vs <;> rfl
 | p::ps,[],l=>rfl
 | p::ps,v::vs,l=>by
  simp only [aAs,aFF]
  rw [SF]
  exact aDK z ps vs _
noncomputable def aK6 (L:Nat):CR->Option (AE × XH)
 | .out e _ _ [] X=>match e with
  | .panic ch=>some (.panicked ch,X)
  | e=>match EL X.l L with
   | some ⟨t,fr, .lp .busy _ lim N z l ps Fq bd dn⟩=>match e with
    | .normal=>some (.returned (.p (.bool true)),⟨X.next,Jy L ⟨t,fr, .lp .ready none lim N z l ps Fq bd dn⟩ X.l⟩)
    | .ret=>some (.returned (.p (.bool false)),⟨X.next,Jy L ⟨t,fr, .lp .done (some .ret) lim N z l ps Fq bd dn⟩ X.l⟩)
    | .exit i=>some (.returned (.p (.bool false)),⟨X.next,Jy L ⟨t,fr, .lp .done (some (.exit i)) lim N z l ps Fq bd dn⟩ X.l⟩)
    | .goto i=>some (.returned (.p (.bool false)),⟨X.next,Jy L ⟨t,fr, .lp .done (some (.goto i)) lim N z l ps Fq bd dn⟩ X.l⟩)
    | .panic _=>none
   | _=>none
 | _=>none
theorem y8 (X:XH) (L:Nat) (t:TypeId) (fr:Bool) (st:LoopState) (E5:Option Code) (lim N:Nat) (z:AV) (l:ST) (ps:List Tmp) (a b:Code) (dn:Nat):Br ⟨X.next,Jy L ⟨t,fr, .lp st E5 lim N z l ps a b dn⟩ X.l⟩={ Br X with l:=DJ (Br X).l L ⟨t,fr, .lp st E5 lim N (sg z l) ps a b dn⟩ }:=by
 exact MJ1
theorem aLO {L:Nat} {r:CR} {e:AE} {Y:XH} (h:aK6 L r=some (e,Y)):r.Lt (TL L fun a b=>a=e/\b=Br Y):=by
 unfold aK6 at h
 split at h
 ·rename_i a z l X
  simp only [CR.Lt,TL]
  split at h
  ·simp_all
  ·rename_i n1
   split
   ·simp_all
   ·split at h <;> try cases h
    rename_i e1
    simp only [yz e1,Ls,Uk]
    split at h <;> cases h
    ·exact MGJ
    ·exact MGJ
    ·exact MGJ
    ·exact MGJ
 ·cases h
noncomputable def aK7 (O:Xm) (OG:FuncId->List AV->XH->Option (AE × XH)) (F:Nat) (L:Nat) (args:List AV) (X:XH):Option (AE × XH):=
 match EL X.l L with
 | some ⟨_,_, .lp .ready _ _ N z l ps Fq bd _⟩=>match Nat.blt L X.next,Nat.beq args.length ps.length && ps.all (fun p=>Nat.blt p N) with
  | true,true=>match I6 C O OG F (some L) X.next N Fq z (aFF z l ps args) [] X with
   | .out .normal z1 l1 [] X1=>match EL X1.l L with
    | some ⟨t,fr, .lp .ready p lim n z' l' a b c dn⟩=>aK6 L (I6 C O OG F (some L) X.next N bd z1 l1 [] ⟨X1.next,Jy L ⟨t,fr, .lp .busy p lim n z' l' a b c dn⟩ X1.l⟩)
    | _=>none
   | _=>none
  | _,_=>none
 | _=>none
theorem aK8 {O:Xm} (hO:UT C O) {OG:FuncId->List AV->XH->Option (AE × XH)} (hG:∀ g args X e X',OG g args X=some (e,X')->A7 C g args (Br X) fun a b=>a=e/\b=Br X') {F:Nat} {L:Nat} {args:List AV} {X Y:XH} {e:AE} (h:aK7 C O OG F L args X=some (e,Y)):Li C L args (Br X) fun a b=>a=e/\b=Br Y:=by
 unfold aK7 at h
 split at h <;> try cases h
 rename_i t fr p0 lim N z l ps Fq bd dn e1
 split at h <;> try cases h
 rename_i e2 e3
 refine GZ (yz e1) e2 e3 ?_
 rw [aDK]
 apply QM C hO hG (F:=F)
 show CR.Lt (I6 C O OG F (some L) X.next N Fq z (aFF z l ps args) [] X) _
 split at h <;> try cases h
 rename_i z1 l1 X1 e4
 rw [e4]
 split at h <;> try cases h
 rename_i e5
 simp only [CR.Lt,Yk,yz e5,Ls,Uk]
 rw [<- y8]
 apply QM C hO hG (F:=F)
 exact aLO h
noncomputable def aDL (N:Nat) (all:List Oper) (X:XH) (z:AV) (r:List Oper):ST->Option ST:=
 List.rec (motive:=fun _=>ST->Option ST) (fun l=>some l) (fun o _ ih l=>match gd all o (sg z l) with
  | some true=>match Iw C.P o.op (Ci C (sg z l)) (XJ X) with
   | some v=>Lr N o.dst z l v none ih
   | none=>none
  | some false=>Lr N o.dst z l Bv none ih
  | none=>none) r
theorem aQ {N:Nat} {dst:Option Tmp} {z:AV} {l l2:ST} {v:AV} {K:ST->Option ST} {K':Sg->Prop} (h:Lr N dst z l v none K=some l2) (hk:∀ l',K l'=some l2->K' (sg z l')):Rs N dst (sg z l) v K':=by
 unfold Lr at h
 grind [Rs,JK,y9,SF]
theorem aR {N:Nat} {all:List Oper} {X:XH} {z:AV} {l2:ST} {K:Sg->Prop} (hK:K (sg z l2)):∀ (r:List Oper) (l:ST),aDL C N all X z r l=some l2->YW C N all r (sg z l) (Br X) K
 | [],l,h=>by
  have h:some l=some l2:=h
  injection h with h
  subst h
  exact hK
 | o::r,l,h=>by
  have h:(match gd all o (sg z l) with
   | some true=>match Iw C.P o.op (Ci C (sg z l)) (XJ X) with
    | some v=>Lr N o.dst z l v none (aDL C N all X z r)
    | none=>none
   | some false=>Lr N o.dst z l Bv none (aDL C N all X z r)
   | none=>none)=some l2:=h
  simp only [YW]
  split at h <;> try cases h
  ·rename_i e1
   simp only [e1]
   split at h <;> try cases h
   rename_i e2
   rw [pF]
   exact Ba.Xo (aS _ e2) (aQ (K':=fun σ'=>YW C N all r σ' (Br X) K) h fun l' h=>aR hK r l' h)
  ·rename_i e1
   simp only [e1]
   exact aQ (K':=fun σ'=>YW C N all r σ' (Br X) K) h fun l' h=>aR hK r l' h
noncomputable def aNt (O:Xm) (OG:FuncId->List AV->XH->Option (AE × XH)) (F:Nat) (g:FuncId) (args:List AV) (u:Md) (X:XH):Option (AE × Md × XH):=
 match C.P.funcs[g]? with
 | some fn=>match fn.body with
  | some (.seq (.region _ ⟨o :: ops⟩ false) c2) => match !(fn.name == "runtime.NumGoroutine"), Nat.ble args.length fn.ntmps && isRec o.op && o.guard.isNone && dataM u && noRange c2 with
   | true,true=>match Lr fn.ntmps o.dst Bv (ofL Bv args 0) (Rt u).1 none (aDL C fn.ntmps (o::ops) X Bv ops) with
    | some l=>match I6 C O OG F none X.next fn.ntmps c2 Bv l [] X with
     | .out e z l [] Y=>match e with
      | .panic ch=>match aFI X.next (.panicked ch) Y with
       | some (e,Y)=>some (e,(Rt u).2,Y)
       | none=>none
      | .normal=>match y7 C (sg z l) Y fn.results.toList with
       | some vs=>match aFI X.next (.returned (bq vs)) Y with
        | some (e,Y)=>some (e,(Rt u).2,Y)
        | none=>none
       | none=>none
      | .ret=>match y7 C (sg z l) Y fn.results.toList with
       | some vs=>match aFI X.next (.returned (bq vs)) Y with
        | some (e,Y)=>some (e,(Rt u).2,Y)
        | none=>none
       | none=>none
      | _=>none
     | _=>none
    | none=>none
   | _,_=>none
  | _=>none
 | none=>none
theorem Ux.mono {n0:Nat} {Q Q':AE->Hp->Prop} (hq:∀ a b,Q a b->Q' a b) {e:AE} {H:Hp} (h:Ux n0 Q e H):Ux n0 Q' e H:=by
 obtain⟨fs,ps,ni,e1,H1,k1,k2,k3,k4⟩:=h
 exact⟨fs,ps,ni,e1,H1,k1,k2,k3,hq _ _ k4⟩
theorem aK9 {O:Xm} (hO:UT C O) {OG:FuncId->List AV->XH->Option (AE × XH)} (hG:∀ g args X e X',OG g args X=some (e,X')->A7 C g args (Br X) fun a b=>a=e/\b=Br X') {F:Nat} {g:FuncId} {args:List AV} {u u':Md} {X Y:XH} {e:AE} (h:aNt C O OG F g args u X=some (e,u',Y)):Pd C g args u (Br X) fun a b c=>a=e/\b=u'/\c=Br Y:=by
 unfold aNt at h
 split at h <;> try cases h
 rename_i fn e1
 split at h <;> try cases h
 rename_i id o ops c2 e2
 split at h <;> try cases h
 rename_i e3 e4
 simp only [ku] at e3
 refine holdsD_rec e1 e3 e2 e4 ?_
 rw [UW]
 split at h <;> try cases h
 rename_i l e5
 refine aQ (l2:=l) e5 fun l' hl=>aR C ?_ _ _ hl
 apply QM C hO hG (F:=F)
 show CR.Lt (I6 C O OG F none X.next fn.ntmps c2 Bv l [] X) _
 split at h <;> try cases h
 rename_i a z l1 Z e6
 rw [e6]
 cases a with
 | normal=>
  exact MEK
 | ret=>
  exact MEK
 | panic ch=>
  simp only at h
  split at h <;> cases h
  rename_i e8
  exact(Xp e8).mono fun a b ⟨h1,h2⟩=>⟨h1,rfl,h2⟩
 | exit i=>cases h
 | goto i=>cases h
inductive Rq where
 | call (g:FuncId) (args:List AV)
 | QJ (g:FuncId) (args:List AV)
 | YY (L:Nat) (args:List AV)
 | UR (g:FuncId) (args:List AV) (u:Md)
noncomputable def two:Option (AE × Md × XH)->Option (AE × XH)
 | some (e,_,X)=>some (e,X)
 | none=>none
noncomputable def three:Option (AE × XH)->Option (AE × Md × XH)
 | some (e,X)=>some (e, .ret,X)
 | none=>none
def Rq.Ok (q:Rq) (X:XH) (e:AE) (u:Md) (Y:XH):Prop:=match q with
 | .call g args=>Holds C g args (Br X) fun a b=>a=e/\b=Br Y
 | .QJ g args=>A7 C g args (Br X) fun a b=>a=e/\b=Br Y
 | .YY L args=>Li C L args (Br X) fun a b=>a=e/\b=Br Y
 | .UR g args u0=>Pd C g args u0 (Br X) fun a b c=>a=e/\b=u/\c=Br Y
theorem aBk {r:Option (AE × Md × XH)} {e:AE} {X:XH} (h:two r=some (e,X)):∃ u,r=some (e,u,X):=by
 cases r with
 | none=>cases h
 | some p=>
  obtain⟨a,u,Y⟩:=p
  injection h with h
  simp_all
theorem QK {r:Option (AE × XH)} {e:AE} {u:Md} {X:XH} (h:three r=some (e,u,X)):r=some (e,X):=by
 cases r with
 | none=>cases h
 | some p=>
  obtain⟨a,Y⟩:=p
  injection h with h
  simp_all
noncomputable def fsX:List (Nat × XO)->List Nat
 | []=>[]
 | (n,o)::r=>match o.c with
  | .cn c=>match BV c with
   | true=>n::fsX r
   | false=>fsX r
  | .lp ..=>fsX r
theorem oV:∀ l:List (Nat × XO),TE (Jw l)=fsX l
 | []=>rfl
 | (n,⟨t,fr,c⟩)::r=>by
  cases c with
  | cn c=>
   simp only [Jw,TE,fsX,Ls,Uk,oV r]
   rfl
  | lp=>simp only [Jw,TE,fsX,Ls,Uk,BV,oV r]
noncomputable def aN1 (l:List (Nat × XO)):AV->Option (List PV)
 | .GG vs=>match vs with
  | [_]=>none
  | vs=>FK (oN l 5) vs
 | v=>match oN l 5 v with
  | some x=>some [x]
  | none=>none
noncomputable def aP6:Option (AE × Md × XH)->Option (List PV)
 | some (.returned v,_,Y)=>match Np Y.l (fsX Y.l) with
  | true=>aN1 (Ij Y.l (fsX Y.l)) v
  | false=>none
 | _=>none
theorem aLP {L:List (Nat × Ag)}:∀ (vs:List AV) (rs:List PV),(∀ a,vs=[a]->False)->EJ (GH L 5) vs rs->aGK L (.returned (.GG vs)) (.ret rs)
 | [],rs,_,h=>by
  have h:rs=[]:=h
  subst h
  exact MH1
 | [a],_,n,_=>(n a rfl).elim
 | a::b::r,rs,_,h=>by
  have h':=h
  obtain⟨y,ys,rfl,_,z,zs,rfl,_,_⟩:=h'
  exact⟨_,rfl,h⟩
theorem aLA {l:List (Nat × XO)} {v:AV} {rs:List PV} (h:aN1 l v=some rs):aGK (Jw l) (.returned v) (.ret rs):=by
 unfold aN1 at h
 split at h
 ·grind [aLP,Ik,UM]
 ·split at h <;> cases h
  rename_i e
  exact⟨_,rfl,UM _ _ _ e⟩
end
end Go.Proofs.YtkegmchjobphdaaGreatDoor.Y
