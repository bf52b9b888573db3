/- GroundValid: the row and the card. Grounds are valid influence diagrams, and networks, if there are no decisions, valid networks; names are different, and found. Conditions: those of the card. -/
import Derived.Test.YtkegmchjobphdaaGreatDoorRows
import Derived.Test.YtkegmchjobphdaaGreatDoorCards
import Derived.Test.YtkegmchjobphdaaGreatDoorTie
import Derived.SevenTiedAt
import Derived.Test.YtkegmchjobphdaaGreatDoorQ12
namespace Go.Proofs.YtkegmchjobphdaaGreatDoor
open Go Y
set_option maxRecDepth 100000
theorem Ul:∀ xs,rG Tryz.prog 8 Tryz.f8.params.toList xs->Pure cx 8 xs (·=.ret [.bool true]):=by
 intro xs h
 rw [Tryz.params8] at h
 obtain⟨x0,_,rfl,h0,x1,_,rfl,h1,rfl⟩:=h
 obtain⟨v0,rfl,g0⟩:=Vm h0
 obtain⟨v1,e1⟩:=Jz (Um MFl h1)
 injection e1 with e1
 subst e1
 exact bQ v0 v1 g0
theorem Rb (os:Os) (started:os.Started) (H:Type) (enc:TypeId × Value->H) :
  ReturnsInHanded {} Tryz.checked os 8 .any (fun w args=>(Rows.groundValidSpec.pre enc Tryz.prog Tryz.f8 [] false w args/\laidMetH Tryz.prog laidP w)/\sizedMet enc Tryz.prog Tryz.f8 (OpenSpec.ofChange Rows.groundValidSpec) false w args)
   (Rows.groundValidSpec.post enc Tryz.prog Tryz.f8 false true false false):=by
 refine returnsInHanded_of_change_and (C:=Tryz.checked) (X:=fun w _=>laidMetH Tryz.prog laidP w) (fun _ _ _ hh h=>h.of_heap hh) own started MK Tryz.func8
  (ChangeSpec.witness_shaped (enc:=enc) (C:=Tryz.checked) (os:=os) (X:=fun w _=>laidMetH Tryz.prog laidP w) false (World.laidAll Tryz.prog os laidP) #[.agg #[.int .u8 0, .int .u8 0, .slice none 0 0, .int .u8 0, .int .u8 0, .int .u8 0, .int .u8 0, .bool false, .slice none 0 0, .int .u8 0, .int .u8 0, .int .u8 0, .slice none 0 0, .bool false], .int .u8 0] 8 (World.laidAll_os _ _ _) (World.shaped_of_ZipB (by kernel_rfl) MIE) ME7 MCX MK (dW os _)) ?_
 intro W base args ds gs before Lc hW _ _ hL _
 obtain⟨p,q,hA,hV,_⟩:=id hW
 have hs:Tryz.f8.params.toList.all (supp Tryz.prog 8)=true:=MK
 obtain⟨_,_,_,hlen⟩:=XM hs (fun j t v ht hv=>Lc j t v (by simpa using ht) (by simpa using hv)) hA
 refine(RA (cx:=cx) Tryz.func8 MK rfl hs Ul Lc hA (rH hL)).mono fun e W' ⟨he,h1,h2,h3⟩=>?_
 subst he
 exact⟨_,rfl,SN (cx:=cx) (m:=8) hs rfl MK Tryz.underlying4 (fun ds h=>by
  rw [Tryz.params8] at h
  match ds,h with
  | [_,_],_=>rfl) hW hlen h1 h2 h3⟩
theorem SQ:Rows.GroundValidSaid:=
 OpenClaim.holds_of_wide 8 Tryz.f8 rfl rfl rfl rfl rfl rfl rfl ⟨rfl,rfl,rfl,rfl,rfl⟩ rfl rfl rfl rfl rfl MCX Tryz.func8 MK
  (kK MCX) ME5
  (fun os started H enc _=>Rb os started H enc)
theorem groundValid_card:Rows.GroundValidCardSaid:=
 Claim7.holds_tied_plain_at .later [] [.data, .data, .data, .data, .data] true (true, "b98e849cc45b36c37f5ad5d057ca5689126fc4a06d3e7f63054a04f637076709") true
  SQ (fun _ h=>by cases h) ME7 (fun _ h=>MGA) groundValid_row_tie rfl MC MCX rfl
  (fun f fn hf Vn=>by
   obtain rfl : f = 8 := vM ((show Tryz.prog.funcNamed "haruspex/haruspexlaw40.GroundValid" = some 8 from MK).symm.trans hf) |>.symm
   obtain rfl:fn=Tryz.f8:=(vM (Tryz.func8.symm.trans Vn)).symm
   exact⟨MK,fun j t ht=>by
    have aDf:(Tryz.f8.params.toList.all fun u=>!Tryz.prog.wantsStandIn u)=true:=MK
    exact(show Tryz.prog.wantsStandIn t=false from MHn)⟩)
  MK
#print axioms groundValid_card
end Go.Proofs.YtkegmchjobphdaaGreatDoor
