/- Division of fractions (its digits' part printed by mkFd.py). -/
import Derived.Test.YtocnbjjmmgolfaaGreatA22
set_option linter.unusedSimpArgs false
set_option linter.unusedVariables false
set_option linter.unusedSectionVars false
namespace Go.Proofs.YtocnbjjmmgolfaaGreat
open Go Go.M Go.Proofs.C14
noncomputable def Iy(a:(Bool×List Int)×Bool×List Int)(b:(Bool×List Int)×Bool×List Int):Option ((Bool×List Int)×Bool×List Int):=if decide ((b.1.2.length:Int)=0)then some ((false,[]),false,[])else(fW b).bind λc=>(FN c b.1).bind λd=>(BX a d).bind λe=>some e
noncomputable def LG:=zm CW 258 ⟨[bg,bg],bg,603,λx=>Iy x.1 x.2⟩
theorem PT:ad LG:=ad.next (Γ:=Γn) (Hs:=fa []) (rs:=[603]) FA rfl λx=>by kernel_rfl
def Gc(a b:Rat):Option Rat:=if Sm a/\Sm b/\Sm b⁻¹/\b≠0 then some (a*b⁻¹)else none
theorem pf{b:Rat}(h:b≠0):(zG (if b.num<0 then -(b.den:Int)else b.den),if decide ((if b.num<0 then -b.num else b.num)=1)=true then((false,[]):Bool×List Int)else zG (if b.num<0 then -b.num else b.num))=yg b⁻¹:=by
 have hn:b.num≠0:=λe=>h (Rat.num_eq_zero.mp e)
 have hd:=b.den_pos
 have e:b⁻¹.num=(if b.num<0 then -(b.den:Int)else b.den)/\b⁻¹.den=b.num.natAbs:=by
  show(Rat.inv b).num=_/\(Rat.inv b).den=_
  unfold Rat.inv
  split
  .exact⟨rfl,rfl⟩
  .split
   .exact⟨rfl,rfl⟩
   .omega
 unfold yg zG
 rw[e.1,e.2]
 refine Prod.ext ?_ ?_
 .rfl
 .dsimp only
  have a:(if b.num<0 then -b.num else b.num)=(b.num.natAbs:Int):=by split<;>omega
  rw[a]
  by_cases c:b.num.natAbs=1
  .rw[aG (aH Oz),aG c]
  .rw[aD (by simp only[aC];omega),aD c]
   refine Prod.ext ?_ ?_
   .show decide (((b.num.natAbs:Nat):Int)<0)=false
    exact aX Oz
   .show dg ((b.num.natAbs:Nat):Int).natAbs=dg b.num.natAbs
    rw[Int.natAbs_natCast]
theorem GM{a b:Rat}(ha:Sm a)(hb:Sm b)(hi:Sm b⁻¹)(h0:b≠0):Iy (yg a) (yg b)=some (yg (a*b⁻¹)):=by
 have hn:b.num≠0:=λe=>h0 (Rat.num_eq_zero.mp e)
 have e1:(yg b).1=zG b.num:=rfl
 unfold Iy
 rw[aD (by
  rw[aC,e1]
  intro g
  have g:(dg b.num.natAbs).length=0:=by exact_mod_cast g
  have:=dL g
  exact hn (by have:=e9.mp this;omega)),wv,aA,e1,Za (by have:=hb.1;show b.num.natAbs<1000000000000000000;omega),pf h0,aA,pE ha hi]
 rfl
theorem Ni:qt 258 603 [.rat,.rat] .rat λx=>Gc x.1 x.2:=IQ (PT 258 _ rfl) λa b r h=>by obtain⟨⟨ha,hb,hi,h0⟩,rfl⟩:=xL h;exact GM ha hb hi h0
end Go.Proofs.YtocnbjjmmgolfaaGreat
