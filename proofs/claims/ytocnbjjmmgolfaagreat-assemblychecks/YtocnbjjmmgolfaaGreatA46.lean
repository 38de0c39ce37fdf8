/- The examples were run once: what the law asks of them. -/
import Derived.Test.YtocnbjjmmgolfaaGreatA26
import Derived.Test.YtocnbjjmmgolfaaGreatA29
import Derived.Test.YtocnbjjmmgolfaaGreatA34
namespace Go.Proofs.YtocnbjjmmgolfaaGreat
open Go Go.M
def livesE:Entry:=⟨[],[],.bool true,[]⟩
theorem lives_run:livesE.check Tryz.prog (memo Tab.TT) 100000 18=true:=by kernel_rfl
theorem livesE_ok:livesE.OK Tryz.prog 18:=Entry.check_ok Tab.mixed (memo_ok Tab.gg) rfl lives_run
def T18:Memo:=[(18,[livesE])]
theorem T18_ok:Memo.OK Tryz.prog T18:=by
 intro p hp e he
 cases hp with
 |head=>
  simp only[List.mem_singleton]at he
  subst he
  exact livesE_ok
 |tail _ h=>cases h
noncomputable def lawT:zT:=memo T18
theorem lawT_ok:TableS Tryz.prog lawT:=memo_ok T18_ok
theorem lawT_plain:zQ lawT:=by
 intro f h1 _
 have h:lk T18 f=[]:=by
  show(Bool.rec [] ([livesE]++[]) (Nat.beq 18 f):List Entry)=[]
  cases hb:Nat.beq 18 f with
  |false=>rfl
  |true=>exact(h1 (Nat.eq_of_beq_eq_true hb).symm).elim
 unfold lawT memo
 rw[h]
theorem lawT_dec:DecI lawT 18 1000000 [] .bool fun _=>livesG:=by
 intro s hf W hW vs x hx r hz hroom
 obtain rfl:vs=[]:=hx
 obtain rfl:true=r:=Option.some.inj hz
 have hb:Nat.ble (s.next+0) 281474976710655=true:=Nat.ble_eq_true_of_le (by unfold z3 at hroom;omega)
 refine⟨.bool true,s,⟨0,fun m _=>?_⟩,[],hf.hl.up Oz,rfl⟩
 show tryAll [livesE] [] s=_
 simp only[tryAll,Entry.try,livesE,matchAs,matchH,zY,hb,Nat.beq_refl]
 rfl
end Go.Proofs.YtocnbjjmmgolfaaGreat
