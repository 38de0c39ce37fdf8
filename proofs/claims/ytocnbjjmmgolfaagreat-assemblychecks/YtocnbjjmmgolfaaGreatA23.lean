/- Calls that were run once, more of them. -/
import Derived.Test.YtocnbjjmmgolfaaGreatA22
namespace Go.Proofs.YtocnbjjmmgolfaaGreat
open Go Go.M
namespace Tab
def T115:Memo:=(69,[⟨[y0,zl,yd,z],[([ue,uo,ff,ui,ff,z,uo,ue,tt,ut,ff,z,ue,uo,ff,vb,ff,z,uo,ue,tt,xj,ff,z,uo,vg,ff,z,ff,z,vg,uo,ff,z,ff,z,uo,vg,ff,z,ff,z,vg,uo,ff,z,ff,z,vg,vm,tt,wb,ff,z,vm,vg,ff,v3,ff,z,vg,vm,tt,v8,ff,z,vm,vg,ff,wv,ff,z,ue,vm,ff,z,ff,z,vm,ue,ff,z,ff,z,ue,vm,ff,z,ff,z,vm,ue,ff,z,ff,z],164),([ff,z,ff,z,ff,ww,ff,z,ff,xh,ff,z,ff,z,ff,z],34),ua,uc,ua,uc,uc,ua,uc,ua,ua,ua],ue,[]⟩])::T114
theorem g115:T115.OK Tryz.prog:=g g114
def T116:Memo:=(69,[⟨[y0,zl,yd,z],[([ue,uo,ff,z,ff,z,uo,ue,ff,z,ff,z,ue,uo,ff,z,ff,z,uo,ue,ff,z,ff,z,uo,vg,ff,ui,ff,z,vg,uo,tt,ut,ff,z,uo,vg,ff,vb,ff,z,vg,uo,tt,xj,ff,z,vg,vm,ff,z,ff,z,vm,vg,ff,z,ff,z,vg,vm,ff,z,ff,z,vm,vg,ff,z,ff,z,ue,vm,ff,wb,ff,z,vm,ue,tt,v3,ff,z,ue,vm,ff,v8,ff,z,vm,ue,tt,wv,ff,z],164),([ff,z,ff,z,ff,z,ff,z,ff,ww,ff,z,ff,xh,ff,z],34),ua,uc,ua,uc,ua,uc,ua,uc,ua,ua],ue,[]⟩])::T115
theorem g116:T116.OK Tryz.prog:=gb g115 g114
end Tab
end Go.Proofs.YtocnbjjmmgolfaaGreat
