/- Calls that were run once, more of them. -/
import Derived.Test.YtocnbjjmmgolfaaGreatA23
namespace Go.Proofs.YtocnbjjmmgolfaaGreat
open Go Go.M
namespace Tab
def T117:Memo:=(77,[⟨[y0,zl],[([ue,uo,ff,ud,ff,z,uo,ue,tt,ui,ff,z,ue,uo,ff,ut,ff,z,uo,ue,tt,vb,ff,z,uo,vg,ff,z,ff,z,vg,uo,ff,z,ff,z,uo,vg,ff,z,ff,z,vg,uo,ff,z,ff,z,vg,vm,tt,xj,ff,z,vm,vg,ff,wb,ff,z,vg,vm,tt,v3,ff,z,vm,vg,ff,v8,ff,z,ue,vm,ff,z,ff,z,vm,ue,ff,z,ff,z,ue,vm,ff,z,ff,z,vm,ue,ff,z,ff,z],164),ua,uc,ua,uc,uc,ua,uc,ua],zv,[([tt,ww,ff,z,ff,z,ff,z,ff,z,ff,z,tt,xh,ff,z],34),uc,uc]⟩])::T116
theorem g117:T117.OK Tryz.prog:=g g116
def T118:Memo:=(77,[⟨[y0,zl],[([ue,uo,ff,z,ff,z,uo,ue,ff,z,ff,z,ue,uo,ff,z,ff,z,uo,ue,ff,z,ff,z,uo,vg,ff,ud,ff,z,vg,uo,tt,ui,ff,z,uo,vg,ff,ut,ff,z,vg,uo,tt,vb,ff,z,vg,vm,ff,z,ff,z,vm,vg,ff,z,ff,z,vg,vm,ff,z,ff,z,vm,vg,ff,z,ff,z,ue,vm,ff,xj,ff,z,vm,ue,tt,wb,ff,z,ue,vm,ff,v3,ff,z,vm,ue,tt,v8,ff,z],164),ua,uc,ua,uc,ua,uc,ua,uc],zv,[([tt,ww,ff,z,tt,xh,ff,z,ff,z,ff,z,ff,z,ff,z],34),uc,uc]⟩])::T117
theorem g118:T118.OK Tryz.prog:=gb g117 g116
def T119:Memo:=(77,[⟨[y0,zl],[([ue,uo,ff,z,ff,z,uo,ue,ff,z,ff,z,ue,uo,ff,z,ff,z,uo,ue,ff,z,ff,z,uo,vg,ff,ud,ff,z,vg,uo,tt,ui,ff,z,uo,vg,ff,ut,ff,z,vg,uo,tt,vb,ff,z,vg,vm,ff,z,ff,z,vm,vg,ff,z,ff,z,vg,vm,ff,z,ff,z,vm,vg,ff,z,ff,z,ue,vm,tt,xj,ff,z,vm,ue,ff,wb,ff,z,ue,vm,tt,v3,ff,z,vm,ue,ff,v8,ff,z],164),ua,uc,ua,uc,uc,ua,uc,ua],(t [z,s 9 0 4 9,n 14]),[([uo,n 12,n 9,n 5],3)]⟩])::T118
theorem g119:T119.OK Tryz.prog:=gb g118 g116
def T120:Memo:=(77,[⟨[y0,s 0 0 8 17],[([ue,uo,ff,ud,ff,z,uo,ue,tt,ui,ff,z,ue,uo,ff,ut,ff,z,uo,ue,tt,vb,ff,z,ue,uo,ff,z,ff,z,uo,ue,ff,z,ff,z,ue,uo,ff,z,ff,z,uo,ue,ff,z,ff,z],164),ua,uc,ua,uc],(t [z,s 5 0 2 5,n 14]),[([uo,y0],3)]⟩])::T119
theorem g120:T120.OK Tryz.prog:=gb g119 g116
def T121:Memo:=(77,[⟨[y0,s 0 0 8 17],[([ue,uo,ff,ud,ff,z,uo,ue,tt,ui,ff,z,ue,uo,ff,ut,ff,z,uo,ue,tt,vb,ff,z,ue,vg,ff,xj,ff,z,vg,ue,tt,wb,ff,z,ue,vg,ff,v3,ff,z,vg,ue,tt,v8,ff,z],164),ua,uc,ua,uc,ua,uc,ua,uc],zv,[([tt,ww,ff,z,ff,z,ff,z,ff,z,ff,z,ff,z,ff,z],34),uc]⟩])::T120
theorem g121:T121.OK Tryz.prog:=gb g120 g116
def T122:Memo:=(77,[⟨[y0,s 0 0 8 17],[xo],(t [zh,z,ue]),[([ff,z,ff,z,ff,z,ff,z,ff,z,ff,z,ff,z,ff,z],34)]⟩])::T121
theorem g122:T122.OK Tryz.prog:=gb g121 g116
end Tab
end Go.Proofs.YtocnbjjmmgolfaaGreat
