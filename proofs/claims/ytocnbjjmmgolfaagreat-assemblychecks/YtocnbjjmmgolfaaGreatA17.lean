/- Calls that were run once, more of them. -/
import Derived.Test.YtocnbjjmmgolfaaGreatA16
namespace Go.Proofs.YtocnbjjmmgolfaaGreat
open Go Go.M
namespace Tab
def T67:Memo:=(223,[⟨va,[v2,([ff,vb,ff,z,ff,xj,ff,z,ff,wb,ff,z,ff,z,ff,z,ff,v3,ff,z,ff,z,ff,z],38),ua,ua,ua,ua,ua,ug],z0,xy⟩])::T66
theorem g67:T67.OK Tryz.prog:=g g66
def T68:Memo:=(223,[⟨va,[v2,([ff,vb,ff,z,ff,z,ff,z,ff,xj,ff,z,ff,wb,ff,z,ff,v3,ff,z,ff,v8,ff,z],38),ua,ua,ug,ug,ua,ua,ua],z1,xy⟩])::T67
theorem g68:T68.OK Tryz.prog:=gb g67 g66
def T69:Memo:=(223,[⟨va,[vr,yq,ua,ua,ua,ua,ua,ua,ua,ug],(t [(a [ff,ww,ff,z,ff,z,ff,z]),tt]),[ua]⟩])::T68
theorem g69:T69.OK Tryz.prog:=gb g68 g66
def T70:Memo:=(223,[⟨va,[vr,([ff,wb,ff,z,ff,z,ff,z,ff,v3,ff,z,ff,v8,ff,z,ff,wv,ff,z,ff,ww,ff,z],38),ua,ua,ua,ua,ug,ug,ua,ua,ua],(t [(a [ff,xh,ff,z,ff,z,ff,z]),tt]),[ua]⟩])::T69
theorem g70:T70.OK Tryz.prog:=gb g69 g66
def T71:Memo:=(223,[⟨va,[v2,ym,ua,ua,ua,ug,ua,ua,ug,ua],z2,xy⟩])::T70
theorem g71:T71.OK Tryz.prog:=gb g70 g66
def T72:Memo:=(223,[⟨va,[v2,ym,ua,ua,ug,ua,ug,ug,ua,ug],z2,xy⟩])::T71
theorem g72:T72.OK Tryz.prog:=gb g71 g66
def T73:Memo:=(223,[⟨va,[vr,vu,ua,ua,ua,ua,ua,ug,ua,ua,ug,ua],z4,[ua]⟩])::T72
theorem g73:T73.OK Tryz.prog:=gb g72 g66
def T74:Memo:=(223,[⟨va,[vr,vu,ua,ua,ua,ua,ug,ua,ug,ug,ua,ug],z4,[ua]⟩])::T73
theorem g74:T74.OK Tryz.prog:=gb g73 g66
def T75:Memo:=(223,[⟨va,[v4,vu,ua,ua,ua,ug,ua,ug,ua,ua,ug,ua],z3,xy⟩])::T74
theorem g75:T75.OK Tryz.prog:=gb g74 g66
def T76:Memo:=(223,[⟨va,[v4,vu,ua,ua,ua,ug,ug,ua,ug,ug,ua,ug],z3,xy⟩])::T75
theorem g76:T76.OK Tryz.prog:=gb g75 g66
def T77:Memo:=(223,[⟨va,[wu,yn,ug,ug,ua,ua,ua,ua,ug,ua,ua,ug,ua],z5,[uc]⟩])::T76
theorem g77:T77.OK Tryz.prog:=gb g76 g66
def T78:Memo:=(223,[⟨va,[wu,yn,ug,ug,ua,ua,ua,ug,ua,ug,ug,ua,ug],z5,[uc]⟩])::T77
theorem g78:T78.OK Tryz.prog:=gb g77 g66
def T79:Memo:=(223,[⟨va,[v2,([ff,z,ff,z,ff,vb,ff,z,ff,z,ff,z,ff,xj,ff,z,ff,wb,ff,z,ff,v3,ff,z],38),ua,ua,ug,ua,ua,ua],z0,xy⟩])::T78
theorem g79:T79.OK Tryz.prog:=gb g78 g66
def T80:Memo:=(223,[⟨va,[v2,([ff,vb,ff,z,ff,xj,ff,z,ff,wb,ff,z,ff,v3,ff,z,ff,z,ff,z,ff,v8,ff,z],38),ua,ua,ua,ua,ua,ug,ug],z1,xy⟩])::T79
theorem g80:T80.OK Tryz.prog:=gb g79 g66
def T81:Memo:=(223,[⟨va,[vr,yr,ua,ua,ua,ua,ug,ua,ua,ua],(t [(a [ff,z,ff,z,ff,ww,ff,z]),tt]),[uc]⟩])::T80
theorem g81:T81.OK Tryz.prog:=gb g80 g66
def T82:Memo:=(223,[⟨va,[vr,yo,ua,ua,ua,ua,ua,ua,ua,ug,ug],z6,[uc]⟩])::T81
theorem g82:T82.OK Tryz.prog:=gb g81 g66
def T83:Memo:=(223,[⟨va,[v4,yr,ua,ua,ua,ug,ug,ua,ua,ua],(t [(a [tt,ww,ff,z,ff,z,ff,z]),tt]),[uc]⟩])::T82
theorem g83:T83.OK Tryz.prog:=gb g82 g66
def T84:Memo:=(223,[⟨va,[v4,yo,ua,ua,ua,ug,ua,ua,ua,ug,ug],(t [(a [tt,xh,ff,z,ff,z,ff,z]),tt]),[uc]⟩])::T83
theorem g84:T84.OK Tryz.prog:=gb g83 g66
def T85:Memo:=(223,[⟨va,[wu,([ff,z,ff,z,ff,v3,ff,z,ff,z,ff,z,ff,v8,ff,z,ff,wv,ff,z,ff,ww,ff,z],38),ug,ug,ua,ua,ua,ug,ua,ua,ua],z6,[uc]⟩])::T84
theorem g85:T85.OK Tryz.prog:=gb g84 g66
def T86:Memo:=(223,[⟨va,[wu,([ff,v3,ff,z,ff,v8,ff,z,ff,wv,ff,z,ff,ww,ff,z,ff,z,ff,z,ff,xh,ff,z],38),ug,ug,ua,ua,ua,ua,ua,ua,ug,ug],(t [(a [ff,z,ff,z,ff,xw,ff,z]),tt]),[uc]⟩])::T85
theorem g86:T86.OK Tryz.prog:=gb g85 g66
def T87:Memo:=(223,[⟨va,[wt,ys,ua,ug,ua,ua,ug,ua,ug,ua,ua,ua],(t [(a [tt,xw,ff,z,ff,z,ff,z]),tt]),[uc]⟩])::T86
theorem g87:T87.OK Tryz.prog:=gb g86 g66
def T88:Memo:=(223,[⟨va,[wt,yp,ua,ug,ua,ua,ug,ua,ua,ua,ua,ug,ug],(t [(a [tt,x7,ff,z,ff,z,ff,z]),tt]),[uc]⟩])::T87
theorem g88:T88.OK Tryz.prog:=gb g87 g66
def T89:Memo:=(223,[⟨va,[wt,ys,ug,ua,ug,ug,ua,ug,ug,ua,ua,ua],(t [(a [tt,xw,ff,z,tt,x7,ff,z]),tt]),w2⟩])::T88
theorem g89:T89.OK Tryz.prog:=gb g88 g66
def T90:Memo:=(223,[⟨va,[wt,yp,ug,ua,ug,ug,ua,ug,ua,ua,ua,ug,ug],(t [(a [tt,x7,ff,z,tt,Ua,ff,z]),tt]),w2⟩])::T89
theorem g90:T90.OK Tryz.prog:=gb g89 g66
def T91:Memo:=(223,[⟨va,[v4,yq,ua,ua,ua,ug,ua,ua,ua,ug],(t [u1,ff]),[]⟩])::T90
theorem g91:T91.OK Tryz.prog:=gb g90 g66
def T92:Memo:=(224,[⟨[Um],x4,(t [s 5 0 2 5,ue]),[([s 6 0 3 6,s 7 0 3 6],139),([ff,z,ff,z,ff,vb,ff,z,ff,z,ff,z,ff,z,ff,z,ff,ud,ff,z,ff,z,ff,z],38),([ff,ud,ff,z,ff,z,ff,z,ff,ui,ff,z,ff,ut,ff,z,ff,z,ff,z,ff,vb,ff,z],38)]⟩])::T91
theorem g92:T92.OK Tryz.prog:=g g91
end Tab
end Go.Proofs.YtocnbjjmmgolfaaGreat
