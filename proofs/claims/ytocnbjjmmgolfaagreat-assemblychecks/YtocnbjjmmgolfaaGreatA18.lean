/- Calls that were run once, more of them. -/
import Derived.Test.YtocnbjjmmgolfaaGreatA17
namespace Go.Proofs.YtocnbjjmmgolfaaGreat
open Go Go.M
namespace Tab
def T93:Memo:=(11,[⟨[y0,xg],[([ue,uo,uo,vm,uo,ff,vq,ff,z,ff,z,ff,z,ff,z,ff,z,ff,z,ff,z,ff,z,ff,z,ff,z,ff,z,uo,vg,vg,ue,uo,ff,wz,ff,z,ff,z,ff,z,ff,z,ff,z,ff,z,ff,z,ff,z,ff,z,ff,z,ff,z,vg,vm,vm,uo,uo,ff,Ue,ff,z,ff,z,ff,z,ff,z,ff,z,ff,z,ff,z,ff,z,ff,z,ff,z,ff,z,ue,vm,vg,ue,uo,ff,s 4 0 1 3,ff,z,ff,z,ff,z,ff,z,ff,z,ff,z,ff,z,ff,z,ff,z,ff,z,ff,z],40),uf,uf,uf,uf],(t [s 5 0 4 9,z,ue]),x5⟩])::T92
theorem g93:T93.OK Tryz.prog:=g g92
def T94:Memo:=(11,[⟨[y0,Um],[([ue,uo,uo,vm,uo,ff,vq,ff,z,ff,z,ff,z,ff,z,ff,z,ff,z,ff,z,ff,z,ff,z,ff,z,ff,z,uo,vg,vg,ue,uo,ff,wz,ff,z,ff,z,ff,z,ff,z,ff,z,ff,z,ff,z,ff,z,ff,z,ff,z,ff,z,vg,vm,vm,uo,uo,ff,Ue,ff,z,ff,z,ff,z,ff,z,ff,z,ff,z,ff,z,ff,z,ff,z,ff,z,ff,z,ue,vm,uo,ue,uo,ff,z,ff,z,tt,s 4 0 1 3,ff,z,ff,z,ff,z,ff,z,ff,z,ff,z,ff,z,ff,z,ff,z],40),uf,uf,uf,uf],(t [z,s 5 0 4 9,n 14]),[Ub]⟩])::T93
theorem g94:T94.OK Tryz.prog:=gb g93 g92
def T95:Memo:=(11,[⟨[y0,Um],[([ue,uo,uo,vm,uo,ff,vq,ff,z,ff,z,ff,z,ff,z,ff,z,ff,z,ff,z,ff,z,ff,z,ff,z,ff,z,uo,vg,vg,ue,uo,ff,wz,ff,z,ff,z,ff,z,ff,z,ff,z,ff,z,ff,z,ff,z,ff,z,ff,z,ff,z,vg,vm,vm,uo,uo,ff,Ue,ff,z,ff,z,ff,z,ff,z,ff,z,ff,z,ff,z,ff,z,ff,z,ff,z,ff,z,ue,vm,ue,vg,uo,ff,s 4 0 1 3,ff,z,ff,z,ff,z,ff,z,ff,z,ff,z,ff,z,ff,z,ff,z,ff,z,ff,z],40),uf,uf,uf,uf],(t [s 5 0 4 9,z,ue]),x5⟩])::T94
theorem g95:T95.OK Tryz.prog:=gb g94 g92
def T96:Memo:=(11,[⟨[y0,xx],[([ue,uo,uo,vm,uo,ff,vq,ff,z,ff,z,ff,z,ff,z,ff,z,ff,z,ff,z,ff,z,ff,z,ff,z,ff,z,ue,uo,vg,ue,uo,ff,wz,ff,z,ff,z,ff,z,ff,z,ff,z,ff,z,ff,z,ff,z,ff,z,ff,z,ff,z],40),uf,uf],(t [yv,z,ue]),[x8,uf,u5,uf,uf]⟩])::T95
theorem g96:T96.OK Tryz.prog:=gb g95 g92
def T97:Memo:=(11,[⟨[y0,xx],[([ue,uo,uo,vm,uo,ff,vq,ff,z,ff,z,ff,z,ff,z,ff,z,ff,z,ff,z,ff,z,ff,z,ff,z,ff,z,ue,vg,uo,vm,uo,ff,wz,ff,z,ff,z,ff,z,ff,z,ff,z,ff,z,ff,z,ff,z,ff,z,ff,z,ff,z],40),uf,uf],(t [yv,z,ue]),[x8,uf,u5,u5,uf]⟩])::T96
theorem g97:T97.OK Tryz.prog:=gb g96 g92
end Tab
end Go.Proofs.YtocnbjjmmgolfaaGreat
