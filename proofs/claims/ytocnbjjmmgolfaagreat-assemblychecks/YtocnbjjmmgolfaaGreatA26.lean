/- Calls that were run once, more of them. -/
import Derived.Test.YtocnbjjmmgolfaaGreatA25
namespace Go.Proofs.YtocnbjjmmgolfaaGreat
open Go Go.M
namespace Tab
def T125:Memo:=(26,[⟨[xg,zh],x1,(t [s 34 0 4 9,z,ue]),[vi,uf,u5,ua,u5,ua,ua,u5,ua]⟩])::T124
theorem g125:T125.OK Tryz.prog:=g g124
def T126:Memo:=(26,[⟨[xg,yd],x2,Uv,[Ub]⟩])::T125
theorem g126:T126.OK Tryz.prog:=gb g125 g124
def T127:Memo:=(26,[⟨[xg,yd],x3,Uv,[Ub]⟩])::T126
theorem g127:T127.OK Tryz.prog:=gb g126 g124
def T128:Memo:=(26,[⟨[xg,xi],xd,(t [z,s 32 0 2 5,n 14]),[([ue,uo],3)]⟩])::T127
theorem g128:T128.OK Tryz.prog:=gb g127 g124
def TT:Memo:=(26,[⟨[xg,xi],xe,(t [z,z,n 13]),[]⟩])::T128
theorem gg:TT.OK Tryz.prog:=gb g128 g124
end Tab
end Go.Proofs.YtocnbjjmmgolfaaGreat
