/- Calls that were run once, more of them. -/
import Derived.Test.YtocnbjjmmgolfaaGreatA21
namespace Go.Proofs.YtocnbjjmmgolfaaGreat
open Go Go.M
namespace Tab
def T110:Memo:=(61,[⟨[xg,zh],x1,ue,[]⟩])::T109
theorem g110:T110.OK Tryz.prog:=g g109
def T111:Memo:=(61,[⟨[xg,yd],x2,ue,[]⟩])::T110
theorem g111:T111.OK Tryz.prog:=gb g110 g109
def T112:Memo:=(61,[⟨[xg,yd],x3,ue,[]⟩])::T111
theorem g112:T112.OK Tryz.prog:=gb g111 g109
def T113:Memo:=(61,[⟨[xg,xi],xd,ue,[]⟩])::T112
theorem g113:T113.OK Tryz.prog:=gb g112 g109
def T114:Memo:=(61,[⟨[xg,xi],xe,ue,[]⟩])::T113
theorem g114:T114.OK Tryz.prog:=gb g113 g109
end Tab
end Go.Proofs.YtocnbjjmmgolfaaGreat
