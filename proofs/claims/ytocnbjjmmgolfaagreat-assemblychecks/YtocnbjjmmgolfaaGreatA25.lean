/- Calls that were run once, more of them. -/
import Derived.Test.YtocnbjjmmgolfaaGreatA24
namespace Go.Proofs.YtocnbjjmmgolfaaGreat
open Go Go.M
namespace Tab
def T123:Memo:=(24,[⟨[xg,zh,zz],y8,ue,[]⟩])::T122
theorem g123:T123.OK Tryz.prog:=g g122
def T124:Memo:=(24,[⟨[xg,zh,s 2 0 3 9],y8,uo,[]⟩])::T123
theorem g124:T124.OK Tryz.prog:=gb g123 g122
end Tab
end Go.Proofs.YtocnbjjmmgolfaaGreat
