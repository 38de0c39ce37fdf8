/- Calls that were run once, more of them. -/
import Derived.Test.YtocnbjjmmgolfaaGreatA15
namespace Go.Proofs.YtocnbjjmmgolfaaGreat
open Go Go.M
namespace Tab
def T64:Memo:=(117,[⟨[we],xp,ue,[]⟩,⟨[wf],xp,ue,[]⟩,⟨[vn],xp,ue,[]⟩,⟨[wg],xp,ue,[]⟩])::T63
theorem g64:T64.OK Tryz.prog:=g g63
def T65:Memo:=(116,[⟨[we],xp,ff,[]⟩,⟨[wf],xp,ff,[]⟩,⟨[vn],xp,ff,[]⟩,⟨[wg],xp,ff,[]⟩])::T64
theorem g65:T65.OK Tryz.prog:=g g64
def T66:Memo:=(158,[⟨[u3,u1],[ua],vd,[ua]⟩,⟨[u1,u1],[],u1,[]⟩,⟨[un,u1],[ua],u6,[ua]⟩,⟨[u2,u1],xk,vc,xk⟩,⟨[u3,u6],xk,vc,xk⟩,⟨[u1,un],[ua],u6,[ua]⟩,⟨z7,xk,vs,[ug]⟩,⟨[u2,vs],yk,xt,zf⟩,⟨z8,yk,xt,yw⟩,⟨[u1,u2],xk,vc,xk⟩,⟨yg,yk,xt,zf⟩,⟨yx,[ua,ua,ua,ua],Uq,zn⟩,⟨[u3,vd],xk,vo,[ug]⟩,⟨[u1,u3],[ua],vd,[ua]⟩,⟨zy,xk,vc,xk⟩,⟨Ul,yk,xt,yw⟩])::T65
theorem g66:T66.OK Tryz.prog:=g g65
end Tab
end Go.Proofs.YtocnbjjmmgolfaaGreat
