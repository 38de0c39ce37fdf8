/- Calls that were run once, more of them. -/
import Derived.Test.YtocnbjjmmgolfaaGreatA19
namespace Go.Proofs.YtocnbjjmmgolfaaGreat
open Go Go.M
namespace Tab
def T102:Memo:=(162,[⟨[we,(a [ff,v3,ff,z,ff,z,ff,z,ff,z,ff,z,ff,z,ff,z])],[uh,ur,us,uf,uy,uf,uc,uf],s 8 0 2 5,[([s 9 0 3 7,s 10 0 3 7],139),([ff,z,ff,z,ff,xh,ff,z,ff,z,ff,z,ff,z,ff,z,ff,xw,ff,z,ff,z,ff,z],38),([ff,x7,ff,z,ff,z,ff,z,ff,Ua,ff,z,ff,s 15 0 1 2,ff,z,ff,z,ff,z,ff,s 16 0 1 2,ff,z],38),ua,ua,ua,ua,ua,ua]⟩])::T101
theorem g102:T102.OK Tryz.prog:=g g101
def T103:Memo:=(162,[⟨[wf,zj],zk,s 9 0 2 5,wa⟩])::T102
theorem g103:T103.OK Tryz.prog:=gb g102 g101
def T104:Memo:=(162,[⟨[vn,(a [ff,v3,ff,z,ff,z,ff,z,ff,v8,ff,z,ff,wv,ff,z])],[uh,ur,us,uf,uy,uf,uc,u5,ua,ua],s 10 0 2 5,[([s 11 0 3 7,s 12 0 3 7],139),([ff,x7,ff,z,ff,Ua,ff,z,ff,s 15 0 1 2,ff,z,ff,s 16 0 1 2,ff,z,ff,s 17 0 1 2,ff,z,ff,s 18 0 1 2,ff,z],38),([ff,s 19 0 1 2,ff,z,ff,s 20 0 1 2,ff,z,ff,s 21 0 1 2,ff,z,ff,s 22 0 1 2,ff,z,ff,s 23 0 1 2,ff,z,ff,s 24 0 1 2,ff,z],38),ua,ug,ua,ua,ug,ua,ug,ua,ug,ug,ua,ug]⟩])::T103
theorem g104:T104.OK Tryz.prog:=gb g103 g101
def T105:Memo:=(162,[⟨[wg,(a [ff,v3,ff,z,ff,z,ff,z,ff,z,ff,z,ff,v8,ff,z])],zk,s 9 0 2 5,[([s 10 0 3 7,s 11 0 3 7],139),([ff,z,ff,z,ff,xw,ff,z,ff,z,ff,z,ff,x7,ff,z,ff,Ua,ff,z,ff,s 15 0 1 2,ff,z],38),([ff,s 16 0 1 2,ff,z,ff,s 17 0 1 2,ff,z,ff,s 18 0 1 2,ff,z,ff,s 19 0 1 2,ff,z,ff,z,ff,z,ff,s 20 0 1 2,ff,z],38),ug,ua,ua,ua,ua,ua,ua,ug,ug]⟩])::T104
theorem g105:T105.OK Tryz.prog:=gb g104 g101
def T106:Memo:=(162,[⟨[vn,zj],zk,s 9 0 2 5,wa⟩])::T105
theorem g106:T106.OK Tryz.prog:=gb g105 g101
end Tab
end Go.Proofs.YtocnbjjmmgolfaaGreat
