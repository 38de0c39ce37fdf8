/- Calls that were run once, more of them. -/
import Derived.Test.YtocnbjjmmgolfaaGreatA20
namespace Go.Proofs.YtocnbjjmmgolfaaGreat
open Go Go.M
namespace Tab
def T107:Memo:=(131,[⟨[xg,yd,n 15],xz,z,[]⟩])::T106
theorem g107:T107.OK Tryz.prog:=g g106
def T108:Memo:=(131,[⟨[xg,yd,ue],xz,z,[]⟩])::T107
theorem g108:T108.OK Tryz.prog:=gb g107 g106
def T109:Memo:=(131,[⟨[xg,yd,n 7],[(xc,72),([ff,s 30 0 1 2,ff,z,ff,z,ff,z,ff,z,ff,z,ff,z,ff,z,ff,s 31 0 1 2,ff,z,ff,z,ff,z,ff,s 32 0 1 2,ff,z,ff,z,ff,z,ff,s 33 0 1 2,ff,z,ff,z,ff,z,ff,s 34 0 1 2,ff,z,ff,z,ff,z,ff,s 35 0 1 2,ff,z,ff,z,ff,z,ff,z,ff,z,ff,z,ff,z],54),uh,ur,us,uf,uy,uf,uc,uh,ur,us,uf,uy,uf,uc,uh,ur,us,uf,uy,uf,uc,uh,ur,us,uf,uy,uf,uc,uf,u5,ua,u5,ua,uf],s 36 0 1 3,[([uo,vg],185)]⟩])::T108
theorem g109:T109.OK Tryz.prog:=gb g108 g106
end Tab
end Go.Proofs.YtocnbjjmmgolfaaGreat
