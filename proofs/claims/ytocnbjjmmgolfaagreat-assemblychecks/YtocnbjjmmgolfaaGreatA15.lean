/- Calls that were run once, more of them. -/
import Derived.Test.YtocnbjjmmgolfaaGreatA14
namespace Go.Proofs.YtocnbjjmmgolfaaGreat
open Go Go.M
namespace Tab
def T36:Memo:=(63,[⟨[(a [ff,u9,ff,z,ff,z,ff,z])],[uf],tt,[]⟩,⟨[(a [ff,z,ff,z,tt,u9,ff,z])],[uf],tt,[]⟩,⟨[un],[uf],tt,[]⟩,⟨[un],[u5],tt,[]⟩])::T35
theorem g36:T36.OK Tryz.prog:=g g35
def T37:Memo:=(62,[⟨[(a [ff,ub,ff,z,ff,z,ff,z,ff,z,ff,z,ff,z,ff,z])],[uf],ff,[]⟩,⟨[(a [ff,ub,ff,z,ff,z,ff,z,ff,ud,ff,z,ff,z,ff,z])],[u5,ua],ff,[]⟩,⟨[(a [ff,ub,ff,z,ff,z,ff,z,ff,ud,ff,z,ff,ui,ff,z])],[u5,ua,ua],ff,[]⟩,⟨[(a [ff,ub,ff,z,ff,z,ff,z,ff,z,ff,z,ff,ud,ff,z])],[u5,ua],ff,[]⟩])::T36
theorem g37:T37.OK Tryz.prog:=g g36
def T38:Memo:=(65,[⟨[],[],un,[uf]⟩])::T37
theorem g38:T38.OK Tryz.prog:=g g37
def T39:Memo:=(139,[⟨[uj],[],uj,[]⟩,⟨[uk],[uc],ul,[]⟩,⟨[ul],[um],uk,[]⟩,⟨[uk],[ua],ul,[]⟩,⟨[ul],[uc],uk,[]⟩,⟨[uk],[ug],ul,[]⟩,⟨[ul],[ua],uk,[]⟩,⟨[uk],[uq],ul,[]⟩,⟨[ul],[u4],uk,[]⟩,⟨[uk],[uf],ul,[]⟩,⟨[ul],[uf],uk,[]⟩])::T38
theorem g39:T39.OK Tryz.prog:=g g38
def T40:Memo:=(125,[⟨yf,xu,vs,[u5]⟩,⟨yf,zx,vs,[u5]⟩,⟨z7,yh,vs,[ua]⟩,⟨[un,u1],[u5],u1,[]⟩,⟨yg,[uf,uc,uc],xt,xk⟩,⟨zy,[u5,uc],vo,[ua]⟩,⟨yg,[u5,uc,uc],xt,xk⟩,⟨z7,[u5,uc],vs,[ua]⟩,⟨zy,yh,vo,[ua]⟩,⟨[un,u1],[uf],u1,[]⟩])::T39
theorem g40:T40.OK Tryz.prog:=g g39
def T41:Memo:=(67,[⟨yf,xu,vs,[u5]⟩,⟨yf,zx,vs,[u5]⟩])::T40
theorem g41:T41.OK Tryz.prog:=g g40
def T42:Memo:=(79,[⟨yi,[uc],uz,[ua]⟩,⟨[uj,uj],[],uj,[]⟩,⟨yj,[uc],uv,[uc]⟩,⟨w0,w2,uj,[]⟩,⟨yi,[ua],uz,[ua]⟩,⟨yj,[ua],uv,[uc]⟩,⟨w0,xk,uj,[]⟩,⟨zr,[uc],uz,[ua]⟩,⟨[ul,ul],[uc],uj,[]⟩,⟨ws,w2,uj,[]⟩,⟨w0,yw,vl,[uc]⟩,⟨w0,zf,ve,[uc]⟩,⟨yb,[ux],uv,[ux]⟩,⟨yb,[um],uv,[um]⟩,⟨w0,zn,uj,[]⟩,⟨w0,[uq,ug],ve,[um]⟩,⟨w0,[u4,ug],ve,[ux]⟩,⟨ws,zo,vl,[um]⟩,⟨w0,[uq,uq],uj,[]⟩,⟨w0,[u4,uq],ve,[um]⟩,⟨w0,[ug,uq],vl,[um]⟩,⟨yj,[ug],uv,[um]⟩,⟨ws,zp,uj,[]⟩,⟨yj,[uq],uv,[ux]⟩,⟨ws,[ux,u4],ve,[um]⟩,⟨ws,[u4,u4],uj,[]⟩,⟨ws,Uf,vl,[um]⟩,⟨ws,ze,vl,[uc]⟩,⟨yb,[uc],uv,[uc]⟩])::T41
theorem g42:T42.OK Tryz.prog:=g g41
def T43:Memo:=(187,[⟨[up,wx],xu,tt,[]⟩,⟨[vf,vf],[],tt,[]⟩,⟨[up,wx],zx,tt,[]⟩,⟨[up,wx],xy,tt,[]⟩])::T42
theorem g43:T43.OK Tryz.prog:=g g42
def T44:Memo:=(109,[⟨x9,xu,tt,[]⟩,⟨[uj,uj],[],tt,[]⟩,⟨x9,zx,tt,[]⟩,⟨x9,xy,tt,[]⟩])::T43
theorem g44:T44.OK Tryz.prog:=g g43
def T45:Memo:=(127,[⟨[ue,ue],[],u1,[]⟩,⟨[vg,ue],[],un,[uc]⟩,⟨[vg,vg],[],u2,w2⟩,⟨[ue,vg],[],u3,[uc]⟩,⟨[uo,ue],[],un,[uf]⟩,⟨[ue,uo],[],u3,[uf]⟩,⟨[vh,ue],[],v1,[uf]⟩,⟨[ue,vh],[],vk,[uf]⟩])::T44
theorem g45:T45.OK Tryz.prog:=g g44
def T46:Memo:=(239,[⟨[vf],[],ue,[]⟩,⟨[wd],[uf],uo,[]⟩,⟨[wd],[uy],uo,[]⟩,⟨[up],[um],uo,[]⟩,⟨[up],[w3],uo,[]⟩,⟨[up],[ug],uo,[]⟩,⟨[up],[ua],uo,[]⟩,⟨[u0],[uc],vh,[]⟩,⟨[u0],[um],vh,[]⟩,⟨[u0],[ux],vh,[]⟩,⟨[up],[uc],uo,[]⟩,⟨[u0],[ua],vh,[]⟩,⟨[up],[uq],uo,[]⟩,⟨[up],[u4],uo,[]⟩,⟨[up],[wn],uo,[]⟩,⟨[up],[ux],uo,[]⟩,⟨[u0],[uq],vh,[]⟩,⟨[u0],[wn],vh,[]⟩,⟨[u0],[u4],vh,[]⟩,⟨[u0],[ug],vh,[]⟩,⟨[u0],[wh],vh,[]⟩,⟨[u0],[vt],vh,[]⟩,⟨[u0],[wo],vh,[]⟩,⟨[u0],[wc],vh,[]⟩,⟨[u0],[uf],vh,[]⟩,⟨[up],[uf],uo,[]⟩])::T45
theorem g46:T46.OK Tryz.prog:=g g45
def T47:Memo:=(193,[⟨[uj],[],ue,[]⟩,⟨[w1],[uf],uo,[]⟩,⟨[w1],[uy],uo,[]⟩,⟨[yy],yh,uo,[]⟩,⟨[uk],[um],uo,[]⟩,⟨[uk],[w3],uo,[]⟩,⟨[uk],[ug],uo,[]⟩,⟨[uk],[ua],uo,[]⟩,⟨[ul],[uc],vh,[]⟩,⟨[ul],[um],vh,[]⟩,⟨[ul],[ux],vh,[]⟩,⟨[uk],[uc],uo,[]⟩,⟨[ul],[ua],vh,[]⟩,⟨[uk],[uq],uo,[]⟩,⟨[uk],[u4],uo,[]⟩,⟨[uk],[wn],uo,[]⟩,⟨[uk],[ux],uo,[]⟩,⟨[ul],[uq],vh,[]⟩,⟨[ul],[wn],vh,[]⟩,⟨[ul],[u4],vh,[]⟩,⟨[ul],[ug],vh,[]⟩,⟨[ul],[wh],vh,[]⟩,⟨[ul],[vt],vh,[]⟩,⟨[ul],[wo],vh,[]⟩,⟨[ul],[wc],vh,[]⟩,⟨[ul],[uf],vh,[]⟩,⟨[uk],[uf],uo,[]⟩])::T46
theorem g47:T47.OK Tryz.prog:=g g46
def T48:Memo:=(221,[⟨Uh,[uf],vh,[]⟩,⟨v9,[uf,ux],vh,[]⟩,⟨v9,xu,ue,[]⟩,⟨v9,[uf,w3],vh,[]⟩,⟨Ug,[uf],uo,[]⟩,⟨zw,[uf],vh,[]⟩,⟨[vf,vf],[],ue,[]⟩,⟨xv,w2,ue,[]⟩,⟨xv,zp,ue,[]⟩,⟨xv,zo,vh,[]⟩,⟨y1,xu,uo,[]⟩,⟨[vf,u0],[uf],uo,[]⟩,⟨v9,[um,ux],vh,[]⟩,⟨v9,zo,uo,[]⟩,⟨v9,zp,ue,[]⟩,⟨xl,xu,vh,[]⟩,⟨xv,[ux,ux],ue,[]⟩,⟨xv,[um,ux],uo,[]⟩,⟨v9,[wy,ux],uo,[]⟩,⟨v9,[ux,ux],ue,[]⟩,⟨v9,[ux,wy],vh,[]⟩,⟨v9,[yl,wy],uo,[]⟩,⟨v9,[wy,wy],ue,[]⟩,⟨xv,[yl,wy],vh,[]⟩,⟨xv,[wy,wy],ue,[]⟩,⟨xv,[wy,ux],vh,[]⟩,⟨xv,[ux,wy],uo,[]⟩,⟨xv,ze,vh,[]⟩,⟨xv,[uc,um],uo,[]⟩,⟨xv,[vt,um],vh,[]⟩,⟨xv,[vt,vt],ue,[]⟩,⟨xv,[um,vt],uo,[]⟩,⟨xv,[ux,vt],vh,[]⟩,⟨v9,w2,ue,[]⟩,⟨xv,[vt,ux],uo,[]⟩,⟨xv,[wc,ux],vh,[]⟩,⟨xv,[wc,wc],ue,[]⟩,⟨v9,ze,uo,[]⟩])::T47
theorem g48:T48.OK Tryz.prog:=g g47
def T49:Memo:=(159,[⟨yj,[um],vh,[]⟩,⟨[yy,ve],[uf,uc,um],vh,[]⟩,⟨[w1,w1],[uf],ue,[]⟩,⟨[w1,uz],[uf,w3],vh,[]⟩,⟨yi,[ua],uo,[]⟩,⟨yb,[uc],vh,[]⟩,⟨[uj,uj],[],ue,[]⟩,⟨ws,w2,ue,[]⟩,⟨ws,zp,ue,[]⟩,⟨ws,zo,vh,[]⟩,⟨yb,[um],vh,[]⟩,⟨[uk,ul],[uc],uo,[]⟩,⟨yb,[ux],vh,[]⟩,⟨zr,[um],uo,[]⟩,⟨[uk,ul],[ua],uo,[]⟩,⟨w0,[ug,uq],vh,[]⟩,⟨w0,[uq,ug],uo,[]⟩,⟨yj,[ug],vh,[]⟩,⟨w0,zn,ue,[]⟩,⟨[ul,uk],[ua],vh,[]⟩,⟨[ul,uk],[uc],vh,[]⟩,⟨ws,[ux,ux],ue,[]⟩,⟨ws,[um,ux],uo,[]⟩,⟨w0,[u4,uq],uo,[]⟩,⟨w0,[uq,uq],ue,[]⟩,⟨yi,[um],uo,[]⟩,⟨w0,[uq,u4],vh,[]⟩,⟨w0,[wn,u4],uo,[]⟩,⟨w0,[u4,u4],ue,[]⟩,⟨yi,[ux],uo,[]⟩,⟨yi,[ug],uo,[]⟩,⟨ws,[uq,ux],ue,[]⟩,⟨ws,[wn,u4],vh,[]⟩,⟨ws,[u4,u4],ue,[]⟩,⟨ws,[u4,uq],vh,[]⟩,⟨ws,[ux,u4],uo,[]⟩,⟨zr,[uc],uo,[]⟩,⟨ws,[ug,uc],vh,[]⟩,⟨ws,zn,ue,[]⟩,⟨ws,zq,uo,[]⟩,⟨ws,ze,vh,[]⟩,⟨ws,[um,ug],ue,[]⟩,⟨ws,[uc,um],uo,[]⟩,⟨ws,[wh,ug],vh,[]⟩,⟨ws,[wh,wh],ue,[]⟩,⟨ws,[um,wh],uo,[]⟩,⟨ws,[vt,um],vh,[]⟩,⟨ws,[vt,wh],ue,[]⟩,⟨ws,[vt,vt],ue,[]⟩,⟨ws,[uq,wh],vh,[]⟩,⟨ws,[uq,uq],ue,[]⟩,⟨w0,xk,ue,[]⟩,⟨y2,xy,uo,[]⟩,⟨yc,ya,vh,[]⟩,⟨yb,[ug],vh,[]⟩,⟨zr,[ug],uo,[]⟩,⟨ws,[um,vt],uo,[]⟩,⟨ws,[ux,vt],vh,[]⟩,⟨ws,[ux,uq],ue,[]⟩,⟨ws,[vt,ux],uo,[]⟩,⟨ws,[wo,uq],vh,[]⟩,⟨ws,[wo,wo],ue,[]⟩,⟨ws,[wc,ux],vh,[]⟩,⟨ws,[wc,wo],ue,[]⟩,⟨ws,[wc,wc],ue,[]⟩,⟨yj,[ua],vh,[]⟩,⟨ws,[um,uq],uo,[]⟩,⟨w0,zf,uo,[]⟩,⟨[ul,uk],[uf],vh,[]⟩,⟨[uk,ul],[uf],uo,[]⟩])::T48
theorem g49:T49.OK Tryz.prog:=g g48
def T50:Memo:=(238,[⟨[ue,(n (-65536)),n 65536],[],tt,[]⟩,⟨[vg,(n (-65536)),n 65536],[],tt,[]⟩,⟨[ue,ue,n 1024],[],tt,[]⟩,⟨[ue,ue,n 999],[],tt,[]⟩,⟨[ue,ue,y0],[],tt,[]⟩,⟨[uo,ue,n 999],[],tt,[]⟩,⟨[vg,ue,n 999],[],tt,[]⟩,⟨[vm,ue,n 999],[],tt,[]⟩])::T49
theorem g50:T50.OK Tryz.prog:=g g49
def T51:Memo:=(240,[⟨[ue,Uo,Up],u7,u1,[]⟩])::T50
theorem g51:T51.OK Tryz.prog:=g g50
def T52:Memo:=(240,[⟨[uo,Uo,Up],u7,xm,[]⟩])::T51
theorem g52:T52.OK Tryz.prog:=gb g51 g50
def T53:Memo:=(240,[⟨[vg,Uo,Up],u7,Uq,[]⟩])::T52
theorem g53:T53.OK Tryz.prog:=gb g52 g50
def T54:Memo:=(240,[⟨[vm,Uo,Up],u7,(a [ff,z,ff,z,ff,wb,ff,z]),[]⟩])::T53
theorem g54:T54.OK Tryz.prog:=gb g53 g50
def T55:Memo:=(240,[⟨[y0,Uo,Up],u7,u1,[]⟩])::T54
theorem g55:T55.OK Tryz.prog:=gb g54 g50
def T56:Memo:=(240,[⟨[n 5,Uo,Up],u7,xm,[]⟩])::T55
theorem g56:T56.OK Tryz.prog:=gb g55 g50
def T57:Memo:=(126,[⟨[un,u1],[uc],u6,[ua]⟩,⟨[u2,u1],w2,vc,xk⟩,⟨[u3,u1],[uc],vd,[ua]⟩,⟨z8,x0,(a [tt,ut,ff,z,ff,z,ff,z]),[uc]⟩,⟨[u1,u2],w2,(a [tt,ui,ff,z,tt,ut,ff,z]),w2⟩,⟨yg,x0,y9,[uc]⟩,⟨[u2,vs],x0,xn,[ua]⟩,⟨[u3,u6],w2,Ur,ya⟩,⟨[u1,un],[uc],za,[uc]⟩,⟨[u1,u3],[uc],zb,[uc]⟩,⟨zy,w2,Us,xy⟩,⟨Ul,x0,xm,[ua]⟩,⟨[un,u1],[ua],u6,[ua]⟩,⟨Ul,yk,xm,[ua]⟩,⟨[u2,vs],yk,xn,[ua]⟩,⟨[u3,u1],[ua],vd,[ua]⟩,⟨z8,yk,(a [tt,ut,ff,z,ff,z,ff,z]),[uc]⟩,⟨[u1,un],[ua],za,[uc]⟩,⟨[u1,u3],[ua],zb,[uc]⟩,⟨[u3,u6],xk,Ur,ya⟩,⟨z7,yw,(a [tt,ui,ff,z,ff,z,ff,z]),[uc]⟩,⟨yg,[ug,ua,ua],Ut,w2⟩,⟨yg,[ug,ug,ua],y9,[uc]⟩,⟨yx,[ug,ua,ua,ua],(a [ff,vb,ff,z,ff,z,ff,z]),[uc]⟩,⟨[u2,vs],[ua,ua,ug],Uu,ya⟩,⟨zy,xk,Us,xy⟩,⟨yx,[ua,ug,ua,ua],(a [ff,z,ff,z,ff,vb,ff,z]),[uc]⟩,⟨yx,[ua,ua,ug,ua],(a [tt,vb,ff,z,ff,z,ff,z]),[uc]⟩,⟨yx,[ug,ua,ua,ug],(a [ff,vb,ff,z,tt,xj,ff,z]),w2⟩,⟨yx,[ug,ua,ug,ug],(a [ff,z,ff,z,tt,vb,ff,z]),[uc]⟩,⟨yx,[ug,ug,ua,ug],(a [ff,vb,ff,z,ff,z,ff,z]),[uc]⟩,⟨yx,[ua,ug,ug,ua],(a [tt,vb,ff,z,ff,xj,ff,z]),w2⟩,⟨yg,yk,y9,[uc]⟩,⟨z7,zf,vs,[uc]⟩,⟨[u2,vs],[ug,ua,ug],xn,[ua]⟩,⟨[u3,vd],zf,vo,[uc]⟩,⟨Ul,[ua,ua,ug],Ut,xy⟩,⟨yx,[ua,ua,ua,ug],(a [ff,z,ff,z,tt,vb,ff,z]),[uc]⟩,⟨Ul,[ua,ug,ug],xm,[ua]⟩,⟨z8,[ug,ua,ua],Uu,w2⟩,⟨yx,[ug,ug,ug,ua],(a [ff,z,ff,z,ff,vb,ff,z]),[uc]⟩,⟨yx,[ua,ug,ug,ug],(a [tt,vb,ff,z,ff,z,ff,z]),[uc]⟩])::T56
theorem g57:T57.OK Tryz.prog:=g g56
def T58:Memo:=(259,[⟨yg,yk,v0,[ug]⟩,⟨zy,xk,ve,[ug]⟩,⟨[v1,(a [tt,ud,ff,z,tt,ui,ff,z])],x0,v0,[ug]⟩,⟨[v1,zb],w2,ve,[ug]⟩,⟨[u3,(a [tt,ud,ff,z,ff,ui,ff,z])],[ua,uc,ua],v0,[ug]⟩,⟨[u3,za],xy,ve,[ug]⟩,⟨[vk,(a [ff,ud,ff,z,tt,ui,ff,z])],[uc,ua,uc],v0,[ug]⟩,⟨[vk,u6],ya,ve,[ug]⟩,⟨[u1,un],[uc],uj,[]⟩,⟨yg,x0,v0,[ug]⟩,⟨Ul,x0,v0,[ug]⟩,⟨[u3,u1],[uc],uj,[]⟩,⟨[(a [tt,ub,ff,z,ff,ud,ff,z]),vo],[uc,ua,ua],wi,[um]⟩])::T57
theorem g58:T58.OK Tryz.prog:=g g57
def T59:Memo:=(241,[⟨[u1,un,uu],x0,uo,[]⟩,⟨[u1,un,vd],w2,uo,[]⟩,⟨[u2,vo,u1],x0,uo,[]⟩,⟨[u2,vo,xm],yz,uo,[]⟩,⟨[un,uu,xn],yz,uo,[]⟩,⟨[un,uu,u1],x0,uo,[]⟩,⟨[u3,u1,u6],w2,uo,[]⟩,⟨[u3,u1,uu],x0,uo,[]⟩,⟨[un,vd,vc],yz,vh,[]⟩])::T58
theorem g59:T59.OK Tryz.prog:=g g58
def T60:Memo:=(257,[⟨[v1,vd],ya,uj,[]⟩,⟨[v1,u1],[uc],uj,[]⟩,⟨[v1,u6],ya,vl,[um]⟩,⟨[v1,uu],[uc,ua,ua],wi,[um]⟩,⟨[v1,u6],zq,vl,[ux]⟩,⟨[vk,vd],xk,vl,[um]⟩,⟨[vk,u1],[ua],uj,[]⟩,⟨[vk,u6],xk,uj,[]⟩,⟨z9,yk,wi,[um]⟩,⟨[vk,u6],yw,uj,[]⟩,⟨Ul,[ua,uc,ua],v0,[ug]⟩,⟨[u2,u1],xy,uj,[]⟩,⟨[u2,vs],[ua,uc,ua],v0,[ug]⟩,⟨yx,[ua,uc,ua,ua],zs,[uq]⟩,⟨[u2,vs],[ua,uc,ug],v0,[uq]⟩,⟨[v1,uu],[uc,ug,ua],wi,[ux]⟩,⟨z9,[ua,ug,ua],wi,[um]⟩,⟨yx,[ua,uc,ug,ua],zs,[u4]⟩,⟨z7,xk,ve,[ug]⟩,⟨yg,yk,v0,[ug]⟩,⟨zy,xk,uj,[]⟩,⟨z7,yw,ve,[uq]⟩,⟨yg,[ua,ug,ua],v0,[uq]⟩,⟨[v1,uu],[uc,ua,ug],wi,[um]⟩,⟨z9,[ua,ua,ug],wi,[ux]⟩,⟨yx,[ua,uc,ua,ug],zs,[u4]⟩,⟨[v1,uu],[uc,ug,ug],wi,[ux]⟩,⟨z9,[ua,ug,ug],wi,[ux]⟩,⟨yx,[ua,uc,ug,ug],zs,[wn]⟩,⟨yg,[ua,ua,ug],v0,[ug]⟩,⟨yg,[ua,ug,ug],v0,[uq]⟩,⟨z9,[uc,ua,ua],wi,[um]⟩,⟨[vk,u6],ya,uj,[]⟩,⟨[vk,u6],zq,uj,[]⟩,⟨z9,[uc,ua,ug],wi,[ux]⟩,⟨z9,[uc,ug,ua],wi,[um]⟩,⟨z9,[uc,ug,ug],wi,[ux]⟩,⟨[u3,u6],zq,uj,[]⟩,⟨z8,[uc,ug,ua],v0,[ug]⟩,⟨z8,[uc,ua,ua],v0,[ug]⟩,⟨z8,[uc,ua,ug],v0,[uq]⟩,⟨z8,[uc,ug,ug],v0,[uq]⟩,⟨[v1,vd],zq,uj,[]⟩,⟨[vk,vd],yw,vl,[ux]⟩,⟨Ul,[ua,uc,ug],v0,[uq]⟩,⟨zy,yw,uj,[]⟩,⟨[u3,u6],ya,uj,[]⟩,⟨[u3,vd],ya,ve,[ug]⟩,⟨[u3,vd],zq,ve,[uq]⟩,⟨yg,[uc,ug,ua],v0,[uq]⟩,⟨yg,[uc,ug,ug],v0,[uq]⟩,⟨yg,[uc,ua,ug],v0,[ug]⟩,⟨zy,zq,uj,[]⟩,⟨zy,ya,uj,[]⟩,⟨yg,[uc,ua,ua],v0,[ug]⟩,⟨[xf,vc],[uc,uc,ug,ua],zt,[u4]⟩,⟨[xf,vc],[uc,uc,ug,ug],zt,[wn]⟩,⟨[xf,vc],[uc,uc,ua,ug],zt,[u4]⟩,⟨[xf,vo],[uc,uc,ug],wi,[ux]⟩,⟨[xf,vo],[uc,uc,ua],wi,[um]⟩,⟨[xf,vc],[uc,uc,ua,ua],zt,[uq]⟩,⟨[xf,vs],[uc,uc,ua],wi,[um]⟩,⟨[xf,vs],[uc,uc,ug],wi,[ux]⟩,⟨yg,[uf,ua,ua],v0,[ua]⟩,⟨z7,Uj,ve,[ua]⟩,⟨z7,Uk,ve,[ug]⟩,⟨z8,[uf,ua,ua],v0,[ua]⟩,⟨[u3,u6],Uj,uj,[]⟩,⟨[u3,u6],Uk,uj,[]⟩,⟨[v1,uu],[uf,ua,ua],wi,[uc]⟩,⟨[v1,u6],Uj,vl,[uc]⟩,⟨[v1,u6],Uk,vl,[um]⟩,⟨z9,[uf,ua,ua],wi,[uc]⟩,⟨[vk,u6],Uj,uj,[]⟩,⟨[vk,u6],Uk,uj,[]⟩])::T59
theorem g60:T60.OK Tryz.prog:=g g59
def T61:Memo:=(267,[⟨[u1,un,uu],x0,ff,[]⟩,⟨[u1,un,vd],w2,ff,[]⟩,⟨[u2,vo,u1],x0,ff,[]⟩,⟨[u2,vo,xm],yz,ff,[]⟩,⟨[un,uu,xn],yz,ff,[]⟩,⟨[un,uu,u1],x0,ff,[]⟩,⟨[u3,u1,u6],w2,ff,[]⟩,⟨[u3,u1,uu],x0,ff,[]⟩])::T60
theorem g61:T61.OK Tryz.prog:=g g60
def T62:Memo:=(242,[⟨[u1,un,uu,xn],yz,ff,[]⟩,⟨[un,uu,xn,u1],yz,ff,[]⟩])::T61
theorem g62:T62.OK Tryz.prog:=g g61
def T63:Memo:=(194,[⟨[Um],x4,tt,[]⟩])::T62
theorem g63:T63.OK Tryz.prog:=g g62
end Tab
end Go.Proofs.YtocnbjjmmgolfaaGreat
