/- The program: a tree fit into the forest (printed by mkTe.py out of an older text). -/
import Derived.Test.YtocnbjjmmgolfaaGreatA27
import Derived.Test.YtocnbjjmmgolfaaGreatA25
set_option linter.unusedSimpArgs false
set_option linter.unusedVariables false
set_option linter.unusedSectionVars false
namespace Go.Proofs.YtocnbjjmmgolfaaGreat
open Go Go.M Go.Proofs.C14
theorem fb46:vG Tryz.f46 (Tryz.f46.body.getD .skip) 2=true:=by kernel_rfl
section
variable{P:Program}{I:zU}{F:FF}{s:St}{Q:FF→St→Prop}{W:List Nat}{s0:St}{L:Hp'}{n:Nat}
theorem YU{D:Hp'}{fr:List Nat}{ops:List Oper}{ix anc:Nat}{free:List Nat}{rest:List Drawn}{d:Option Tmp}{ty:TypeId}{pos:String}{af:Array Edge}{g:Option (Nat×Bool)}{ag:Array Operand}{ts:Array TypeId}{t t2 e e2:TypeId}{tr:List TypeId}{x y:Operand}{v:Value}{sz by_ m len:Nat}{z l c:List Value}
 (i:zF ops ix=some ⟨d,.call ⟨.builtin .append,ag,ts⟩,ty,pos,af,g⟩) (E:yi ops F ⟨d,.call ⟨.builtin .append,ag,ts⟩,ty,pos,af,g⟩=true) (f:yf ops F free=fr)
 (H:HL W s0 s (D++L) n) (j:∀q∈D,q.1∉fr) (w:∀p∈fr,p<s.next) (ho:Own e sz D v c len) (hs:ql P t=some (e,sz,by_,z)) (o:P.underlying t2=some (.slice e2))
 (C:ts.toList=t::t2::tr) (ha:ag.toList=[x,y]) (hx:zd F x=v) (he:kS s sz (zd F y) m l) (B:0<m) (hp:l.all Go.M.plainCell=true) (hl:l.length=m*sz) (hb:(len+m)*(by_+1)≤1073741824) (hr:s0.next+n<zw)
 (k:∀b s',HL W s0 s' ((b,.cells (c++l) e)::L) (n+1)→yZ P I ops rest (upd F d (.slice (some ⟨b,0,none⟩) (len+m) (2*(len+m)+1))) s' Q):yZ P I ops (⟨ix,anc,.whole,free⟩::rest) F s Q:=by
 refine yr i E ?_
 rw[f]
 have u:=HL.narrow H j w
 rw[←bM D]at u
 refine j4 (L:=[]) u ho hs o C ha hx he B hp hl hb (by have:=H.most;show s.next+0<zw;omega) (fun b s' r _=>?_)
 refine k b _ (HL.callW (A:=D) (L:=L) H (HL.wider H.fine (aO _) (fun _ h=>bE _ h) (by rw[bM]at r;exact r)) (fun b hb=>?_) (fun p hp=>dS hp))
 obtain⟨p,hp,rfl⟩:=List.mem_map.mp hb
 exact⟨p.2,hp⟩
end
abbrev E0:Hp'×Value:=([],.slice none 0 0)
def wc(vl:Value)(es:List (Hp'×Value)):List Value:=vl::es.map Prod.snd
def xC(es:List (Hp'×Value)):Hp':=(es.map Prod.fst).flatten
structure FrO(es:List (Hp'×Value))(r:Nat→List Int):Prop where
 len:es.length=12
 own:∀v,v<12→Own tI 1 (es.getD v E0).1 (es.getD v E0).2 (xm (r v)) (r v).length
theorem vZ:∀{es:List (Hp'×Value)} {a:Nat} (_:a<es.length) (x:Hp'×Value),(xC (es.set a x)).Perm (x.1++xC (es.set a E0))
 | [],_,h,_=>by simp at h
 |e::es,0,_,x=>by simp[xC]
 |e::es,a+1,h,x=>by
  have:=vZ (es:=es) (a:=a) (by simpa using h) x
  simp only[xC,List.set_cons_succ,List.map_cons,cU]
  exact(this.append_left e.1).trans (dH _ _ _)
theorem WB{es:List (Hp'×Value)}{a:Nat}(h:a<es.length):es.set a (es.getD a E0)=es:=by
 rw[aC,aE h];simp
section
variable{W:List Nat}{s0 s:St}{n:Nat}{p0 p1:Nat×MObj}{R:Hp'}{es:List (Hp'×Value)}{a:Nat}
theorem zav(H:HL W s0 s (p0::p1::(xC es++R)) n)(h:a<es.length):HL W s0 s ((es.getD a E0).1++(p0::p1::(xC (es.set a E0)++R))) n:=by
 refine H.perm ?_
 have h1:=vZ h (es.getD a E0)
 rw[WB h]at h1
 refine((h1.append_right R).append_left [p0,p1]).trans ?_
 rw[bD]
 exact dH [p0,p1] _ _
theorem fjoin1{q:Nat×MObj}{v:Value}(H:HL W s0 s (q::p0::p1::(xC (es.set a E0)++R)) n)(h:a<es.length):HL W s0 s (p0::p1::(xC (es.set a ([q],v))++R)) n:=by
 refine H.perm ?_
 have h1:=vZ h (([q],v):Hp'×Value)
 refine(dH [q] [p0,p1] _).trans (List.Perm.append_left [p0,p1] ?_)
 have h2:=h1.symm.append_right R
 rw[bD]at h2
 exact h2
end
theorem Zc{es:List (Hp'×Value)}{a:Nat}(h:a<es.length):(es.map Prod.snd)[a]? = some (es.getD a E0).2:=by
 rw[List.getElem?_map,aC,aE h];rfl
theorem ZV{vl:Value}{es:List (Hp'×Value)}{x:Int}(h0:0≤x)(h:x.toNat<es.length):zF (wc vl es) (0+1+x.toNat*1)=some (es.getD x.toNat E0).2:=by
 rw[show 0+1+x.toNat*1=x.toNat+1 by omega,zJ]
 show(vl::es.map Prod.snd)[x.toNat+1]? = _
 rw[cQ,Zc h]
theorem uo{vl v:Value}{D:Hp'}:∀{es:List (Hp'×Value)} {a:Nat} (_:a<es.length),yO a [v] (es.map Prod.snd)=some ((es.set a (D,v)).map Prod.snd)
 | [],_,h=>by simp at h
 |e::es,0,_=>rfl
 |e::es,a+1,h=>by
  simp only[List.map_cons,yO,List.set_cons_succ,uo (vl:=vl) (v:=v) (D:=D) (es:=es) (a:=a) (by simpa using h)]
theorem X8{vl v:Value}{D:Hp'}{es:List (Hp'×Value)}{x:Int}(h:x.toNat<es.length):yO (0+1+x.toNat*1) [v] (wc vl es)=some (wc vl (es.set x.toNat (D,v))):=by
 rw[show 0+1+x.toNat*1=x.toNat+1 by omega]
 unfold wc
 simp only[yO,uo (vl:=vl) (D:=D) h]
theorem FrO.set{es:List (Hp'×Value)}{r:Nat→List Int}(h:FrO es r){a:Nat}(ha:a<12){D:Hp'}{v:Value}{x:Int}(ho:Own tI 1 D v (xm (r a++[x])) (r a++[x]).length):FrO (es.set a (D,v)) (fun b=>if b=a then r a++[x]else r b):=by
 refine⟨by rw[bP];exact h.len,fun b hb=>?_⟩
 rw[aC,List.getElem?_set]
 by_cases e:a=b
 ·subst e
  simp only[aF,h.len,aF ha,bL]
  exact ho
 ·rw[aD e,←aC]
  simp only[aD (Ne.symm e)]
  exact h.own b hb
theorem adj_snoc{e:Nat→Int×Int}{tr:List Nat}{k:Nat}{v:Int}:adj e (tr++[k]) v=adj e tr v++(if Inc e k v then [k]else []):=by
 unfold adj
 rw[List.filter_append]
 by_cases h:Inc e k v
 ·simp[List.filter_cons,h]
 ·simp[List.filter_cons,h]
theorem FrO.cong{es:List (Hp'×Value)}{r b:Nat→List Int}(h:FrO es r)(c:∀v,v<12→r v=b v):FrO es b:=⟨h.len,fun v hv=>by rw[←c v hv];exact h.own v hv⟩
abbrev Frst(l:List Fq)(tr:List Nat)(es:List (Hp'×Value)):Prop:=FrO es fun v=>nts (adj (eds l) tr (v:Int))
theorem frst_step{l:List Fq}{tr:List Nat}{k:Nat}{es:List (Hp'×Value)}(h0:0≤(eds l k).1)(h1:(eds l k).1<(eds l k).2)(h:FrO es (fun b=>if b=(eds l k).2.toNat then(if (eds l k).2.toNat=(eds l k).1.toNat then nts (adj (eds l) tr ((eds l k).1.toNat:Int))++[(k:Int)]else nts (adj (eds l) tr ((eds l k).2.toNat:Int)))++[(k:Int)]else if b=(eds l k).1.toNat then nts (adj (eds l) tr ((eds l k).1.toNat:Int))++[(k:Int)]else nts (adj (eds l) tr (b:Int)))):Frst l (tr++[k]) es:=by
 refine h.cong fun v hv=>?_
 rw[adj_snoc]
 by_cases hb:v=(eds l k).2.toNat
 ·rw[aF hb,aD Oz,aF (show Inc (eds l) k v by unfold Inc;omega),YE,hb]
 ·by_cases ha:v=(eds l k).1.toNat
  ·rw[aD hb,aF ha,aF (show Inc (eds l) k v by unfold Inc;omega),YE,ha]
  ·rw[aD hb,aD ha,aD (show ¬Inc (eds l) k v by unfold Inc;omega),bM]
set_option maxHeartbeats 4000000 in
set_option maxRecDepth 10000 in
theorem add46_ok{I:zU}(Y:zH I){U:Wd}{L:List (List Value)}{s0 s:St}{bt n:Nat}{vl:Value}{l:List Fq}{es:List (Hp'×Value)}{R:Hp'}{r:Nat→List Int}{k:Nat}(H:HL [] s0 s ((bt,.cells (wc vl es) 94)::(xC es++R)) n)(hl:Sl s0 40 29 vl L)(C:FitsC U L l)(X:∀k,k<l.length→0≤(eds l k).1∧(eds l k).1<(eds l k).2∧(eds l k).2<12)(hk:k<l.length)(h100:l.length≤100)(f:FrO es r)(m:∀v,(r v).length≤1000)(hroom:n+s0.next+20≤zw) :
 ∃v' s',vo Tryz.prog I 46 #[.pointer (some ⟨bt,0,none⟩),.int .i64 (k:Int)] s v' s'∧(∃t,v'=.tuple ⟨[]⟩∧HL [] s0 s' ((bt,.cells (wc vl t) 94)::(xC t++R)) (n+20)∧FrO t (fun b=>if b=(eds l k).2.toNat then(if (eds l k).2.toNat=(eds l k).1.toNat then r (eds l k).1.toNat++[(k:Int)]else r (eds l k).2.toNat)++[(k:Int)]else if b=(eds l k).1.toNat then r (eds l k).1.toNat++[(k:Int)]else r b)):=by
 obtain⟨al,ll,cl,N,B⟩:=hl.isSlice
 subst N
 rw[C.len]at B
 subst B
 have j:=C.fit k hk
 obtain⟨b1,off1,c1_,G,J,hb1,E⟩:=zeM hl C hk
 subst G
 obtain⟨T,O,V⟩:=X k hk
 have e1:(eds l k).1=(l.getD k default).1:=rfl
 have e2:(eds l k).2=(l.getD k default).2.1:=rfl
 rw[e1]at T O
 rw[e2]at O V
 rw[e1,e2]
 refine qD 2 (Y 46) Tryz.func46 rfl fb46 rfl ?_
 refine zg (vW rfl (kz rfl (zy of94_0 rfl (yc sh24 rfl H.own0 rfl (zf rfl (z7 el24 rfl rfl Oz Oz (qr sh40 rfl (H.old hb1 J) E (xW H zf40 Oz (fun y s1 H=>?_)))))))))
 refine xu (vs:=L.getD k []) H sz40 rfl rfl (xq j.len) j.plain (yQ (by rw[j.len];rfl)) Oz (fun S H=>?_)
 refine zb (vQ [⟨0,0,.light,[2,5,9]⟩,⟨1,0,.light,[5,9]⟩,⟨2,2,.light,[5,9]⟩,⟨3,0,.light,[2,5]⟩,⟨4,0,.light,[2]⟩,⟨5,16,.light,[2]⟩,⟨6,8,.light,[2,5]⟩,⟨7,72,.light,[2,5]⟩,⟨8,248,.light,[2]⟩,⟨9,504,.light,[2]⟩,⟨10,0,.light,[2,5,9]⟩,⟨13,1,.light,[2,5,9]⟩,⟨14,8193,.light,[2,5,9]⟩,⟨11,1024,.whole,[2,5,9]⟩,⟨12,4088,.whole,[2]⟩,⟨15,32767,.light,[]⟩,⟨16,65535,.whole,[]⟩] Z0 Z0 (za rfl rfl (vW rfl ⟨rfl,(za rfl rfl (zy zab rfl ⟨rfl,(yL rfl rfl sh3 rfl H.own0 (H.lim0 Oz) j.a (za rfl rfl (vW rfl ⟨rfl,(za rfl rfl (zy zab rfl ⟨rfl,(yL rfl rfl sh3 rfl H.own0 (H.lim0 Oz) j.a (za rfl rfl (kz rfl ⟨rfl,(za rfl rfl (zy KS rfl ⟨rfl,(za rfl rfl (jA el92 rfl rfl Oz Oz ⟨rfl,(yL rfl rfl Ku rfl H.own1 (H.lim1 Oz) (ZV (es:=es) (x:=(l.getD k default).1) Oz (by rw[f.len];omega)) ?_)⟩))⟩))⟩)))⟩))⟩)))⟩))⟩)))
 refine za rfl rfl (zf rfl ⟨rfl,(za rfl rfl (kz rfl ⟨rfl,(za rfl rfl (zy KS rfl ⟨rfl,(yr rfl rfl (xS (c:=[.int _ _]) (Fine.pr H.fine (jM H.lt0 (jM H.lt0 (jM H.lt1 zdx)))).hl uW rfl rfl (H.rm (k:=1) Oz) (fun b23 s2 Hc=>?_)))⟩))⟩))⟩)
 have H:=H.call (HL.wider H.fine (aO _) (fun _ h=>bE _ h) Hc)
 clear Hc
 have hgt:=H.own0
 have H:=zav (es:=es) (a:=((l.getD k default).1).toNat) H.drop0 (by rw[f.len];omega)
 have hrl:=m ((l.getD k default).1).toNat
 refine YU rfl rfl (fr:=[y]) rfl H (fun q j i=>by rw[aV]at i;exact(List.pairwise_append.mp H.dist).2.2 q j (y,.cells (L.getD k []) 40) Y8 i) (fun p hp=>by rw[aV]at hp;rw[hp];exact(H.own (y,.cells (L.getD k []) 40) Y8).2.1) (f.own ((l.getD k default).1).toNat Oz) uW Y6 rfl rfl rfl (qG hgt rfl) Uz rfl rfl (by have:=m ((l.getD k default).1).toNat;omega) Oz (fun e s24 H=>?_)
 refine za rfl rfl (jA el92 rfl rfl Oz Oz ⟨rfl,(Xw (vs:=[.slice _ _ _]) (fr:=[]) H rfl rfl zdY rfl rfl rfl rfl (X8 (es:=es) (D:=[(e,.cells (xm (r ((l.getD k default).1).toNat)++[.int .i64 (k:Int)]) tI)]) (by rw[f.len];omega)) rfl V1 Oz (fun S H=>?_))⟩)
 have H:=fjoin1 (v:=.slice (some ⟨e,0,none⟩) ((r ((l.getD k default).1).toNat).length+1) (2*((r ((l.getD k default).1).toNat).length+1)+1)) H (by rw[f.len];omega)
 refine yV ?_
 have u:=(Zk (r ((l.getD k default).1).toNat) (k:Int))
 have w:Own tI 1 [(e,MObj.cells (xm (r ((l.getD k default).1).toNat)++[.int .i64 (k:Int)]) tI)] (.slice (some ⟨e,0,none⟩) ((r ((l.getD k default).1).toNat).length+1) (2*((r ((l.getD k default).1).toNat).length+1)+1)) (xm (r ((l.getD k default).1).toNat++[(k:Int)])) (r ((l.getD k default).1).toNat++[(k:Int)]).length:=by rw[u,aQ];exact .block e _ _ _ (by rw[aQ,gh];simp) Oz
 have d:=f.set (a:=((l.getD k default).1).toNat) Oz w
 have o:∀v,((fun b=>if b=((l.getD k default).1).toNat then r ((l.getD k default).1).toNat++[(k:Int)]else r b) v).length≤1001:=fun v=>by simp only;split;(rw[aQ,List.length_singleton];have:=m ((l.getD k default).1).toNat;omega);(have:=m v;omega)
 obtain⟨es1,z⟩:∃es1,es1=es.set ((l.getD k default).1).toNat ([(e,MObj.cells (xm (r ((l.getD k default).1).toNat)++[.int .i64 (k:Int)]) tI)],.slice (some ⟨e,0,none⟩) ((r ((l.getD k default).1).toNat).length+1) (2*((r ((l.getD k default).1).toNat).length+1)+1)):=⟨_,rfl⟩
 rw[←z]at H d
 generalize K:(fun b=>if b=((l.getD k default).1).toNat then r ((l.getD k default).1).toNat++[(k:Int)]else r b)=r1 at d o
 refine uv [⟨0,0,.light,[2,5,9]⟩,⟨1,0,.light,[5,9]⟩,⟨2,2,.light,[5,9]⟩,⟨3,0,.light,[2,5]⟩,⟨4,0,.light,[2]⟩,⟨5,16,.light,[2]⟩,⟨6,8,.light,[2,5]⟩,⟨7,72,.light,[2,5]⟩,⟨8,248,.light,[2]⟩,⟨9,504,.light,[2]⟩,⟨10,0,.light,[2,5,9]⟩,⟨13,1,.light,[2,5,9]⟩,⟨14,8193,.light,[2,5,9]⟩,⟨11,1024,.whole,[2,5,9]⟩,⟨12,4088,.whole,[2]⟩,⟨15,32767,.light,[]⟩,⟨16,65535,.whole,[]⟩] Z0 Z0 (za rfl rfl (vW rfl ⟨rfl,(za rfl rfl (zy KT rfl ⟨rfl,(yL rfl rfl sh3 rfl H.own0 (H.lim0 Oz) j.b (za rfl rfl (vW rfl ⟨rfl,(za rfl rfl (zy KT rfl ⟨rfl,(yL rfl rfl sh3 rfl H.own0 (H.lim0 Oz) j.b (za rfl rfl (kz rfl ⟨rfl,(za rfl rfl (zy KS rfl ⟨rfl,(za rfl rfl (jA el92 rfl rfl Oz Oz ⟨rfl,(yL rfl rfl Ku rfl H.own1 (H.lim1 Oz) (ZV (es:=es1) (x:=(l.getD k default).2.1) Oz (by rw[d.len];omega)) (za rfl rfl (zf rfl ⟨rfl,?_⟩)))⟩))⟩))⟩)))⟩))⟩)))⟩))⟩))
 refine za rfl rfl (kz rfl ⟨rfl,(za rfl rfl (zy KS rfl ⟨rfl,(yr rfl rfl (xS (c:=[.int _ _]) (Fine.pr H.fine (jM H.lt0 (jM H.lt0 (jM H.lt1 zdx)))).hl uW rfl rfl (H.rm (k:=1) Oz) (fun b39 s3 Hc=>?_)))⟩))⟩)
 have H:=H.call (HL.wider H.fine (aO _) (fun _ h=>bE _ h) Hc)
 clear Hc
 have hgt:=H.own0
 have H:=zav (es:=es1) (a:=((l.getD k default).2.1).toNat) H.drop0 (by rw[d.len];omega)
 skip
 refine YU rfl rfl (fr:=[y]) rfl H (fun q j i=>by rw[aV]at i;exact(List.pairwise_append.mp H.dist).2.2 q j (y,.cells (L.getD k []) 40) Y8 i) (fun p hp=>by rw[aV]at hp;rw[hp];exact(H.own (y,.cells (L.getD k []) 40) Y8).2.1) (d.own ((l.getD k default).2.1).toNat Oz) uW Y6 rfl rfl rfl (qG hgt rfl) Uz rfl rfl (by have:=o ((l.getD k default).2.1).toNat;omega) Oz (fun g s40 H=>?_)
 refine za rfl rfl (jA el92 rfl rfl Oz Oz ⟨rfl,(Xw (vs:=[.slice _ _ _]) (fr:=[]) H rfl rfl zdY rfl rfl rfl rfl (X8 (es:=es1) (D:=[(g,.cells (xm (r1 ((l.getD k default).2.1).toNat)++[.int .i64 (k:Int)]) tI)]) (by rw[d.len];omega)) rfl V1 Oz (fun S H=>?_))⟩)
 have H:=fjoin1 (v:=.slice (some ⟨g,0,none⟩) ((r1 ((l.getD k default).2.1).toNat).length+1) (2*((r1 ((l.getD k default).2.1).toNat).length+1)+1)) H (by rw[d.len];omega)
 refine yV (Go.M.nrm_end (QS ?_))
 have u:=(Zk (r1 ((l.getD k default).2.1).toNat) (k:Int))
 have w:Own tI 1 [(g,MObj.cells (xm (r1 ((l.getD k default).2.1).toNat)++[.int .i64 (k:Int)]) tI)] (.slice (some ⟨g,0,none⟩) ((r1 ((l.getD k default).2.1).toNat).length+1) (2*((r1 ((l.getD k default).2.1).toNat).length+1)+1)) (xm (r1 ((l.getD k default).2.1).toNat++[(k:Int)])) (r1 ((l.getD k default).2.1).toNat++[(k:Int)]).length:=by rw[u,aQ];exact .block g _ _ _ (by rw[aQ,gh];simp) Oz
 have A:=d.set (a:=((l.getD k default).2.1).toNat) Oz w
 refine⟨_,rfl,H.drop0.up Oz,?_⟩
 exact A.cong fun v _=>by subst K;rfl
def jd(v:Pl)(p:Rat×Rat):Rat×Rat:=((xL v.1 p).1+v.2.1,(xL v.1 p).2+v.2.2)
structure PutOK(v:Pl)(p:Rat×Rat):Prop where
 r:RotOK v.1 p
 r1:Sm (xL v.1 p).1
 r2:Sm (xL v.1 p).2
 v1:Sm v.2.1
 v2:Sm v.2.2
theorem QY{v:Pl}{p:Rat×Rat}(h:PutOK v p):z264 v p=some (jd v p):=by
 unfold z264 z158
 rw[uS h.r,aA,xr h.r1 h.v1,aA,xr h.r2 h.v2]
 rfl
noncomputable def j8(a0:Pl)(b:List (Rat×Rat))(g1:(Int×List (Rat×Rat))→Option (List (Rat×Rat)))(a:Int×List (Rat×Rat)):Option (List (Rat×Rat)):=(if (decide (a.1<(b.length:Int)))=true then((idx b a.1).bind fun x2=>((z264 a0 x2).bind fun e=>((app a.2 [e]).bind fun c=>((i64 (a.1+1)).bind fun d=>g1 (d,c)))))else some a.2)
theorem z225_eq(a0:(Rat×Rat)×Rat×Rat)(a:List (Rat×Rat)):zdI a0 a =  (zj (j8 a0 a) (zi 12) (0,[])):=rfl
theorem mv225B_0{v:Pl}{p q r:Rat×Rat}(h:PutOK v p)(g:(Int×List (Rat×Rat))→Option (List (Rat×Rat))):j8 v [p,q,r] g (0,[])=g (1,[jd v p]):=by
 have f:=QY h
 unfold j8
 simp[idx,zN,yh,f,app]
theorem mv225B_1{v:Pl}{p q r:Rat×Rat}(h:PutOK v q)(g:(Int×List (Rat×Rat))→Option (List (Rat×Rat))):j8 v [p,q,r] g (1,[jd v p])=g (2,[jd v p,jd v q]):=by
 have f:=QY h
 unfold j8
 simp[idx,zN,yh,f,app]
theorem mv225B_2{v:Pl}{p q r:Rat×Rat}(h:PutOK v r)(g:(Int×List (Rat×Rat))→Option (List (Rat×Rat))):j8 v [p,q,r] g (2,[jd v p,jd v q])=g (3,[jd v p,jd v q,jd v r]):=by
 have f:=QY h
 unfold j8
 simp[idx,zN,yh,f,app]
theorem mv225B_3{v:Pl}{p q r:Rat×Rat}{l:List (Rat×Rat)}(g:(Int×List (Rat×Rat))→Option (List (Rat×Rat))):j8 v [p,q,r] g (3,l)=some l:=by
 unfold j8
 simp
theorem vU{v:Pl}{p q r:Rat×Rat}(hp:PutOK v p)(a:PutOK v q)(b:PutOK v r):zdI v [p,q,r]=some [jd v p,jd v q,jd v r]:=by
 rw[z225_eq,zC,ze,mv225B_0 hp,ze,mv225B_1 a,ze,mv225B_2 b,ze,mv225B_3]
section
variable{a b c d:Int×Int}
def XF(v:Pl)(l:List (List (Int×Int))):List (List (Rat×Rat)):=l.map fun t=>t.map fun p=>jd v (ptQ p)
noncomputable def gH(j:Pl)(k:Int×List (List (Rat×Rat)))(f:(Int×List (List (Rat×Rat)))→Option (List (List (Rat×Rat))))(e:Int×List (List (Rat×Rat))):Option (List (List (Rat×Rat))):=(if (decide (e.1<(k.2.length:Int)))=true then((idx e.2 e.1).bind fun x11=>((idx e.2 e.1).bind fun i=>((zdI j i).bind fun h=>((idx e.2 e.1).bind fun x14=>((idx e.2 e.1).bind fun x15=>((i64 (e.1+1)).bind fun g=>f (g,(zE e.2 (Int.toNat e.1) h))))))))else some e.2)
noncomputable def uA(g:Pl)(r1:List (Rat×Rat))(r2:List (Int×Int×Int)×Int)(h:(Int×List (List (Rat×Rat)))→Option (List (List (Rat×Rat))))(e:Int×List (List (Rat×Rat))):Option (List (List (Rat×Rat))):=(if (decide (e.1<(r2.1.length:Int)))=true then((idx r2.1 e.1).bind fun f=>((idx r1 f.1).bind fun k=>((idx r1 f.2.1).bind fun l=>((idx r1 f.2.2).bind fun m=>((app e.2 [[k,l,m]]).bind fun i=>((i64 (e.1+1)).bind fun j=>h (j,i)))))))else(zj (gH g e) (zi 12) (0,e.2)))
theorem z162_eq(a0:Int×Int×(List (Int×Int))×List Bool×List Int×Rat×Rat×Rat×Rat×Rat)(e:(Rat×Rat)×Rat×Rat):z162 a0 e =  ((zdO a0).bind fun r1=>((z263 r1).bind fun r2=>(zj (uA e r1 r2) (zi 12) (0,[])))):=rfl
theorem clPB_00{v:Pl}(g:(Int×List (List (Rat×Rat)))→Option (List (List (Rat×Rat)))):uA v [ptQ a,ptQ b,ptQ c,ptQ d] ([(3,0,1),(1,2,3)],0) g (0,[])=g (1,[[ptQ d,ptQ a,ptQ b]]):=by
 unfold uA
 generalize gH=B
 simp[idx,zN,yh,app]
theorem clPB_01{v:Pl}(g:(Int×List (List (Rat×Rat)))→Option (List (List (Rat×Rat)))):uA v [ptQ a,ptQ b,ptQ c,ptQ d] ([(3,0,1),(1,2,3)],0) g (1,[[ptQ d,ptQ a,ptQ b]])=g (2,[[ptQ d,ptQ a,ptQ b],[ptQ b,ptQ c,ptQ d]]):=by
 unfold uA
 generalize gH=B
 simp[idx,zN,yh,app]
theorem clPB_10{v:Pl}(g:(Int×List (List (Rat×Rat)))→Option (List (List (Rat×Rat)))):uA v [ptQ a,ptQ b,ptQ c,ptQ d] ([(0,1,2),(0,2,3)],0) g (0,[])=g (1,[[ptQ a,ptQ b,ptQ c]]):=by
 unfold uA
 generalize gH=B
 simp[idx,zN,yh,app]
theorem clPB_11{v:Pl}(g:(Int×List (List (Rat×Rat)))→Option (List (List (Rat×Rat)))):uA v [ptQ a,ptQ b,ptQ c,ptQ d] ([(0,1,2),(0,2,3)],0) g (1,[[ptQ a,ptQ b,ptQ c]])=g (2,[[ptQ a,ptQ b,ptQ c],[ptQ a,ptQ c,ptQ d]]):=by
 unfold uA
 generalize gH=B
 simp[idx,zN,yh,app]
theorem clPB_20{v:Pl}(g:(Int×List (List (Rat×Rat)))→Option (List (List (Rat×Rat)))):uA v [ptQ a,ptQ b,ptQ c,ptQ d] ([(1,2,3),(0,1,3)],0) g (0,[])=g (1,[[ptQ b,ptQ c,ptQ d]]):=by
 unfold uA
 generalize gH=B
 simp[idx,zN,yh,app]
theorem clPB_21{v:Pl}(g:(Int×List (List (Rat×Rat)))→Option (List (List (Rat×Rat)))):uA v [ptQ a,ptQ b,ptQ c,ptQ d] ([(1,2,3),(0,1,3)],0) g (1,[[ptQ b,ptQ c,ptQ d]])=g (2,[[ptQ b,ptQ c,ptQ d],[ptQ a,ptQ b,ptQ d]]):=by
 unfold uA
 generalize gH=B
 simp[idx,zN,yh,app]
theorem clPB_30{v:Pl}(g:(Int×List (List (Rat×Rat)))→Option (List (List (Rat×Rat)))):uA v [ptQ a,ptQ b,ptQ c,ptQ d] ([(2,3,0),(0,1,2)],0) g (0,[])=g (1,[[ptQ c,ptQ d,ptQ a]]):=by
 unfold uA
 generalize gH=B
 simp[idx,zN,yh,app]
theorem clPB_31{v:Pl}(g:(Int×List (List (Rat×Rat)))→Option (List (List (Rat×Rat)))):uA v [ptQ a,ptQ b,ptQ c,ptQ d] ([(2,3,0),(0,1,2)],0) g (1,[[ptQ c,ptQ d,ptQ a]])=g (2,[[ptQ c,ptQ d,ptQ a],[ptQ a,ptQ b,ptQ c]]):=by
 unfold uA
 generalize gH=B
 simp[idx,zN,yh,app]
theorem zaS{v:Pl}{e:List (Rat×Rat)}{l2:List (Int×Int×Int)}(h:l2.length=2){l:List (List (Rat×Rat))}(g:(Int×List (List (Rat×Rat)))→Option (List (List (Rat×Rat)))):uA v e (l2,0) g (2,l)=zj (gH v (2,l)) (zi 12) (0,l):=by
 unfold uA
 generalize gH=B
 simp[h]
theorem zaR{v:Pl}{t1 t2 u:List (Rat×Rat)}(f:zdI v t1=some u)(g:(Int×List (List (Rat×Rat)))→Option (List (List (Rat×Rat)))):gH v (2,[t1,t2]) g (0,[t1,t2])=g (1,[u,t2]):=by
 unfold gH
 simp[idx,zN,yh,f,zE]
theorem zaQ{v:Pl}{t1 t2 u w:List (Rat×Rat)}(f:zdI v t2=some u)(g:(Int×List (List (Rat×Rat)))→Option (List (List (Rat×Rat)))):gH v (2,[t1,t2]) g (1,[w,t2])=g (2,[w,u]):=by
 unfold gH
 simp[idx,zN,yh,f,zE]
theorem zaP{v:Pl}{t1 t2:List (Rat×Rat)}{l:List (List (Rat×Rat))}(g:(Int×List (List (Rat×Rat)))→Option (List (List (Rat×Rat)))):gH v (2,[t1,t2]) g (2,l)=some l:=by
 unfold gH
 simp
theorem z162_int(ha:Nr 1000 a)(hb:Nr 1000 b)(hc:Nr 1000 c)(hd:Nr 1000 d){p:Pc}(hp:p.2.2.1=[a,b,c,d]){v:Pl}(hv:KD a b c d=true)(e:PutOK v (ptQ a))(f:PutOK v (ptQ b))(g:PutOK v (ptQ c))(kd:PutOK v (ptQ d)):z162 p v=some (XF v (Ws a b c d)):=by
 rw[z162_eq,zbi hp ha hb hc hd,aA,z263_int ha hb hc hd hv,aA,zC]
 unfold trisI Ws XF
 cases uL d a b c
 case true=>
  simp only[dP,cK,aX,List.map_cons,List.map_nil]
  rw[ze,clPB_00,ze,clPB_01,ze,zaS rfl,zC,ze,zaR (vU kd e f),ze,zaQ (vU f g kd),ze,zaP]
 cases uL a b c d
 case true=>
  simp only[dP,cK,aX,List.map_cons,List.map_nil]
  rw[ze,clPB_10,ze,clPB_11,ze,zaS rfl,zC,ze,zaR (vU e f g),ze,zaQ (vU e g kd),ze,zaP]
 cases uL b c d a
 case true=>
  simp only[dP,cK,aX,List.map_cons,List.map_nil]
  rw[ze,clPB_20,ze,clPB_21,ze,zaS rfl,zC,ze,zaR (vU f g kd),ze,zaQ (vU e f kd),ze,zaP]
 simp only[dP,cK,aX,List.map_cons,List.map_nil]
 rw[ze,clPB_30,ze,clPB_31,ze,zaS rfl,zC,ze,zaR (vU g kd e),ze,zaQ (vU e f g),ze,zaP]
end
abbrev QV(d B:Nat)(x:Rat):Prop:=QB d (d*B) x
def SB(d B:Nat):Prop:=0<d∧d*(B+1)<500000000
theorem QV.sm{d B:Nat}{x:Rat}(h:QV d B x)(g:SB d B):Sm x:=by
 obtain⟨g1,g2⟩:=g
 rw[Nat.mul_add,cG]at g2
 exact QB.sm h ⟨g1,by omega,by omega⟩
theorem QV.add{d B C:Nat}{x y:Rat}(h:QV d B x)(g:QV d C y):QV d (B+C) (x+y):=by
 have:=QB.add h g
 rw[←Nat.mul_add]at this
 exact this
theorem QV.sub{d B C:Nat}{x y:Rat}(h:QV d B x)(g:QV d C y):QV d (B+C) (x-y):=by
 have:=QB.sub h g
 rw[←Nat.mul_add]at this
 exact this
theorem QV.neg{d B:Nat}{x:Rat}(h:QV d B x):QV d B (-x):=QB.neg h
theorem QV.mul{d e B C:Nat}{x y:Rat}(h:QV d B x)(g:QV e C y):QV (d*e) (B*C) (x*y):=by
 have:=QB.mul h g
 rw[show d*B*(e*C)=d*e*(B*C)by ac_rfl]at this
 exact this
theorem QV.up{d B k:Nat}{x:Rat}(h:QV d B x):QV (d*k) B x:=by
 have:=QB.up (k:=k) h
 rw[show d*B*k=d*k*B by ac_rfl]at this
 exact this
theorem QV.le{d B C:Nat}{x:Rat}(h:QV d B x)(g:B≤C):QV d C x:=QB.le h (bX _ g)
theorem QV.int{n:Int}{B:Nat}(h:n.natAbs≤B):QV 1 B (qI n):=by
 show QB 1 (1*B) _
 rw[dQ]
 exact QB.int h
def V2(d B:Nat)(v:Rat×Rat):Prop:=QV d B v.1∧QV d B v.2
theorem V2.up{d B k:Nat}{v:Rat×Rat}(h:V2 d B v):V2 (d*k) B v:=⟨h.1.up,h.2.up⟩
theorem V2.le{d B C:Nat}{v:Rat×Rat}(h:V2 d B v)(g:B≤C):V2 d C v:=⟨h.1.le g,h.2.le g⟩
def addV(a b:Rat×Rat):Rat×Rat:=(a.1+b.1,a.2+b.2)
def wv(a b:Rat×Rat):Rat×Rat:=(a.1-b.1,a.2-b.2)
def vE(a b:Rat×Rat):Rat:=a.1*b.1+a.2*b.2
theorem V2.add{d B C:Nat}{v w:Rat×Rat}(h:V2 d B v)(g:V2 d C w):V2 d (B+C) (addV v w):=⟨h.1.add g.1,h.2.add g.2⟩
theorem V2.sub{d B C:Nat}{v w:Rat×Rat}(h:V2 d B v)(g:V2 d C w):V2 d (B+C) (wv v w):=⟨h.1.sub g.1,h.2.sub g.2⟩
theorem V2.dot{d e B C:Nat}{v w:Rat×Rat}(h:V2 d B v)(g:V2 e C w):QV (d*e) (B*C+B*C) (vE v w):=(h.1.mul g.1).add (h.2.mul g.2)
theorem V2.rot{d e C:Nat}{t p:Rat×Rat}(h:V2 d 1 t)(g:V2 e C p):V2 (d*e) (C+C) (xL t p):=by
 have h1:=h.1.mul g.1
 have h2:=h.2.mul g.2
 have c:=h.2.mul g.1
 have f:=h.1.mul g.2
 rw[dQ]at h1 h2 c f
 exact⟨h1.sub h2,c.add f⟩
theorem Xf{d e C:Nat}{t p:Rat×Rat}(h:V2 d 1 t)(g:V2 e C p)(h1:SB d 1)(h2:SB e C)(c:SB (d*e) C):RotOK t p:=by
 have m:∀{x y:Rat},QV d 1 x→QV e C y→Sm (x*y):=fun hx f=>by
  have:=hx.mul f
  rw[dQ]at this
  exact this.sm c
 exact⟨h.1.sm h1,h.2.sm h1,g.1.sm h2,g.2.sm h2,m h.1 g.1,m h.2 g.2,m h.2 g.1,m h.1 g.2⟩
def SG(d B:Nat):Prop:=0<d∧d<1000000∧d*(B+1)<250000000000
theorem QV.sg{d B:Nat}{x:Rat}(h:QV d B x)(g:SG d B):Sg x:=by
 obtain⟨g1,g2,c⟩:=g
 rw[Nat.mul_add,cG]at c
 exact QB.sg h ⟨g1,g2,by omega⟩
def Kd(K:Nat):Prop:=0<K∧K≤289
theorem Kd.s0{K B:Nat}(h:Kd K)(g:289*(B+1)<500000000):SB K B:=⟨h.1,cC (bN _ h.2) g⟩
theorem Kd.g0{K B:Nat}(h:Kd K)(g:289*(B+1)<250000000000):SG K B:=⟨h.1,cC h.2 Uz,cC (bN _ h.2) g⟩
theorem Kd.s1{K c B:Nat}(h:Kd K)(g:0<c∧289*c*(B+1)<500000000):SB (K*c) B:=⟨Nat.mul_pos h.1 g.1,cC (bN _ (bN _ h.2)) g.2⟩
theorem Kd.g1{K c B:Nat}(h:Kd K)(g:0<c∧289*c<1000000∧289*c*(B+1)<250000000000):SG (K*c) B:=⟨Nat.mul_pos h.1 g.1,cC (bN _ h.2) g.2.1,cC (bN _ (bN _ h.2)) g.2.2⟩
theorem Kd.g2{K c B:Nat}(h:Kd K)(g:0<c∧83521*c<1000000∧83521*c*(B+1)<250000000000):SG (K*(K*c)) B:=by
 have:K*(K*c)≤289*(289*c):=eE h.2 (bN _ h.2)
 have e:289*(289*c)=83521*c:=by omega
 rw[e]at this
 exact⟨Nat.mul_pos h.1 (Nat.mul_pos h.1 g.1),cC this g.2.1,cC (bN _ this) g.2.2⟩
section
variable{a b:Rat×Rat}
theorem z39_v{d B C:Nat}(ha:V2 d B a)(hb:V2 d C b)(h:SB d B)(g:SB d C):z39 a b=some (wv a b):=by
 unfold z39
 rw[vv (ha.1.sm h) (hb.1.sm g),vv (ha.2.sm h) (hb.2.sm g)]
 rfl
theorem z126_v{d B C:Nat}(ha:V2 d B a)(hb:V2 d C b)(h:SB d B)(g:SB d C):Q4 a b=some (wv a b):=by
 unfold Q4
 rw[vv (ha.1.sm h) (hb.1.sm g),vv (ha.2.sm h) (hb.2.sm g)]
 rfl
theorem z257_v{d e B C:Nat}(ha:V2 d B a)(hb:V2 e C b)(h:SB d B)(g:SB e C)(hg:SG (d*e) (B*C)):Jz a b=some (vE a b):=by
 unfold Jz
 rw[qM (ha.1.sm h) (hb.1.sm g),qM (ha.2.sm h) (hb.2.sm g)]
 simp only[aA]
 rw[z121_twoW ((ha.1.mul hb.1).sg hg) ((ha.2.mul hb.2).sg hg)]
 rfl
end
theorem uy(x y:Rat):wd x y = -1∧x<y∨wd x y=1∧y<x∧¬x<y∨wd x y=0∧¬x<y∧¬y<x:=by
 unfold wd
 by_cases h:x<y
 ·simp[h]
 ·by_cases g:y<x<;>simp[h,g]
theorem cmpQ_neg{x y:Rat}:wd x y<0↔x<y:=by rcases uy x y with h|h|h<;>rw[h.1]<;>simp[h.2]
theorem cmpQ_m1{x y:Rat}:wd x y = -1↔x<y:=by rcases uy x y with h|h|h<;>rw[h.1]<;>simp[h.2]
theorem cmpQ_p1{x y:Rat}:wd x y=1↔y<x:=by
 rcases uy x y with h|h|h<;>rw[h.1]<;>simp[h.2]
 have:=h.2
 grind
theorem cmpQ_pos{x y:Rat}:0<wd x y↔y<x:=by
 rcases uy x y with h|h|h<;>rw[h.1]<;>simp[h.2]
 have:=h.2
 grind
theorem yz{α:Type}{l:List α}{i:Nat}(h:i<l.length):l.take (i+1)=l.take i++[l[i]]:=by rw[List.take_append_getElem h]
theorem Zj{a b c:Rat}(h:a≤b)(g:b≤c):a≤c:=dO h g
def mnR(x y:Rat):Rat:=if y<x then y else x
def mxR(x y:Rat):Rat:=if x<y then y else x
theorem mnR_le{x y:Rat}:mnR x y≤x∧mnR x y≤y:=by
 unfold mnR
 split
 ·rename_i h;exact⟨Rat.le_of_lt h,eL⟩
 ·rename_i h;exact⟨eL,Rat.not_lt.mp h⟩
theorem mxR_ge{x y:Rat}:x≤mxR x y∧y≤mxR x y:=by
 unfold mxR
 split
 ·rename_i h;exact⟨Rat.le_of_lt h,eL⟩
 ·rename_i h;exact⟨eL,Rat.not_lt.mp h⟩
theorem ua:∀(l:List Rat) (x:Rat),(l.foldl mnR x≤x∧∀y∈l,l.foldl mnR x≤y)∧(l.foldl mnR x=x∨l.foldl mnR x∈l)
 | [],x=>⟨⟨eL,fun y h=>nomatch h⟩,.inl rfl⟩
 |z::l,x=>by
  obtain⟨⟨h1,h2⟩,a⟩:=ua l (mnR x z)
  obtain⟨g1,g2⟩:= @mnR_le x z
  refine⟨⟨Zj h1 g1,fun y b=>?_⟩,?_⟩
  ·rcases aL.mp b with rfl|b
   ·exact Zj h1 g2
   ·exact h2 y b
  ·rw[List.foldl_cons]
   rcases a with a|a
   ·rw[a]
    unfold mnR
    split
    ·exact .inr (aP ..)
    ·exact .inl rfl
   ·exact .inr (aN _ a)
theorem QK:∀(l:List Rat) (x:Rat),(x≤l.foldl mxR x∧∀y∈l,y≤l.foldl mxR x)∧(l.foldl mxR x=x∨l.foldl mxR x∈l)
 | [],x=>⟨⟨eL,fun y h=>nomatch h⟩,.inl rfl⟩
 |z::l,x=>by
  obtain⟨⟨h1,h2⟩,a⟩:=QK l (mxR x z)
  obtain⟨g1,g2⟩:= @mxR_ge x z
  refine⟨⟨Zj g1 h1,fun y b=>?_⟩,?_⟩
  ·rcases aL.mp b with rfl|b
   ·exact Zj g2 h1
   ·exact h2 y b
  ·rw[List.foldl_cons]
   rcases a with a|a
   ·rw[a]
    unfold mxR
    split
    ·exact .inr (aP ..)
    ·exact .inl rfl
   ·exact .inr (aN _ a)
theorem z302_v{dir:Rat×Rat}{l:List (Rat×Rat)}(hl:l.length<12)(h:∀p∈l,Jz dir p=some (vE dir p)):z302 dir l=some (l.map (vE dir)):=by
 unfold z302
 refine zk l.length (fun i x=>x=((i:Int),(l.take i).map (vE dir))) (fun o=>o=_) hl rfl ?_ ?_
 ·rintro i x g hi rfl hg
  simp only[zM hi,dP,zt hi,aA,h _ (aK hi),zp (show i<100000 by omega)]
  rw[yF (by simp;omega),aA]
  exact hg _ (by rw[yz hi,List.map_append];rfl)
 ·rintro x g rfl
  simp
theorem z303_mn{x:Rat}{l:List Rat}(hl:l.length<12)(hx:Sg x)(h:∀p∈l,Sg p):VS (-1) x l=some (l.foldl mnR x)∧Sg (l.foldl mnR x):=by
 have hs:Sg (l.foldl mnR x):=by
  rcases(ua l x).2 with e|e
  ·rw[e];exact hx
  ·exact h _ e
 refine⟨?_,hs⟩
 unfold VS
 refine zk l.length (fun i y=>y=((i:Int),(l.take i).foldl mnR x)) (fun o=>o=_) hl rfl ?_ ?_
 ·rintro i y g hi rfl hg
  have a:Sg ((l.take i).foldl mnR x):=by
   rcases(ua (l.take i) x).2 with e|e
   ·rw[e];exact hx
   ·exact h _ (eI e)
  simp only[zM hi,dP,zt hi,aA,zaN (h _ (aK hi)) a,zp (show i<100000 by omega),cmpQ_m1]
  have e:(l.take (i+1)).foldl mnR x=mnR ((l.take i).foldl mnR x) l[i]:=by rw[yz hi,List.foldl_append];rfl
  unfold mnR at e
  by_cases c:l[i]<(l.take i).foldl mnR x
  ·rw[aF (aH c)]
   unfold mnR at c
   rw[aF c]at e
   exact hg _ (by rw[←e];rfl)
  ·rw[aD (by simp[c])]
   unfold mnR at c
   rw[aD c]at e
   exact hg _ (by unfold mnR;rw[←e])
 ·rintro y g rfl
  simp
theorem zfN{x:Rat}{l:List Rat}(hl:l.length<12)(hx:Sg x)(h:∀p∈l,Sg p):VS 1 x l=some (l.foldl mxR x)∧Sg (l.foldl mxR x):=by
 have hs:Sg (l.foldl mxR x):=by
  rcases(QK l x).2 with e|e
  ·rw[e];exact hx
  ·exact h _ e
 refine⟨?_,hs⟩
 unfold VS
 refine zk l.length (fun i y=>y=((i:Int),(l.take i).foldl mxR x)) (fun o=>o=_) hl rfl ?_ ?_
 ·rintro i y g hi rfl hg
  have a:Sg ((l.take i).foldl mxR x):=by
   rcases(QK (l.take i) x).2 with e|e
   ·rw[e];exact hx
   ·exact h _ (eI e)
  simp only[zM hi,dP,zt hi,aA,zaN (h _ (aK hi)) a,zp (show i<100000 by omega),cmpQ_p1]
  have e:(l.take (i+1)).foldl mxR x=mxR ((l.take i).foldl mxR x) l[i]:=by rw[yz hi,List.foldl_append];rfl
  unfold mxR at e
  by_cases c:(l.take i).foldl mxR x<l[i]
  ·rw[aF (aH c)]
   unfold mxR at c
   rw[aF c]at e
   exact hg _ (by rw[←e];rfl)
  ·rw[aD (by simp[c])]
   unfold mxR at c
   rw[aD c]at e
   exact hg _ (by unfold mxR;rw[←e])
 ·rintro y g rfl
  simp
structure TriOK(K:Nat)(l:List (Rat×Rat)):Prop where
 len:0<l.length∧l.length≤3
 pt:∀p∈l,V2 (K*4) 400 p
 ed:∀p∈l,∀q∈l,V2 K 64 (wv p q)
def lowV(dir:Rat×Rat):List (Rat×Rat)→Rat
 | []=>0
 |p::l=>(l.map (vE dir)).foldl mnR (vE dir p)
def topV(dir:Rat×Rat):List (Rat×Rat)→Rat
 | []=>0
 |p::l=>(l.map (vE dir)).foldl mxR (vE dir p)
section
variable{K:Nat}(hK:Kd K){dir:Rat×Rat}(hd:V2 K 64 dir)
include hK hd
theorem zfa{p:Rat×Rat}(h:V2 (K*4) 400 p):Jz dir p=some (vE dir p)∧QV (K*(K*4)) 51200 (vE dir p):=by
 have e1:=hK.s0 (B:=64) Uz
 have e2:=hK.s1 (c:=4) (B:=400) Uz
 have a:=hK.g2 (c:=4) (B:=64*400) Uz
 exact⟨z257_v hd h e1 e2 a,(V2.dot hd h).le Uz⟩
theorem gap_ok{l m:List (Rat×Rat)}(h1:TriOK K l)(h2:TriOK K m):z283 dir l m=some (lowV dir m-topV dir l)∧QV (K*(K*4)) 102400 (lowV dir m-topV dir l):=by
 match l,m,h1,h2 with
 |p::ps,q::b,h1,h2=>
  have k:=h1.len.2
  have l2:=h2.len.2
  have s:=hK.g2 (c:=4) (B:=51200) Uz
  have f:∀{l:List (Rat×Rat)},TriOK K l→z302 dir l=some (l.map (vE dir)):=fun h=>z302_v (by have:=h.len.2;omega) fun p hp=>(zfa hK hd (h.pt p hp)).1
  have d:∀x∈p::ps,QV (K*(K*4)) 51200 (vE dir x):=fun x hx=>(zfa hK hd (h1.pt x hx)).2
  have g:∀x∈q::b,QV (K*(K*4)) 51200 (vE dir x):=fun x hx=>(zfa hK hd (h2.pt x hx)).2
  have i:=(z303_mn (x:=vE dir q) (l:=b.map (vE dir)) (by simp at l2 ⊢;omega) ((g _ (aP ..)).sg s) (by intro x hx;obtain⟨y,a,rfl⟩:=List.mem_map.mp hx;exact(g _ (aN _ a)).sg s))
  have j:=(zfN (x:=vE dir p) (l:=ps.map (vE dir)) (by simp at k ⊢;omega) ((d _ (aP ..)).sg s) (by intro x hx;obtain⟨y,a,rfl⟩:=List.mem_map.mp hx;exact(d _ (aN _ a)).sg s))
  have sl:∀(x:Rat) (l:List Rat),xK (x::l) 1 ((x::l).length:Int)=some l:=fun x l=>by
   unfold xK
   rw[aF (by simp;omega)]
   simp
  have n:QV (K*(K*4)) 51200 (lowV dir (q::b)):=by
   rcases(ua (b.map (vE dir)) (vE dir q)).2 with e|e
   ·rw[lowV,e];exact g _ (aP ..)
   ·obtain⟨y,a,e⟩:=List.mem_map.mp e
    rw[lowV,←e];exact g _ (aN _ a)
  have o:QV (K*(K*4)) 51200 (topV dir (p::ps)):=by
   rcases(QK (ps.map (vE dir)) (vE dir p)).2 with e|e
   ·rw[topV,e];exact d _ (aP ..)
   ·obtain⟨y,a,e⟩:=List.mem_map.mp e
    rw[topV,←e];exact d _ (aN _ a)
  refine⟨?_,n.sub o⟩
  unfold z283
  rw[f h1,f h2]
  simp only[aA,List.map_cons]
  rw[show idx (vE dir q::b.map (vE dir)) 0=some (vE dir q)from rfl,show idx (vE dir p::ps.map (vE dir)) 0=some (vE dir p)from rfl]
  simp only[aA]
  rw[sl,sl]
  simp only[aA]
  rw[i.1,j.1]
  simp only[aA]
  rw[subW_ok i.2 j.2]
  rfl
 | [],_,h1,_=>exact absurd h1.len.1 Y8
 |_::_,[],_,h2=>exact absurd h2.len.1 Y8
def zdB(x:Rat):Rat:=if x<0 then -x else x
def zbC(d:Rat×Rat):Rat:=zdB d.1+zdB d.2
omit hK hd in
theorem abs_qv{x:Rat}{B:Nat}(h:QV K B x):QV K B (zdB x):=by unfold zdB;split;exact h.neg;exact h
theorem room_ok{t:Rat}(i:QV 4 4 t):z284 dir t=some (t*zbC dir)∧QV (K*4) 512 (t*zbC dir):=by
 have a:=hK.s0 (B:=64) Uz
 have g0:=hK.g0 (B:=64) Uz
 have e1:=hK.s0 (B:=128) Uz
 have e:=abs_qv hd.1
 have f:=abs_qv hd.2
 have sz:QV K 128 (zbC dir):=e.add f
 have j:∀{x:Rat},QV K 64 x→(j7 x).bind (fun r=>(VS 1 x [r]).bind fun r=>some r)=some (zdB x):=fun{x} h=>by
  rw[kL (h.sm a),aA,(zfN (x:=x) (l:=[-x]) Y8 (h.sg g0) (by intro y k;rw[aV.mp k];exact h.neg.sg g0)).1,aA]
  show some (mxR x (-x))=_
  unfold mxR zdB
  congr 1
  by_cases c:x<0
  ·rw[aF c,aF (by grind)]
  ·rw[aD c]
   by_cases g:x < -x
   ·exact absurd (show x<0 by grind) c
   ·rw[aD g]
 refine⟨?_,?_⟩
 ·unfold z284 z304
  have b:=j hd.1
  have d:=j hd.2
  rw[kL (hd.1.sm a),aA]at b
  rw[kL (hd.2.sm a),aA]at d
  simp only[kL (hd.1.sm a),kL (hd.2.sm a),aA]
  simp only[Option.bind_fun_some]at b d
  rw[b,d]
  simp only[aA]
  rw[xr (e.sm a) (f.sm a)]
  simp only[aA]
  rw[show zdB dir.1+zdB dir.2=zbC dir from rfl,qM (i.sm ⟨by decide,by decide⟩) (sz.sm e1)]
  rfl
 ·rw[Rat.mul_comm]
  exact sz.mul i
def sepB(t:Rat)(l m:List (Rat×Rat))(dir:Rat×Rat):Bool:=decide (t*zbC dir≤lowV dir m-topV dir l)
theorem sep_ok{t:Rat}(a:QV 4 4 t){l m:List (Rat×Rat)}(h1:TriOK K l)(h2:TriOK K m):z262 dir l m t=some (sepB t l m dir):=by
 obtain⟨g1,u⟩:=gap_ok hK hd h1 h2
 obtain⟨r1,r2⟩:=room_ok hK hd a
 have c:=zaN (u.sg (hK.g2 Uz)) (r2.sg (hK.g1 Uz))
 unfold z262 sepB
 rw[g1,r1,aA,aA,c,aA]
 congr 1
 rw[decide_eq_decide,←Rat.not_lt,←cmpQ_neg]
 omega
end
def nrmV(a b:Rat×Rat):Rat×Rat:=(b.2-a.2,a.1-b.1)
def nxt'(l:List (Rat×Rat))(i:Nat):Rat×Rat:=l.getD ((i+1) % l.length) (0,0)
def YV(l:List (Rat×Rat))(n:Nat):List (Rat×Rat):=(List.range n).map fun i=>nrmV (l.getD i (0,0)) (nxt' l i)
def Qe(l:List (Rat×Rat))(n:Nat):List (Rat×Rat):=(List.range n).map fun i=>nrmV (nxt' l i) (l.getD i (0,0))
def zhg:List (Rat×Rat):=[(qI 1,qI 0),(qI 0,qI 1),(qI (-1),qI 0),(qI 0,qI (-1))]
def Jl(l m:List (Rat×Rat)):List (Rat×Rat):=YV l l.length++Qe m m.length++zhg
theorem zD{α:Type}{l:List α}{i:Nat}{d:α}(h:i<l.length):l.getD i d=l[i]:=by rw[aC,aE h,bL]
theorem QJ{l:List (Rat×Rat)}{i:Nat}(h:i<l.length):nxt' l i∈l:=by
 unfold nxt'
 rw[zD (Nat.mod_lt _ Oz)]
 exact aK _
theorem QI{x y:Int}(hx:x.natAbs<1000 )(hy:y.natAbs<1000):Ql x y=some (qI x,qI y):=by
 unfold Ql
 rw[ofI Oz,ofI Oz]
 rfl
theorem YZ{α:Type}{P:α→Bool}{l:List α}{i:Nat}(hi:i<l.length)(h:(l.take i).all P=true)(g:P l[i]=true):(l.take (i+1)).all P=true:=by
 rw[yz hi,List.all_append,h,List.all_cons,g]
 rfl
theorem QT{α:Type}{P:α→Bool}{l:List α}{i:Nat}(hi:i<l.length)(g:P l[i]=false):l.all P=false:=by
 rw[←Bool.not_eq_true,List.all_eq_true]
 intro h
 rw[h _ (aK hi)]at g
 exact absurd g Uz
section
variable{K:Nat}(hK:Kd K)
include hK
theorem zae{l:List (Rat×Rat)}(h:TriOK K l){p q:Rat×Rat}(hp:p∈l)(b:q∈l):z282 p q=some (nrmV p q)∧V2 K 64 (nrmV p q):=by
 have s:=hK.s1 (c:=4) (B:=400) Uz
 have a:=h.pt _ hp
 have d:=h.pt _ b
 have e1:=h.ed _ hp _ b
 have e2:=h.ed _ b _ hp
 have e:=hK.s0 (B:=64) Uz
 refine⟨?_,e2.2,e1.1⟩
 unfold z282
 rw[z126_v d a s s]
 simp only[aA]
 rw[kL (e2.1.sm e)]
 show some (q.2-p.2,-(q.1-p.1))=some (q.2-p.2,p.1-q.1)
 rw[Rat.neg_sub]
theorem dirs1_mem{l:List (Rat×Rat)}(h:TriOK K l):∀d∈YV l l.length,V2 K 64 d:=by
 intro d hd
 obtain⟨i,hi,rfl⟩:=List.mem_map.mp hd
 have hi:=dT.mp hi
 rw[zD hi]
 exact(zae hK h (aK hi) (QJ hi)).2
theorem dirs2_mem{l:List (Rat×Rat)}(h:TriOK K l):∀d∈Qe l l.length,V2 K 64 d:=by
 intro d hd
 obtain⟨i,hi,rfl⟩:=List.mem_map.mp hd
 have hi:=dT.mp hi
 rw[zD hi]
 exact(zae hK h (QJ hi) (aK hi)).2
omit hK in
theorem axes_mem:∀d∈zhg,V2 K 64 d:=by
 have e:∀{n:Int},n.natAbs≤1→QV K 64 (qI n):=fun{n} h=>by
  have:=(QV.int (B:=64) (show n.natAbs≤64 by omega)).up (k:=K)
  rw[dQ]at this
  exact this
 have a:=e (n:=0) Uz
 have e1:=e (n:=1) Uz
 have e2:=e (n:= -1) Uz
 intro d hd
 simp only[zhg,aL,cH,or_false]at hd
 rcases hd with rfl|rfl|rfl|rfl
 ·exact⟨e1,a⟩
 ·exact⟨a,e1⟩
 ·exact⟨e2,a⟩
 ·exact⟨a,e2⟩
theorem dirs_mem{l m:List (Rat×Rat)}(h:TriOK K l)(g:TriOK K m):∀d∈Jl l m,V2 K 64 d:=by
 intro d hd
 rcases aU.mp hd with hd|hd
 ·rcases aU.mp hd with hd|hd
  ·exact dirs1_mem hK h d hd
  ·exact dirs2_mem hK g d hd
 ·exact axes_mem d hd
omit hK in
theorem Xh{α:Type}(f:Nat→α)(i:Nat):(List.range (i+1)).map f=(List.range i).map f++[f i]:=by rw[List.range_succ,List.map_append];rfl
omit hK in
theorem next_P{l:List (Rat×Rat)}{i:Nat}(hi:i<l.length):idx l (Int.tmod ((i+1:Nat):Int) (l.length:Int))=some (nxt' l i):=by
 have a:(i+1) % l.length<l.length:=Nat.mod_lt _ Oz
 rw[show Int.tmod ((i+1:Nat):Int) (l.length:Int)=(((i+1) % l.length:Nat):Int)from rfl,zt a]
 unfold nxt'
 rw[zD a]
theorem dirsP_ok{l m:List (Rat×Rat)}(h:TriOK K l)(g:TriOK K m):z261 l m=some (Jl l m):=by
 have l1:=h.len
 have l2:=g.len
 unfold z261
 refine zk l.length (fun i x=>x=((i:Int),YV l i)) (fun o=>o=_) Oz rfl ?_ ?_
 ·rintro i x k hi rfl hk
  rw[aF (zM hi)]
  simp only[zt hi,aA,zp (show i<100000 by omega)]
  rw[aD Oz,next_P hi]
  simp only[aA]
  rw[(zae hK h (aK hi) (QJ hi)).1]
  simp only[aA]
  rw[yF (by simp[YV];omega)]
  refine hk _ ?_
  unfold YV
  rw[Xh,zD hi]
 ·rintro x k rfl
  rw[aD Y8]
  refine zk m.length (fun i x=>x=((i:Int),YV l l.length++Qe m i)) (fun o=>o=_) Oz (by simp[Qe]) ?_ ?_
  ·rintro i x k hi rfl hk
   rw[aF (zM hi)]
   simp only[zt hi,aA,zp (show i<100000 by omega)]
   rw[aD Oz,next_P hi]
   simp only[aA]
   rw[(zae hK g (QJ hi) (aK hi)).1]
   simp only[aA]
   rw[yF (by simp[YV,Qe];omega)]
   refine hk _ ?_
   unfold Qe
   rw[Xh,zD hi,bD]
  ·rintro x k rfl
   rw[aD Y8,QI Uz Uz,QI Uz Uz,QI Uz Uz,QI Uz Uz]
   simp only[aA]
   rw[yF (by simp[YV,Qe];omega)]
   rfl
def Jc(t:Rat)(l m:List (Rat×Rat)):Bool:=(Jl l m).any (sepB t l m)
def allB(t:Rat)(l m:List (List (Rat×Rat))):Bool:=l.all fun x=>m.all fun y=>Jc t x y
omit hK in
theorem any_take{α:Type}{P:α→Bool}{l:List α}{i:Nat}(hi:i<l.length)(h:(l.take i).any P=false)(g:P l[i]=false):(l.take (i+1)).any P=false:=by
 rw[yz hi,List.any_append,h,List.any_cons,g];rfl
theorem find_ok{t:Rat}(b:QV 4 4 t){l m:List (Rat×Rat)}(h:TriOK K l)(g:TriOK K m):∃d,z223 l m t=some (d,Jc t l m):=by
 have l1:=h.len
 have l2:=g.len
 have a:=dirs_mem hK h g
 have hl:(Jl l m).length<12:=by simp[Jl,YV,Qe,zhg];omega
 unfold z223 Jc
 rw[dirsP_ok hK h g]
 simp only[aA]
 generalize Jl l m=D at *
 refine zk D.length (fun i x=>x.1=(i:Int)∧(D.take i).any (sepB t l m)=false) (fun o=>∃d,o=some (d,D.any (sepB t l m))) hl ⟨rfl,rfl⟩ ?_ ?_
 ·rintro i ⟨x,y,z⟩ k hi ⟨rfl,hn⟩ hk
  have e1:=sep_ok hK (a _ (aK hi)) b h g
  simp only[zM hi,dP,zt hi,aA,e1,zp (show i<100000 by omega)]
  cases hb:sepB t l m D[i]
  ·exact hk _ ⟨rfl,any_take hi hn hb⟩
  ·exact⟨_,by rw[eU.mpr ⟨_,aK hi,hb⟩];rfl⟩
 ·rintro⟨x,y,z⟩ k ⟨rfl,hn⟩
  rw[aY]at hn
  simp only[Int.lt_irrefl,dU,aX,cK,hn]
  exact⟨_,rfl⟩
theorem all_ok{t:Rat}(f:QV 4 4 t){l m:List (List (Rat×Rat))}(h:∀x∈l,TriOK K x)(g:∀x∈m,TriOK K x)(hl:l.length<5)(e:m.length<5):∃d,z161 l m t=some (d,allB t l m):=by
 unfold z161
 refine zk l.length (fun i x=>x.1=(i:Int)∧(l.take i).all (fun x=>m.all fun y=>Jc t x y)=true∧x.2.2.length≤12*i) (fun o=>∃d,o=some (d,allB t l m)) hl ⟨rfl,rfl,by simp⟩ ?_ ?_
 ·rintro i ⟨x,b,y⟩ k hi ⟨rfl,ha,c⟩ hk
  have c:y.length≤12*i:=c
  simp only[zM hi,dP,zt hi,aA]
  refine zk m.length (fun j x=>x.1=(j:Int)∧(m.take j).all (fun y=>Jc t l[i] y)=true∧x.2.2.length≤12*i+j) (fun o=>∃d,o=some (d,allB t l m)) e ⟨rfl,rfl,c⟩ ?_ ?_
  ·rintro j ⟨x,b,z⟩ k hj ⟨rfl,hb,a⟩ hk
   have a:z.length≤12*i+j:=a
   obtain⟨d,e1⟩:=find_ok hK f (h _ (aK hi)) (g _ (aK hj))
   simp only[zM hj,dP,zt hj,aA,e1]
   cases hf:Jc t l[i] m[j]
   ·refine⟨[],?_⟩
    rw[show allB t l m=false from QT hi (QT hj hf)]
    rfl
   ·simp only[eJ,aX,cK]
    rw[yF (by simp;omega)]
    simp only[aA,zp (show j<100000 by omega)]
    exact hk _ ⟨rfl,YZ hj hb hf,by simp;omega⟩
  ·rintro⟨x,b,z⟩ k ⟨rfl,hb,a⟩
   rw[aY]at hb
   simp only[Int.lt_irrefl,dU,aX,cK,zp (show i<100000 by omega),aA]
   have a:z.length≤12*i+m.length:=a
   exact hk _ ⟨rfl,YZ hi ha hb,by show z.length≤_;omega⟩
 ·rintro⟨x,b,y⟩ k ⟨rfl,ha,c⟩
  rw[aY]at ha
  simp only[Int.lt_irrefl,dU,aX,cK,allB,ha]
  exact⟨_,rfl⟩
end
theorem QV.upl{d B k:Nat}{x:Rat}(h:QV d B x):QV (k*d) B x:=by rw[Nat.mul_comm];exact h.up
structure QuadOK(l:List (Int×Int)):Prop where
 ex:∃a b c d,l=[a,b,c,d]∧(Nr 12 a∧Nr 12 b∧Nr 12 c∧Nr 12 d)∧jz a b c d=true
structure PcOK(p:Pc):Prop where
 quad:QuadOK p.2.2.1
 id:0≤p.1∧p.1≤999
 home:0≤p.2.1∧p.2.1≤4
 worn:p.2.2.2.1.length=4
 marks:p.2.2.2.2.1=[0,0,0,0]
 tol:QV 4 2 p.2.2.2.2.2.1∧0≤p.2.2.2.2.2.1
 light:QV 2 10 p.2.2.2.2.2.2.1∧0<p.2.2.2.2.2.2.1
 heavy:QV 2 10 p.2.2.2.2.2.2.2.1∧p.2.2.2.2.2.2.1≤p.2.2.2.2.2.2.2.1
 strength:p.2.2.2.2.2.2.2.2.1=qI 100
 rough:p.2.2.2.2.2.2.2.2.2=Rat.divInt 1 2
structure PlOK(K:Nat)(v:Pl):Prop where
 turn:V2 K 1 v.1
 at':V2 (K*4) 360 v.2
theorem uE{N:Nat}{a:Int×Int}(h:Nr N a):V2 1 N (ptQ a):=⟨QV.int h.1,QV.int h.2⟩
section
variable{K:Nat}(hK:Kd K){v:Pl}(hv:PlOK K v)
include hK hv
theorem rot_v{a:Int×Int}(h:Nr 12 a):RotOK v.1 (ptQ a)∧V2 K 24 (xL v.1 (ptQ a)):=by
 have hp:=uE h
 have:=V2.rot hv.turn hp
 rw[cG]at this
 exact⟨Xf hv.turn hp (hK.s0 Uz) ⟨by decide,by decide⟩ (hK.s1 Uz),this⟩
theorem zbT{a:Int×Int}(h:Nr 12 a):PutOK v (ptQ a)∧V2 (K*4) 400 (jd v (ptQ a)):=by
 obtain⟨h1,h2⟩:=rot_v hK hv h
 have s:=hK.s0 (B:=24) Uz
 have s2:=hK.s1 (c:=4) (B:=360) Uz
 exact⟨⟨h1,h2.1.sm s,h2.2.sm s,hv.at'.1.sm s2,hv.at'.2.sm s2⟩,(h2.up.add hv.at').le Uz⟩
theorem put_sub{a b:Int×Int}(h:Nr 12 a)(g:Nr 12 b):V2 K 64 (wv (jd v (ptQ a)) (jd v (ptQ b))):=by
 have:=(rot_v hK hv h).2.sub (rot_v hK hv g).2
 have e:wv (jd v (ptQ a)) (jd v (ptQ b))=wv (xL v.1 (ptQ a)) (xL v.1 (ptQ b)):=by
  unfold wv jd
  exact Prod.ext (by show _=_;grind) (by show _=_;grind)
 rw[e]
 exact this.le Uz
theorem Y7{a b c:Int×Int}(ha:Nr 12 a)(hb:Nr 12 b)(hc:Nr 12 c):TriOK K ([a,b,c].map fun p=>jd v (ptQ p)):=by
 have d:∀x∈[a,b,c],Nr 12 x:=by
  intro x hx
  simp only[aL,cH,or_false]at hx
  rcases hx with rfl|rfl|rfl
  ·exact ha
  ·exact hb
  ·exact hc
 refine⟨by simp,fun p hp=>?_,fun p hp q e=>?_⟩
 ·obtain⟨x,hx,rfl⟩:=List.mem_map.mp hp
  exact(zbT hK hv (d _ hx)).2
 ·obtain⟨x,hx,rfl⟩:=List.mem_map.mp hp
  obtain⟨y,f,rfl⟩:=List.mem_map.mp e
  exact put_sub hK hv (d _ hx) (d _ f)
def Z7(p:Pc)(v:Pl):List (List (Rat×Rat)):=match p.2.2.1 with
 | [a,b,c,d]=>XF v (Ws a b c d)
 |_=>[]
theorem zdf{p:Pc}(hp:PcOK p):z162 p v=some (Z7 p v)∧(Z7 p v).length=2∧∀x∈Z7 p v,TriOK K x:=by
 obtain⟨a,b,c,d,e,⟨ha,hb,hc,hd⟩,l⟩:=hp.quad.ex
 have g:=ha.le (M:=1000) Uz
 have h:=hb.le (M:=1000) Uz
 have i:=hc.le (M:=1000) Uz
 have j:=hd.le (M:=1000) Uz
 have m:=(zbT hK hv ha).1
 have n:=(zbT hK hv hb).1
 have o:=(zbT hK hv hc).1
 have kd:=(zbT hK hv hd).1
 have k:Z7 p v=XF v (Ws a b c d):=by unfold Z7;rw[e]
 rw[k]
 refine⟨z162_int g h i j e (quad_eq.trans l) m n o kd,?_,?_⟩
 ·unfold XF Ws
  rw[bI]
  split
  ·rfl
  split
  ·rfl
  split
  ·rfl
  ·rfl
 ·intro x hx
  unfold XF at hx
  obtain⟨t,f,rfl⟩:=List.mem_map.mp hx
  have key:t=[d,a,b]∨t=[b,c,d]∨t=[a,b,c]∨t=[a,c,d]∨t=[a,b,d]∨t=[c,d,a]:=by
   unfold Ws at f
   split at f
   ·simp only[aL,cH,or_false]at f;rcases f with rfl|rfl<;>simp
   split at f
   ·simp only[aL,cH,or_false]at f;rcases f with rfl|rfl<;>simp
   split at f
   ·simp only[aL,cH,or_false]at f;rcases f with rfl|rfl<;>simp
   ·simp only[aL,cH,or_false]at f;rcases f with rfl|rfl<;>simp
  rcases key with rfl|rfl|rfl|rfl|rfl|rfl
  ·exact Y7 hK hv hd ha hb
  ·exact Y7 hK hv hb hc hd
  ·exact Y7 hK hv ha hb hc
  ·exact Y7 hK hv ha hc hd
  ·exact Y7 hK hv ha hb hd
  ·exact Y7 hK hv hc hd ha
def zgw(p q:Pc)(v w:Pl):Bool:= !allB (-(p.2.2.2.2.2.1+q.2.2.2.2.2.1)) (Z7 p v) (Z7 q w)
theorem meet_ok{p q:Pc}(hp:PcOK p)(a:PcOK q){w:Pl}(g:PlOK K w):z202 p q v w=some (zgw p q v w):=by
 obtain⟨b,a3,c⟩:=zdf hK hv hp
 obtain⟨d,b3,e⟩:=zdf hK g a
 have f:=(hp.tol.1.add a.tol.1).neg
 have s:SB 4 4:=⟨by decide,by decide⟩
 obtain⟨r,e1⟩:=all_ok hK f c e Oz Oz
 unfold z202 zgw
 rw[b,d]
 simp only[aA]
 rw[xr (hp.tol.1.sm ⟨by decide,by decide⟩) (a.tol.1.sm ⟨by decide,by decide⟩)]
 simp only[aA]
 rw[kL ((hp.tol.1.add a.tol.1).sm s)]
 simp only[aA]
 rw[e1]
 rfl
end
theorem cmp_tot(x y:Int×Int):∃r,z204 x y=some r:=by
 unfold z204 zdL JA
 simp only[aA]
 repeat' (first|exact⟨_,rfl⟩|(split;skip))
section
variable{P:List Pc}{A:List Pl}{mt:Nat→Nat→Bool}
theorem meets_ok{n:Nat}(hn:n≤4)(D:P.length=n)(hA:A.length=n)(z:∀i k (hi:i<k) (hk:k<n),z202 (P[i]'Oz) P[k] (A[i]'Oz) A[k]=some (mt i k))(m:Int)(bit:Nat→Bool)
 (p:∀i,i<n→decide (zdq (Int.fdiv m (2 ^ min i 64)) 1=1)=bit i) :
 ∃l,z131 P A m=some l∧(0<l.length↔∃i k,i<k∧k<n∧bit i=true∧bit k=true∧mt i k=true):=by
 generalize H:(∃i k,i<k∧k<n∧bit i=true∧bit k=true∧mt i k=true)=C
 unfold z131
 refine zk n (fun k (x:Int×List (Int×Int))=>x.1=(k:Int)∧x.2.length≤3*k∧(0<x.2.length↔∃i j,i<j∧j<k∧bit i=true∧bit j=true∧mt i j=true)) (fun(o:Option (List (Int×Int)))=>∃l,o=some l∧(0<l.length↔C)) ?_ ?_ ?_ ?_
 ·omega
 ·refine⟨rfl,by simp,⟨fun h=>absurd h Y8,?_⟩⟩
  rintro⟨i,j,a,b,c⟩
  omega
 ·rintro k ⟨x,L⟩ g hk ⟨rfl,h1,h2⟩ hg
  rw[aF (by rw[D];exact zM hk)]
  refine zk k (fun i (y:Int×List (Int×Int))=>y.1=(i:Int)∧y.2.length≤3*k+i∧(0<y.2.length↔∃d j,d<j∧(j<k∨j=k∧d<i)∧bit d=true∧bit j=true∧mt d j=true)) (fun(o:Option (List (Int×Int)))=>∃l,o=some l∧(0<l.length↔C)) ?_ ?_ ?_ ?_
  ·omega
  ·refine⟨rfl,h1,h2.trans ⟨?_,?_⟩⟩
   ·rintro⟨d,j,a,b,c⟩
    exact⟨d,j,a,by omega,c⟩
   ·rintro⟨d,j,a,b,c⟩
    exact⟨d,j,a,by omega,c⟩
  ·rintro i ⟨y,L'⟩ w hi ⟨rfl,e1,e2⟩ f
   have e1:L'.length≤3*k+i:=e1
   rw[aF (zM hi),aF Oz]
   simp only[Int.toNat_natCast,p i Oz,p k hk]
   have stay:(bit i=true→bit k=true→mt i k=false)→∀y,y=(((i+1:Nat):Int),L')→(y.1=((i+1:Nat):Int)∧y.2.length≤3*k+(i+1)∧(0<y.2.length↔∃d j,d<j∧(j<k∨j=k∧d<i+1)∧bit d=true∧bit j=true∧mt d j=true)):=by
    rintro B y rfl
    refine⟨rfl,by show L'.length≤_;omega,e2.trans ⟨?_,?_⟩⟩
    ·rintro⟨d,j,a,b,c⟩
     exact⟨d,j,a,by omega,c⟩
    ·rintro⟨d,j,a,b,c⟩
     refine⟨d,j,a,?_,c⟩
     rcases b with b|⟨rfl,b⟩
     ·exact .inl b
     ·refine .inr ⟨rfl,?_⟩
      apply cY
      intro hc
      obtain rfl:d=i:=by omega
      rw[B c.1 c.2.1]at c
      exact absurd c.2.2 Uz
   by_cases s:bit i=true
   ·rw[aF s,aF Oz]
    by_cases u:bit k=true
    ·rw[aF u]
     simp only[zt (show i<P.length by omega),zt (show k<P.length by omega),zt (show i<A.length by omega),zt (show k<A.length by omega),aA,z i k hi hk,zp (show i<100000 by omega)]
     by_cases v:mt i k=true
     ·rw[aF v,yF (by simp;omega)]
      refine f _ ⟨rfl,by simp;omega,⟨fun _=>⟨i,k,hi,.inr ⟨rfl,by omega⟩,s,u,v⟩,fun _=>by simp⟩⟩
     ·rw[aD v]
      exact f _ (stay (fun _ _=>by simpa using v) _ rfl)
    ·rw[aD u,zp (show i<100000 by omega)]
     exact f _ (stay (fun _ h=>absurd h u) _ rfl)
   ·rw[aD s,zp (show i<100000 by omega)]
    exact f _ (stay (fun h=>absurd h s) _ rfl)
  ·rintro⟨y,L'⟩ w ⟨rfl,e1,e2⟩
   have e1:L'.length≤3*k+k:=e1
   rw[aD Y8,zp (show k<100000 by omega)]
   refine hg _ ⟨rfl,by show L'.length≤_;omega,e2.trans ⟨?_,?_⟩⟩
   ·rintro⟨d,j,a,b,c⟩
    exact⟨d,j,a,by omega,c⟩
   ·rintro⟨d,j,a,b,c⟩
    exact⟨d,j,a,by omega,c⟩
 ·rintro⟨x,L⟩ g ⟨rfl,h1,h2⟩
  have h1:L.length≤3*n:=h1
  have hL:L.length≤12:=by omega
  have F:(L.length:Int) % 18446744073709551616=(L.length:Int):=by omega
  rw[aD (by rw[D];simp)]
  dsimp only
  rw[F,aF ⟨by omega,by omega⟩]
  rw[show((L.length:Int)-0)=(L.length:Int)by omega,xh Oz,aA,aF (aH Oz)]
  have fin:∀{o:Option (List (Int×Int))},(∃l,o=some l∧l.length=L.length)→∃l,o=some l∧(0<l.length↔C):=by
   rw[←H]
   rintro o ⟨l,rfl,e⟩
   exact⟨l,rfl,by rw[e];exact h2⟩
  refine fin (zk (L.length-1) (fun i (x:Int×List (Int×Int))=>x.1=((i+1:Nat):Int)∧x.2.length=L.length) (fun(o:Option (List (Int×Int)))=>∃l,o=some l∧l.length=L.length) ?_ ⟨rfl,rfl⟩ ?_ ?_)
  ·omega
  ·rintro i ⟨x,M⟩ g hi ⟨rfl,e⟩ hg
   have e:M.length=L.length:=e
   rw[aF (aH (show((i+1:Nat):Int)<(L.length:Int)by omega))]
   refine zk (i+1) (fun t (x:Int×List (Int×Int))=>t≤i+1∧x.1=((i+1-t:Nat):Int)∧x.2.length=L.length) (fun(o:Option (List (Int×Int)))=>∃l,o=some l∧l.length=L.length) ?_ ⟨by omega,rfl,e⟩ ?_ ?_
   ·omega
   ·rintro t ⟨x,M'⟩ w ht ⟨G,rfl,q⟩ f
    have q:M'.length=L.length:=q
    have p1:i+1-t<M'.length:=by omega
    have p2:i+1-t-1<M'.length:=by omega
    have E:(((i+1-t:Nat):Int)-1)=((i+1-t-1:Nat):Int):=by omega
    obtain⟨r,I⟩:=cmp_tot M'[i+1-t] M'[i+1-t-1]
    rw[aF (aH Oz)]
    simp only[zt p1,aA]
    rw[E,xh (show(((i+1-t-1:Nat):Int)).natAbs<_ by omega)]
    simp only[aA,zt p2,I]
    by_cases c:r<0
    ·rw[aF (aH c)]
     rw[zt (show i+1-t-1<(zE M' (Int.toNat ((i+1-t:Nat):Int)) M'[i+1-t-1]).length by rw[yE];exact p2)]
     simp only[aA]
     exact f _ ⟨by omega,by show _=_;omega,by simp only[yE];exact q⟩
    ·rw[aD (by simp only[aB];exact c),zp (show i+1<100000 by omega)]
     exact hg _ ⟨rfl,q⟩
   ·rintro⟨x,M'⟩ w ⟨G,rfl,q⟩
    rw[aD (by simp only[aB];omega),zp (show i+1<100000 by omega)]
    exact hg _ ⟨rfl,q⟩
  ·rintro⟨x,M⟩ g ⟨rfl,e⟩
   have e:M.length=L.length:=e
   rw[aD (by simp only[aB];omega)]
   exact⟨M,rfl,e⟩
end
def mkP(f:Nat→Bool):Nat→Int
 |0=>0
 |k+1=>if f k=true then orI (mkP f k) (2 ^ k)else mkP f k
theorem mkP_bit(f:Nat→Bool){n i:Nat}(hn:n≤4)(hi:i<n):decide (zdq (Int.fdiv (mkP f n) (2 ^ min i 64)) 1=1)=f i:=by
 have h:∀a b c d:Bool,f 0=a→f 1=b→f 2=c→f 3=d→decide (zdq (Int.fdiv (mkP f n) (2 ^ min i 64)) 1=1)=f i:=by
  intro a b c d h0 h1 h2 g
  have e:n=1∨n=2∨n=3∨n=4:=by omega
  have j:i=0∨i=1∨i=2∨i=3:=by omega
  rcases e with rfl|rfl|rfl|rfl<;>rcases j with rfl|rfl|rfl|rfl<;>(try omega)<;>simp only[mkP,h0,h1,h2,g]<;>clear h0 h1 h2 g hn hi f<;>revert a b c d<;>decide
 exact h _ _ _ _ rfl rfl rfl rfl
section
variable{P:List Pc}{A:List Pl}{R:List Int}{mt:Nat→Nat→Bool}{n:Nat}(hn:n≤4)(hP:P.length=n)(hA:A.length=n)(hR:R.length=n)(hr:∀i (hi:i<n),0≤R[i]∧R[i]<n)
include hn hP hA hR
include hr in
theorem crowdP_ok(s:∀i k (hi:i<k) (hk:k<n),z202 (P[i]'Oz) P[k] (A[i]'Oz) A[k]=some (mt i k))(c:Bool)(hc:c=true↔∃i k,∃(hi:i<k) (hk:k<n),R[i]=R[k]∧mt i k=true):z70 P R A=some c:=by
 unfold z70
 refine zk n (fun r x=>x=(r:Int)∧¬ ∃i k,∃(hi:i<k) (hk:k<n),R[i]=R[k]∧R[i]<r∧mt i k=true) (fun o=>o=some c) Oz ⟨rfl,by rintro⟨i,k,hi,hk,a,b,d⟩;have:=hr i Oz;omega⟩ ?_ ?_
 ·rintro r x g hi ⟨rfl,m⟩ hg
  rw[aF (by rw[hP];exact zM hi)]
  refine zk n (fun k y=>y=(mkP (fun i=>decide (R.getD i 0=(r:Int))) k,(k:Int))) (fun o=>o=some c) Oz rfl ?_ ?_
  ·rintro k y t hk rfl p
   have j:k<R.length:=by omega
   rw[aF (by rw[hR];exact zM hk)]
   simp only[zt j,aA,zp (show k<100000 by omega)]
   by_cases h:R[k]=(r:Int)
   ·rw[aF (aH h),aF ⟨by omega,by omega⟩]
    have e:(1:Int)*2 ^ (Int.toNat (k:Int))=2 ^ k:=by rw[Int.toNat_natCast,Int.one_mul]
    have e2:i64 ((2:Int) ^ k)=some (2 ^ k):=by
     have:k=0∨k=1∨k=2∨k=3:=by omega
     rcases this with rfl|rfl|rfl|rfl<;>exact xh Uz
    rw[e,e2]
    exact p _ (by simp only[mkP,zD j,h,decide_true,dP])
   ·rw[aD (by simp only[aB];exact h)]
    exact p _ (by simp only[mkP,zD j,h,dU,aX,cK])
  ·rintro y t rfl
   rw[aD (by rw[hR];simp)]
   obtain⟨l,h1,h2⟩:=meets_ok hn hP hA s _ (fun i=>decide (R.getD i 0=(r:Int))) (fun i hi=>mkP_bit _ hn hi)
   simp only[h1,aA]
   by_cases h:0<l.length
   ·rw[aF (aH Oz)]
    obtain⟨i,k,a,b,d,e,f⟩:=h2.mp h
    rw[zD Oz]at d e
    congr 1
    refine(hc.mpr ⟨i,k,a,b,?_,f⟩).symm
    rw[dE d,dE e]
   ·rw[aD (by simp only[aB];omega),zp (show r<100000 by omega)]
    refine hg _ ⟨rfl,?_⟩
    rintro⟨i,k,a,b,d,e,f⟩
    by_cases q:R[i]=(r:Int)
    ·refine h (h2.mpr ⟨i,k,a,b,?_,?_,f⟩)
     ·rw[zD Oz];exact aH q
     ·rw[zD Oz];exact aH Oz
    ·exact m ⟨i,k,a,b,d,by omega,f⟩
 ·rintro x g ⟨rfl,m⟩
  rw[aD (by rw[hP];simp)]
  congr 1
  cases c
  ·rfl
  ·obtain⟨i,k,a,b,d,e⟩:=hc.mp rfl
   exact absurd ⟨i,k,a,b,d,(hr i Oz).2,e⟩ m
end
def vm(P:List Pc)(R:List Int)(A:List Pl):Bool:=(List.range P.length).any fun k=>(List.range k).any fun i=>decide (R.getD i 0=R.getD k 0)&&zgw (P.getD i default) (P.getD k default) (A.getD i default) (A.getD k default)
theorem zcW{K n:Nat}(a:Kd K){P:List Pc}{A:List Pl}{R:List Int}(hn:n≤4)(hP:P.length=n)(hA:A.length=n)(hR:R.length=n)(hr:∀i (hi:i<n),0≤R[i]∧R[i]<n)(hp:∀p∈P,PcOK p)(hv:∀v∈A,PlOK K v):z70 P R A=some (vm P R A):=by
 refine crowdP_ok hn hP hA hR hr (mt:=fun i k=>zgw (P.getD i default) (P.getD k default) (A.getD i default) (A.getD k default)) (fun i k hi hk=>?_) _ ?_
 ·rw[zD (show i<P.length by omega),zD (show k<P.length by omega),zD (show i<A.length by omega),zD (show k<A.length by omega)]
  exact meet_ok a (hv _ (aK _)) (hp _ (aK _)) (hp _ (aK _)) (hv _ (aK _))
 ·unfold vm
  simp only[eU,dT,aG,aB]
  constructor
  ·rintro⟨k,hk,i,hi,e,m⟩
   rw[zD (show i<R.length by omega),zD (show k<R.length by omega)]at e
   exact⟨i,k,hi,by omega,e,m⟩
  ·rintro⟨i,k,hi,hk,e,m⟩
   refine⟨k,by omega,i,hi,?_,m⟩
   rw[zD (show i<R.length by omega),zD (show k<R.length by omega)]
   exact e
end Go.Proofs.YtocnbjjmmgolfaaGreat
