/- The program: a tree fit into the forest (printed by mkTe.py out of an older text). -/
import Derived.Test.YtocnbjjmmgolfaaGreatA28
import Derived.Test.YtocnbjjmmgolfaaGreatA27
import Derived.Test.YtocnbjjmmgolfaaGreatA13
import Derived.Test.YtocnbjjmmgolfaaGreatA12
set_option linter.unusedSimpArgs false
set_option linter.unusedVariables false
set_option linter.unusedSectionVars false
namespace Go.Proofs.YtocnbjjmmgolfaaGreat
open Go Go.M Go.Proofs.C14
theorem Te:vM Tryz.f46 (Tryz.f46.body.getD .skip) 2=true:=by kernel_rfl
section
variable{P:Program}{I:zZ}{F:FF}{s:St}{Q:FF->St->Prop}{W:List Nat}{s0:St}{L:au}{n:Nat}
theorem YY{D:au}{fr:List Nat}{ops:List Oper}{ix anc:Nat}{free:List Nat}{rest:List an}{d:Option Tmp}{ty:TypeId}{pos:String}{af:Array Edge}{g:Option (Nat×Bool)}{ag:Array Operand}{ts:Array TypeId}{t t2 e e2:TypeId}{tr:List TypeId}{x y:Operand}{v:Value}{sz by_ m len:Nat}{z l c:List Value}
 (i:zH ops ix=some ⟨d,.call ⟨.builtin .append,ag,ts⟩,ty,pos,af,g⟩) (hw:ym ops F ⟨d,.call ⟨.builtin .append,ag,ts⟩,ty,pos,af,g⟩=true) (f:yi ops F free=fr)
 (H:HL W s0 s (D++L) n) (j:∀q∈D,q.1∉fr) (u:∀p∈fr,p<s.next) (ho:hG e sz D v c len) (hs:qg P t=some (e,sz,by_,z)) (o:P.underlying t2=some (.slice e2))
 (w:ts.toList=t::t2::tr) (ha:ag.toList=[x,y]) (hx:zd F x=v) (he:kQ s sz (zd F y) m l) (hm:0<m) (hp:l.all Go.M.plainCell=true) (hl:l.length=m*sz) (hb:(len+m)*(by_+1)<=1073741824) (hr:s0.next+n<zA)
 (k:∀b s',HL W s0 s' ((b,.cells (c++l) e)::L) (n+1)->yX P I ops rest (ba F d (.slice (some ⟨b,0,none⟩) (len+m) (2*(len+m)+1))) s' Q):yX P I ops (⟨ix,anc,.whole,free⟩::rest) F s Q:=by
 refine yw i hw ?_
 rw[f]
 have H1:=HL.narrow H j u
 rw[<-bP D]at H1
 refine uc (L:=[]) H1 ho hs o w ha hx he hm hp hl hb (by have:=H.most;show s.next+0<zA;omega) (λb s' r _=>?_)
 refine k b _ (HL.callW (A:=D) (L:=L) H (HL.wider H.fine (aN _) (λ_ h=>bA _ h) (by rw[bP]at r;exact r)) (λb hb=>?_) (λp hp=>eY hp))
 obtain⟨p,hp,rfl⟩:=List.mem_map.mp hb
 exact⟨p.2,hp⟩
end
abbrev E0:au×Value:=([],.slice none 0 0)
def wk(vl:Value)(es:List (au×Value)):List Value:=vl::es.map Prod.snd
def xz(es:List (au×Value)):au:=(es.map Prod.fst).flatten
structure tF(es:List (au×Value))(r:Nat->List Int):Prop where
 len:es.length=12
 own:∀v,v<12->hG tI 1 (es.getD v E0).1 (es.getD v E0).2 (xk (r v)) (r v).length
theorem we:∀{es:List (au×Value)} {a:Nat} (_:a<es.length) (x:au×Value),(xz (es.set a x)).Perm (x.1++xz (es.set a E0))
 | [],_,h,_=>by simp at h
 |e::es,0,_,x=>by simp[xz]
 |e::es,a+1,h,x=>by
  have:=we (es:=es) (a:=a) (by simpa using h) x
  simp only[xz,List.set_cons_succ,List.map_cons,cT]
  exact(this.append_left e.1).trans (dG _ _ _)
theorem WP{es:List (au×Value)}{a:Nat}(h:a<es.length):es.set a (es.getD a E0)=es:=by
 rw[aB,aE h];simp
section
variable{W:List Nat}{s0 s:St}{n:Nat}{p0 p1:Nat×ak}{R:au}{es:List (au×Value)}{a:Nat}
theorem zaL(H:HL W s0 s (p0::p1::(xz es++R)) n)(h:a<es.length):HL W s0 s ((es.getD a E0).1++(p0::p1::(xz (es.set a E0)++R))) n:=by
 refine H.perm ?_
 have h1:=we h (es.getD a E0)
 rw[WP h]at h1
 refine((h1.append_right R).append_left [p0,p1]).trans ?_
 rw[bF]
 exact dG [p0,p1] _ _
theorem oY{q:Nat×ak}{v:Value}(H:HL W s0 s (q::p0::p1::(xz (es.set a E0)++R)) n)(h:a<es.length):HL W s0 s (p0::p1::(xz (es.set a ([q],v))++R)) n:=by
 refine H.perm ?_
 have h1:=we h (([q],v):au×Value)
 refine(dG [q] [p0,p1] _).trans (List.Perm.append_left [p0,p1] ?_)
 have h2:=h1.symm.append_right R
 rw[bF]at h2
 exact h2
end
theorem gZ{es:List (au×Value)}{a:Nat}(h:a<es.length):(es.map Prod.snd)[a]? = some (es.getD a E0).2:=by
 rw[List.getElem?_map,aB,aE h];rfl
theorem ZX{vl:Value}{es:List (au×Value)}{x:Int}(h0:0<=x)(h:x.toNat<es.length):zH (wk vl es) (0+1+x.toNat*1)=some (es.getD x.toNat E0).2:=by
 rw[show 0+1+x.toNat*1=x.toNat+1 by omega,zN]
 show(vl::es.map Prod.snd)[x.toNat+1]? = _
 rw[cR,gZ h]
theorem uv{vl v:Value}{D:au}:∀{es:List (au×Value)} {a:Nat} (_:a<es.length),yK a [v] (es.map Prod.snd)=some ((es.set a (D,v)).map Prod.snd)
 | [],_,h=>by simp at h
 |e::es,0,_=>rfl
 |e::es,a+1,h=>by
  simp only[List.map_cons,yK,List.set_cons_succ,uv (vl:=vl) (v:=v) (D:=D) (es:=es) (a:=a) (by simpa using h)]
theorem Qi{vl v:Value}{D:au}{es:List (au×Value)}{x:Int}(h:x.toNat<es.length):yK (0+1+x.toNat*1) [v] (wk vl es)=some (wk vl (es.set x.toNat (D,v))):=by
 rw[show 0+1+x.toNat*1=x.toNat+1 by omega]
 unfold wk
 simp only[yK,uv (vl:=vl) (D:=D) h]
theorem tF.set{es:List (au×Value)}{r:Nat->List Int}(h:tF es r){a:Nat}(ha:a<12){D:au}{v:Value}{x:Int}(ho:hG tI 1 D v (xk (r a++[x])) (r a++[x]).length):tF (es.set a (D,v)) (λb=>if b=a then r a++[x]else r b):=by
 refine⟨by rw[bR];exact h.len,λb hb=>?_⟩
 rw[aB,List.getElem?_set]
 by_cases e:a=b
 .subst e
  simp only[aG,h.len,aG ha,bN]
  exact ho
 .rw[aD e,<-aB]
  simp only[aD (Ne.symm e)]
  exact h.own b hb
theorem nF{e:Nat->Int×Int}{tr:List Nat}{k:Nat}{v:Int}:adj e (tr++[k]) v=adj e tr v++(if dO e k v then [k]else []):=by
 unfold adj
 rw[List.filter_append]
 by_cases h:dO e k v
 .simp[List.filter_cons,h]
 .simp[List.filter_cons,h]
theorem tF.cong{es:List (au×Value)}{r b:Nat->List Int}(h:tF es r)(c:∀v,v<12->r v=b v):tF es b:=⟨h.len,λv hv=>by rw[<-c v hv];exact h.own v hv⟩
abbrev ie(l:List Fq)(tr:List Nat)(es:List (au×Value)):Prop:=tF es λv=>ey (adj (az l) tr (v:Int))
theorem lF{l:List Fq}{tr:List Nat}{k:Nat}{es:List (au×Value)}(h0:0<=(az l k).1)(h1:(az l k).1<(az l k).2)(h:tF es (λb=>if b=(az l k).2.toNat then(if (az l k).2.toNat=(az l k).1.toNat then ey (adj (az l) tr ((az l k).1.toNat:Int))++[(k:Int)]else ey (adj (az l) tr ((az l k).2.toNat:Int)))++[(k:Int)]else if b=(az l k).1.toNat then ey (adj (az l) tr ((az l k).1.toNat:Int))++[(k:Int)]else ey (adj (az l) tr (b:Int)))):ie l (tr++[k]) es:=by
 refine h.cong λv hv=>?_
 rw[nF]
 by_cases hb:v=(az l k).2.toNat
 .rw[aG hb,aD Oz,aG (show dO (az l) k v by unfold dO;omega),YJ,hb]
 .by_cases ha:v=(az l k).1.toNat
  .rw[aD hb,aG ha,aG (show dO (az l) k v by unfold dO;omega),YJ,ha]
  .rw[aD hb,aD ha,aD (show ¬dO (az l) k v by unfold dO;omega),bP]
set_option maxHeartbeats 4000000 in
set_option maxRecDepth 10000 in
theorem nD{I:zZ}(Z:zx I){U:Wd}{L:List (List Value)}{s0 s:St}{bt n:Nat}{vl:Value}{l:List Fq}{es:List (au×Value)}{R:au}{r:Nat->List Int}{k:Nat}(H:HL [] s0 s ((bt,.cells (wk vl es) 94)::(xz es++R)) n)(hl:Sl s0 40 29 vl L)(E:fc U L l)(Y:∀k,k<l.length->0<=(az l k).1/\(az l k).1<(az l k).2/\(az l k).2<12)(hk:k<l.length)(h100:l.length<=100)(f:tF es r)(o:∀v,(r v).length<=1000)(hroom:n+s0.next+20<=zA) :
 ∃v' s',vr Tryz.prog I 46 #[.pointer (some ⟨bt,0,none⟩),.int .i64 (k:Int)] s v' s'/\(∃u,v'=.tuple ⟨[]⟩/\HL [] s0 s' ((bt,.cells (wk vl u) 94)::(xz u++R)) (n+20)/\tF u (λb=>if b=(az l k).2.toNat then(if (az l k).2.toNat=(az l k).1.toNat then r (az l k).1.toNat++[(k:Int)]else r (az l k).2.toNat)++[(k:Int)]else if b=(az l k).1.toNat then r (az l k).1.toNat++[(k:Int)]else r b)):=by
 obtain⟨al,ll,cl,O,C⟩:=hl.isSlice
 subst O
 rw[E.len]at C
 subst C
 have m:=E.fit k hk
 obtain⟨b1,off1,c1_,J,K,hb1,G⟩:=zfl hl E hk
 subst J
 obtain⟨V,S,X⟩:=Y k hk
 have e1:(az l k).1=(l.getD k default).1:=rfl
 have e2:(az l k).2=(l.getD k default).2.1:=rfl
 rw[e1]at V S
 rw[e2]at S X
 rw[e1,e2]
 refine qz 2 (Z 46) Tryz.func46 rfl Te rfl ?_
 refine zh (v7 rfl (kv rfl (zD pT rfl (ye OW rfl H.own0 rfl (zg rfl (yd GN rfl rfl Oz Oz (qo HM rfl (H.old hb1 K) G (xT H Kb Oz (λz s1 H=>?_)))))))))
 refine xp (vs:=L.getD k []) H HV rfl rfl (xo m.len) m.plain (yM (by rw[m.len];rfl)) Oz (λT H=>?_)
 refine zb (vW [⟨0,0,.light,[2,5,9]⟩,⟨1,0,.light,[5,9]⟩,⟨2,2,.light,[5,9]⟩,⟨3,0,.light,[2,5]⟩,⟨4,0,.light,[2]⟩,⟨5,16,.light,[2]⟩,⟨6,8,.light,[2,5]⟩,⟨7,72,.light,[2,5]⟩,⟨8,248,.light,[2]⟩,⟨9,504,.light,[2]⟩,⟨10,0,.light,[2,5,9]⟩,⟨13,1,.light,[2,5,9]⟩,⟨14,8193,.light,[2,5,9]⟩,⟨11,1024,.whole,[2,5,9]⟩,⟨12,4088,.whole,[2]⟩,⟨15,32767,.light,[]⟩,⟨16,65535,.whole,[]⟩] Z0 Z0 (za rfl rfl (v7 rfl ⟨rfl,(za rfl rfl (zD Sc rfl ⟨rfl,(yH rfl rfl fu rfl H.own0 (H.lim0 Oz) m.a (za rfl rfl (v7 rfl ⟨rfl,(za rfl rfl (zD Sc rfl ⟨rfl,(yH rfl rfl fu rfl H.own0 (H.lim0 Oz) m.a (za rfl rfl (kv rfl ⟨rfl,(za rfl rfl (zD KY rfl ⟨rfl,(za rfl rfl (jJ oM rfl rfl Oz Oz ⟨rfl,(yH rfl rfl Kx rfl H.own1 (H.lim1 Oz) (ZX (es:=es) (x:=(l.getD k default).1) Oz (by rw[f.len];omega)) ?_)⟩))⟩))⟩)))⟩))⟩)))⟩))⟩)))
 refine za rfl rfl (zg rfl ⟨rfl,(za rfl rfl (kv rfl ⟨rfl,(za rfl rfl (zD KY rfl ⟨rfl,(yw rfl rfl (xO (c:=[.int _ _]) (Fine.pr H.fine (Zp H.lt0 (Zp H.lt0 (Zp H.lt1 F8)))).hl uW rfl rfl (H.rm (k:=1) Oz) (λb23 s2 Hc=>?_)))⟩))⟩))⟩)
 have H:=H.call (HL.wider H.fine (aN _) (λ_ h=>bA _ h) Hc)
 clear Hc
 have hgt:=H.own0
 have H:=zaL (es:=es) (a:=((l.getD k default).1).toNat) H.drop0 (by rw[f.len];omega)
 have hrl:=o ((l.getD k default).1).toNat
 refine YY rfl rfl (fr:=[z]) rfl H (λq m j=>by rw[bC]at j;exact(List.pairwise_append.mp H.dist).2.2 q m (z,.cells (L.getD k []) 40) Y8 j) (λp hp=>by rw[bC]at hp;rw[hp];exact(H.own (z,.cells (L.getD k []) 40) Y8).2.1) (f.own ((l.getD k default).1).toNat Oz) uW Xf rfl rfl rfl (qD hgt rfl) Uz rfl rfl (by have:=o ((l.getD k default).1).toNat;omega) Oz (λe s24 H=>?_)
 refine za rfl rfl (jJ oM rfl rfl Oz Oz ⟨rfl,(XE (vs:=[.slice _ _ _]) (fr:=[]) H rfl rfl I6 rfl rfl rfl rfl (Qi (es:=es) (D:=[(e,.cells (xk (r ((l.getD k default).1).toNat)++[.int .i64 (k:Int)]) tI)]) (by rw[f.len];omega)) rfl V1 Oz (λT H=>?_))⟩)
 have H:=oY (v:=.slice (some ⟨e,0,none⟩) ((r ((l.getD k default).1).toNat).length+1) (2*((r ((l.getD k default).1).toNat).length+1)+1)) H (by rw[f.len];omega)
 refine yS ?_
 have w:=(Ze (r ((l.getD k default).1).toNat) (k:Int))
 have y:hG tI 1 [(e,ak.cells (xk (r ((l.getD k default).1).toNat)++[.int .i64 (k:Int)]) tI)] (.slice (some ⟨e,0,none⟩) ((r ((l.getD k default).1).toNat).length+1) (2*((r ((l.getD k default).1).toNat).length+1)+1)) (xk (r ((l.getD k default).1).toNat++[(k:Int)])) (r ((l.getD k default).1).toNat++[(k:Int)]).length:=by rw[w,aQ];exact .block e _ _ _ (by rw[aQ,gh];simp) Oz
 have d:=f.set (a:=((l.getD k default).1).toNat) Oz y
 have t:∀v,((λb=>if b=((l.getD k default).1).toNat then r ((l.getD k default).1).toNat++[(k:Int)]else r b) v).length<=1001:=λv=>by simp only;split;(rw[aQ,List.length_singleton];have:=o ((l.getD k default).1).toNat;omega);(have:=o v;omega)
 obtain⟨i,A⟩:∃i,i=es.set ((l.getD k default).1).toNat ([(e,ak.cells (xk (r ((l.getD k default).1).toNat)++[.int .i64 (k:Int)]) tI)],.slice (some ⟨e,0,none⟩) ((r ((l.getD k default).1).toNat).length+1) (2*((r ((l.getD k default).1).toNat).length+1)+1)):=⟨_,rfl⟩
 rw[<-A]at H d
 generalize N:(λb=>if b=((l.getD k default).1).toNat then r ((l.getD k default).1).toNat++[(k:Int)]else r b)=r1 at d t
 refine uz [⟨0,0,.light,[2,5,9]⟩,⟨1,0,.light,[5,9]⟩,⟨2,2,.light,[5,9]⟩,⟨3,0,.light,[2,5]⟩,⟨4,0,.light,[2]⟩,⟨5,16,.light,[2]⟩,⟨6,8,.light,[2,5]⟩,⟨7,72,.light,[2,5]⟩,⟨8,248,.light,[2]⟩,⟨9,504,.light,[2]⟩,⟨10,0,.light,[2,5,9]⟩,⟨13,1,.light,[2,5,9]⟩,⟨14,8193,.light,[2,5,9]⟩,⟨11,1024,.whole,[2,5,9]⟩,⟨12,4088,.whole,[2]⟩,⟨15,32767,.light,[]⟩,⟨16,65535,.whole,[]⟩] Z0 Z0 (za rfl rfl (v7 rfl ⟨rfl,(za rfl rfl (zD KZ rfl ⟨rfl,(yH rfl rfl fu rfl H.own0 (H.lim0 Oz) m.b (za rfl rfl (v7 rfl ⟨rfl,(za rfl rfl (zD KZ rfl ⟨rfl,(yH rfl rfl fu rfl H.own0 (H.lim0 Oz) m.b (za rfl rfl (kv rfl ⟨rfl,(za rfl rfl (zD KY rfl ⟨rfl,(za rfl rfl (jJ oM rfl rfl Oz Oz ⟨rfl,(yH rfl rfl Kx rfl H.own1 (H.lim1 Oz) (ZX (es:=i) (x:=(l.getD k default).2.1) Oz (by rw[d.len];omega)) (za rfl rfl (zg rfl ⟨rfl,?_⟩)))⟩))⟩))⟩)))⟩))⟩)))⟩))⟩))
 refine za rfl rfl (kv rfl ⟨rfl,(za rfl rfl (zD KY rfl ⟨rfl,(yw rfl rfl (xO (c:=[.int _ _]) (Fine.pr H.fine (Zp H.lt0 (Zp H.lt0 (Zp H.lt1 F8)))).hl uW rfl rfl (H.rm (k:=1) Oz) (λb39 s3 Hc=>?_)))⟩))⟩)
 have H:=H.call (HL.wider H.fine (aN _) (λ_ h=>bA _ h) Hc)
 clear Hc
 have hgt:=H.own0
 have H:=zaL (es:=i) (a:=((l.getD k default).2.1).toNat) H.drop0 (by rw[d.len];omega)
 skip
 refine YY rfl rfl (fr:=[z]) rfl H (λq m j=>by rw[bC]at j;exact(List.pairwise_append.mp H.dist).2.2 q m (z,.cells (L.getD k []) 40) Y8 j) (λp hp=>by rw[bC]at hp;rw[hp];exact(H.own (z,.cells (L.getD k []) 40) Y8).2.1) (d.own ((l.getD k default).2.1).toNat Oz) uW Xf rfl rfl rfl (qD hgt rfl) Uz rfl rfl (by have:=t ((l.getD k default).2.1).toNat;omega) Oz (λg s40 H=>?_)
 refine za rfl rfl (jJ oM rfl rfl Oz Oz ⟨rfl,(XE (vs:=[.slice _ _ _]) (fr:=[]) H rfl rfl I6 rfl rfl rfl rfl (Qi (es:=i) (D:=[(g,.cells (xk (r1 ((l.getD k default).2.1).toNat)++[.int .i64 (k:Int)]) tI)]) (by rw[d.len];omega)) rfl V1 Oz (λT H=>?_))⟩)
 have H:=oY (v:=.slice (some ⟨g,0,none⟩) ((r1 ((l.getD k default).2.1).toNat).length+1) (2*((r1 ((l.getD k default).2.1).toNat).length+1)+1)) H (by rw[d.len];omega)
 refine yS (Go.M.nrm_end (Q3 ?_))
 have w:=(Ze (r1 ((l.getD k default).2.1).toNat) (k:Int))
 have y:hG tI 1 [(g,ak.cells (xk (r1 ((l.getD k default).2.1).toNat)++[.int .i64 (k:Int)]) tI)] (.slice (some ⟨g,0,none⟩) ((r1 ((l.getD k default).2.1).toNat).length+1) (2*((r1 ((l.getD k default).2.1).toNat).length+1)+1)) (xk (r1 ((l.getD k default).2.1).toNat++[(k:Int)])) (r1 ((l.getD k default).2.1).toNat++[(k:Int)]).length:=by rw[w,aQ];exact .block g _ _ _ (by rw[aQ,gh];simp) Oz
 have B:=d.set (a:=((l.getD k default).2.1).toNat) Oz y
 refine⟨_,rfl,H.drop0.up Oz,?_⟩
 exact B.cong λv _=>by subst N;rfl
theorem SW:VT Tryz.prog 94=some ([.slice none 0 0,.slice none 0 0,.slice none 0 0,.slice none 0 0,.slice none 0 0,.slice none 0 0,.slice none 0 0,.slice none 0 0,.slice none 0 0,.slice none 0 0,.slice none 0 0,.slice none 0 0,.slice none 0 0],[(0,1),(1,12)]):=by kernel_rfl
theorem Tc:vM Tryz.f11 (Tryz.f11.body.getD .skip) 2=true:=by kernel_rfl
theorem Th:xE Tryz.prog 17=true:=by kernel_rfl
theorem Tj:xE Tryz.prog 44=true:=by kernel_rfl
theorem NU:xE Tryz.prog 45=true:=by kernel_rfl
theorem Tk:xE Tryz.prog 46=true:=by kernel_rfl
theorem Tl:xE Tryz.prog 47=true:=by kernel_rfl
theorem To:xE Tryz.prog 48=true:=by kernel_rfl
theorem OZ:qg Tryz.prog 42=some (36,8,128,[.bool false,.slice none 0 0,.bool false,.slice none 0 0,.bool false,.slice none 0 0,.bool false,.slice none 0 0]):=by kernel_rfl
theorem P5:Tryz.prog.underlying 24=some (.slice 40):=by kernel_rfl
theorem Wr:Tryz.prog.underlying 42=some (.slice 36):=by kernel_rfl
def xG(n:Nat)(F:List Fq):List Int:=cf (az F) n F.length
def qY(n:Nat)(F:List Fq)(i:Nat):Q2:=qe (az F) (dw F) ((way (az F) (yJ (az F) F.length) ((xG n F).getD i 0) i).getD []) ((xG n F).getD i 0) zU
def ZE(n:Nat)(F:List Fq):List Q2×List Int×Int:=
 match first (az F) (dw F) F.length with
 |some (k,r)=>([],(ey r).foldl Vm [(k:Int)],14)
 |none=>((List.range n).map (qY n F),[],0)
structure Gn(n:Nat)(F:List Fq):Prop where
 n4:n<=4
 l6:F.length<=6
 right:tN (n:Int) F=some true
 ends:∀f∈F,0<=f.1/\f.1<f.2.1/\f.2.1<(n:Int)
 tn:∀f∈F,Tn 25 f.2.2.2.2.2.1
open Classical in
noncomputable def FH(n:Int)(F:List Fq):Option (List Q2×List Int×Int):=if 0<=n/\Gn n.toNat F then some (ZE n.toNat F)else none
theorem sF{n:Int}{F:List Fq}{r:List Q2×List Int×Int}(h:FH n F=some r):(0<=n/\Gn n.toNat F)/\r=ZE n.toNat F:=by
 unfold FH at h
 split at h
 .next hp=>exact⟨hp,(dD h).symm⟩
 .cases h
theorem Ko{n:Nat}{F:List Fq}{k:Nat}{r:List Nat}(h:first (az F) (dw F) F.length=some (k,r)):ZE n F=([],(ey r).foldl Vm [(k:Int)],14):=by rw[ZE,h]
theorem WH{n:Nat}{F:List Fq}(h:first (az F) (dw F) F.length=none):ZE n F=((List.range n).map (qY n F),[],0):=by rw[ZE,h]
section
variable{e:Nat->Int×Int}{T:Nat->Q2}
theorem ZT{n:Nat}(h:first e T n=none):first e T (n+1)=(jj e T n).map (n, ·):=by rw[first,h]
theorem zfm{n:Nat}{x:Nat×List Nat}(h:first e T n=some x):∀{m:Nat},n<=m->first e T m=some x:=λ{m} hm=>by
 induction hm with
 |refl=>exact h
 |step _ a=>rw[first,a]
theorem zfK{k:Nat}(h:way e (yJ e k) (e k).1 (e k).2=none):jj e T k=none:=by unfold jj;rw[h]
theorem nV{k:Nat}{r:List Nat}(h:way e (yJ e k) (e k).1 (e k).2=some r)(h2:qe e T r (e k).1 zU=T k):jj e T k=none:=by unfold jj;rw[h];exact aG h2
theorem zfJ{k:Nat}{r:List Nat}(h:way e (yJ e k) (e k).1 (e k).2=some r)(h2:¬qe e T r (e k).1 zU=T k):jj e T k=some r:=by unfold jj;rw[h];exact aD h2
theorem zdQ:∀{a:Nat} (r:List Nat) (_:∀k∈r,Tn 25 (T k)) (v:Int) {t:Q2} (_:Tn (25 ^ a) t),Tn (25 ^ (a+r.length)) (qe e T r v t)
 |_,[],_,_,_,h=>h
 |a,k::r,b,v,t,h=>by
  have hk:=b k (aO ..)
  have h2:Tn (25 ^ (a+1)) (aft t (if (e k).1=v then T k else bck (T k))):=by
   rw[Nat.pow_succ]
   refine h.aft ?_
   split
   .exact hk
   .exact hk.bck
  have:=zdQ r (λj hj=>b j (aP _ hj)) (oth e k v) h2
  rw[aU,show a+(r.length+1)=a+1+r.length by omega]
  exact this
end
theorem BH{a b:Q2}(h:Tn (25 ^ 6) a)(g:Tn (25 ^ 6) b):m7 a b=some (decide (a=b)):=by
 have h1:=Tn.sm h Uz
 have g1:=Tn.sm g Uz
 have e1:(decide (a=b))=(decide (a.1=b.1)&&decide (a.2=b.2)):=by
  rw[<-Bool.decide_and]
  congr 1
  exact propext ⟨λq=>by rw[q];exact⟨rfl,rfl⟩,λq=>Prod.ext q.1 q.2⟩
 unfold m7
 rw[jG h1.1 g1.1,jG h1.2 g1.2,e1]
 simp only[aA]
 cases decide (a.1=b.1)<;>rfl
theorem d44:qt 44 77222 [.int .i64,fH] .bool λx=>tN x.1 x.2:=t44 44 _ rfl
theorem d17:qt 17 77319 [.int .i64,fH] S3 λx=>tL x.1 x.2:=t17 17 _ rfl
theorem d47:qt 47 26 [bG,bG] .bool λx=>m7 x.1 x.2:=t47 47 _ rfl
theorem lP{α:Type}{m:Nat}{c l r:List α}(h:y8 m c=some l):y8 m (c++r)=some l:=by
 rw[y7]at h |-
 split at h
 .rw[aG (by rw[aQ];omega),List.take_append_of_le_length Z1];exact h
 .cases h
theorem zaN{sz:Nat}{es:List (List Value)}{r:List Value}(h:∀x∈es,x.length=sz){k:Nat}(hk:k<es.length):y8 sz (xr (0+k*sz) (es.flatten++r))=some (es.getD k []):=by
 have h1:=gl h hk
 have h2:0+k*sz<=es.flatten.length:=by
  rw[qQ h];have:=bQ sz (Nat.le_of_lt hk);omega
 rw[yR,List.drop_append_of_le_length h2]
 rw[yR]at h1
 exact lP h1
theorem rB{U:Wd}{b cap len:Nat}{l:List Int}{rest:List Value}(hl:len=l.length)(hc:l.length<=cap / 2):ax (U.x [(b,.cells (xk l++rest) tI)]) S3 [.slice (some ⟨b,0,none⟩) len cap] l:=by
 subst hl
 have a:∀x∈l.map dc,x.length=1:=λx hx=>by obtain⟨y,_,rfl⟩:=List.mem_map.mp hx;rfl
 refine⟨_,_,l.map dc,rfl,.inr (.block b 0 cap _ (by rw[bI]) (bC.mpr rfl) (by rw[bI];exact hc) λk hk=>?_),bI _,λk x h=>?_⟩
 .have h1:=zaN (r:=rest) a hk
  rw[<-lJ]at h1
  exact h1
 .obtain⟨hk,rfl⟩:=aM.mp h
  rw[YM (y:=0) hk,aB,aE hk]
  rfl
theorem HB{s:St}{U:Wd}(g:et s U){a:Option Addr}{n cap:Nat}{l:List Int}(hl:l.length=n)(h:ax U S3 [.slice a n cap] l){i:Nat}(hi:i<n):∃b off c,a=some ⟨b,off,none⟩/\s.get b=some (.cells c tI)/\b<s.next/\zH c (off+(i:Int).toNat*1)=some (.int .i64 (l.getD i 0)):=by
 subst hl
 obtain⟨a',cap',L,he,j,hn,hx⟩:=h
 cases he
 obtain⟨b,off,c,e,h1,h2,d⟩:=(g.s _ _ _ _ j).at (i:=(i:Int)) rfl (by rw[hn];exact hi)
 refine⟨b,off,c,e,h1,h2,?_⟩
 have f:L.getD i []=[.int .i64 (l.getD i 0)]:=by
  rw[aB (l:=l),aE hi]
  exact hx i l[i] (aE hi)
 rw[Int.toNat_natCast,f]at d
 exact qx d
theorem zhu{P:Program}{F:FF}{s:St}{Post:Value->St->Prop}{t t2 t3:Nat}{v w x:Value}(h1:F t=v)(h2:F t2=w)(a:F t3=x)(h:Post (.tuple ⟨[v,w,x]⟩) s):fq P [.tmp t,.tmp t2,.tmp t3] Post F s:=by
 constructor
 simp only[qP,h1,h2,a]
 exact h
theorem Tv{α:Type}:∀{l:List α} (_:l.length=8),∃a b c d e f g h,l=[a,b,c,d,e,f,g,h]
 | [a,b,c,d,e,f,g,h],_=>⟨a,b,c,d,e,f,g,h,rfl⟩
 | [],h | [_],h | [_,_],h | [_,_,_],h | [_,_,_,_],h | [_,_,_,_,_],h | [_,_,_,_,_,_],h | [_,_,_,_,_,_,_],h=>by cases h
 |_::_::_::_::_::_::_::_::_::_,h=>by simp only[aU]at h;omega
theorem GV{α:Type}{a x:α}:∀{k:Nat},[a][k]? = some x->k=0/\x=a
 |0,h=>⟨rfl,(dD h).symm⟩
 |_+1,h=>by cases h
theorem o5{l:List Fq}:ie l [] (List.replicate 12 E0):=⟨by simp,λv hv=>by
 have e:(List.replicate 12 E0).getD v E0=E0:=by rw[aB,List.getElem?_replicate];split<;>rfl
 rw[e]
 exact .nil⟩
theorem jR:∀{es:List (au×Value)} {v:Nat} (_:v<es.length),(es.getD v E0).1⊆xz es
 | [],_,h=>by simp at h
 |e::es,0,_=>λp hp=>by simp only[xz,List.map_cons,cT];exact bJ _ hp
 |e::es,v+1,h=>λp hp=>by
  simp only[xz,List.map_cons,cT]
  exact bA _ (jR (es:=es) (v:=v) (by simpa using h) hp)
theorem ie.sld{l:List Fq}{tr:List Nat}{es:List (au×Value)}(h:ie l tr es){W:List Nat}{s0 s:St}{L:au}{n:Nat}(H:HL W s0 s L n)(hs:xz es⊆L){v:Int}(h0:0<=v)(h1:v<12):Ld s (es.getD v.toNat E0).2 (ey (adj (az l) tr v)):=by
 have h2:=(hG.slIn (h.own v.toNat Oz)).2.sl H λp hp=>hs (jR (by rw[h.len];omega) hp)
 rwa[Int.toNat_of_nonneg h0]at h2
theorem ie.get{l:List Fq}{tr:List Nat}{es:List (au×Value)}(h:ie l tr es){vl:Value}{v:Int}(h0:0<=v)(h1:v<12):zH (wk vl es) (1+v.toNat)=some (es.getD v.toNat E0).2:=by
 have:=ZX (vl:=vl) (es:=es) h0 (by rw[h.len];omega)
 rwa[show 0+1+v.toNat*1=1+v.toNat by omega]at this
theorem Wy.whole{D:au}{v:Value}{r:List Nat}{k:Nat}(h:Wy D v (r++[k])):∃b cap rest,D=[(b,.cells (xk (ey (r++[k]))++rest) tI)]/\v=.slice (some ⟨b,0,none⟩) (ey (r++[k])).length cap/\(ey (r++[k])).length<=cap / 2:=by
 generalize a:r++[k]=q at h
 cases h with
 |nil=>simp at a
 |block b cap len rest q hl hc=>
  subst a hl
  exact⟨b,cap,rest,rfl,by rw[je],by rw[je];omega⟩
section
variable{W:List Nat}{s0 s:St}{n:Nat}{p q0 q1:Nat×ak}{A Φ:au}
theorem mD(H:HL W s0 s (p::q0::q1::(A++Φ)) n):HL W s0 s (q1::(A++([p]++Φ))) n:=
 (HL.mid (A:=[p]) (B:=[q1]) (C:=A++Φ) H.drop1).perm (List.Perm.cons _ (dG [p] A Φ))
end
set_option maxHeartbeats 4000000 in
set_option maxRecDepth 10000 in
theorem mE:qt 11 3400000000000 [.int .i64,fH] (.tup3 La S3 (.int .i64)) λx=>FH x.1 x.2:=by
 rintro I P s hf U S vs ⟨n,(l:List Fq)⟩ ⟨_,_,rfl,rfl,_,rfl,hV⟩ r hz hroom
 replace hz:FH n l=some r:=hz
 replace hV:ax U fH _ l:=hV
 obtain⟨⟨h0n,hp⟩,rfl⟩:=sF hz
 clear hz
 obtain⟨al,cap,L,hve,hS,V,Z⟩:=hV
 cases hve
 have hl:=S.s _ _ _ _ hS
 have hF:fc U L l:=⟨V,λk hk=>Tt (Z k _ (by rw[aE hk,aB,aE hk];rfl))⟩
 have hV:ax U fH [.slice al l.length cap] l:=⟨al,cap,L,rfl,hS,V,Z⟩
 clear hS Z V
 obtain⟨h4,h6,hRi,K,hTn⟩:=hp
 obtain⟨nn,rfl⟩:∃m:Nat,n=(m:Int):=⟨n.toNat,(Int.toNat_of_nonneg h0n).symm⟩
 rw[Int.toNat_natCast]at h4 hRi K |-
 have hE:∀k,k<l.length->0<=(az l k).1/\(az l k).1<(az l k).2/\(az l k).2<12:=λk hk=>by have h:0<=(az l k).1/\(az l k).1<(az l k).2/\(az l k).2<(nn:Int):=K _ (jP hk);omega
 have hE4:∀k,k<l.length->0<=(az l k).1/\(az l k).1<(az l k).2/\(az l k).2<(nn:Int):=λk hk=>K _ (jP hk)
 have hT:∀k,k<l.length->Tn 25 (dw l k):=λk hk=>hTn _ (jP hk)
 have hRo:dy (az l) nn (yJ (az l) l.length) (xG nn l):=u9 hE4
 rw[Nat.add_comm]at hroom
 have H:=hf.hl
 refine qz 2 (P 11) Tryz.func11 rfl Tc rfl ?_
 refine zh (zQ (zQ (zQ (zb (zO (yn (zh (zg rfl (R9 rfl rfl (λh=>absurd h Oz) (λh=>?_))))))))))
 refine xw rfl (zC rfl (qT P5 rfl rfl rfl (R9 rfl rfl (λh=>absurd h Oz) (λh=>?_))))
 refine wz rfl rfl (xj rfl (zb (yh rfl (zh (zg rfl (kw rfl rfl (λh=>absurd h Oz) (λh=>?_)))))))
 refine xw rfl (zg rfl (zC rfl (yo rfl Tj rfl (jU (d44 P H.fine (S.x H (D:=[]) V1) (x:=((nn:Int),l)) ⟨_,_,rfl,rfl,_,rfl,hV.mono xJ⟩ hRi (H.rm Oz)) (λv9 O z Hc hv9=>?_)))))
 obtain rfl:v9=_:=hv9
 have H:=H.callE Hc
 have H:=H.sub (List.nil_sublist _)
 clear Hc
 refine KR rfl (wz rfl rfl (xj rfl (zb (yh rfl (yq (xb (zn (zh (zC rfl (KS (c:=[.slice _ _ _,.slice _ _ _,.slice _ _ _,.slice _ _ _,.slice _ _ _,.slice _ _ _,.slice _ _ _,.slice _ _ _,.slice _ _ _,.slice _ _ _,.slice _ _ _,.slice _ _ _,.slice _ _ _]) SW rfl (QO H rfl Oz (λf s1 H=>?_))))))))))))
 refine zeM rfl (zb (zO ?_))
 have H:HL [] s _ ((f,.cells (wk (.slice al l.length cap) (List.replicate 12 E0)) 94)::(xz (List.replicate 12 E0)++[])) _:=H
 refine zh (zC rfl (qT P5 rfl rfl rfl (wJ (zb (yn (kM (λk F s1=>∃(G:FF) (i m:Nat) (es:List (au×Value)),F=fT G [(0,.int .i64 (nn:Int)),(1,.slice al l.length cap),(7,.pointer (some ⟨f,0,none⟩)),(39,.slice al l.length cap),(40,.int .i64 (l.length:Int)),(41,.int .i64 (i:Int))]/\HL [] s s1 ((f,.cells (wk (.slice al l.length cap) es) 94)::(xz es++[])) m/\m<=5200000+i*43300000000/\i<=l.length/\k=l.length-i/\first (az l) (dw l) i=none/\ie l (yJ (az l) i) es) ?_ l.length _ _ ?_))))))
 rotate_left
 .exact⟨_,0,_,_,slots ⟨rfl,rfl,rfl,rfl,rfl,rfl,trivial⟩,H,by omega,by omega,by omega,rfl,o5⟩
 rintro k F s1 ⟨G,i,m,es,rfl,H,hm,hi,rfl,M,u⟩
 refine zh (kw rfl rfl (λh=>?_) (λh=>?_))
 .refine zb (zO (yI rfl (yq (zn (zO (yn ?_))))))
  have y:i<l.length:=by omega
  have hq:=hF.fit i y
  obtain⟨b1,off1,c1_,he1,hg1,hb1,hc9⟩:=zfl hl hF y
  obtain⟨e0,e3,e4⟩:=hE i y
  have e1:(az l i).1=(l.getD i default).1:=rfl
  have e2:(az l i).2=(l.getD i default).2.1:=rfl
  rw[e1]at e0 e3
  rw[e2]at e3 e4
  obtain⟨t1,hct,hX1⟩:=hq.t
  refine zh (zg rfl (yd GN (by rw[<-he1];rfl) rfl Oz Oz (qo HM rfl (H.old hb1 hg1) hc9 (xT H Kb Oz (λb9 s2 H=>?_)))))
  refine yb rfl (xp (vs:=L.getD i []) H HV rfl rfl (xo hq.len) hq.plain (yM (by rw[hq.len];rfl)) Oz (λO H=>?_))
  refine zb (zh (v7 rfl (zD Sc rfl (ye fu rfl H.own0 hq.a (zD KZ rfl (ye fu rfl H.own0 hq.b (yo rfl NU rfl ?_)))))))
  obtain⟨_,O,J,Dw,vw,z,t8,rfl,Hc,o,d⟩:=zbL P H.fine (S.x H (D:=[]) V1) (L:=L) (l:=l) hE hT (tr:=yJ (az l) i) (λk hk=>bL (kY _ k hk) Oz) (by have:=jE (e:=az l) i;omega) (ql _) rfl (va:=λv=>(es.getD v.toNat E0).2) (λv h0 h1=>u.get h0 h1) (bt:=f) (H.own (f,_) Y8).1 (H.own (f,.cells (wk (.slice al l.length cap) es) 94) Y8).2.1 (λv h0 h1=>u.sld H Z8 h0 h1) (hl.kept H) (hF.mono xJ) (v:=(l.getD i default).1) (w:=(l.getD i default).2.1) Oz Oz Z4
  refine⟨_,_,J,?_⟩
  clear J
  have H:=H.callE Hc
  simp only[bY,bF,cJ]at H
  clear Hc
  replace d:=ax.mono (τ:=bG) (uV (A:=[]) (D:=z) (D':=z) V1 (λ_ h=>h)) d
  have q:t8.length=8:=ax.len (τ:=bG) d
  have N:=ax.plain (τ:=bG) d
  obtain⟨aw,cw,rfl⟩:=o.isSlice
  rcases hw:way (az l) (yJ (az l) i) (l.getD i default).1 (l.getD i default).2.1 with _|Q
  .rw[hw]at d o
   simp only[Option.getD_none,bN]at o
   refine v6 rfl (yC rfl rfl (yC rfl rfl (yC rfl rfl (xT H FR Oz (λb11 s3 H=>?_)))))
   refine yv rfl (xp (vs:=t8) H ZF rfl rfl (xo q) N (yM (by rw[q];rfl)) Oz (λs4 H=>?_))
   refine xj rfl (zb (zO (zh (xw rfl (KR rfl (zb (yI rfl (zh (v7 rfl (zg rfl (yo rfl Tk rfl ?_)))))))))))
   obtain⟨_,O,J,es2,rfl,H,hfr2⟩:=nD P (R:=Dw++z) (es:=es) (k:=i) H.drop0.drop0 hl hF hE y Oz u (λv=>by have:=zhQ (e:=az l) (tr:=yJ (az l) i) (v:=(v:Int));have:=jE (e:=az l) i;rw[je];omega) Oz
   refine⟨_,_,J,?_⟩
   clear J
   refine zb (qr (xD (xF (zn (zW (xU rfl rfl (by unfold xc;omega) (zg rfl (zb (yB (⟨l.length-(i+1),by omega,_,i+1,_,es2,slots ⟨rfl,rfl,rfl,rfl,rfl,rfl,trivial⟩,(by rw[bP];exact H.sub (.cons_cons _ (List.sublist_append_left _ _))),by omega,by omega,rfl,?_,?_⟩))))))))))
   .rw[ZT M,zfK hw]
    rfl
   .rw[yJ,show way (az l) (yJ (az l) i) (az l i).1 (az l i).2=none from hw]
    simp only[Option.isSome_none,aV,cK]
    exact lF Oz Oz hfr2
  rw[hw]at d o
  simp only[Option.getD_none,bN]at o
  refine v6 rfl (yC rfl rfl (yC rfl rfl (yC rfl rfl (xT H FR Oz (λb11 s5 H=>?_)))))
  refine yv rfl (xp (vs:=t8) H ZF rfl rfl (xo q) N (yM (by rw[q];rfl)) Oz (λs6 H=>?_))
  refine xj rfl (zb (zO (zh (xw rfl (KR rfl (zb (yh rfl (yq (zn (zh (qo uN rfl H.own0 (xH q) ?_)))))))))))
  refine zD zeO rfl (qo uN rfl H.own1 hct ?_)
  have hrl7:=zhx hw
  have htl9:=sn (e:=az l) (show i<=l.length by omega)
  have htl8:=jE (e:=az l) i
  have hnd:=WG (ql i) hw
  have hal:Tn (25 ^ 6) (qe (az l) (dw l) Q (az l i).1 zU):=(zdQ (a:=0) Q (λk hk=>hT k (Nat.lt_trans (kY i k (hnd.2 k hk)) y)) (az l i).1 eN).le (by have:=Nat.pow_le_pow_right (n:=25) Uz (show 0+Q.length<=6 by omega);exact this)
  refine yo rfl Tl rfl (jU (d47 P H.fine (S.x H (D:=z) Z8) (x:=(qe (az l) (dw l) Q (az l i).1 zU,dw l i)) ⟨_,_,rfl,⟨_,rfl,d⟩,_,rfl,_,rfl,ax.mono (τ:=bG) xJ hX1⟩ (BH hal ((hT i y).le Uz)) (H.rm Oz)) (λv9 O D10 Hc hv9=>?_))
  obtain rfl:v9=_:=hv9
  have H:=H.callE Hc
  have H:=H.sub (List.sublist_append_left _ _)
  clear Hc
  by_cases hb2:qe (az l) (dw l) Q (az l i).1 zU=dw l i
  rotate_left
  .rw[aX hb2]at *
   refine KR rfl (zb (yI rfl (zh (zC rfl (zg rfl (xO (c:=[.int _ _]) H uW rfl rfl Oz (λb68 s7 H=>?_)))))))
   have hgt:=H.own0
   have H:=HL.mid2 (A:=[_,_,_]) (B:=xz es) (C:=Dw) (E:=z) H.drop0
   refine Xu H o uW Xf rfl rfl rfl (qD hgt rfl) Oz Oz (λDX v9 O o H=>?_)
   obtain⟨bq,cq,rq,rfl,rfl,hcq⟩:=o.whole
   refine yv rfl (zb (zh (zC rfl (yo rfl To rfl ?_))))
   obtain⟨_,O,J,L,rfl,H,Y,hLs⟩:=BJ P H (by rw[je,aQ,List.length_singleton];omega) Oz
   refine⟨_,_,J,?_⟩
   clear J
   refine zb (zh (zC rfl (zQ (yv rfl (zQ (zb (qE (vi (qm (gg (vi ?_)))))))))))
   refine qm (xA (zhu rfl rfl rfl ?_))
   rw[Ko (zfm (by rw[ZT M,zfJ hw hb2];rfl) (show i+1<=l.length by omega))]
   have hfo:(ey Q).foldl Vm [(i:Int)]=L:=zfk hnd.1 (λj hj=>kY i j (hnd.2 j hj)) hLs Y
   rw[hfo]
   exact⟨[(bq,_)]++_,H.up Oz,_,_,_,rfl,⟨none,0,[],rfl,.inr (.nil 0 rfl rfl),rfl,λk x h=>nomatch h⟩,(rB Y.length_eq.symm (by rw[Y.length_eq];exact hcq)).mono (vK (List.subset_append_left _ _)),rfl⟩
  rw[aH hb2]at *
  refine KR rfl (zb (yh rfl (yq (xb (zn (zW (xU rfl rfl (by unfold xc;omega) (zg rfl (zb (yB (⟨l.length-(i+1),by omega,_,i+1,_,es,slots ⟨rfl,rfl,rfl,rfl,rfl,rfl,trivial⟩,(by rw[bP];exact H.drop0.drop0.sub (.cons_cons _ (List.sublist_append_left _ _))),by omega,by omega,rfl,?_,?_⟩)))))))))))
  .rw[ZT M,nV hw hb2]
   rfl
  .rw[yJ,show way (az l) (yJ (az l) i) (az l i).1 (az l i).2=some Q from hw]
   exact u
 refine zb (zO (yh rfl (qr (xD (xq (xF (zn (zh (zQ (zb (zO ?_)))))))))))
 have hfi9:first (az l) (dw l) l.length=none:=by rw[show l.length=i by omega];exact M
 rw[show i=l.length by omega]at u
 refine zh (zg rfl (zC rfl (yo rfl Th rfl (jU (d17 P H.fine (S.x H (D:=[]) V1) (x:=((nn:Int),l)) ⟨_,_,rfl,rfl,_,rfl,hV.mono xJ⟩ (show tL (nn:Int) l=some (xG nn l)from WZ K h4 h6 hRi) (H.rm Oz)) (λvp O D8 Hc g=>?_)))))
 have H:=H.callE Hc
 simp only[bY,bF,cJ]at H
 clear Hc
 replace g:ax (U.x D8) S3 [vp] (xG nn l):=ax.mono (τ:=S3) (uV (A:=[]) (D:=D8) (D':=D8) V1 (λ_ h=>h)) g
 obtain⟨ap,cp,Lp,hpe,hpS,hpl,hpx⟩:=g
 cases hpe
 have g:ax (U.x D8) S3 [.slice ap (xG nn l).length cp] (xG nn l):=⟨_,_,Lp,rfl,hpS,hpl,hpx⟩
 clear hpS hpl hpx
 have hlp:=hRo.len
 refine qT Xf rfl rfl rfl (wJ (zb (yn (kM (λk F s1=>∃(G:FF) (i m:Nat) (a0:Option Addr) (n0 c0:Nat) (Dt Φ:au) (ap:Option Addr),F=fT G [(7,.pointer (some ⟨f,0,none⟩)),(13,.slice a0 n0 c0),(76,.slice ap nn cp),(77,.int .i64 (nn:Int)),(78,.int .i64 (i:Int))]/\HL [] s s1 ((f,.cells (wk (.slice al l.length cap) es) 94)::(xz es++(Dt++Φ))) m/\m<=2800000000000+i*43300000000/\i<=nn/\k=nn-i/\dk (U.x Φ) 36 8 bG Dt a0 n0 c0 ((List.range i).map (qY nn l))/\ax (U.x Φ) S3 [.slice ap nn cp] (xG nn l)) ?_ nn _ _ ?_))))
 rotate_left
 .rw[hlp]at g |-
  exact⟨_,0,_,_,_,_,[],_,_,slots ⟨rfl,rfl,rfl,rfl,rfl,trivial⟩,H,by omega,by omega,by omega,.nil rfl,g⟩
 rintro k F s1 ⟨G,i,m,a0,n0,c0,Dt,Φ,ap,rfl,H,hm,hi,rfl,ho,g⟩
 refine zh (kw rfl rfl (λh=>?_) (λh=>?_))
 .refine zb (zO (yI rfl (yq (zn (zO (yn ?_))))))
  have hin:i<nn:=by omega
  obtain⟨hr0,hr1⟩:=hRo.le i hin
  obtain⟨Q,hw9⟩:=Option.isSome_iff_exists.mp (zcd (ql _) hRo hin)
  obtain⟨b5,off5,c5_,he5,hg5,hb5,hc5⟩:=HB (S.x H (D:=Φ) Z8) hlp g hin
  subst he5
  refine zh (zg rfl (yd Gb rfl rfl Oz Oz (ye fu rfl hg5 hc5 (yb rfl (yb rfl (zb (zh (v7 rfl (zg rfl (zg rfl (yo rfl NU rfl ?_)))))))))))
  obtain⟨_,O,J,Dw,vw,z,t8,rfl,Hc,o,d⟩:=zbL P H.fine (S.x H (D:=[]) V1) (L:=L) (l:=l) hE hT (tr:=(yJ (az l) l.length)) (λk hk=>bL (kY _ k hk) Oz) (by have:=jE (e:=az l) l.length;omega) (ql _) rfl (va:=λv=>(es.getD v.toNat E0).2) (λv h0 h1=>u.get h0 h1) (bt:=f) (H.own (f,_) Y8).1 (H.own (f,.cells (wk (.slice al l.length cap) es) 94) Y8).2.1 (λv h0 h1=>u.sld H Z8 h0 h1) (hl.kept H) (hF.mono xJ) (v:=(xG nn l).getD i 0) (w:=(i:Int)) Oz Oz Z4
  refine⟨_,_,J,?_⟩
  clear J
  have H:=H.callE Hc
  simp only[bY,bF,cJ]at H
  clear Hc
  replace d:=ax.mono (τ:=bG) (uV (A:=[]) (D:=z) (D':=z) V1 (λ_ h=>h)) d
  have q:t8.length=8:=ax.len (τ:=bG) d
  have N:=ax.plain (τ:=bG) d
  obtain⟨aw,cw,rfl⟩:=o.isSlice
  rw[hw9]at d o
  have ku:cu (U.x Φ) (U.x (Φ++(Dw++z))):=vK (List.subset_append_left _ _)
  replace g:=ax.mono (τ:=S3) ku g
  replace ho:=ho.mono ku
  replace d:=ax.mono (τ:=bG) (vK (D':=Φ++(Dw++z)) (λ_ h=>bA _ (bA _ h))) d
  clear ku
  generalize Φ++(Dw++z)=Φ at *
  refine v6 rfl (yC rfl rfl (yC rfl rfl (yC rfl rfl (xT H FR Oz (λb17 s8 H=>?_)))))
  refine yv rfl (xp (vs:=t8) H ZF rfl rfl (xo q) N (yM (by rw[q];rfl)) Oz (λO H=>?_))
  refine xj rfl (zb (zW (yF (qo uN rfl H.own0 (xH q) ?_))))
  obtain⟨w1,w2,w3,w4,w5,w6,w7,w8,rfl⟩:=Tv q
  refine xO (c:=[w1,w2,w3,w4,w5,w6,w7,w8]) H OZ rfl rfl Oz (λb93 s10 H=>?_)
  have hgt:=H.own0
  have H:=HL.mid2 (A:=[_,_]) (B:=xz es) (C:=Dt) (E:=Φ) H.drop0
  refine gV (X:=[[w1,w2,w3,w4,w5,w6,w7,w8]]) H ho (show app ((List.range i).map (qY nn l)) [qY nn l i]=some ((List.range (i+1)).map (qY nn l))by rw[yP (by simp;omega),List.range_succ,List.map_append];rfl) OZ Wr rfl rfl rfl (qD hgt rfl) rfl Uz rfl (λk x h=>by obtain⟨rfl,rfl⟩:=GV h;unfold qY;rw[hw9];exact d) Uz Oz (λa5 cap5 b38_ c5 s38 H ho=>?_)
  simp only[bY,cJ]at H
  refine yv rfl (zb (xb (zn (zW (xU rfl rfl (by unfold xc;omega) (zg rfl (zb (yB (⟨nn-(i+1),by omega,_,i+1,_,_,_,_,[_],Φ,_,slots ⟨rfl,rfl,rfl,rfl,rfl,trivial⟩,mD H,by omega,by omega,rfl,ho,g⟩)))))))))
 refine zb (zO (yh rfl (qr (xD (xq (xF (zn (zh (yF (qk (zQ ?_)))))))))))
 refine zQ (zb (qE (xA (zhu rfl rfl rfl ?_))))
 rw[WH hfi9]
 rw[show i=nn by omega]at ho
 exact⟨xz es++(Dt++Φ),H.drop0.up Oz,_,_,_,rfl,ho.rep (dK _ _ |>.trans (dK _ _)) ((List.subset_append_left _ _).trans (dK _ _)),⟨none,0,[],rfl,.inr (.nil 0 rfl rfl),rfl,λk x h=>nomatch h⟩,rfl⟩
def nh(d e x y:Rat):Prop:=y<=x+(d+e)/\x<=y+(e-d)
def nt(P:List Pc)(T:List Q2)(F:List Fq)(x:Nat->Rat):Prop:=∀f∈F,∀k,k<=bj f->nh (fp P T f k).1 (wn P f) (x f.1.toNat) (x f.2.1.toNat)
def nu(P:List Pc)(T:List Q2)(F:List Fq)(x:Nat->Rat):Prop:=∀f∈F,∀k,k<=bj f->nh (fp P T f k).2 (wn P f) (x f.1.toNat) (x f.2.1.toNat)
theorem zgH{F:List Fq}{d:Fq->Nat->Rat}{e:Fq->Rat}{x:Nat->Rat}:eu ((F.flatMap λf=>(List.range (bj f+1)).flatMap λk=>iP f.1 f.2.1 (d f k) (e f)).map bU) x↔∀f∈F,∀k,k<=bj f->nh (d f k) (e f) (x f.1.toNat) (x f.2.1.toNat):=by
 constructor
 .intro h f hf k hk
  have hm:∀c∈iP f.1 f.2.1 (d f k) (e f),bU c∈(F.flatMap λf=>(List.range (bj f+1)).flatMap λk=>iP f.1 f.2.1 (d f k) (e f)).map bU:=λc hc=>
   eY (List.mem_flatMap.mpr ⟨f,hf,List.mem_flatMap.mpr ⟨k,dX.mpr Oz,hc⟩⟩)
  exact⟨h _ (hm _ (aO ..)),h _ (hm _ (aP _ (aO ..)))⟩
 .intro h c hc
  obtain⟨b,hb,rfl⟩:=List.mem_map.mp hc
  obtain⟨f,hf,hb⟩:=List.mem_flatMap.mp hb
  obtain⟨k,hk,hb⟩:=List.mem_flatMap.mp hb
  have hk:=dX.mp hk
  obtain⟨h1,h2⟩:=h f hf k Oz
  unfold iP at hb
  simp only[aJ,aY,or_false]at hb
  rcases hb with rfl|rfl
  .exact h1
  .exact h2
theorem du{P:List Pc}{T:List Q2}{F:List Fq}{x:Nat->Rat}:eu ((Yb P T F).map bU) x↔nt P T F x:=zgH (d:=λf k=>(fp P T f k).1) (e:=wn P)
theorem dN{P:List Pc}{T:List Q2}{F:List Fq}{x:Nat->Rat}:eu ((Xb P T F).map bU) x↔nu P T F x:=zgH (d:=λf k=>(fp P T f k).2) (e:=wn P)
section
variable{P P':List Pc}{T T':List Q2}{F F':List Fq}{x y:Nat->Rat}
theorem zgK(g t p:Q2):yx (aft g t) p=yx g (yx t p):=by
 unfold yx aft
 refine Prod.ext ?_ ?_<;>dsimp only<;>grind
theorem BF(g p q:Q2):yx g (y5 p q)=y5 (yx g p) (yx g q):=by
 unfold yx y5
 refine Prod.ext ?_ ?_<;>dsimp only<;>grind
end
def kX(w h x y b r t l:Int):List (List (Int×Int)):=[[(0,0),(b,0),(x,y),(0,l)],[(b,0),(w,0),(w,r),(x,y)],[(x,y),(w,r),(w,h),(t,h)],[(0,l),(x,y),(t,h),(0,h)]]
def XR:List (Int×Int)->List (List (Int×Int))
 | [a,b,c,d]=>vL a b c d
 |_=>[]
theorem iS{w h x y b r t l:Int}(d:Bx w h x y b r t l){φ:Int×Int->Rat×Rat}(hφ:∀a b c,dp (φ a) (φ b) (φ c)=((zf a b c:Int):Rat)){e:Rat}(he:e<=0){i k:Nat}(hik:i<k)(hk:k<4):∀T1∈XR ((kX w h x y b r t l).getD i []),∀T2∈XR ((kX w h x y b r t l).getD k []),uK e (T1.map φ) (T2.map φ)=true:=by
 intro T1 h1 T2 h2
 have key:∀{g M2 S1 S2 j m n o:List (Int×Int)},iG (x,y) g S1 j n T1->iG (x,y) M2 S2 m o T2->(∀z∈M2,z∈S1)->(∀z∈g,z∈S2)->(∀z∈n,z∈m)->(∀z∈o,z∈j)->uK e (T1.map φ) (T2.map φ)=true:=λa b m1 m2 p1 p2=>
  mC hφ he a.1 b.1 m1 m2 (λz f=>(a.2.1 z f).imp_right (p1 z)) (λz f=>(b.2.1 z f).imp_right (p2 z)) a.2.2 b.2.2
 have c:(i=0/\k=1)\/(i=0/\k=2)\/(i=0/\k=3)\/(i=1/\k=2)\/(i=1/\k=3)\/(i=2/\k=3):=by omega
 rcases c with⟨rfl,rfl⟩|⟨rfl,rfl⟩|⟨rfl,rfl⟩|⟨rfl,rfl⟩|⟨rfl,rfl⟩|⟨rfl,rfl⟩
 .exact key (H6 d T1 h1) (H7 d T2 h2) Y8 Y8 Y8 Y8
 .exact key (H6 d T1 h1) (H8 d T2 h2) Y8 Y8 Y8 Y8
 .exact key (H6 d T1 h1) (Ia d T2 h2) Y8 Y8 Y8 Y8
 .exact key (H7 d T1 h1) (H8 d T2 h2) Y8 Y8 Y8 Y8
 .exact key (H7 d T1 h1) (Ia d T2 h2) Y8 Y8 Y8 Y8
 .exact key (H8 d T1 h1) (Ia d T2 h2) Y8 Y8 Y8 Y8
theorem zgD{a b c:Int×Int}:∀n:Nat,zf (k7 n a) (k7 n b) (k7 n c)=zf a b c
 |0=>rfl
 |n+1=>by
  have:=(zeE (a:=k7 n a) (b:=k7 n b) (c:=k7 n c) (d:=(0,0))).1
  exact this.trans (zgD n)
theorem zgE{n:Nat}{u a b c:Int×Int}:zf (bz n u a) (bz n u b) (bz n u c)=zf a b c:=(zex (d:=(0,0))).1.trans (zgD n)
theorem BQ{n:Nat}{u:Int×Int}{q:List (Int×Int)}(e:q.length=4):XR (q.map (bz n u))=(XR q).map (·.map (bz n u)):=by
 match q,e with
 | [a,b,c,d],_=>
  show vL (bz n u a) (bz n u b) (bz n u c) (bz n u d)=(vL a b c d).map _
  unfold vL wN
  simp only[zgE]
  split
  .rfl
  split
  .rfl
  split
  .rfl
  .rfl
def rq:Nat->Q2
 |0=>zU
 |n+1=>(-(rq n).2,(rq n).1)
theorem zeF:∀(n:Nat) (p:Int×Int),ah (k7 n p)=yx (rq n) (ah p)
 |0,p=>by
  show ah p=yx zU (ah p)
  unfold yx zU
  refine Prod.ext ?_ ?_<;>dsimp only<;>grind
 |n+1,p=>by
  have e:=zeF n p
  have e1:((k7 n p).1:Rat)=(rq n).1*(p.1:Rat)-(rq n).2*(p.2:Rat):=congrArg Prod.fst e
  have e2:((k7 n p).2:Rat)=(rq n).2*(p.1:Rat)+(rq n).1*(p.2:Rat):=congrArg Prod.snd e
  show(((0-(k7 n p).2:Int):Rat),((k7 n p).1:Rat))=yx (-(rq n).2,(rq n).1) (ah p)
  unfold yx
  refine Prod.ext ?_ ?_
  .show((0-(k7 n p).2:Int):Rat) = -(rq n).2*(p.1:Rat)-(rq n).1*(p.2:Rat)
   rw[Rat.intCast_sub,e2]
   grind
  .show((k7 n p).1:Rat)=(rq n).1*(p.1:Rat) + -(rq n).2*(p.2:Rat)
   rw[e1]
   grind
def gr(n:Nat)(u:Int×Int):Pl:=(rq ((4-n) % 4),y5 (0,0) (yx (rq ((4-n) % 4)) (ah u)))
theorem J9{n:Nat}(hn:n<4):aft (rq ((4-n) % 4)) (rq n)=zU/\Un (rq ((4-n) % 4))/\Un (rq n):=by
 have e:n=0\/n=1\/n=2\/n=3:=by omega
 rcases e with rfl|rfl|rfl|rfl<;>refine⟨by decide +kernel,?_,?_⟩<;>unfold Un<;>decide +kernel
theorem ri(n:Nat)(u p:Int×Int):ah (bz n u p)=vx (yx (rq n) (ah p)) (ah u):=by
 rw[<-zeF]
 unfold bz iq ah vx
 refine Prod.ext ?_ ?_<;>dsimp only<;>exact Rat.intCast_add ..
theorem R7{n:Nat}(hn:n<4)(u p:Int×Int):vJ (gr n u) (ah (bz n u p))=ah p:=by
 have e:=(J9 hn).1
 rw[ri]
 have a:yx (rq ((4-n) % 4)) (yx (rq n) (ah p))=ah p:=by
  rw[<-zgK,e]
  exact(zeF 0 p).symm
 have h1:=congrArg Prod.fst a
 have h2:=congrArg Prod.snd a
 unfold vJ gr vx y5 at *
 unfold yx at *
 dsimp only at *
 refine Prod.ext ?_ ?_<;>dsimp only<;>grind
theorem zdc{α:Type}{l:List α}{x e:α}{j:Nat}(h:j<l.length):(l++[x]).getD j e=l.getD j e:=by
 rw[aB,aB,cA h]
theorem zdb{α:Type}{l:List α}{x e:α}{j:Nat}(h:j=l.length):(l++[x]).getD j e=x:=by
 subst h
 rw[aB,List.getElem?_append_right Oz]
 simp
structure ez(q:List (Int×Int))(i:Nat)(p:Pc)(v:Pl):Prop where
 ex:∃n u,n<4/\Nr 4 u/\(i=0->n=0/\u=(0,0))/\p.2.2.1=q.map (bz n u)/\p.2.2.2.1=[false,false,false,false]/\p.2.2.2.2.1=[0,0,0,0]/\v=gr n u
 pc:PcB p
structure ig(Q:List (List (Int×Int)))(i:Nat)(P:List Pc)(A:List Pl):Prop where
 pl:P.length=i
 al:A.length=i
 at':∀j,j<i->ez (Q.getD j []) j (P.getD j default) (A.getD j default)
section
variable{l:List Int}(hl:Kj l){Q:List (List (Int×Int))}(hQ:Q.length=4)(hq:∀q∈Q,Qd 8 q){i:Nat}(hi:i<4){P:List Pc}{A:List Pl}(hI:ig Q i P A){g:Int×List Pc×List Pl->Option (List Pc×List Fq×List Pl)}{Post:Option (List Pc×List Fq×List Pl)->Prop}(hg:∀P' A',ig Q (i+1) P' A'->Post (g (((i+1:Nat):Int),P',A')))
include hl hQ hq hi hI hg
theorem nR{r:Nat}(G:r<4){u w:Int}(hv:Nr 4 (u,w))(h0:i=0->r=0/\(u,w)=(0,0)):Post (M8 l Q g ((i:Int),P,A) (r:Int) u w):=by
 have e:i<Q.length:=by omega
 have s:=hq _ (aL e)
 have o:=Oj s (n:=r) hv
 obtain⟨a,b,c,d,h,⟨na,nb,H,I⟩,-⟩:=s
 have hlen:Q[i].length=4:=by rw[h];rfl
 have D:∀p∈Q[i],Nr 8 p:=by
  rw[h]
  intro p hp
  simp only[aJ,aY,or_false]at hp
  rcases hp with rfl|rfl|rfl|rfl
  .exact na
  .exact nb
  .exact H
  .exact I
 clear h na nb H I a b c d
 have C:=zu e
 have E:Q.getD i []=Q[i]:=zp e
 generalize Q[i]=q at *
 unfold M8
 refine zl 4 (λj x=>x=((j:Int),(q.take j).map (bz r (u,w)))) Post Oz rfl ?_ ?_
 .rintro j x k hj rfl hk
  have f:j<q.length:=by omega
  have J:=D _ (aL f)
  have R:=R4 r J
  obtain⟨r1,r2⟩:=R
  obtain⟨v1,v2⟩:=hv
  rw[aG (aH (by show(j:Int)<4;omega)),C,aA]
  show(ae q (j:Int)).bind _ |> Post
  rw[zu f,aA,IE J G,aA,xd (show((k7 r q[j]).1+u).natAbs<_ by have:u.natAbs<=4:=v1;omega),aA,xd (show((k7 r q[j]).2+w).natAbs<_ by have:w.natAbs<=4:=v2;omega),aA]
  rw[yP (by simp;omega),aA,zo (show j<100000 by omega),aA]
  refine hk _ ?_
  rw[yY f,List.map_append]
  rfl
 .rintro x k rfl
  rw[dJ Oz]
  obtain⟨t1,e1,g1⟩:=jl hl (i:=21+(i:Int)) (m:=3) Oz Uz Uz
  obtain⟨t2,e2,g2⟩:=jl hl (i:=25+(i:Int)) (m:=3) Oz Uz Uz
  obtain⟨t3,L,F⟩:=jl hl (i:=29+(i:Int)) (m:=3) Oz Uz Uz
  have pc:=re (n:=10+(i:Int)) Oz o g1 g2 F
  have f1:=(J5 g1 4 (.inr rfl)).1
  have f3:=(J5 F 2 (.inl rfl)).1
  have f2:dh (1+t2) 1=some (qI (1+t2)):=l8 Oz
  have N:QV 2 3 (qI (1+t2)):=(QV.int (n:=1+t2) (B:=3) Oz).up (k:=2)
  have O:QV 2 1 (Rat.divInt t3 2):=zfB (q:=2) Uz 1 rfl Oz
  have K:=yE (N.sm ⟨by decide,by decide⟩) (O.sm ⟨by decide,by decide⟩)
  have:=hI.pl
  have:=hI.al
  rw[aD (show ¬(decide (((4:Nat):Int)<4)=true)by decide),xd (show(10+(i:Int)).natAbs<_ by omega),aA]
  rw[zcu (n:=10+(i:Int)) (l:=q.map (bz r (u,w))) (by rw[bI];exact hlen),aA,xd (show(21+(i:Int)).natAbs<_ by omega),aA,e1,aA,f1,aA,xd (show(25+(i:Int)).natAbs<_ by omega),aA,e2,aA,xd (show(1+t2).natAbs<_ by omega),aA,f2,aA,xd (show(29+(i:Int)).natAbs<_ by omega),aA,L,aA,f3,aA,K,aA]
  show(app P _).bind _ |> Post
  rw[yP (by simp;omega),aA,eH.2,aA]
  have m4:∃m:Nat,m<4/\Int.tmod (4-(r:Int)) 4=(m:Int)/\m=(4-r) % 4:=by
   have:r=0\/r=1\/r=2\/r=3:=by omega
   rcases this with rfl|rfl|rfl|rfl
   .exact⟨0,by decide,by decide,by decide⟩
   .exact⟨3,by decide,by decide,by decide⟩
   .exact⟨2,by decide,by decide,by decide⟩
   .exact⟨1,by decide,by decide,by decide⟩
  obtain⟨m,hm,em,z⟩:=m4
  refine zl m (λj x=>x.1=(j:Int)/\x.2=rq j/\Tn 1 x.2) Post Oz ⟨rfl,rfl,Xi⟩ ?_ ?_
  .rintro j ⟨x,v,ts⟩ k hj ⟨rfl,hq,t⟩ hk
   have y:=vO t
   rw[xd (show(4-(r:Int)).natAbs<_ by omega),aA,aD Uz,em,aG (zV hj),kJ (y.2.sm ⟨by decide,by decide⟩),aA,zo (show j<100000 by omega),aA]
   exact hk _ ⟨rfl,by show(-ts,v)=(-(rq j).2,(rq j).1);rw[<-show(v,ts)=rq j from hq],t.quarter⟩
  .rintro⟨x,v,ts⟩ k ⟨rfl,hq,t⟩
   have y:=vO t
   have pv:=kN hv
   have s1:SB 1 8:=⟨by decide,by decide⟩
   have ro:=u7 y pv ⟨by decide,by decide⟩ ⟨by decide,by decide⟩ ⟨by decide,by decide⟩
   have S:=V2.rot y pv
   have T:V2 1 8 (0,0):=⟨QV.int (n:=0) Uz,QV.int (n:=0) Uz⟩
   have z0:V2 1 0 (0,0):=⟨QV.int (n:=0) Uz,QV.int (n:=0) Uz⟩
   rw[xd (show(4-(r:Int)).natAbs<_ by omega),aA,aD Uz,em,aD Y8,wX (hv.le (M:=10000) Uz),aA]
   rw[QF ro,aA,Rj T S s1 s1,aA]
   show(app A _).bind _ |> Post
   rw[yP (by simp;omega),aA]
   show(i64 ((i:Int)+1)).bind _ |> Post
   rw[zo (show i<100000 by omega),aA]
   refine hg _ _ ⟨by simp;omega,by simp;omega,λj hj=>?_⟩
   by_cases c:j<i
   .rw[zdc Oz,zdc Oz]
    exact hI.at' j c
   .obtain rfl:j=i:=by omega
    rw[zdb Oz,zdb Oz,E]
    refine⟨⟨r,(u,w),G,hv,h0,rfl,rfl,rfl,?_⟩,pc⟩
    unfold gr
    rw[<-z,<-show(v,ts)=rq m from hq]
end
def fv(na nb:Nat):Q2:=aft (bck (rq ((4-na) % 4))) (rq ((4-nb) % 4))
def fS(na nb:Nat)(a b:Int×Int):Q2:=y5 (ah a) (yx (fv na nb) (ah b))
theorem HG{n:Nat}(hn:n<4):bck (rq ((4-n) % 4))=rq n/\aft (fv n 0) (rq 0)=rq n:=by
 have e:n=0\/n=1\/n=2\/n=3:=by omega
 rcases e with rfl|rfl|rfl|rfl<;>exact⟨by decide +kernel,by decide +kernel⟩
theorem HY{na nb:Nat}(ha:na<4)(hb:nb<4):aft (fv na nb) (rq nb)=rq na:=by
 unfold fv
 rw[xQ,(J9 hb).1,Zn,(HG ha).1]
theorem RZ{na nb:Nat}(ha:na<4)(hb:nb<4)(a b p:Int×Int):y5 (ah (bz na a p)) (yx (fv na nb) (ah (bz nb b p)))=fS na nb a b:=by
 rw[ri,ri]
 have e:yx (fv na nb) (yx (rq nb) (ah p))=yx (rq na) (ah p):=by rw[<-zgK,HY ha hb]
 have h1:=congrArg Prod.fst e
 have h2:=congrArg Prod.snd e
 unfold fS vx y5 at *
 unfold yx at *
 dsimp only at *
 refine Prod.ext ?_ ?_<;>dsimp only<;>grind
theorem AA{na nb:Nat}(ha:na<4)(hb:nb<4)(a b p:Int×Int):vJ (fv na nb,fS na nb a b) (ah (bz nb b p))=ah (bz na a p):=by
 have e:=RZ ha hb a b p
 have h1:=congrArg Prod.fst e
 have h2:=congrArg Prod.snd e
 unfold vJ
 unfold y5 at h1 h2
 dsimp only at *
 refine Prod.ext ?_ ?_<;>dsimp only<;>grind
theorem my(n:Nat)(u p:Int×Int):vJ (zU,(0,0)) (ah (bz n u p))=ah (bz n u p):=by
 unfold vJ yx zU
 refine Prod.ext ?_ ?_<;>dsimp only<;>grind
theorem Fg(a b c:Int×Int):dp (ah a) (ah b) (ah c)=((zf a b c:Int):Rat):=by
 unfold dp zf zJ zL ah qI
 dsimp only
 rw[Rat.intCast_sub,Rat.intCast_mul,Rat.intCast_mul,Rat.intCast_sub,Rat.intCast_sub,Rat.intCast_sub,Rat.intCast_sub]
theorem OT(n:Nat)(u a b c:Int×Int):dp (ah (bz n u a)) (ah (bz n u b)) (ah (bz n u c))=((zf a b c:Int):Rat):=by
 rw[Fg,zgE]
theorem Y4{p:Pc}{v:Pl}{q:List (Int×Int)}(f:q.length=4){n:Nat}{u:Int×Int}(hp:p.2.2.1=q.map (bz n u)){φ:Int×Int->Rat×Rat}(hv:∀z,vJ v (ah (bz n u z))=φ z):kW p v=(XR q).map (·.map φ):=by
 have e:kW p v=gG v (XR p.2.2.1):=by
  unfold kW
  rw[hp]
  match q,f with
  | [a,b,c,d],_=>rfl
 rw[e,hp,BQ f]
 unfold gG
 rw[List.map_map]
 refine List.map_congr_left λT _=>?_
 show(T.map (bz n u)).map _=_
 rw[List.map_map]
 exact List.map_congr_left λz _=>hv z
theorem vH{w h x y b r t l:Int}{i:Nat}(hi:i<4):((kX w h x y b r t l).getD i []).length=4:=by
 have e:i=0\/i=1\/i=2\/i=3:=by omega
 rcases e with rfl|rfl|rfl|rfl<;>rfl
section
variable{w h x y b r t l:Int}(hB:Bx w h x y b r t l){i k:Nat}(hik:i<k)(hk:k<4){e:Rat}(he:e<=0)
include hB hik hk he
theorem JM{φ:Int×Int->Rat×Rat}(hφ:∀a b c,dp (φ a) (φ b) (φ c)=((zf a b c:Int):Rat)):V8 e ((XR ((kX w h x y b r t l).getD i [])).map (·.map φ)) ((XR ((kX w h x y b r t l).getD k [])).map (·.map φ))=true:=by
 unfold V8
 rw[List.all_eq_true]
 intro X g
 rw[List.all_eq_true]
 intro Y j
 obtain⟨d,h1,rfl⟩:=List.mem_map.mp g
 obtain⟨f,h2,rfl⟩:=List.mem_map.mp j
 exact iS hB hφ he hik hk d h1 f h2
theorem nO{p q:Pc}{n m:Nat}(hn:n<4)(hm:m<4){u v:Int×Int}(hp:p.2.2.1=((kX w h x y b r t l).getD i []).map (bz n u))(a:q.2.2.1=((kX w h x y b r t l).getD k []).map (bz m v)):V8 e (kW p (gr n u)) (kW q (gr m v))=true:=by
 rw[Y4 (vH Oz) hp (φ:=ah) λz=>R7 hn u z,Y4 (vH hk) a (φ:=ah) λz=>R7 hm v z]
 exact JM hB hik hk he Fg
theorem lD{p q:Pc}{n m:Nat}(hn:n<4)(hm:m<4){u v:Int×Int}(hp:p.2.2.1=((kX w h x y b r t l).getD i []).map (bz n u))(a:q.2.2.1=((kX w h x y b r t l).getD k []).map (bz m v)):V8 e (kW p (zU,(0,0))) (kW q (fv n m,fS n m u v))=true:=by
 rw[Y4 (vH Oz) hp (φ:=λz=>ah (bz n u z)) λz=>my n u z,Y4 (vH hk) a (φ:=λz=>ah (bz n u z)) λz=>AA hn hm u v z]
 exact JM hB hik hk he (OT n u)
end
theorem AL{p q:Pc}{v w:Pl}(hp:0<=p.2.2.2.2.2.1)(hq:0<=q.2.2.2.2.2.1)(h:∀e:Rat,e<=0->V8 e (kW p v) (kW q w)=true):Jb p q v w=false:=by
 unfold Jb
 rw[h _ (by grind)]
 rfl
theorem n3{w h x y b r t l:Int}(hB:Bx w h x y b r t l){P:List Pc}{A:List Pl}{R:List Int}(h4:P.length<=4)(hA:A.length=P.length)(a:∀j,j<P.length->0<=(P.getD j default).2.2.2.2.2.1/\∃n u,n<4/\(P.getD j default).2.2.1=((kX w h x y b r t l).getD j []).map (bz n u)/\A.getD j default=gr n u):kE P R A=false:=by
 unfold kE
 rw[List.any_eq_false]
 intro k hk
 have hk:=dX.mp hk
 rw[Bool.not_eq_true,List.any_eq_false]
 intro i hi
 have hi:=dX.mp hi
 obtain⟨d,n,u,hn,hp,ha⟩:=a i Oz
 obtain⟨f,m,v,hm,c,hb⟩:=a k hk
 rw[ha,hb,AL d f λe he=>nO hB hi Oz he hn hm hp c]
 simp
theorem zgA{a b:Pc}{f:Fq}(la:a.2.2.1.length=4)(lb:b.2.2.1.length=4):mM a b f=some (Qx f):=by
 unfold mM
 rw[la,lb]
 simp only[show((4:Nat):Int)=4 from rfl]
 by_cases c:Qx f=true
 .have c':=cO c
  rw[c,aG (aH c'.1.1),aG (aH c'.1.2),aG (aH c'.2.1.1),aG (aH c'.2.1.2),aG (aH c'.2.2.1),aG (aH c'.2.2.2),aH c'.2.2.2]
 .have c':¬((0<=f.2.2.1/\f.2.2.1<4)/\(0<=f.2.2.2.1/\f.2.2.2.1<4)/\(1<=f.2.2.2.2.1/\f.2.2.2.2.1<4)):=λq=>c (aH q)
  rw[show Qx f=false by simpa using c]
  repeat' split
  all_goals (try rfl)
  all_goals (rename_i h1 h2 d e g h;simp only[aC]at *;exact absurd ⟨⟨h1,h2⟩,⟨d,e⟩,g,h⟩ c')
theorem zdK{a:Int}(h0 : -3<=a)(h1:a<=7):∃j:Nat,j<4/\Q8 a 4=some (j:Int):=by
 have e:a = -3\/a = -2\/a = -1\/a=0\/a=1\/a=2\/a=3\/a=4\/a=5\/a=6\/a=7:=by omega
 have q:∀{a:Int} (j:Nat),(Int.tmod a 4+4).natAbs<1000->Int.tmod (Int.tmod a 4+4) 4=(j:Int)->j<4->∃j:Nat,j<4/\Q8 a 4=some (j:Int):=λj h g k=>⟨j,k,by
  unfold Q8
  rw[aD Uz,xd Oz,aA,aD Uz,g]⟩
 rcases e with rfl|rfl|rfl|rfl|rfl|rfl|rfl|rfl|rfl|rfl|rfl
 .exact q 1 Uz Uz Uz
 .exact q 2 Uz Uz Uz
 .exact q 3 Uz Uz Uz
 .exact q 0 Uz Uz Uz
 .exact q 1 Uz Uz Uz
 .exact q 2 Uz Uz Uz
 .exact q 3 Uz Uz Uz
 .exact q 0 Uz Uz Uz
 .exact q 1 Uz Uz Uz
 .exact q 2 Uz Uz Uz
 .exact q 3 Uz Uz Uz
theorem o9{ρ:Type}{a b:ρ}:(if true=true then a else b)=a:=aG rfl
theorem Jo{ρ:Type}{a b:ρ}:(if false=true then a else b)=b:=aD Uz
abbrev AgR:=Option ((Rat×Rat)×(Rat×Rat)×Bool)
def tQ(o:AgR):Prop:=∃lo hi b,o=some (lo,hi,b)/\V2 4 60 lo/\V2 4 60 hi
theorem nH{pa pb:Pc}(E:bm pa)(F:bm pb){x y ea eb:Int}{t:Rat×Rat}(G:Tn 1 t)(ha:0<=ea/\ea<4)(hb:0<=eb/\eb<4):tQ (vz pa pb (x,y,ea,eb,1,t,(0,0),0,0)):=by
 obtain⟨la,ra,-,na,-⟩:=qB E
 obtain⟨lb,rb,-,nb,-⟩:=qB F
 have st:mM pa pb (x,y,ea,eb,1,t,(0,0),0,0)=some true:=by
  rw[zgA la lb]
  exact congrArg some (aH ⟨ha,hb,show(1:Int)<=1 by decide,show(1:Int)<4 by decide⟩)
 have L:=vO G
 have ut:Ci t=some true:=by
  obtain⟨d,h1,h2,h⟩:=Rh G Uz
  rw[(Kn h1 ⟨h2.1.le Uz,h2.2.le Uz⟩).2,h]
 have r:SB 4 2:=⟨by decide,by decide⟩
 have m:SB 4 4:=⟨by decide,by decide⟩
 have f:SB 4 60:=⟨by decide,by decide⟩
 have s40:SB 4 40:=⟨by decide,by decide⟩
 have he:=E.tol.1.add F.tol.1
 have Q:=yE (E.tol.1.sm r) (F.tol.1.sm r)
 generalize pa.2.2.2.2.2.1+pb.2.2.2.2.2.1=e at *
 have o:QV 4 60 0:=(QV.int (n:=0) (B:=60) Uz).up (k:=4)
 unfold vz
 rw[st,aA,aD Uz]
 show(Ci t).bind _ |> tQ
 rw[ut,aA,aD Uz,ra,aA,rb,aA,Q,aA]
 have le:(pa.2.2.1.map ah).length=4:=by rw[bI];exact la
 have X:(pb.2.2.1.map ah).length=4:=by rw[bI];exact lb
 refine zl 2 (λk x=>x.1=(k:Int)/\QV 4 60 x.2.1/\QV 4 60 x.2.2.1/\QV 4 60 x.2.2.2.1/\QV 4 60 x.2.2.2.2) tQ Oz ⟨rfl,o,o,o,o⟩ ?_ ?_
 .rintro k ⟨x0,s,x2,u,v⟩ g hk ⟨rfl,h1,h2,h,i⟩ hg
  have h1:QV 4 60 s:=h1
  have h2:QV 4 60 x2:=h2
  have h:QV 4 60 u:=h
  have i:QV 4 60 v:=i
  obtain⟨w,q1,Z⟩:=zdK (a:=ea+k) Oz Oz
  obtain⟨z,r1,r2⟩:=zdK (a:=eb+1-k) Oz Oz
  have v1:=na _ (aL (show w<pa.2.2.1.length by omega))
  have v2:=nb _ (aL (show z<pb.2.2.1.length by omega))
  have w3:ae (pa.2.2.1.map ah) (w:Int)=some (ah pa.2.2.1[w]):=by rw[zu V4,List.getElem_map]
  have w4:ae (pb.2.2.1.map ah) (z:Int)=some (ah pb.2.2.1[z]):=by rw[zu V4,List.getElem_map]
  generalize pa.2.2.1[w]=c1 at *
  generalize pb.2.2.1[z]=j at *
  have Y:=u7 L (kN v2) ⟨by decide,by decide⟩ ⟨by decide,by decide⟩ ⟨by decide,by decide⟩
  have u2:=V2.rot L (kN v2)
  have d:=(V2.sub (kN v1) u2).up (k:=4)
  have d:V2 4 36 (y5 (ah c1) (yx t (ah j))):=d
  have e1:=Rj (kN v1) u2 ⟨by decide,by decide⟩ ⟨by decide,by decide⟩
  have D:V2 4 4 (e,e):=⟨he,he⟩
  have l:SB 4 36:=⟨by decide,by decide⟩
  have e2:=Rj d D l m
  have R:Lv (y5 (ah c1) (yx t (ah j))) (e,e)=some (vx (y5 (ah c1) (yx t (ah j))) (e,e)):=by
   unfold Lv
   rw[yE (d.1.sm l) (he.sm m),yE (d.2.sm l) (he.sm m)]
   rfl
  have lo:V2 4 40 (y5 (y5 (ah c1) (yx t (ah j))) (e,e)):=V2.sub (C:=4) d D
  have hi:V2 4 40 (vx (y5 (ah c1) (yx t (ah j))) (e,e)):=V2.add (C:=4) d D
  rw[aG (aH (by show(k:Int)<=1;omega)),xd (show(ea+(k:Int)).natAbs<_ by omega),aA,xd (show(eb+1).natAbs<_ by omega),aA,xd (show(eb+1-(k:Int)).natAbs<_ by omega),aA,le,X]
  rw[show((4:Nat):Int)=4 from rfl,Z,aA,w3,aA,r2,aA,w4,aA,QF Y,aA,e1,aA,e2,aA,R,aA]
  generalize y5 (y5 (ah c1) (yx t (ah j))) (e,e)=q at *
  generalize vx (y5 (ah c1) (yx t (ah j))) (e,e)=p at *
  have H:=lo.1.le (C:=60) Uz
  have I:=lo.2.le (C:=60) Uz
  have J:=hi.1.le (C:=60) Uz
  have K:=hi.2.le (C:=60) Uz
  have S:=yW (H.sm f) (h1.sm f)
  have T:=yW (I.sm f) (h2.sm f)
  have U:=yW (J.sm f) (h.sm f)
  have V:=yW (K.sm f) (i.sm f)
  have fin:∀{M N O P:Rat},QV 4 60 M->QV 4 60 N->QV 4 60 O->QV 4 60 P->tQ ((i64 ((k:Int)+1)).bind λn=>g (n,M,N,O,P)):=λa b c d=>by
   rw[zo (show k<100000 by omega),aA]
   exact hg _ ⟨rfl,a,b,c,d⟩
  have W:k=0\/k=1:=by omega
  rcases W with rfl|rfl
  .have z0:decide (((0:Nat):Int)=0)=true:=rfl
   simp only[z0,o9]
   exact fin H I J K
  .have z1:decide (((1:Nat):Int)=0)=false:=rfl
   simp only[z1,Jo,S,T,U,V,aA]
   cases decide (0<kV q.1 s)<;>cases decide (0<kV q.2 x2)<;>cases decide (kV p.1 u<0)<;>cases decide (kV p.2 v<0)<;>simp only[o9,Jo]<;>exact fin Z1 Z1 Z1 Z1
 .rintro⟨x0,s,x2,u,v⟩ g ⟨rfl,h1,h2,h,i⟩
  have h1:QV 4 60 s:=h1
  have h2:QV 4 60 x2:=h2
  have h:QV 4 60 u:=h
  have i:QV 4 60 v:=i
  have A:V2 4 60 (0,0):=⟨o,o⟩
  rw[aD (show ¬(decide (((2:Nat):Int)<=1)=true)by decide),yW (h1.sm f) (h.sm f),aA]
  cases decide (0<kV s u)
  .rw[Jo,yW (h2.sm f) (i.sm f),aA]
   cases decide (0<kV x2 v)
   .exact⟨_,_,_,rfl,⟨h1,h2⟩,⟨h,i⟩⟩
   .exact⟨_,_,_,rfl,A,A⟩
  .exact⟨_,_,_,rfl,A,A⟩
theorem oX{pa pb:Pc}(f:bm pa)(g:bm pb){va vb:Pl}(ha:Tn 1 va.1)(hb:Tn 1 vb.1){x y ea eb:Int}(hx:x.natAbs<100)(hy:y.natAbs<100)(h1:0<=ea/\ea<4)(h2:0<=eb/\eb<4) :
 jC va.1=some (bck va.1)/\fR (bck va.1) vb.1=some (yx (bck va.1) vb.1)/\∃r,vz pa pb (x,y,ea,eb,1,yx (bck va.1) vb.1,(0,0),0,0)=some r/\fY (x,y,ea,eb,1,yx (bck va.1) vb.1,r.1,r.2.1)/\Tn 1 (yx (bck va.1) vb.1):=by
 have d:=vO ha
 have a:=ha.bck
 have bv:=vO hb
 have e1:jC va.1=some (bck va.1):=by
  unfold jC
  rw[kJ (d.2.sm ⟨by decide,by decide⟩)]
  rfl
 have c:Kd 1:=⟨by decide,by decide⟩
 have e2:=(zdW c c (vO a) bv).2.1
 have tu:Tn 1 (yx (bck va.1) vb.1):=a.aft hb
 obtain⟨lo,hi,b,e,g1,g2⟩:=nH f g (x:=x) (y:=y) tu h1 h2
 exact⟨e1,e2,_,e,⟨(show xc x from SK Oz),(show xc y from SK Oz),tu.le Uz⟩,tu⟩
end Go.Proofs.YtocnbjjmmgolfaaGreat
