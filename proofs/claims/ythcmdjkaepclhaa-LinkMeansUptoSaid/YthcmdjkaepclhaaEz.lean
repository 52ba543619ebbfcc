import Derived.Test.YthcmdjkaepclhaaPe
import Derived.Test.YthcmdjkaepclhaaDjk
import Derived.Test.YthcmdjkaepclhaaGh
import Derived.Test.YthcmdjkaepclhaaNq
import Derived.Test.YthcmdjkaepclhaaCl
namespace Barb
open Go Go.Dm Go.Eng
theorem iteL {c p q:Prop} [Decidable c] (h:c) (hp:p):if c then p else q:=by rw[if_pos h];exact hp
theorem iteR {c p q:Prop} [Decidable c] (h:¬c) (hp:q):if c then p else q:=by rw[if_neg h];exact hp
structure CN where
 v:Value
 ar:List Value
def rowZ (t:Nat) (l:List Int):Ob0:=.row (l.map intG) t 1
def cellZ (t:Nat) (n:CN) (c:Cells):List (Value × Ob0):=(n.v,rowZ t c.vars) :: List.zipWith (fun v l=>(v,rowZ t l)) n.ar c.arrays
def manyZ (t:Nat):List CN->List Cells->List (Value × Ob0)
 | n :: N,c :: C=>cellZ t n c++manyZ t N C
 | _,_=>[]
def CN.g (n:CN):List GV:=[.raw n.v,.sl 1 (n.ar.map fun a=>[.raw a])]
theorem zip_split {α β γ:Type} (f:α->β->γ):∀ (ys:List α) (bs:List β) (k:Nat) (hk:k < ys.length),k < bs.length->∀ b,List.zipWith f ys (bs.set k b)=List.zipWith f (ys.take k) (bs.take k)++f ys[k] b :: List.zipWith f (ys.drop (k+1)) (bs.drop (k+1))
 | [],_,_,hk,_,_=>by simp at hk
 | _ :: _,[],_,_,hk,_=>by simp at hk
 | a :: ys,b' :: bs,0,_,_,b=>by simp
 | a :: ys,b' :: bs,k+1,hk,hk',b=>by
  simp only[List.set_cons_succ,List.zipWith_cons_cons,List.take_succ_cons,List.cons_append,List.drop_succ_cons,List.getElem_cons_succ]
  rw[zip_split f ys bs k (by simpa using hk) (by simpa using hk') b]
theorem many_split (t:Nat):∀ (N:List CN) (C:List Cells) (u:Nat) (hu:u < N.length),u < C.length->∀ c,manyZ t N (C.set u c)=manyZ t (N.take u) (C.take u)++(cellZ t N[u] c++manyZ t (N.drop (u+1)) (C.drop (u+1)))
 | [],_,_,hu,_,_=>by simp at hu
 | _ :: _,[],_,_,hu,_=>by simp at hu
 | n :: N,c' :: C,0,_,_,c=>by simp[manyZ]
 | n :: N,c' :: C,u+1,hu,hu',c=>by
  simp only[List.set_cons_succ,manyZ,List.take_succ_cons,List.drop_succ_cons,List.getElem_cons_succ,List.append_assoc]
  rw[many_split t N C u (by simpa using hu) (by simpa using hu') c]
structure NI (N:List CN) (C:List Cells):Prop where
 len:N.length=C.length
 ar:∀ i (h:i < N.length) (h':i < C.length),N[i].ar.length=C[i].arrays.length
theorem set_self {α:Type} {l:List α} {u:Nat} (h:u < l.length):l.set u l[u]=l:=by simp
theorem lendV {t:Nat} {N:List CN} {s:ES} (hN:NI N s.cells) {u:Nat} (hu:u < s.cells.length):∃ l1 l2,manyZ t N s.cells=l1++((N[u]'(by rw[hN.len];exact hu)).v,rowZ t (cAt s u).vars) :: l2 /\
  (((N[u]'(by rw[hN.len];exact hu)).v,rowZ t (cAt s u).vars) :: (l1++l2)).Perm (manyZ t N s.cells)/\∀ i n,(((N[u]'(by rw[hN.len];exact hu)).v,rowZ t ((cAt s u).vars.set i n)) :: (l1++l2)).Perm (manyZ t N (s.setV u i n).cells):=by
 have huN:u < N.length:=by rw[hN.len];exact hu
 have key:=many_split t N s.cells u huN hu
 have e0:manyZ t N s.cells=manyZ t (N.take u) (s.cells.take u)++(cellZ t N[u] (cAt s u)++manyZ t (N.drop (u+1)) (s.cells.drop (u+1))):=by
  have:=key s.cells[u]
  rw[set_self hu] at this
  rw[this,cAt_eq hu]
 have e1:manyZ t N s.cells=manyZ t (N.take u) (s.cells.take u)++(N[u].v,rowZ t (cAt s u).vars) :: (List.zipWith (fun v l=>(v,rowZ t l)) N[u].ar (cAt s u).arrays++manyZ t (N.drop (u+1)) (s.cells.drop (u+1))):=by
  rw[e0];rfl
 refine ⟨_,_,e1,?_,fun i n=>?_⟩
 ·rw[e1];exact List.perm_middle.symm
 ·show List.Perm _ (manyZ t N (s.cells.set u ((cAt s u).setV i n)))
  rw[key]
  exact (List.perm_middle (l₁:=manyZ t (N.take u) (s.cells.take u)) (a:=(N[u].v,rowZ t ((cAt s u).vars.set i n)))).symm
theorem lendA {t:Nat} {N:List CN} {s:ES} (hN:NI N s.cells) {u:Nat} (hu:u < s.cells.length) {k:Nat} (hk:k < (cAt s u).arrays.length) :
  ∃ (v:Value) (l1 l2:List (Value × Ob0)),(N[u]'(by rw[hN.len];exact hu)).ar[k]?=some v/\manyZ t N s.cells=l1++(v,rowZ t ((cAt s u).arrays.getD k [])) :: l2 /\
  ((v,rowZ t ((cAt s u).arrays.getD k [])) :: (l1++l2)).Perm (manyZ t N s.cells)/\∀ i n,((v,rowZ t (((cAt s u).arrays.getD k []).set i n)) :: (l1++l2)).Perm (manyZ t N (s.setA u k i n).cells):=by
 have huN:u < N.length:=by rw[hN.len];exact hu
 have hka:k < N[u].ar.length:=by rw[hN.ar u huN hu,<- cAt_eq hu];exact hk
 have key:=many_split t N s.cells u huN hu
 have zk:=zip_split (fun v l=>(v,rowZ t l)) N[u].ar (cAt s u).arrays k hka hk
 have e0:manyZ t N s.cells=manyZ t (N.take u) (s.cells.take u)++(cellZ t N[u] (cAt s u)++manyZ t (N.drop (u+1)) (s.cells.drop (u+1))):=by
  have:=key s.cells[u]
  rw[set_self hu] at this
  rw[this,cAt_eq hu]
 have eg:(cAt s u).arrays.getD k []=(cAt s u).arrays[k]:=by simp[hk]
 have ez:=zk (cAt s u).arrays[k]
 rw[set_self hk] at ez
 have e1:manyZ t N s.cells=(manyZ t (N.take u) (s.cells.take u)++(N[u].v,rowZ t (cAt s u).vars) :: List.zipWith (fun v l=>(v,rowZ t l)) (N[u].ar.take k) ((cAt s u).arrays.take k))++(N[u].ar[k],rowZ t ((cAt s u).arrays.getD k [])) :: (List.zipWith (fun v l=>(v,rowZ t l)) (N[u].ar.drop (k+1)) ((cAt s u).arrays.drop (k+1))++manyZ t (N.drop (u+1)) (s.cells.drop (u+1))):=by
  rw[e0,eg];unfold cellZ;rw[ez];simp
 refine ⟨_,_,_,List.getElem?_eq_getElem hka,e1,?_,fun i n=>?_⟩
 ·rw[e1];exact List.perm_middle.symm
 ·show List.Perm _ (manyZ t N (s.cells.set u ((cAt s u).setA k i n)))
  rw[key]
  have ez2:=zk (((cAt s u).arrays.getD k []).set i n)
  have:manyZ t (N.take u) (s.cells.take u)++(cellZ t N[u] ((cAt s u).setA k i n)++manyZ t (N.drop (u+1)) (s.cells.drop (u+1)))=(manyZ t (N.take u) (s.cells.take u)++(N[u].v,rowZ t (cAt s u).vars) :: List.zipWith (fun v l=>(v,rowZ t l)) (N[u].ar.take k) ((cAt s u).arrays.take k))++(N[u].ar[k],rowZ t (((cAt s u).arrays.getD k []).set i n)) :: (List.zipWith (fun v l=>(v,rowZ t l)) (N[u].ar.drop (k+1)) ((cAt s u).arrays.drop (k+1))++manyZ t (N.drop (u+1)) (s.cells.drop (u+1))):=by
   unfold cellZ Cells.setA;rw[ez2];simp
  rw[this]
  exact (List.perm_middle (l₁:=_) (a:=(N[u].ar[k],rowZ t (((cAt s u).arrays.getD k []).set i n)))).symm
end Barb
namespace Go.Proofs.Ythcmdjkaepclhaa
open Go Go.Dm Go.Eng Go.RowKit Barb
abbrev cC (r k:Nat) (c:EC) (el:EL):List D:=[.ptr r 0,.g (.int (c.u:Int)),.g (.str c.f.name),.g (.bool c.f.isOpen),.g (.sl 1 (c.f.params.map strG)),.g (.sl 5 (c.f.body.map Stmt.g)),.row k,.g (.int (c.deep:Int)),.g (.bool el.back),.g (.int el.val)]
abbrev tz (s:ES):List (List GV):=s.told.map intG
abbrev mz (N:List CN) (s:ES):List (Value × Ob0):=manyZ 3 N s.cells
end Go.Proofs.Ythcmdjkaepclhaa
namespace Go.Dm
open Go Go.Eng Go.RowKit
section
variable {P:Program} {G:Gl} {n:Nat}
theorem turnLend {K:St->Prop} {env:Env} {h:Heap} {df:List Deferred} {v:Value} (m:Nat) (l1 l2:List (Value × Ob0)) (o:Ob0) {l:List (Value × Ob0)} {ts:List (Value × Nat)} (hm:h[m]?=some (.many l ts)) (hl:l=l1++(v,o) :: l2)
  (k:TurnP G n K ⟨env,h.set m (.many (l1++l2) ((v,h.length) :: ts))++[o.obj],df⟩):TurnP G n K ⟨env,h,df⟩:=by
 obtain ⟨st1,hst,hk⟩:=k
 refine ⟨st1,fun C a w hG hr=>hst C a w hG ?_,hk⟩
 obtain ⟨h1,h2,β,V,h3,h4⟩:=hr
 subst hl
 obtain ⟨q1,q2⟩:=RelD.lend h3 hm
 exact ⟨h1,h2,_,V,q1,fun i=>RepD.mono q2 (Moved.refl _ _) _ _ (h4 i)⟩
theorem turnTag {K:St->Prop} {env:Env} {h:Heap} {df:List Deferred} {v:Value} (s m q:Nat) {l:List (Value × Ob0)} {ts:List (Value × Nat)} {xs:List (List GV)} {e sz:Nat} (hs:env s=.g (.raw v)) (hm:h[m]?=some (.many l ts)) (ht:(v,q)∈ts) (hq:h[q]?=some (.row xs e sz))
  (k:TurnP G n K ⟨env.set s (.row q),h,df⟩):TurnP G n K ⟨env,h,df⟩:=by
 obtain ⟨st1,hst,hk⟩:=k
 refine ⟨st1,fun C a w hG hr=>hst C a w hG ?_,hk⟩
 obtain ⟨h1,h2,β,V,h3,h4⟩:=hr
 refine ⟨h1,h2,β,V,h3,fun i=>?_⟩
 show RepD h β V w (bif Nat.beq i s then .row q else env i) (a.tmps.getD i undef)
 by_cases hi:i=s
 ·subst hi
  rw[Nat.beq_refl]
  have hv:=h4 i
  show RepD h β V w (.row q) _
  rw[show (⟨env,h,df⟩:St).env i=.g (.raw v) from hs] at hv
  simp only[RepD,RepV] at hv
  obtain ⟨o,ho,hb⟩:=(h3.obj m _ hm).2.2 _ ht
  have ho':h[q]?=some o:=ho
  rw[hq] at ho'
  injection ho' with ho'
  subst ho'
  have hb':β q=v:=hb rfl
  simp only[RepD,hq]
  exact hv.1.trans hb'.symm
 ·rw[beq_ne hi]
  exact h4 i
end
end Go.Dm
namespace Go.Proofs.Ythcmdjkaepclhaa
open Go Go.Dm Go.Eng Go.RowKit Barb
theorem lrAt {N:List CN} {u:Nat} (hu:u < N.length):(N.map CN.g)[u]?=some N[u].g:=gm hu
theorem rawAt {ys:List Value} {k:Nat} {v:Value} (h:ys[k]?=some v):(ys.map fun a=>[GV.raw a])[k]?=some [.raw v]:=by simp[h]
end Go.Proofs.Ythcmdjkaepclhaa
namespace Barb
open Go Go.Dm Go.Eng
structure NP (N:List CN) (p:List Unit):Prop where
 len:N.length=p.length
 ar:∀ i (h:i < N.length) (h':i < p.length),N[i].ar.length=p[i].arrays.length
theorem NP.ni {N:List CN} {p:List Unit} (h:NP N p) {s:ES} (hs:SI p s):NI N s.cells :=
 ⟨h.len.trans hs.len.symm,fun i hi hi'=>by
  have hp:i < p.length:=by rw[<- hs.len];exact hi'
  rw[h.ar i hi hp,(hs.ok i hi' hp).1.2]⟩
theorem listF_cons (e:Expr->ES->RR Int) (x:Expr) (l:List Expr) (s:ES):listF e (x :: l) s=(e x s).bind fun n s=>(listF e l s).bind fun ns s=>.ok (n :: ns) s:=rfl
theorem bind_assoc {α β γ:Type} (r:RR α) (f:α->ES->RR β) (g:β->ES->RR γ):(r.bind f).bind g=r.bind fun a s=>(f a s).bind g:=by cases r<;>rfl
theorem listF_step {e:Expr->ES->RR Int} {l:List Expr} {s0 s:ES} {vs:List Int} (hi:vs.length < l.length) (h:listF e l s0=(listF e (l.drop vs.length) s).bind fun ns s=>.ok (vs++ns) s) :
  (∀ n s',e l[vs.length] s=.ok n s'->listF e l s0=(listF e (l.drop (vs++[n]).length) s').bind fun ns s=>.ok ((vs++[n])++ns) s)/\∀ c s',e l[vs.length] s=.stop c s'->listF e l s0=.stop c s':=by
 rw[List.drop_eq_getElem_cons hi,listF_cons] at h
 refine ⟨fun n s' hn=>?_,fun c s' hn=>?_⟩
 ·rw[hn] at h
  rw[h,List.length_append,List.length_singleton]
  show ((listF e (l.drop (vs.length+1)) s').bind _).bind _=_
  rw[bind_assoc]
  congr 1
  funext ns s
  show RR.ok _ _=RR.ok _ _
  simp
 ·rw[hn] at h;exact h
end Barb
namespace Go.Proofs.Ythcmdjkaepclhaa
open Go Go.Dm Go.Eng Go.RowKit Barb
theorem putO_rest5 (b:Nat) (f:Nat->Nat) (h':Heap):∀ (r:Heap) (q:Nat),putO [.old 0,.old 1,.old 2,.old 3,.old 4] b f h' (q+5) r=r
 | [],_=>rfl
 | x :: r,q=>by
  simp only[putO]
  rw[show q+5+1=q+1+5 from by omega,putO_rest5 b f h' r (q+1)]
  congr 1
end Go.Proofs.Ythcmdjkaepclhaa
namespace Go.Proofs.Ythcmdjkaepclhaa
open Go Go.Dm Go.Eng Go.RowKit Barb
structure OkS (p:List Barb.Unit) (N:List CN) (g:Nat) (s:ES):Prop where
 si:SI p s
 np:NP N p
 fuel:s.fuel<=g
 g:g<=200000
theorem exprF_eq (p:List Barb.Unit) (g:Nat) (c:EC) (ps:List Int) (x:Barb.Expr) (s:ES) (h0:s.fuel≠0):evE p (g+1) c ps x s=if x.k=1 then .ok x.n { s with fuel:=s.fuel - 1 } else if x.k=2 then .ok (getV p c ps { s with fuel:=s.fuel - 1 } x.s) { s with fuel:=s.fuel - 1 } else (listF (evE p g c ps) x.args { s with fuel:=s.fuel - 1 }).bind (lastF p (evS p g) c x):=by
 rw[evE_succ];unfold exprF burnS;rw[if_neg h0]
theorem expr_none (p:List Barb.Unit) (g:Nat) (c:EC) (ps:List Int) (x:Barb.Expr) (s:ES) (h0:s.fuel=0):evE p g c ps x s=.stop 3 s:=by
 cases g with
 | zero=>rfl
 | succ g=>rw[evE_succ];unfold exprF burnS;rw[if_pos h0]
theorem listF_none (e:Barb.Expr->ES->RR Int) (l:List Barb.Expr) (s:ES):listF e l s=(listF e (l.drop 0) s).bind fun ns s=>.ok ([]++ns) s:=by
 rw[List.drop_zero]
 cases listF e l s<;>rfl
theorem getD_at {l:List Int} {i:Nat} (h:i < l.length):l.getD i 0=l[i]:=by simp[h]
structure ArgI (p:List Barb.Unit) (N:List CN) (g:Nat) (c:EC) (ps:List Int) (args:List Barb.Expr) (s1:ES) (z:List Int × ES):Prop where
 le:z.1.length<=args.length
 ok:OkS p N g z.2
 w:wds z.1
 eq:listF (evE p g c ps) args s1=(listF (evE p g c ps) (args.drop z.1.length) z.2).bind fun ns s=>.ok (z.1++ns) s
theorem exG {l:List Barb.Expr} {i:Nat} (h:i < l.length):(l.map Expr.g)[i]?=some [.int l[i].k,.int l[i].n,.str l[i].of,.str l[i].s,.sl 5 (l[i].args.map Expr.g)]:=(gm h).trans (congrArg some (Expr.g_eq _))
end Go.Proofs.Ythcmdjkaepclhaa
namespace Go.Proofs.Ythcmdjkaepclhaa
open Go Go.Dm Go.Eng Go.RowKit Barb
structure SsC (p:List Barb.Unit) (c:EC) (l:List Barb.Stmt):Prop where
 ok:∀ x∈l,StI p c x
 i:∀ x∈l,Barb.Stmt.I x
 len:l.length*96<=140737488351232
structure BodI (p:List Barb.Unit) (N:List CN) (g:Nat) (c:EC) (l:List Barb.Stmt) (el0:EL) (s0:ES) (z:Nat × EL × ES):Prop where
 le:z.1<=l.length
 ok:OkS p N g z.2.2
 el:ELI c z.2.1
 eq:bodyF (evS p g c) l el0 s0=bodyF (evS p g c) (l.drop z.1) z.2.1 z.2.2
theorem stG {l:List Barb.Stmt} {i:Nat} (h:i < l.length):(l.map Stmt.g)[i]?=some [.int l[i].k,.str l[i].s,.sl 5 (l[i].xs.map Expr.g),.sl 5 (l[i].b.map Stmt.g),.sl 5 (l[i].e.map Stmt.g)]:=(gm h).trans (congrArg some (Stmt.g_eq _))
theorem bodyF_back (e:Barb.Stmt->EL->ES->RR EL):∀ (l:List Barb.Stmt) (el:EL) (s:ES),el.back=true->bodyF e l el s=.ok el s
 | [],_,_,_=>rfl
 | _ :: _,el,s,h=>by unfold bodyF;rw[if_pos h]
theorem bodyF_at (e:Barb.Stmt->EL->ES->RR EL) {l:List Barb.Stmt} {i:Nat} (hi:i < l.length) (el:EL) (s:ES) (h:el.back=false):bodyF e (l.drop i) el s=(e l[i] el s).bind (bodyF e (l.drop (i+1))):=by
 rw[List.drop_eq_getElem_cons hi]
 show (if el.back=true then _ else _)=_
 rw[if_neg (by rw[h];decide)]
theorem fnG {l:List Fun} {i:Nat} (h:i < l.length):(l.map Fun.g)[i]?=some [.str l[i].name,.bool l[i].isOpen,.sl 1 (l[i].params.map strG),.sl 5 (l[i].body.map Stmt.g)]:=(gm h).trans (congrArg some (Fun.g_eq _))
end Go.Proofs.Ythcmdjkaepclhaa
namespace Go.Proofs.Ythcmdjkaepclhaa
open Go Go.Dm Go.Eng Go.RowKit Barb
theorem stmtF_eq (p:List Barb.Unit) (g:Nat) (c:EC) (x:Barb.Stmt) (el:EL) (s:ES) (h0:s.fuel≠0):evS p (g+1) c x el s=(evE p g c el.ps (x.xs.getD 0 noX) { s with fuel:=s.fuel - 1 }).bind fun n s =>
  if x.k=1 then putV p c el s x.s n
  else if x.k=2 then (evE p g c el.ps (x.xs.getD 1 noX) s).bind fun v s=>putA p c el s x.s n v
  else if x.k=3 then bodyF (evS p g c) (if n=0 then x.e else x.b) el s
  else if x.k=4 then whileF (evE p g) (evS p g) c x (g+1) n el s
  else if x.k=5 then .ok { el with back:=true,val:=n } s
  else if s.told.length=500 then .stop 6 s else .ok el { s with told:=s.told++[n] }:=by
 rw[evS_succ];unfold stmtF burnS;rw[if_neg h0]
theorem stmt_none (p:List Barb.Unit) (g:Nat) (c:EC) (x:Barb.Stmt) (el:EL) (s:ES) (h0:s.fuel=0):evS p g c x el s=.stop 3 s:=by
 cases g with
 | zero=>rfl
 | succ g=>rw[evS_succ];unfold stmtF burnS;rw[if_pos h0]
structure WhI (p:List Barb.Unit) (N:List CN) (g:Nat) (c:EC) (x:Barb.Stmt) (r:RR EL) (z:Nat × Int × EL × ES):Prop where
 ok:OkS p N g z.2.2.2
 el:ELI c z.2.2.1
 w:wd z.2.1
 eq:(z.2.2.1.back=true/\r=.ok z.2.2.1 z.2.2.2)\/(z.2.2.1.back=false/\z.2.2.2.fuel < z.1/\whileF (evE p g) (evS p g) c x z.1 z.2.1 z.2.2.1 z.2.2.2=r)
end Go.Proofs.Ythcmdjkaepclhaa
namespace Barb
open Go Go.Dm Go.Eng
theorem zip_snoc {α β γ:Type} (f:α->β->γ):∀ (xs:List α) (ys:List β) (a:α) (b:β),xs.length=ys.length->List.zipWith f (xs++[a]) (ys++[b])=List.zipWith f xs ys++[f a b]
 | [],[],_,_,_=>rfl
 | [],_ :: _,_,_,h=>by simp at h
 | _ :: _,[],_,_,h=>by simp at h
 | x :: xs,y :: ys,a,b,h=>by
  simp only[List.cons_append,List.zipWith_cons_cons]
  rw[zip_snoc f xs ys a b (by simpa using h)]
theorem many_snoc (t:Nat):∀ (N:List CN) (C:List Cells) (n:CN) (c:Cells),N.length=C.length->manyZ t (N++[n]) (C++[c])=manyZ t N C++cellZ t n c
 | [],[],_,_,_=>by simp[manyZ]
 | [],_ :: _,_,_,h=>by simp at h
 | _ :: _,[],_,_,h=>by simp at h
 | m :: N,d :: C,n,c,h=>by
  simp only[List.cons_append,manyZ]
  rw[many_snoc t N C n c (by simpa using h),List.append_assoc]
end Barb
namespace Go.Proofs.Ythcmdjkaepclhaa
open Go Go.Dm Go.Eng Go.RowKit Barb
end Go.Proofs.Ythcmdjkaepclhaa
namespace Go.Dm
open Go Go.Eng Go.RowKit Barb
theorem ob_frozen {V V':Nat->Prop} {w:World} {v:Value} {xs:List (List GV)} {e sz:Nat} (ho:Ob0Ok V w v (.row xs e sz)) (hV:∀ k,V k->V' k) (hb:∀ k,bk v=some k->V' k):RepV V' w (.sl sz xs) v :=
 row_frozen (h:=[]) (β:=fun _=>v) (i:=0) ho hV hb
section
variable {V V':Nat->Prop} {w:World} {t:Nat}
def Melts (V V':Nat->Prop) (w:World) (l:List (Value × Ob0)):Prop:=∀ q∈l,Ob0Ok V w q.1 q.2/\∀ k,bk q.1=some k->V' k
theorem melt_arrs (hV:∀ k,V k->V' k) (a:Addr):∀ (ns:List Value) (ls:List (List Int)) (j:Nat),ns.length=ls.length->Melts V V' w (List.zipWith (fun v l=>(v,rowZ t l)) ns ls)->RepAll V' w 1 a j (ns.map fun a=>[.raw a])->RepAll V' w 1 a j (ls.map intsG)
 | [],[],_,_,_,h=>h
 | [],_ :: _,_,h,_,_=>by simp at h
 | _ :: _,[],_,h,_,_=>by simp at h
 | n :: ns,l :: ls,j,hl,hm,h=>by
  simp only[List.map_cons,RepAll] at h ⊢
  refine ⟨⟨rfl,?_⟩,melt_arrs hV a ns ls (j+1) (by simpa using hl) (fun q hq=>hm q (by simp only[List.zipWith_cons_cons];exact List.mem_cons_of_mem _ hq)) h.2⟩
  simp only[intsG,RepRow] at h ⊢
  obtain ⟨⟨_,⟨u,hu,hg⟩,_⟩,_⟩:=h
  simp only[RepV] at hg
  obtain ⟨h1,h2⟩:=hm (n,rowZ t l) (by simp only[List.zipWith_cons_cons];exact List.mem_cons_self)
  exact ⟨⟨u,hu,by rw[hg.1];exact ob_frozen h1 hV h2⟩,trivial⟩
theorem melt_cells (hV:∀ k,V k->V' k) (a:Addr):∀ (N:List CN) (C:List Cells) (j:Nat),NI N C->Melts V V' w (manyZ t N C)->RepAll V' w 2 a j (N.map CN.g)->RepAll V' w 2 a j (C.map Cells.g)
 | [],[],_,_,_,h=>h
 | [],_ :: _,_,h,_,_=>by have:=h.len;simp at this
 | _ :: _,[],_,h,_,_=>by have:=h.len;simp at this
 | n :: N,c :: C,j,hN,hm,h=>by
  have hN':NI N C:=⟨by have:=hN.len;simpa using this,fun i h1 h2=>by
   have:=hN.ar (i+1) (by simpa using h1) (by simpa using h2)
   simpa using this⟩
  have hna:n.ar.length=c.arrays.length:=by
   have:=hN.ar 0 (by simp) (by simp)
   simpa using this
  simp only[List.map_cons,RepAll] at h ⊢
  refine ⟨⟨rfl,?_⟩,melt_cells hV a N C (j+1) hN' (fun q hq=>hm q (by simp only[manyZ];exact List.mem_append.2 (.inr hq))) h.2⟩
  simp only[CN.g,Cells.g,RepRow] at h ⊢
  obtain ⟨⟨_,⟨u,hu,hg⟩,⟨u2,hu2,hg2⟩,_⟩,_⟩:=h
  simp only[RepV] at hg
  obtain ⟨h1,h2⟩:=hm (n.v,rowZ t c.vars) (by simp only[manyZ,cellZ];exact List.mem_append.2 (.inl List.mem_cons_self))
  refine ⟨⟨u,hu,by rw[hg.1];exact ob_frozen h1 hV h2⟩,⟨u2,hu2,?_⟩,trivial⟩
  simp only[RepV,List.length_map] at hg2 ⊢
  obtain ⟨A,cap,rfl,hc,h3,h4⟩:=hg2
  refine ⟨A,cap,by rw[hna],by omega,fun h0=>?_,h4⟩
  obtain ⟨a2,rfl,hVa,hall⟩:=h3 (by omega)
  exact ⟨a2,rfl,hVa,melt_arrs hV a2 n.ar c.arrays 0 hna (fun q hq=>hm q (by simp only[manyZ,cellZ];exact List.mem_append.2 (.inl (List.mem_cons_of_mem _ hq)))) hall⟩
theorem melt_rep (hV:∀ k,V k->V' k) {N:List CN} {C:List Cells} (hN:NI N C) (hm:Melts V V' w (manyZ t N C)) {v:Value} (h:RepV V' w (.sl 2 (N.map CN.g)) v):RepV V' w (.sl 2 (C.map Cells.g)) v:=by
 simp only[RepV,List.length_map] at h ⊢
 obtain ⟨A,cap,rfl,hc,h3,h4⟩:=h
 have hl:=hN.len
 refine ⟨A,cap,by rw[hl],by omega,fun h0=>?_,h4⟩
 obtain ⟨a2,rfl,hVa,hall⟩:=h3 (by omega)
 exact ⟨a2,rfl,hVa,melt_cells hV a2 N C 0 hN hm hall⟩
end
section
variable {G:Gl} {n:Nat}
theorem turnMelt {K:St->Prop} {env:Env} {h:Heap} {df:List Deferred} {N:List CN} {C:List Cells} {t tb m j off:Nat} {cs:List D} {ts:List (Value × Nat)} (hm:h[m]?=some (.many (manyZ t N C) ts)) (hj:h[j]?=some (.blk cs tb)) (hc:cs[off]?=some (.g (.sl 2 (N.map CN.g)))) (hN:NI N C)
  (k:TurnP G n K ⟨env,(h.set m .dead).set j (.blk (cs.set off (.g (.sl 2 (C.map Cells.g)))) tb),df⟩):TurnP G n K ⟨env,h,df⟩:=by
 obtain ⟨st1,hst,hk⟩:=k
 refine ⟨st1,fun X a w hG hr=>hst X a w hG ?_,hk⟩
 obtain ⟨h1,h2,β,V,h3,h4⟩:=hr
 have hmj:m≠j:=fun e=>by subst e;have:(⟨env,h,df⟩:St).h[m]?=some (.blk cs tb):=hj;rw[hm] at hj;cases hj
 have hkl:=kill_rel h3 [m]
 have hle:=kills_le [m] h β
 have hmv:=kill_moved h [m] β V w
 have ek:kills h [m]=h.set m .dead:=rfl
 rw[show (⟨env,h,df⟩:St).h=h from rfl] at hkl
 rw[ek] at hkl hle
 have hj':(h.set m .dead)[j]?=some (.blk cs tb):=by rw[List.getElem?_set_ne hmj];exact hj
 have hob:=h3.obj m _ hm
 have hr2:RelD X ((h.set m .dead).set j (.blk (cs.set off (.g (.sl 2 (C.map Cells.g)))) tb)) β (killV h [m] β V) w :=
  hkl.recell hj' (fun g vs _ _ p3=>by
   obtain ⟨v,c1,c2⟩:=cell_rep p3 hc
   refine cell_set p3 c1 ?_
   simp only[RepD] at c2 ⊢
   refine melt_rep (V:=V) (t:=t) (fun k hk=>.inl hk) hN (fun q hq=>⟨hob.1 q hq,fun k hk=>.inr ⟨m,_,List.mem_cons_self,hm,rfl,q,hq,hk⟩⟩) c2)
 have hle2:LeH h β ((h.set m .dead).set j (.blk (cs.set off (.g (.sl 2 (C.map Cells.g)))) tb)) β:=hle.trans (le_set hj' trivial)
 exact ⟨h1,h2,β,_,hr2,fun i=>RepD.mono hle2 hmv _ _ (h4 i)⟩
end
end Go.Dm
namespace Go.Proofs.Ythcmdjkaepclhaa
open Go Go.Dm Go.Eng Go.RowKit Barb
noncomputable def callR (p:List Barb.Unit) (cs:List Cells) (u i:Nat) (args:List Int) (deep fuel:Nat):RR Int:=callF p (evS p fuel) u i args deep ⟨fuel,[],cs⟩
def ansD (e v:Int) (s:ES):D:=.tuple [.agg [.g (.int e),.g (.int v),.g (.sl 1 (s.told.map intG)),.g (.sl 1 []),.g (.sl 7 [])],.g (.sl 2 (s.cells.map Cells.g)),.g (.int 0)]
def callD:RR Int->D
 | .ok n s=>ansD 1 n s
 | .stop e s=>ansD e 0 s
end Go.Proofs.Ythcmdjkaepclhaa
