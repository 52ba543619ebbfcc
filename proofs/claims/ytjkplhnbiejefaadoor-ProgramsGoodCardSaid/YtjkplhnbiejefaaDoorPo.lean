/-
  keep.Program again: the rows of its units' variables and functions are its own, known by name.
-/
import Derived.Test.YtjkplhnbiejefaaDoorPm
import Derived.Test.YtjkplhnbiejefaaDoorGh
import Derived.Test.YtjkplhnbiejefaaDoorDjk
import Derived.Test.YtjkplhnbiejefaaDoorDgl
namespace Go.Dm
open Go Go.Eng Go.RowKit
section
variable {P:Program} {G:Gl} {h:Heap} {K:KD}
theorem ghNameA (off m q:Nat) {cs:List D} {l:List (Value × Ob0)} {ts:List (Value × Nat)} {xs:List (List GV)} {e sz:Nat} (hc:cs[off]?=some (.row q)) (hm:h[m]?=some (.many l ts)) (hq:h[q]?=some (.row xs e sz))
  (k:∀ v:Value,GhostTo G (.agg (cs.set off (.g (.raw v)))) (h.set m (.many l ((v,q) :: ts))) K):GhostTo G (.agg cs) h K:=fun C w β V u hG hr hd=>by
 simp only[RepD] at hd
 obtain ⟨us,rfl,b3⟩:=hd
 obtain ⟨v,c1,c2⟩:=cell_rep b3 hc
 have key:GhostTo G (.row q) h (fun d' h'=>∃ v',d'=D.g (.raw v')∧h'=h.set m (Obj.many l ((v',q) :: ts))):=ghName m q hm hq (fun v'=>ghNo ⟨v',rfl,rfl⟩)
 obtain ⟨d',h',β',V',⟨v',rfl,rfl⟩,k2,k3,k4,k5⟩:=key C w β V v hG hr c2
 have b5:=cell_set (RepDL.mono k4 k5 _ _ b3) c1 k3
 obtain ⟨d2,h2,β2,V2,l1,l2,l3,l4,l5⟩:=k v' C w β' V' (.agg ⟨us⟩) hG k2 (by simp only[RepD];exact ⟨us,rfl,b5⟩)
 exact ⟨d2,h2,β2,V2,l1,l2,l3,k4.trans l4,k5.trans l5⟩
theorem semSee {g:FuncId} {all bs:List D} {x:GV} {K Qp:KD} (l:List Nat) (hs:∀ (C:Ctx) (w:World) (β:Nat→Value) (V:Nat→Prop) (vals:List Value),RelD C h β V w→RepDL h β V w all vals→RepDL [] (fun _=>undef) (killV h l β V) w bs vals)
  (hct:CT P G g bs (Is (.g x))) (hn:noV x) (hk:K (.g x) h):SemCall P G g all h K Qp:=by
 intro C w β V vals hG hr hd
 subst hG
 have hck:=kill_rel hr l
 refine (hct w _ vals hck.vlt hck.gl (hs C w β V vals hr hd)).mono fun e' w' he=>?_
 cases e' with
 | returned v =>
  obtain ⟨d,h',β',V',hq,hrel,hd'⟩:=he
  injection hq with e1 e2
  subst e1
  subst e2
  obtain ⟨q1,q2⟩:=relD_keep hr hrel.fr
  refine ⟨.g x,h,β,V,hk,q1,?_,LeH.refl _ _,q2⟩
  simp only[RepD] at hd' ⊢
  exact noV_rep hn hd'
 | panicked ch =>
  obtain ⟨d,t,u,β',V',rfl,hq,_⟩:=he
  cases hq
 | outgrown=>exact he.elim
theorem turnLend {n:Nat} {K:St→Prop} {env:Env} {h:Heap} {df:List Deferred} {v:Value} (m:Nat) (l1 l2:List (Value × Ob0)) (o:Ob0) {l:List (Value × Ob0)} {ts:List (Value × Nat)} (hm:h[m]?=some (.many l ts)) (hl:l=l1++(v,o) :: l2)
  (k:TurnP G n K ⟨env,h.set m (.many (l1++l2) ((v,h.length) :: ts))++[o.obj],df⟩):TurnP G n K ⟨env,h,df⟩:=by
 obtain ⟨st1,hst,hk⟩:=k
 refine ⟨st1,fun C a w hG hr=>hst C a w hG ?_,hk⟩
 obtain ⟨h1,h2,β,V,h3,h4⟩:=hr
 subst hl
 obtain ⟨q1,q2⟩:=RelD.lend h3 hm
 exact ⟨h1,h2,_,V,q1,fun i=>RepD.mono q2 (Moved.refl _ _) _ _ (h4 i)⟩
theorem turn2 {n:Nat} {K:St→Prop} {st:St} (h:TurnP G n (TurnP G n K) st):TurnP G n K st:=by
 obtain ⟨st1,h1,st2,h2,k⟩:=h
 exact ⟨st2,fun C a w e hr=>h2 C a w e (h1 C a w e hr),k⟩
theorem turnHide {n:Nat} {K:St→Prop} {env:Env} {h:Heap} {df:List Deferred} (m q:Nat) (v:Value) (z:Ob0) {l:List (Value × Ob0)} {ts:List (Value × Nat)} {o:Obj} (hm:h[m]?=some (.many l ts)) (ht:(v,q)∈ts) (hq:h[q]?=some o) (hz:isOb0 o z)
  (k:TurnP G n K ⟨env,(h.set m (.many (l++[(v,z)]) ts)).set q .dead,df⟩):TurnP G n K ⟨env,h,df⟩:=by
 obtain ⟨st1,hst,hk⟩:=k
 refine ⟨st1,fun C a w hG hr=>hst C a w hG ?_,hk⟩
 obtain ⟨h1,h2,β,V,h3,h4⟩:=hr
 obtain ⟨q1,q2⟩:=RelD.hide h3 hm ht hq hz
 exact ⟨h1,h2,β,V,q1,fun i=>RepD.mono q2 (Moved.refl _ _) _ _ (h4 i)⟩
end
end Go.Dm
namespace Barb
open Go Go.Dm Go.Eng
abbrev PN:=List (Value × Value)
def unitR (n:Value × Value) (u:Unit):List GV:=[.str u.name,.raw n.1,.sl 2 (u.arrays.map Arr.g),.raw n.2]
def pairZ (tS tF:TypeId) (n:Value × Value) (u:Unit):List (Value × Ob0):=[(n.1,.row (u.vars.map strG) tS 1),(n.2,.row (u.funcs.map Fun.g) tF 4)]
def rowsU:PN→List Unit→List (List GV)
 | n :: N,u :: us=>unitR n u :: rowsU N us
 | _,_=>[]
def manyU (tS tF:TypeId):PN→List Unit→List (Value × Ob0)
 | n :: N,u :: us=>pairZ tS tF n u++manyU tS tF N us
 | _,_=>[]
theorem rowsU_len:∀ {N:PN} {us:List Unit},N.length=us.length→(rowsU N us).length=us.length
 | [],[],_=>rfl
 | [],_ :: _,h=>by simp at h
 | _ :: _,[],h=>by simp at h
 | n :: N,u :: us,h=>by simp only[rowsU,List.length_cons];rw[rowsU_len (by simpa using h)]
theorem rowsU_snoc {n:Value × Value} {u:Unit}:∀ {N:PN} {us:List Unit},N.length=us.length→rowsU (N++[n]) (us++[u])=rowsU N us++[unitR n u]
 | [],[],_=>rfl
 | [],_ :: _,h=>by simp at h
 | _ :: _,[],h=>by simp at h
 | m :: N,v :: us,h=>by simp only[List.cons_append,rowsU];rw[rowsU_snoc (by simpa using h)]
theorem manyU_snoc {tS tF:TypeId} {n:Value × Value} {u:Unit}:∀ {N:PN} {us:List Unit},N.length=us.length→manyU tS tF (N++[n]) (us++[u])=manyU tS tF N us++pairZ tS tF n u
 | [],[],_=>by simp[manyU]
 | [],_ :: _,h=>by simp at h
 | _ :: _,[],h=>by simp at h
 | m :: N,v :: us,h=>by simp only[List.cons_append,manyU,List.append_assoc];rw[manyU_snoc (by simpa using h)]
theorem seeU {tS tF:TypeId} {V V':Nat→Prop} {w:World} (hVV:∀ k,V k→V' k):∀ {N:PN} {p:List Unit},N.length=p.length→(∀ q∈manyU tS tF N p,Ob0Ok V w q.1 q.2∧∀ k,bk q.1=some k→V' k)→∀ {vs:List Value},RepL V w (rowsU N p).flatten vs→RepL V' w (p.map Unit.g).flatten vs
 | [],[],_,_,vs,h=>by
  cases vs with
  | nil=>trivial
  | cons _ _=>exact h.elim
 | [],_ :: _,h,_,_,_=>by simp at h
 | _ :: _,[],h,_,_,_=>by simp at h
 | n :: N,u :: us,hl,hq,vs,h=>by
  have ha:=hq (n.1,.row (u.vars.map strG) tS 1) (by simp[manyU,pairZ])
  have hb:=hq (n.2,.row (u.funcs.map Fun.g) tF 4) (by simp[manyU,pairZ])
  have hm:Moved V w V' w:=fun k hk=>⟨hVV k hk,rfl⟩
  simp only[rowsU,unitR,List.flatten_cons,List.cons_append,List.nil_append] at h
  match vs,h with
  | v0 :: v1 :: v2 :: v3 :: vs,h =>
   obtain ⟨h0,h1,h2,h3,hr⟩:=h
   have e1:v1=n.1:=by simp only[RepV] at h1;exact h1.1
   have e3:v3=n.2:=by simp only[RepV] at h3;exact h3.1
   rw[List.map_cons,List.flatten_cons]
   refine ⟨RepV.move hm _ _ h0,?_,RepV.move hm _ _ h2,?_,seeU hVV (by simpa using hl) (fun q hq'=>hq q (by simp only[manyU,List.mem_append];exact .inr hq')) hr⟩
   ·rw[e1]
    exact row_frozen (h:=[]) (β:=fun _=>n.1) (i:=0) (e:=tS) ha.1 hVV ha.2
   ·rw[e3]
    exact row_frozen (h:=[]) (β:=fun _=>n.2) (i:=0) (e:=tF) hb.1 hVV hb.2
theorem see_prog {tS tF tU:TypeId} {h:Heap} {l:List (Value × Ob0)} {ts:List (Value × Nat)} (r m:Nat) {N:PN} {p:List Unit} (hN:N.length=p.length) (hr:h[r]?=some (.row (rowsU N p) tU 4)) (hm:h[m]?=some (.many l ts)) (hl:∀ q∈manyU tS tF N p,q∈l)
  (C:Dm.Ctx) (w:World) (β:Nat→Value) (V:Nat→Prop) (vals:List Value) (hrel:RelD C h β V w) (hd:RepDL h β V w [.row r] vals):RepDL [] (fun _=>undef) (killV h [r,m] β V) w [.g (.sl 4 (p.map Unit.g))] vals:=by
 simp only[RepDL] at hd
 obtain ⟨v,us,rfl,hv,rfl⟩:=hd
 simp only[RepD,hr] at hv
 subst hv
 have hVV:∀ k,V k→killV h [r,m] β V k:=fun k hk=>.inl hk
 obtain ⟨vs,q1,q2,q3,q4⟩:=hrel.obj r _ hr
 have hmo:=hrel.obj m _ hm
 have hq:∀ q∈manyU tS tF N p,Ob0Ok V w q.1 q.2∧∀ k,bk q.1=some k→killV h [r,m] β V k:=fun q hq=>⟨hmo.1 q (hl q hq),fun k hk=>.inr ⟨m,_,by simp,hm,rfl,q,hl q hq,hk⟩⟩
 have hs:=seeU hVV hN hq q2
 have hlen:(rowsU N p).length=(p.map Unit.g).length:=by rw[rowsU_len hN,List.length_map]
 have ho:ObjOk [] (fun _=>β r) (killV h [r,m] β V) w 0 (.row (p.map Unit.g) tU 4):=⟨vs,by rw[← hlen];exact q1,hs,fun g hg=>by
  obtain ⟨u,_,rfl⟩:=List.mem_map.1 hg
  rfl,q4⟩
 simp only[RepDL,RepD]
 exact ⟨β r,[],rfl,row_frozen (h:=[]) (β:=fun _=>β r) (i:=0) ho (fun _ hk=>hk) (fun k hk=>.inr ⟨r,_,by simp,hr,rfl,hk⟩),rfl⟩
end Barb
namespace Go.Proofs.YtjkplhnbiejefaaDoor
open Go Go.Dm Go.Eng Go.RowKit Barb
set_option maxRecDepth 20000 in
set_option maxHeartbeats 8000000 in
theorem ProgramOwn_any (l:List Raw) (hl:l.length*32≤140737488351232) (hI:∀ r∈l,r.I) :
  CT Tryd.prog gl 4 [.g (.sl 4 (l.map Raw.g))] (fun out=>∃ N:PN,N.length=(programP l).length∧out=.ret (.row 0) [.row (rowsU N (programP l)) 41 4,.many (manyU 9 37 N (programP l)) []]):=by
 have ll:(l.map Raw.g).length=l.length:=List.length_map _
 obtain ⟨k3,hk3,hk3l⟩:=pickN_nat l.length (many:=3) (by decide)
 obtain ⟨M,hMe⟩:∃ M,M=manyP l:=⟨_,rfl⟩
 have hMk:(M:Int)=1+pickN l.length 3:=by rw[hMe];unfold manyP;rw[show (3:Int)=((3:Nat):Int) from rfl,hk3];omega
 have hm:1≤M∧M≤3:=by rw[show (3:Int)=((3:Nat):Int) from rfl,hk3] at hMk;omega
 have hpk:CT Tryd.prog gl 6 [.g (.int ((l.map Raw.g).length:Nat)),.g (.int 3)] (Is (.g (.int (pickN l.length 3)))):=by
  rw[ll];exact picked_any l.length 3 (by unfold I64;omega) (by decide)
 have hw:IntKind.i64.wrap (1+pickN l.length 3)=(M:Int):=by rw[← hMk];exact I64.wrap (by unfold I64;omega)
 refine enterJ [] hT hF hM Tryd.func4 rfl 74 rfl (by kernel_rfl) [.tmp 2] rfl [.g (.sl 4 (l.map Raw.g))] rfl _ ?_
 refine callIs (.inl rfl) hpk ⟨_,hw,?_⟩
 refine loopR (ι:=PN) (fun N=>[(0,.g (.sl 4 (l.map Raw.g))),(3,.g (.int (M:Int))),(4,.row 0),(12,.g (.int (M:Int))),(13,.g (.int (N.length:Int)))]) (fun N=>[.row (rowsU N ((List.range N.length).map (unitOf l M))) 41 4,.many (manyU 9 37 N ((List.range N.length).map (unitOf l M))) []]) (fun N=>N.length≤M) (fun N=>M - N.length)
  ⟨[],[.nil 41 4,.many0],⟨rfl,.inl rfl,.inr ⟨lk rfl,lk rfl,.inr rfl,lk rfl,lk rfl,trivial⟩,rfl⟩,Nat.zero_le _⟩ ?_
 intro Rd hRd N hi
 obtain ⟨i,hNi⟩:∃ i,i=N.length:=⟨_,rfl⟩
 rw[← hNi] at hi ⊢
 refine ⟨fun hlt=>?_,fun hge=>?_⟩
 rotate_left
 ·have hiM:i=M:=by omega
  have hp:(List.range i).map (unitOf l M)=programP l:=by rw[hiM,hMe];rfl
  have hpl:(programP l).length=N.length:=by rw[← hp,List.length_map,List.length_range,hNi]
  rw[hp]
  exact ⟨rfl,[.old 0,.old 1],.row 0,[.row (rowsU N (programP l)) 41 4,.many (manyU 9 37 N (programP l)) []],⟨rfl,.inr ⟨⟨rfl,rfl,rfl⟩,⟨List.Perm.refl _,rfl⟩,trivial⟩,.inl rfl,rfl⟩,N,hpl.symm,rfl⟩
 have hiM:i < M:=by omega
 have hmul:∀ a:Nat,a≤4→a*l.length≤4*l.length:=fun a ha=>Nat.mul_le_mul_right _ ha
 have h1:=hmul i (by omega)
 have h2:=hmul (i+1) (by omega)
 have c1:((i:Int)*((l.map Raw.g).length:Nat))=((i*l.length:Nat):Int):=by rw[ll];push_cast;rfl
 have c2:(((i:Int)+1)*((l.map Raw.g).length:Nat))=(((i+1)*l.length:Nat):Int):=by rw[ll];push_cast;rfl
 obtain ⟨lo,hlo⟩:∃ lo,lo=i*l.length / M:=⟨_,rfl⟩
 obtain ⟨hi',hhi⟩:∃ hi',hi'=(i+1)*l.length / M:=⟨_,rfl⟩
 have d1:((i:Int)*((l.map Raw.g).length:Nat)).tdiv M=(lo:Int):=by rw[c1,Int.tdiv_eq_ediv_of_nonneg (by omega),hlo];rfl
 have d2:(((i:Int)+1)*((l.map Raw.g).length:Nat)).tdiv M=(hi':Int):=by rw[c2,Int.tdiv_eq_ediv_of_nonneg (by omega),hhi];rfl
 have hle:lo≤hi':=by rw[hlo,hhi];exact Nat.div_le_div_right (Nat.mul_le_mul_right _ (by omega))
 have hhl:hi'≤l.length:=by
  rw[hhi]
  have:(i+1)*l.length≤M*l.length:=Nat.mul_le_mul_right _ hiM
  exact Nat.le_trans (Nat.div_le_div_right this) (by rw[Nat.mul_div_cancel_left _ (by omega)];exact Nat.le_refl _)
 have hwi:IntKind.i64.wrap ((i:Int)+1)=(i:Int)+1:=I64.wrap (by unfold I64;omega)
 have hpart:((l.map Raw.g).take hi').drop lo=(partP l M i).map Raw.g:=by unfold partP;rw[List.map_drop,List.map_take,← hlo,← hhi]
 refine ⟨none,rfl,?_⟩
 refine ⟨by rw[c1];unfold I64;omega,by omega,by rw[d1];unfold I64;omega,?_⟩
 refine ⟨_,hwi,by rw[c2];unfold I64;omega,by omega,by rw[d2];unfold I64;omega,?_⟩
 refine ⟨lo,hi',dJ d1,dJ d2,hle,by rw[ll];exact hhl,?_⟩
 have hpl:(((l.map Raw.g).take hi').drop lo).length=(partP l M i).length:=by rw[hpart,List.length_map]
 have hpln:(partP l M i).length≤l.length:=by unfold partP;rw[List.length_drop,List.length_take];omega
 have hIp:∀ r∈partP l M i,r.I:=fun r hr=>hI r (List.mem_of_mem_take (List.mem_of_mem_drop hr))
 obtain ⟨th,hth⟩:∃ th,th=(partP l M i).length / 3:=⟨_,rfl⟩
 have d3:((((l.map Raw.g).take hi').drop lo).length:Int).tdiv 3=(th:Int):=by rw[hpl,Int.tdiv_eq_ediv_of_nonneg (by omega),hth];rfl
 have s1:CT Tryd.prog gl 7 [.g (.sl 4 ((((l.map Raw.g).take hi').drop lo).take th)),.g (.sl 1 [[.str sp],[.str sq]]),.g (.int M),.g (.int 1)] (Is (.g (.sl 5 ((bodyP [sp,sq] M ((partP l M i).take th)).map Stmt.g)))):=by
  rw[hpart,← List.map_take]
  exact Stmts_is [sp,sq] (by simp) M hm _ (by rw[List.length_take];omega) (fun r hr=>hIp r (List.mem_of_mem_take hr))
 have s2:CT Tryd.prog gl 7 [.g (.sl 4 (((((l.map Raw.g).take hi').drop lo).take (2*th)).drop th)),.g (.sl 1 [[.str sp]]),.g (.int M),.g (.int 1)] (Is (.g (.sl 5 ((bodyP [sp] M (((partP l M i).take (2*th)).drop th)).map Stmt.g)))):=by
  rw[hpart,← List.map_take,← List.map_drop]
  exact Stmts_is [sp] (by simp) M hm _ (by rw[List.length_drop,List.length_take];omega) (fun r hr=>hIp r (List.mem_of_mem_take (List.mem_of_mem_drop hr)))
 have s3:CT Tryd.prog gl 7 [.g (.sl 4 ((((l.map Raw.g).take hi').drop lo).drop (2*th))),.g (.sl 1 []),.g (.int M),.g (.int 1)] (Is (.g (.sl 5 ((bodyP [] M ((partP l M i).drop (2*th))).map Stmt.g)))):=by
  rw[hpart,← List.map_drop]
  exact Stmts_is [] (by simp) M hm _ (by rw[List.length_drop];omega) (fun r hr=>hIp r (List.mem_of_mem_drop hr))
 have hun:unitOf l M i=⟨unitsP.getD i [],[sx,sy],[⟨sarr,2+i⟩],[⟨sf,true,[sp,sq],bodyP [sp,sq] M ((partP l M i).take th)⟩,⟨sg,false,[sp],bodyP [sp] M (((partP l M i).take (2*th)).drop th)⟩,⟨sh,true,[],bodyP [] M ((partP l M i).drop (2*th))⟩]⟩:=by
  rw[hth];rfl
 generalize bodyP [sp,sq] M ((partP l M i).take th)=b1 at s1 hun
 generalize bodyP [sp] M (((partP l M i).take (2*th)).drop th)=b2 at s2 hun
 generalize bodyP [] M ((partP l M i).drop (2*th))=b3 at s3 hun
 have hw2:IntKind.i64.wrap (2+(i:Int))=2+(i:Int):=I64.wrap (by unfold I64;omega)
 have hth3:th≤(((l.map Raw.g).take hi').drop lo).length:=by omega
 have hth2:2*th≤(((l.map Raw.g).take hi').drop lo).length:=by omega
 have hm2:(2:Int)*(th:Int)=((2*th:Nat):Int):=by push_cast;rfl
 have hus:N.length=((List.range i).map (unitOf l M)).length:=by simp[hNi]
 have lout:(rowsU N ((List.range i).map (unitOf l M))).length=i:=by rw[rowsU_len hus];simp
 have hug:(unitOf l M i).g=[.str (unitsP.getD i []),.sl 1 [[.str sx],[.str sy]],.sl 2 [[.str sarr,.int (2+(i:Int))]],.sl 4 [[.str sf,.bool true,.sl 1 [[.str sp],[.str sq]],.sl 5 (b1.map Stmt.g)],[.str sg,.bool false,.sl 1 [[.str sp]],.sl 5 (b2.map Stmt.g)],[.str sh,.bool true,.sl 1 [],.sl 5 (b3.map Stmt.g)]]]:=by
  rw[hun,unit_g]
  simp only[List.map_cons,List.map_nil,Fun.g,Stmt.gs_map]
  rfl
 refine ⟨by decide,by rw[d3];unfold I64;omega,?_⟩
 have i3:i=0∨i=1∨i=2:=by omega
 generalize hus2:(List.range i).map (unitOf l M)=us at lout hus
 have hrowU:∀ a b,rowsU N us++[unitR (a,b) (unitOf l M i)]=rowsU (N++[(a,b)]) ((List.range (N++[(a,b)]).length).map (unitOf l M)):=fun a b=>by
  rw[List.length_append,List.length_singleton,← hNi,List.range_succ,List.map_append,List.map_singleton,hus2,rowsU_snoc hus]
 have hmanyU:∀ a b,manyU 9 37 N us++pairZ 9 37 (a,b) (unitOf l M i)=manyU 9 37 (N++[(a,b)]) ((List.range (N++[(a,b)]).length).map (unitOf l M)):=fun a b=>by
  rw[List.length_append,List.length_singleton,← hNi,List.range_succ,List.map_append,List.map_singleton,hus2,manyU_snoc hus]
 have hR:∀ a b,unitR (a,b) (unitOf l M i)=[.str (unitsP.getD i []),.raw a,.sl 2 [[.str sarr,.int (2+(i:Int))]],.raw b]:=fun a b=>by rw[hun];rfl
 have hZ:∀ a b,pairZ 9 37 (a,b) (unitOf l M i)=[(a,.row [[.str sx],[.str sy]] 9 1),(b,.row [[.str sf,.bool true,.sl 1 [[.str sp],[.str sq]],.sl 5 (b1.map Stmt.g)],[.str sg,.bool false,.sl 1 [[.str sp]],.sl 5 (b2.map Stmt.g)],[.str sh,.bool true,.sl 1 [],.sl 5 (b3.map Stmt.g)]] 37 4)]:=fun a b=>by
  rw[hun]
  simp only[pairZ,List.map_cons,List.map_nil,Fun.g,Stmt.gs_map]
  rfl
 rcases i3 with rfl | rfl | rfl
 all_goals
  refine ⟨some 370003,0,35,rfl,[35],rfl,?_⟩
  refine ⟨_,rfl,(by decide),?_⟩
  refine ⟨_,hw2,?_⟩
  refine ⟨[[.str sarr,.int _]],rfl,rfl,⟨rfl,rfl,trivial⟩,?_⟩
  refine ⟨[[.str sp],[.str sq]],rfl,rfl,⟨rfl,rfl,trivial⟩,?_⟩
  refine ⟨th,dJ d3,hth3,?_⟩
  refine ⟨[[.str sp],[.str sq]],rfl,rfl,⟨rfl,rfl,trivial⟩,?_⟩
  refine ⟨_,_,.inl rfl,s1,rfl,?_⟩
  refine ⟨[[.str sp]],rfl,rfl,⟨rfl,trivial⟩,?_⟩
  refine ⟨(by rw[d3];unfold I64;omega),?_⟩
  refine ⟨th,2*th,dJ d3,dJ (by rw[d3];exact hm2),by omega,hth2,?_⟩
  refine ⟨[[.str sp]],rfl,rfl,⟨rfl,trivial⟩,?_⟩
  refine ⟨_,_,.inl rfl,s2,rfl,?_⟩
  refine ⟨(by rw[d3];unfold I64;omega),?_⟩
  refine ⟨2*th,dJ (by rw[d3];exact hm2),hth2,?_⟩
  refine ⟨_,_,(show likeA [D.g (.sl 4 ((((l.map Raw.g).take hi').drop lo).drop (2*th))),.nils,.g (.int (M:Int)),.g (.int 1)] [D.g (.sl 4 ((((l.map Raw.g).take hi').drop lo).drop (2*th))),.g (.sl 1 []),.g (.int (M:Int)),.g (.int 1)] from .inr ⟨lk rfl,lkNil,lk rfl,lk rfl,trivial⟩),s3,rfl,?_⟩
  refine ⟨[[.str sf,.bool true,.sl 1 [[.str sp],[.str sq]],.sl 5 (b1.map Stmt.g)],[.str sg,.bool false,.sl 1 [[.str sp]],.sl 5 (b2.map Stmt.g)],[.str sh,.bool true,.sl 1 [],.sl 5 (b3.map Stmt.g)]],rfl,rfl,⟨rfl,rfl,rfl,rfl,rfl,rfl,rfl,rfl,rfl,rfl,⟨1,rfl⟩,rfl,trivial⟩,⟨_,rfl⟩,?_⟩
  refine .inr (ghNameA 1 1 3 rfl rfl rfl (fun a=>ghHide 1 3 a (.row [[.str sx],[.str sy]] 9 1) rfl List.mem_cons_self rfl ⟨rfl,rfl,rfl⟩ (ghNameA 3 1 2 rfl rfl rfl (fun b=>ghHide 1 2 b (.row [[.str sf,.bool true,.sl 1 [[.str sp],[.str sq]],.sl 5 (b1.map Stmt.g)],[.str sg,.bool false,.sl 1 [[.str sp]],.sl 5 (b2.map Stmt.g)],[.str sh,.bool true,.sl 1 [],.sl 5 (b3.map Stmt.g)]] 37 4) rfl List.mem_cons_self rfl ⟨rfl,rfl,rfl⟩ (ghNo ?_)))))
  refine ⟨[[.str _,.raw a,.sl 2 [[.str sarr,.int _]],.raw b]],rfl,rfl,⟨rfl,rfl,rfl,rfl,trivial⟩,?_⟩
  refine ⟨⟨by rw[lout];simp[maxLen],by rw[lout];simp⟩,?_⟩
  refine ⟨_,hwi,?_⟩
  refine hRd _ _ _ ⟨N++[(a,b)],[.old 4,.old 1],⟨rfl,.inr ⟨⟨(congrArg (fun z=>rowsU N us++[z]) (hR a b).symm).trans (hrowU a b),rfl,rfl⟩,⟨?_,rfl⟩,trivial⟩,.inr ⟨lk rfl,lk rfl,lk rfl,lk rfl,lkI (by rw[List.length_append,List.length_singleton,← hNi];rfl),trivial⟩,rfl⟩,by rw[List.length_append,List.length_singleton,← hNi];omega,by rw[List.length_append,List.length_singleton,← hNi];omega⟩
  rw[← hmanyU a b,hZ a b]
  simp
end Go.Proofs.YtjkplhnbiejefaaDoor
