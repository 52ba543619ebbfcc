import Derived.Test.YtpjjkiidjofflaaGreatDoorWDa4
import Derived.Test.YtpjjkiidjofflaaGreatDoorWTab
import Derived.OpenShut
import Derived.Handed
import Derived.Lib.LaidTab
import Derived.Deep.DeepHandedRow
import Derived.SevenTiedAt
namespace Go.Dm
open Go Go.Eng Go.RowKit Go.ChangeShapes Go.WideShapes Go.Deep Go.ChangeAt
def Zmp (P:Program) (w:World) (t:TypeId) (v:Value):Prop :=
 ∃f gs,Zdt P f t gs/\Za9 (λk=>k < w.heap.size) w gs v.cells.toList/\(match P.underlying t with | some (.struct _)=>∃cs,v=.agg cs | _=>v.cells=#[v])
section
variable {H:Type} {enc:TypeId × Value->H} {P:Program} {W W':World}
theorem Zw3 {S:List TypeId} (hS:ZgT P S=true) {t:TypeId} (ht:t∈S) {v:Value} {d:DataW H} {ps:List MemPlace} {base:Nat}
  (hv:Value.okWide P W .any base t v) (hw:∀n∈d.weights P t,n<=reachBytes) (h:DataW.Trod enc P W 0 (λ_=>true) true t v d ps):Zmp P W t v:=by
 obtain ⟨fuel,hf⟩:=h;obtain ⟨gs,h1,h2⟩:=ZoO hS fuel t _ _ ht hw hf;refine ⟨fuel,gs,h1,h2,?_⟩;have hp:=Ya7.1 hS t ht;unfold ZoS at hp;split at hp
 ·rename_i k hu;rw[hu];obtain ⟨n,rfl⟩:=okWide_int hu hv;rfl
 ·rename_i hu;rw[hu];obtain ⟨s,rfl⟩:=okWide_string hu hv;rfl
 ·rename_i hu;rw[hu];obtain ⟨s,rfl⟩:=okWide_bool hu hv;rfl
 ·rename_i e hu;rw[hu];obtain ⟨a,l,c,rfl⟩:=okWide_slice hu hv;rfl
 ·rename_i fs hu;rw[hu];obtain ⟨cs,rfl,_⟩:=okWide_struct hu hv;exact ⟨cs,rfl⟩
 ·cases hp
inductive ArgsOk (P:Program) (w:World):List TypeId->List Value->Prop
 | nil:ArgsOk P w [] []
 | cons {t:TypeId} {v:Value} {ts:List TypeId} {vs:List Value}:Zmp P w t v->ArgsOk P w ts vs->ArgsOk P w (t :: ts) (v :: vs)
theorem Zob {S:List TypeId} (hS:ZgT P S=true) {base:Nat}:∀(ts:List TypeId) (vs:List Value) (ds:List (DataW H)) (ps:List MemPlace),(∀t∈ts,t∈S)->(∀(j:Nat) t v,ts[j]?=some t->vs[j]?=some v->Value.okWide P W .any base t v) ->
  (∀n∈DataW.weightsEach P ts ds,n<=reachBytes)->DataW.TrodAll enc P W 0 (λ_=>true) true ts vs ds ps->ArgsOk P W ts vs
 | [],vs,ds,ps,_,_,_,h=>by obtain ⟨rfl,_,_⟩:=trodAll_nil h;exact .nil
 | t :: ts,vs,ds,ps,hS',hv,hw,h=>by obtain ⟨v,vs',d,ds',p,q,rfl,rfl,rfl,h0,r0⟩:=trodAll_cons h;simp only[DataW.weightsEach,Yao] at hw;exact .cons (Zw3 hS (hS' t Yac) (hv 0 t v rfl rfl) (λn hn=>hw n (.inl hn)) h0) (Zob hS ts vs' ds' q (λt ht=>hS' t (Yad _ ht)) (λj t v hj hv'=>hv (j+1) t v (by simpa using hj) (by simpa using hv')) (λn hn=>hw n (.inr hn)) r0)
theorem ZgI (hl:laidOutB P=true) (hb:Below W.heap.size W W'):∀(ts:List TypeId) (vs:List Value) (ds:List (DataW H)) (ps:List MemPlace),(∀t∈ts,P.readableRec t=true/\t < P.types.size)->(∀x∈ps,x.block < W.heap.size) ->
  DataW.TrodAll enc P W 0 (λ_=>true) true ts vs ds ps->DataW.TrodAll enc P W' 0 (λb=>decide (b < W.heap.size)) true ts vs ds ps
 | [],vs,ds,ps,_,_,h=>by obtain ⟨rfl,rfl,rfl⟩:=trodAll_nil h;exact trodAll_mk0
 | t :: ts,vs,ds,ps,hr,hlt,h=>by
  obtain ⟨v,vs',d,ds',p,q,rfl,rfl,rfl,h0,r0⟩:=trodAll_cons h;exact trodAll_cons_mk (Below.trod hl (hr t Yac).1 (hr t Yac).2 h0 hb (λx hx=>hlt x (Yao.2 (.inl hx))))
   (ZgI hl hb ts vs' ds' q (λt ht=>hr t (Yad _ ht)) (λx hx=>hlt x (Yao.2 (.inr hx))) r0)
def Yes (w:World):Ending->World->Prop:=λe w'=>e=.returned (.bool true)/\Fr (λ_=>False) w w'
theorem Ze3 {us:List TypeId}:∀{ts:List TypeId} {ds gs:List (DataW H)},ds.length=ts.length->∀{n:Nat},n∈DataW.weightsEach P ts ds->n∈DataW.weightsEach P (ts++us) (ds++gs)
 | [],[],_,_,n,h=>by simp[DataW.weightsEach] at h
 | [],_ :: _,_,hl,_,_=>by simp at hl
 | _ :: _,[],_,hl,_,_=>by simp at hl
 | t :: ts,d :: ds,gs,hl,n,h=>by
  simp only[List.cons_append,DataW.weightsEach,Yao] at h ⊢;rcases h with h | h
  ·exact .inl h
  ·exact .inr (Ze3 (by simpa using hl) h)
end
def Zxr (P:Program) (S:List TypeId) (ts:List TypeId):Bool:=ts.all λt=>S.contains t && P.readableRec t && Nat.blt t P.types.size
theorem ZtD {P:Program} {S ts:List TypeId} (h:Zxr P S ts=true):∀t∈ts,t∈S/\P.readableRec t=true/\t < P.types.size:=by intro t ht;have:=Ya7.1 h t ht;simp only[Yaf] at this;exact ⟨by simpa using this.1.1,this.1.2,Yaw this.2⟩
section
variable {P:Program} {w:World} {t:TypeId} {v:Value}
theorem Zmp.int (hu:P.underlying t=some (.int .i64)) (h:Zmp P w t v):∃n,v=.int .i64 n/\-9223372036854775808<=n/\n<=9223372036854775807:=by
 obtain ⟨f,gs,h1,h2,h3⟩:=h;simp only[Zdt,hu] at h1 h3;obtain ⟨g,rfl,hg⟩:=h1;cases f with
 | zero=>simp only[ZbA] at hg
 | succ f =>simp only[ZbA,hu] at hg;obtain ⟨n,rfl,hb⟩:=hg;rw[h3] at h2;have h4:=h2.1;simp only[ZaW] at h4;exact ⟨n,h4,hb⟩
theorem Zmp.slice {e:TypeId} (hu:P.underlying t=some (.slice e)) (h:Zmp P w t v):∃f g,ZbA P f t g/\ZaW (λk=>k < w.heap.size) w g v:=by obtain ⟨f,gs,h1,h2,h3⟩:=h;simp only[Zdt,hu] at h1 h3;obtain ⟨g,rfl,hg⟩:=h1;rw[h3] at h2;exact ⟨f,g,hg,h2.1⟩
theorem Zmp.struct {fs:Array Field} (hu:P.underlying t=some (.struct fs)) (h:Zmp P w t v):∃f gs cs,v=.agg ⟨cs⟩/\Zdt P f t gs/\Za9 (λk=>k < w.heap.size) w gs cs:=by obtain ⟨f,gs,h1,h2,h3⟩:=h;simp only[hu] at h3;obtain ⟨cs,rfl⟩:=h3;exact ⟨f,gs,cs.toList,rfl,h1,h2⟩
theorem ArgsOk.inv {ts:List TypeId} {vs:List Value} (h:ArgsOk P w (t :: ts) vs):∃v vs',vs=v :: vs'/\Zmp P w t v/\ArgsOk P w ts vs':=by
 cases h with
 | cons h0 r=>exact ⟨_,_,rfl,h0,r⟩
theorem ArgsOk.inv0 {vs:List Value} (h:ArgsOk P w [] vs):vs=[]:=by cases h;rfl
theorem ZBq {g:GV} (h:ZaW (λk=>k < w.heap.size) w g v):Zaa [] (λ_=>undef) (λk=>k < w.heap.size) w (.g g) v:=by simp only[Zaa];exact h
theorem ZzE {gs:List GV} {cs:List Value} (h:Za9 (λk=>k < w.heap.size) w gs cs):Zaa [] (λ_=>undef) (λk=>k < w.heap.size) w (.agg (gs.map .g)) (.agg ⟨cs⟩):=by simp only[Zaa];exact ⟨cs,rfl,(Zh1 _ _).2 h⟩
theorem Zw2:Zac [] (λ_=>undef) (λk=>k < w.heap.size) w [] []:=by simp[Zac]
theorem Zj2 {d:D} {ds:List D} {vs:List Value} (h:Zaa [] (λ_=>undef) (λk=>k < w.heap.size) w d v) (r:Zac [] (λ_=>undef) (λk=>k < w.heap.size) w ds vs):Zac [] (λ_=>undef) (λk=>k < w.heap.size) w (d :: ds) (v :: vs):=by simp only[Zac];exact ⟨v,vs,rfl,h,r⟩
end
section
variable {H:Type} {enc:TypeId × Value->H} {P:Program} {w:World}
def Zz6 {H:Type} (rows:List (List Int)):DataW H:=.agg (rows.map λr=>.agg (r.map λz=>.lit (.int .i64 z)))
theorem Zyu {base:Nat} {sp:Nat->Bool} {held:Bool} {fuel:Nat} {e:TypeId} {fs:Array Field} {cs:List Value} {r:List Int} {p:List MemPlace}
  (he:P.underlying e=some (.struct fs)) (hf:∀(j:Nat) (f:Field),fs[j]?=some f->f.offset=j/\P.underlying f.type=some (.int .i64)/\P.cellsOf f.type=1)
  (h:DataW.trod enc P w base sp held fuel e cs=some (.agg (r.map λz=>.lit (.int .i64 z)),p)):∀(j:Nat) (z:Int),r[j]?=some z->cs[j]?=some (.int .i64 z):=by
 obtain ⟨xs,n,rfl,hx,hl,hxl,hxf⟩:=DataW.trod_struct he h;intro j z hz;injection hx with hx _;injection hx with hx;have hr:(xs.map (·.1))[j]?=some (DataW.lit (.int .i64 z):DataW H):=by rw[<- hx];simp[hz]
 obtain ⟨x,hxj,hx1⟩:∃x,xs[j]?=some x/\x.1=.lit (.int .i64 z):=by simp only[YaC,YaD] at hr;exact hr
 have hjl:j < fs.size:=by rw[<- hxl];exact (Yaa.1 hxj).1
 have hfj:fs[j]?=some fs[j]:=YaI hjl;obtain ⟨h1,h2,h3⟩:=hf j _ hfj;have ht:=hxf j _ hfj;rw[h1,h3,hxj] at ht;obtain ⟨z',hc,hz',_⟩:=DataW.trod_int h2 ht;have hzz:z'=z:=by rw[hz'] at hx1;injection hx1 with hx1;injection hx1
 subst hzz;have:=congrArg (·[0]?) hc;simpa [List.getElem?_take,List.getElem?_drop] using this
theorem Zmb {base:Nat} {sp:Nat->Bool} {held:Bool} {fuel:Nat} {t e:TypeId} {n:Nat} {fs:Array Field} {cs:List Value} {rows:List (List Int)} {p:List MemPlace}
  (ht:P.underlying t=some (.array n e)) (he:P.underlying e=some (.struct fs)) (hce:P.cellsOf e=3) (hf:∀(j:Nat) (f:Field),fs[j]?=some f->f.offset=j/\P.underlying f.type=some (.int .i64)/\P.cellsOf f.type=1)
  (h:DataW.trod enc P w base sp held fuel t cs=some (Zz6 rows,p)):∀(i:Nat) (r:List Int),rows[i]?=some r->∀(j:Nat) (z:Int),r[j]?=some z->j < 3->cs[i*3+j]?=some (.int .i64 z):=by
 cases fuel with
 | zero=>simp[DataW.trod] at h
 | succ fuel =>
  simp only[DataW.trod,ht,hce] at h;split at h
  ·obtain ⟨xs,hm,hx⟩:=YaD.1 h;have hxs:xs.map (·.1)=rows.map λr=>(DataW.agg (r.map λz=>.lit (.int .i64 z)):DataW H):=by have:=congrArg Prod.fst hx;simpa [Zz6] using this
   have hxl:xs.length=n:=by simpa using Lib.mapM_length hm
   intro i r hi j z hj hj3;have h2:(xs.map (·.1))[i]?=some (DataW.agg (r.map λz=>.lit (.int .i64 z)):DataW H):=by rw[hxs];simp[hi]
   obtain ⟨x,hxi,hx1⟩:∃x,xs[i]?=some x/\x.1=.agg (r.map λz=>.lit (.int .i64 z)):=by simp only[YaC,YaD] at h2;exact h2
   have hil:i < n:=by rw[<- hxl];exact (Yaa.1 hxi).1
   obtain ⟨b,hb,hfb⟩:=Lib.mapM_at hm i i (by simp[hil]);rw[hxi] at hb;injection hb with hb;subst hb;obtain ⟨x1,x2⟩:=x;simp only at hx1;subst hx1;have:=Zyu he hf hfb j z hj;rw[Yaz hj3,YaX] at this;exact this
  ·cases h
theorem Znv {name:String} {rows:List (List Int)} {rest:List (String × DataW Unit)} {g:Nat} {t e:TypeId} {n:Nat} {fs:Array Field}
  (hg:P.globalNamed name=some g) (hty:(P.globals[g]?).map (·.type)=some t) (ht:P.underlying t=some (.array n e)) (he:P.underlying e=some (.struct fs)) (hce:P.cellsOf e=3)
  (hf:∀(j:Nat) (f:Field),fs[j]?=some f->f.offset=j/\P.underlying f.type=some (.int .i64)/\P.cellsOf f.type=1) (h3:∀r∈rows,r.length=3) (hne:rows≠[])
  (h:laidMet P ((name,Zz6 rows) :: rest) w):Zok [(g,rows.flatten.map .int)] (λk=>k < w.heap.size) w:=by
 obtain ⟨ps,⟨g',t',cs,fuel,p,q,hg',ht',hvar,hd,_,_⟩,_⟩:=h;obtain rfl:=Ya5 (hg.symm.trans hg');obtain rfl:=Ya5 (hty.symm.trans ht');have hc:=Zmb ht he hce hf hd;have flat:∀(rows:List (List Int)) (k:Nat) (z:Int),(∀r∈rows,r.length=3)->rows.flatten[k]?=some z->∃r,rows[k / 3]?=some r/\r[k % 3]?=some z:=by
  intro rows
  induction rows with
  | nil=>intro k z _ hk;simp at hk
  | cons r rows ih =>
   intro k z hr hk;have hr3:=hr r Yac;simp only[List.flatten_cons] at hk;by_cases hl:k < 3
   ·rw[Yaj (by omega)] at hk;exact ⟨r,by rw[show k / 3=0 from by omega];rfl,by rw[show k % 3=k from by omega];exact hk⟩
   ·rw[Yak (by omega),hr3] at hk;obtain ⟨r',h1,h2⟩:=ih (k - 3) z (λr hr'=>hr r (Yad _ hr')) hk;exact ⟨r',by rw[show k / 3=(k - 3) / 3+1 from by omega];simpa using h1,by rw[show k % 3=(k - 3) % 3 from by omega];exact h2⟩
 have cell:∀(k:Nat) (z:Int),rows.flatten[k]?=some z->w.cell? ⟨g,k,none⟩=some (.int .i64 z):=by intro k z hk;obtain ⟨r,h1,h2⟩:=flat rows k z h3 hk;have:=hc (k / 3) r h1 (k % 3) z h2 (Nat.mod_lt _ (by decide));rw[show k / 3*3+k % 3=k from by omega] at this;rw[World.var?_cell hg hvar k];simpa using this
 have row:∀(l:List Int) (i:Nat),(∀(k:Nat) (z:Int),l[k]?=some z->rows.flatten[i+k]?=some z)->ZaG (λk=>k < w.heap.size) w ⟨g,0,none⟩ i (l.map .int):=by
  intro l
  induction l with
  | nil=>intro i _;simp[ZaG]
  | cons z l ih =>intro i hl;simp only[Yar,ZaG];refine ⟨⟨.int .i64 z,?_,by simp only[ZaW]⟩,ih (i+1) (λk z' hk=>by rw[show i+1+k=i+(k+1) from by omega];exact hl (k+1) z' (by simpa using hk))⟩;rw[Zcm];simpa using cell i z (by simpa using hl 0 z rfl)
 intro q hq;simp only[Yay] at hq;subst hq;refine ⟨?_,row _ 0 (λk z hk=>by simpa using hk)⟩;cases hrows:rows with
 | nil=>exact absurd hrows hne
 | cons r rs =>have hr3:=h3 r (by rw[hrows];exact Yac);obtain ⟨z,hz⟩:∃z,r[0]?=some z:=⟨r[0]'(by omega),Yaq _⟩;have:=cell 0 z (by rw[hrows];simp only[List.flatten_cons];rw[Yaj (by omega)];exact hz);exact World.block_lt_of_cell? w _ this
theorem ZrO {G:Gl} {f:FuncId} {ds:List D} {vals:List Value} (hG:Zok G (λk=>k < w.heap.size) w) (h:CT P G f ds (Is (.g (.bool true)))) (hr:Zac [] (λ_=>undef) (λk=>k < w.heap.size) w ds vals):Calls P f ⟨vals⟩ w (Yes w) :=
 (h w _ vals (λ_ h=>h) hG hr).mono λe w' he=>by
  cases e with
  | returned v =>obtain ⟨d,h',β',V',hq,hrel,hd⟩:=he;injection hq with e1 e2;subst e1;simp only[Zaa,ZaW] at hd;exact ⟨by rw[hd],hrel.fr⟩
  | panicked ch=>obtain ⟨d,t,u,β',V',_,hq,_⟩:=he;cases hq
  | outgrown=>exact he.elim
end
section
variable {H:Type} {enc:TypeId × Value->H} {P:Program}
theorem ZlN {S:List TypeId} (hS:ZgT P S=true) (hl:laidOutB P=true) {f:FuncId} {fn:Func} {s:ChangeSpec} (hvars:s.vars=[]) (hfn:∀ds:List (DataW H),ds.length=fn.params.size->(s.fn H (ds++[]))={ results:=[.lit (.bool true)],args:=ds })
  {tb:TypeId} (hres:fn.resultTypes=#[tb]) (htb:P.underlying tb=some .bool) (hps:∀t∈fn.params.toList,t∈S/\P.readableRec t=true/\t < P.types.size)
  (W:World) (walk:∀args:List Value,ArgsOk P W fn.params.toList args->Calls P f args.toArray W (Yes W)) (base:Nat) (args:Array Value) (ds gs:List (DataW H)) (before:List MemPlace)
  (hval:∀(j:Nat) t v,fn.params[j]?=some t->args[j]?=some v->Value.okWide P W .any base t v) (hwt:(DataW.weightsEach P (fn.params.toList++s.plain.varTypes P) (ds++gs)).all (·<=reachBytes)=true) (hW:DataW.Whole enc P fn.params.toList s.vars false W args.toList ds gs before) :
  Calls P f args W λe W'=>∃v,e=.returned v/\s.post enc P fn false true false false W args v W':=by
 have hW':=hW;have hlt:∀x∈before,x.block < W.heap.size:=λx hx=>hW.lt x hx;obtain ⟨p,q,hA,hV,rfl,hfz,hnd⟩:=hW;rw[hvars] at hV;obtain ⟨rfl,rfl⟩:=trodVars_none hV;have hlen:ds.length=fn.params.size:=by
  have key:∀(ts:List TypeId) (vs:List Value) (ds:List (DataW H)) (ps:List MemPlace),DataW.TrodAll enc P W 0 (λ_=>true) true ts vs ds ps->ds.length=ts.length:=by
   intro ts
   induction ts with
   | nil=>intro vs ds ps h;obtain ⟨rfl,rfl,rfl⟩:=trodAll_nil h;rfl
   | cons t ts ih=>intro vs ds ps h;obtain ⟨v,vs',d,ds',p,q,rfl,rfl,rfl,h0,r0⟩:=trodAll_cons h;simp[ih _ _ _ r0]
  rw[key _ _ _ _ hA];simp
 have hok:=Zob hS fn.params.toList args.toList ds p (λt ht=>(hps t ht).1) (λj t v hj hv=>hval j t v (by simpa using hj) (by simpa using hv)) (λn hn=>by
  have:=Ya7.1 hwt n (Ze3 (by simpa using hlen) hn);simpa using this) hA
 have hw:=walk args.toList hok;rw[Array.toArray_toList] at hw;refine hw.mono λe W' ⟨he,hfr⟩=>?_;subst he;have hb:=hfr.below;refine ⟨_,rfl,ds,[],p++[],[],p,[],hW',?_,?_,?_,hb.frame _,λh=>by cases h⟩
 ·rw[hfn ds hlen,hres];exact trodAll_cons_mk (shut_bool htb true) trodAll_mk0
 ·rw[hfn ds hlen];exact ZgI hl hb _ _ _ _ (λt ht=>(hps t ht).2) (λx hx=>hlt x (by simpa using hx)) hA
 ·rw[hfn ds hlen,hvars];rfl
end
end Go.Dm
