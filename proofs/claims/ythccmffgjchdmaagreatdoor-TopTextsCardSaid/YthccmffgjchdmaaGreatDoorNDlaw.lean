import Derived.Test.YthccmffgjchdmaaGreatDoorNDa4
import Derived.Test.YthccmffgjchdmaaGreatDoorNTab
import Derived.OpenShut
import Derived.Handed
import Derived.Lib.LaidTab
import Derived.Deep.DeepHandedRow
import Derived.SevenTiedAt
namespace Go.Dm
open Go Go.Eng Go.RowKit Go.ChangeShapes Go.WideShapes Go.Deep Go.ChangeAt
def Zid (P:Program) (w:World) (t:TypeId) (v:Value):Prop :=
 ∃f gs,Zdr P f t gs/\Zbg (λk=>k < w.heap.size) w gs v.cells.toList/\(match P.underlying t with | some (.struct _)=>∃cs,v=.agg cs | _=>v.cells=#[v])
section
variable {H:Type} {enc:TypeId × Value->H} {P:Program} {W W':World}
theorem Zxk {S:List TypeId} (hS:Zg6 P S=true) {t:TypeId} (ht:t∈S) {v:Value} {d:DataW H} {ps:List MemPlace} {base:Nat}
  (hv:Value.okWide P W .any base t v) (hw:∀n∈d.weights P t,n<=reachBytes) (h:DataW.Trod enc P W 0 (λ_=>true) true t v d ps):Zid P W t v:=by
 obtain ⟨fuel,hf⟩:=h;obtain ⟨gs,h1,h2⟩:=Zo6 hS fuel t _ _ ht hw hf;refine ⟨fuel,gs,h1,h2,?_⟩;have hp:=Ybf.1 hS t ht;unfold Zpc at hp;split at hp
 ·rename_i k hu;rw[hu];obtain ⟨n,rfl⟩:=okWide_int hu hv;rfl
 ·rename_i hu;rw[hu];obtain ⟨s,rfl⟩:=okWide_string hu hv;rfl
 ·rename_i hu;rw[hu];obtain ⟨s,rfl⟩:=okWide_bool hu hv;rfl
 ·rename_i e hu;rw[hu];obtain ⟨a,l,c,rfl⟩:=okWide_slice hu hv;rfl
 ·rename_i fs hu;rw[hu];obtain ⟨cs,rfl,_⟩:=okWide_struct hu hv;exact ⟨cs,rfl⟩
 ·cases hp
inductive ArgsOk (P:Program) (w:World):List TypeId->List Value->Prop
 | nil:ArgsOk P w [] []
 | cons {t:TypeId} {v:Value} {ts:List TypeId} {vs:List Value}:Zid P w t v->ArgsOk P w ts vs->ArgsOk P w (t :: ts) (v :: vs)
theorem Zor {S:List TypeId} (hS:Zg6 P S=true) {base:Nat}:∀(ts:List TypeId) (vs:List Value) (ds:List (DataW H)) (ps:List MemPlace),(∀t∈ts,t∈S)->(∀(j:Nat) t v,ts[j]?=some t->vs[j]?=some v->Value.okWide P W .any base t v) ->
  (∀n∈DataW.weightsEach P ts ds,n<=reachBytes)->DataW.TrodAll enc P W 0 (λ_=>true) true ts vs ds ps->ArgsOk P W ts vs
 | [],vs,ds,ps,_,_,_,h=>by obtain ⟨rfl,_,_⟩:=trodAll_nil h;exact .nil
 | t :: ts,vs,ds,ps,tX,hv,hw,h=>by obtain ⟨v,dm,d,jK,p,q,rfl,rfl,rfl,h0,r0⟩:=trodAll_cons h;simp only[DataW.weightsEach,Yar] at hw;exact .cons (Zxk hS (tX t Yae) (hv 0 t v rfl rfl) (λn hn=>hw n (.inl hn)) h0) (Zor hS ts dm jK q (λt ht=>tX t (Yad _ ht)) (λj t v hj dh=>hv (j+1) t v (by simpa using hj) (by simpa using dh)) (λn hn=>hw n (.inr hn)) r0)
theorem ZgV (hl:laidOutB P=true) (hb:Below W.heap.size W W'):∀(ts:List TypeId) (vs:List Value) (ds:List (DataW H)) (ps:List MemPlace),(∀t∈ts,P.readableRec t=true/\t < P.types.size)->(∀x∈ps,x.block < W.heap.size) ->
  DataW.TrodAll enc P W 0 (λ_=>true) true ts vs ds ps->DataW.TrodAll enc P W' 0 (λb=>decide (b < W.heap.size)) true ts vs ds ps
 | [],vs,ds,ps,_,_,h=>by obtain ⟨rfl,rfl,rfl⟩:=trodAll_nil h;exact trodAll_mk0
 | t :: ts,vs,ds,ps,hr,aG,h=>by
  obtain ⟨v,dm,d,jK,p,q,rfl,rfl,rfl,h0,r0⟩:=trodAll_cons h;exact trodAll_cons_mk (Below.trod hl (hr t Yae).1 (hr t Yae).2 h0 hb (λx hx=>aG x (Yar.2 (.inl hx))))
   (ZgV hl hb ts dm jK q (λt ht=>hr t (Yad _ ht)) (λx hx=>aG x (Yar.2 (.inr hx))) r0)
def Yes (w:World):Ending->World->Prop:=λe w'=>e=.returned (.bool true)/\Fr (λ_=>False) w w'
theorem Zfp {us:List TypeId}:∀{ts:List TypeId} {ds gs:List (DataW H)},ds.length=ts.length->∀{n:Nat},n∈DataW.weightsEach P ts ds->n∈DataW.weightsEach P (ts++us) (ds++gs)
 | [],[],_,_,n,h=>by simp[DataW.weightsEach] at h
 | [],_ :: _,_,hl,_,_=>by simp at hl
 | _ :: _,[],_,hl,_,_=>by simp at hl
 | t :: ts,d :: ds,gs,hl,n,h=>by
  simp only[List.cons_append,DataW.weightsEach,Yar] at h ⊢;rcases h with h | h
  ·exact .inl h
  ·exact .inr (Zfp (by simpa using hl) h)
end
def ZxI (P:Program) (S:List TypeId) (ts:List TypeId):Bool:=ts.all λt=>S.contains t && P.readableRec t && Nat.blt t P.types.size
theorem Zt1 {P:Program} {S ts:List TypeId} (h:ZxI P S ts=true):∀t∈ts,t∈S/\P.readableRec t=true/\t < P.types.size:=by intro t ht;have:=Ybf.1 h t ht;simp only[Yag] at this;exact ⟨by simpa using this.1.1,this.1.2,Yau this.2⟩
section
variable {P:Program} {w:World} {t:TypeId} {v:Value}
theorem Zid.int (hu:P.underlying t=some (.int .i64)) (h:Zid P w t v):∃n,v=.int .i64 n/\-9223372036854775808<=n/\n<=9223372036854775807:=by
 obtain ⟨f,gs,h1,h2,h3⟩:=h;simp only[Zdr,hu] at h1 h3;obtain ⟨g,rfl,hg⟩:=h1;cases f with
 | zero=>simp only[ZbF] at hg
 | succ f =>simp only[ZbF,hu] at hg;obtain ⟨n,rfl,hb⟩:=hg;rw[h3] at h2;have h4:=h2.1;simp only[ZaS] at h4;exact ⟨n,h4,hb⟩
theorem Zid.strR (hu:P.underlying t=some .string) (h:Zid P w t v):∃l,v=.string ⟨⟨l⟩⟩/\l.length<=reachBytes:=by
 obtain ⟨f,gs,h1,h2,h3⟩:=h;simp only[Zdr,hu] at h1 h3;obtain ⟨g,rfl,hg⟩:=h1;cases f with
 | zero=>simp only[ZbF] at hg
 | succ f =>simp only[ZbF,hu] at hg;obtain ⟨n,rfl,hb⟩:=hg;rw[h3] at h2;have h4:=h2.1;simp only[ZaS] at h4;exact ⟨n,h4,hb⟩
theorem ZtQ {n:Nat} (h:n<=reachBytes):n<=maxLen:=YaC h (by decide)
theorem Zid.str (hu:P.underlying t=some .string) (h:Zid P w t v):∃l,v=.string ⟨⟨l⟩⟩/\l.length<=maxLen:=by obtain ⟨l,h1,h2⟩:=h.strR hu;exact ⟨l,h1,ZtQ h2⟩
theorem Zid.slice {e:TypeId} (hu:P.underlying t=some (.slice e)) (h:Zid P w t v):∃f g,ZbF P f t g/\ZaS (λk=>k < w.heap.size) w g v:=by obtain ⟨f,gs,h1,h2,h3⟩:=h;simp only[Zdr,hu] at h1 h3;obtain ⟨g,rfl,hg⟩:=h1;rw[h3] at h2;exact ⟨f,g,hg,h2.1⟩
theorem Zid.struct {fs:Array Field} (hu:P.underlying t=some (.struct fs)) (h:Zid P w t v):∃f gs cs,v=.agg ⟨cs⟩/\Zdr P f t gs/\Zbg (λk=>k < w.heap.size) w gs cs:=by obtain ⟨f,gs,h1,h2,h3⟩:=h;simp only[hu] at h3;obtain ⟨cs,rfl⟩:=h3;exact ⟨f,gs,cs.toList,rfl,h1,h2⟩
theorem ArgsOk.inv {ts:List TypeId} {vs:List Value} (h:ArgsOk P w (t :: ts) vs):∃v dm,vs=v :: dm/\Zid P w t v/\ArgsOk P w ts dm:=by
 cases h with
 | cons h0 r=>exact ⟨_,_,rfl,h0,r⟩
theorem ArgsOk.inv0 {vs:List Value} (h:ArgsOk P w [] vs):vs=[]:=by cases h;rfl
theorem ZBu {g:GV} (h:ZaS (λk=>k < w.heap.size) w g v):Zab [] (λ_=>undef) (λk=>k < w.heap.size) w (.g g) v:=by simp only[Zab];exact h
theorem ZzX {gs:List GV} {cs:List Value} (h:Zbg (λk=>k < w.heap.size) w gs cs):Zab [] (λ_=>undef) (λk=>k < w.heap.size) w (.agg (gs.map .g)) (.agg ⟨cs⟩):=by simp only[Zab];exact ⟨cs,rfl,(Zic _ _).2 h⟩
theorem Zxj:Zaa [] (λ_=>undef) (λk=>k < w.heap.size) w [] []:=by simp[Zaa]
theorem Zkn {d:D} {ds:List D} {vs:List Value} (h:Zab [] (λ_=>undef) (λk=>k < w.heap.size) w d v) (r:Zaa [] (λ_=>undef) (λk=>k < w.heap.size) w ds vs):Zaa [] (λ_=>undef) (λk=>k < w.heap.size) w (d :: ds) (v :: vs):=by simp only[Zaa];exact ⟨v,vs,rfl,h,r⟩
end
section
variable {H:Type} {enc:TypeId × Value->H} {P:Program} {w:World}
def ZBB {H:Type} (rows:List (List Int)):DataW H:=.agg (rows.map λr=>.agg (r.map λz=>.lit (.int .i64 z)))
theorem ZyV {base:Nat} {sp:Nat->Bool} {held:Bool} {fuel:Nat} {e:TypeId} {fs:Array Field} {cs:List Value} {r:List Int} {p:List MemPlace}
  (he:P.underlying e=some (.struct fs)) (hf:∀(j:Nat) (f:Field),fs[j]?=some f->f.offset=j/\P.underlying f.type=some (.int .i64)/\P.cellsOf f.type=1)
  (h:DataW.trod enc P w base sp held fuel e cs=some (.agg (r.map λz=>.lit (.int .i64 z)),p)):∀(j:Nat) (z:Int),r[j]?=some z->cs[j]?=some (.int .i64 z):=by
 obtain ⟨xs,n,rfl,hx,hl,fj,vj⟩:=DataW.trod_struct he h;intro j z hz;injection hx with hx _;injection hx with hx;have hr:(xs.map (·.1))[j]?=some (DataW.lit (.int .i64 z):DataW H):=by rw[<- hx];simp[hz]
 obtain ⟨x,nI,cS⟩:∃x,xs[j]?=some x/\x.1=.lit (.int .i64 z):=by simp only[YaE,YaB] at hr;exact hr
 have aD:j < fs.size:=by rw[<- fj];exact (Yac.1 nI).1
 have tL:fs[j]?=some fs[j]:=YaD aD;obtain ⟨h1,h2,h3⟩:=hf j _ tL;have ht:=vj j _ tL;rw[h1,h3,nI] at ht;obtain ⟨z',hc,k6,_⟩:=DataW.trod_int h2 ht;have ve:z'=z:=by rw[k6] at cS;injection cS with cS;injection cS
 subst ve;have:=congrArg (·[0]?) hc;simpa [List.getElem?_take,List.getElem?_drop] using this
theorem Zmz {base:Nat} {sp:Nat->Bool} {held:Bool} {fuel:Nat} {t e:TypeId} {n:Nat} {fs:Array Field} {cs:List Value} {rows:List (List Int)} {p:List MemPlace}
  (ht:P.underlying t=some (.array n e)) (he:P.underlying e=some (.struct fs)) (jz:P.cellsOf e=3) (hf:∀(j:Nat) (f:Field),fs[j]?=some f->f.offset=j/\P.underlying f.type=some (.int .i64)/\P.cellsOf f.type=1)
  (h:DataW.trod enc P w base sp held fuel t cs=some (ZBB rows,p)):∀(i:Nat) (r:List Int),rows[i]?=some r->∀(j:Nat) (z:Int),r[j]?=some z->j < 3->cs[i*3+j]?=some (.int .i64 z):=by
 cases fuel with
 | zero=>simp[DataW.trod] at h
 | succ fuel =>
  simp only[DataW.trod,ht,jz] at h;split at h
  ·obtain ⟨xs,hm,hx⟩:=YaB.1 h;have eu:xs.map (·.1)=rows.map λr=>(DataW.agg (r.map λz=>.lit (.int .i64 z)):DataW H):=by have:=congrArg Prod.fst hx;simpa [ZBB] using this
   have fj:xs.length=n:=by simpa using Lib.mapM_length hm
   intro i r hi j z hj ov;have h2:(xs.map (·.1))[i]?=some (DataW.agg (r.map λz=>.lit (.int .i64 z)):DataW H):=by rw[eu];simp[hi]
   obtain ⟨x,nJ,cS⟩:∃x,xs[i]?=some x/\x.1=.agg (r.map λz=>.lit (.int .i64 z)):=by simp only[YaE,YaB] at h2;exact h2
   have az:i < n:=by rw[<- fj];exact (Yac.1 nJ).1
   obtain ⟨b,hb,wD⟩:=Lib.mapM_at hm i i (by simp[az]);rw[nJ] at hb;injection hb with hb;subst hb;obtain ⟨x1,x2⟩:=x;simp only at cS;subst cS;have:=ZyV he hf wD j z hj;rw[Yaw ov,YaT] at this;exact this
  ·cases h
theorem ZnN {name:String} {rows:List (List Int)} {rest:List (String × DataW Unit)} {g:Nat} {t e:TypeId} {n:Nat} {fs:Array Field}
  (hg:P.globalNamed name=some g) (qE:(P.globals[g]?).map (·.type)=some t) (ht:P.underlying t=some (.array n e)) (he:P.underlying e=some (.struct fs)) (jz:P.cellsOf e=3)
  (hf:∀(j:Nat) (f:Field),fs[j]?=some f->f.offset=j/\P.underlying f.type=some (.int .i64)/\P.cellsOf f.type=1) (h3:∀r∈rows,r.length=3) (aC:rows≠[])
  (h:laidMet P ((name,ZBB rows) :: rest) w):Zis [(g,rows.flatten.map .int)] (λk=>k < w.heap.size) w:=by
 obtain ⟨ps,⟨g',t',cs,fuel,p,q,iZ,jS,iF,hd,_,_⟩,_⟩:=h;obtain rfl:=Ya2 (hg.symm.trans iZ);obtain rfl:=Ya2 (qE.symm.trans jS);have hc:=Zmz ht he jz hf hd;have flat:∀(rows:List (List Int)) (k:Nat) (z:Int),(∀r∈rows,r.length=3)->rows.flatten[k]?=some z->∃r,rows[k / 3]?=some r/\r[k % 3]?=some z:=by
  intro rows
  induction rows with
  | nil=>intro k z _ hk;simp at hk
  | cons r rows ih =>
   intro k z hr hk;have eF:=hr r Yae;simp only[List.flatten_cons] at hk;by_cases hl:k < 3
   ·rw[Yal (by omega)] at hk;exact ⟨r,by rw[show k / 3=0 from by omega];rfl,by rw[show k % 3=k from by omega];exact hk⟩
   ·rw[Yaj (by omega),eF] at hk;obtain ⟨r',h1,h2⟩:=ih (k - 3) z (λr aL=>hr r (Yad _ aL)) hk;exact ⟨r',by rw[show k / 3=(k - 3) / 3+1 from by omega];simpa using h1,by rw[show k % 3=(k - 3) % 3 from by omega];exact h2⟩
 have cell:∀(k:Nat) (z:Int),rows.flatten[k]?=some z->w.cell? ⟨g,k,none⟩=some (.int .i64 z):=by intro k z hk;obtain ⟨r,h1,h2⟩:=flat rows k z h3 hk;have:=hc (k / 3) r h1 (k % 3) z h2 (Nat.mod_lt _ (by decide));rw[show k / 3*3+k % 3=k from by omega] at this;rw[World.var?_cell hg iF k];simpa using this
 have row:∀(l:List Int) (i:Nat),(∀(k:Nat) (z:Int),l[k]?=some z->rows.flatten[i+k]?=some z)->Zav (λk=>k < w.heap.size) w ⟨g,0,none⟩ i (l.map .int):=by
  intro l
  induction l with
  | nil=>intro i _;simp[Zav]
  | cons z l ih =>intro i hl;simp only[Yan,Zav];refine ⟨⟨.int .i64 z,?_,by simp only[ZaS]⟩,ih (i+1) (λk z' hk=>by rw[show i+1+k=i+(k+1) from by omega];exact hl (k+1) z' (by simpa using hk))⟩;rw[Zb8];simpa using cell i z (by simpa using hl 0 z rfl)
 intro q hq;simp only[Yaz] at hq;subst hq;refine ⟨?_,row _ 0 (λk z hk=>by simpa using hk),by cases rows.flatten<;>trivial⟩;cases dD:rows with
 | nil=>exact absurd dD aC
 | cons r rs =>have eF:=h3 r (by rw[dD];exact Yae);obtain ⟨z,hz⟩:∃z,r[0]?=some z:=⟨r[0]'(by omega),Yak _⟩;have:=cell 0 z (by rw[dD];simp only[List.flatten_cons];rw[Yal (by omega)];exact hz);exact World.block_lt_of_cell? w _ this
theorem Zsa {G:Gl} {f:FuncId} {ds:List D} {aa:List Value} (hG:Zis G (λk=>k < w.heap.size) w) (h:CT P G f ds (Is (.g (.bool true)))) (hr:Zaa [] (λ_=>undef) (λk=>k < w.heap.size) w ds aa):Calls P f ⟨aa⟩ w (Yes w) :=
 (h w _ aa (λ_ h=>h) hG hr).mono λe w' he=>by
  cases e with
  | returned v =>obtain ⟨d,h',β',V',hq,ab,hd⟩:=he;injection hq with e1 e2;subst e1;simp only[Zab,ZaS] at hd;exact ⟨by rw[hd],ab.fr⟩
  | panicked ch=>obtain ⟨d,t,u,β',V',_,hq,_⟩:=he;cases hq
  | outgrown=>exact he.elim
end
section
variable {H:Type} {enc:TypeId × Value->H} {P:Program}
theorem Zl9 {S:List TypeId} (hS:Zg6 P S=true) (hl:laidOutB P=true) {f:FuncId} {fn:Func} {s:ChangeSpec} (kC:s.vars=[]) (eM:∀ds:List (DataW H),ds.length=fn.params.size->(s.fn H (ds++[]))={ results:=[.lit (.bool true)],args:=ds })
  {tb:TypeId} (bN:fn.resultTypes=#[tb]) (pC:P.underlying tb=some .bool) (eG:∀t∈fn.params.toList,t∈S/\P.readableRec t=true/\t < P.types.size)
  (W:World) (walk:∀args:List Value,ArgsOk P W fn.params.toList args->Calls P f args.toArray W (Yes W)) (base:Nat) (args:Array Value) (ds gs:List (DataW H)) (before:List MemPlace)
  (iG:∀(j:Nat) t v,fn.params[j]?=some t->args[j]?=some v->Value.okWide P W .any base t v) (fY:(DataW.weightsEach P (fn.params.toList++s.plain.varTypes P) (ds++gs)).all (·<=reachBytes)=true) (hW:DataW.Whole enc P fn.params.toList s.vars false W args.toList ds gs before) :
  Calls P f args W λe W'=>∃v,e=.returned v/\s.post enc P fn false true false false W args v W':=by
 have xe:=hW;have aG:∀x∈before,x.block < W.heap.size:=λx hx=>hW.lt x hx;obtain ⟨p,q,hA,hV,rfl,mV,pJ⟩:=hW;rw[kC] at hV;obtain ⟨rfl,rfl⟩:=trodVars_none hV;have hlen:ds.length=fn.params.size:=by
  have key:∀(ts:List TypeId) (vs:List Value) (ds:List (DataW H)) (ps:List MemPlace),DataW.TrodAll enc P W 0 (λ_=>true) true ts vs ds ps->ds.length=ts.length:=by
   intro ts
   induction ts with
   | nil=>intro vs ds ps h;obtain ⟨rfl,rfl,rfl⟩:=trodAll_nil h;rfl
   | cons t ts ih=>intro vs ds ps h;obtain ⟨v,dm,d,jK,p,q,rfl,rfl,rfl,h0,r0⟩:=trodAll_cons h;simp[ih _ _ _ r0]
  rw[key _ _ _ _ hA];simp
 have aR:=Zor hS fn.params.toList args.toList ds p (λt ht=>(eG t ht).1) (λj t v hj hv=>iG j t v (by simpa using hj) (by simpa using hv)) (λn hn=>by
  have:=Ybf.1 fY n (Zfp (by simpa using hlen) hn);simpa using this) hA
 have hw:=walk args.toList aR;rw[Array.toArray_toList] at hw;refine hw.mono λe W' ⟨he,fc⟩=>?_;subst he;have hb:=fc.below;refine ⟨_,rfl,ds,[],p++[],[],p,[],xe,?_,?_,?_,hb.frame _,λh=>by cases h⟩
 ·rw[eM ds hlen,bN];exact trodAll_cons_mk (shut_bool pC true) trodAll_mk0
 ·rw[eM ds hlen];exact ZgV hl hb _ _ _ _ (λt ht=>(eG t ht).2) (λx hx=>aG x (by simpa using hx)) hA
 ·rw[eM ds hlen,kC];rfl
end
end Go.Dm
