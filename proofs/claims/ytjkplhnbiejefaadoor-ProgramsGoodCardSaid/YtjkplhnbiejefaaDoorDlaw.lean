/-
  The frame of a law's proof: where its walk returns true and leaves what was there, its statement holds. It holds of every program.
-/
import Derived.Test.YtjkplhnbiejefaaDoorDa4
import Derived.Test.YtjkplhnbiejefaaDoorTab
import Derived.OpenShut
import Derived.Handed
namespace Go.Dm
open Go Go.Eng Go.RowKit Go.ChangeShapes Go.WideShapes Go.Deep Go.ChangeAt

def ArgOk (P:Program) (w:World) (t:TypeId) (v:Value):Prop :=
 ∃ f gs,TypedR P f t gs∧RepL (fun k=>k < w.heap.size) w gs v.cells.toList∧(match P.underlying t with | some (.struct _)=>∃ cs,v=.agg cs | _=>v.cells=#[v])

section
variable {H:Type} {enc:TypeId × Value→H} {P:Program} {W W':World}

theorem argOk_of {S:List TypeId} (hS:plainSet P S=true) {t:TypeId} (ht:t∈S) {v:Value} {d:DataW H} {ps:List MemPlace} {base:Nat}
  (hv:Value.okWide P W .any base t v) (hw:∀ n∈d.weights P t,n≤reachBytes) (h:DataW.Trod enc P W 0 (fun _=>true) true t v d ps):ArgOk P W t v:=by
 obtain ⟨fuel,hf⟩:=h
 obtain ⟨gs,h1,h2⟩:=rep_of_trod hS fuel t _ _ ht hw hf
 refine ⟨fuel,gs,h1,h2,?_⟩
 have hp:=List.all_eq_true.1 hS t ht
 unfold plainAt at hp
 split at hp
 ·rename_i k hu;rw[hu];obtain ⟨n,rfl⟩:=okWide_int hu hv;rfl
 ·rename_i hu;rw[hu];obtain ⟨s,rfl⟩:=okWide_string hu hv;rfl
 ·rename_i hu;rw[hu];obtain ⟨s,rfl⟩:=okWide_bool hu hv;rfl
 ·rename_i e hu;rw[hu];obtain ⟨a,l,c,rfl⟩:=okWide_slice hu hv;rfl
 ·rename_i fs hu;rw[hu];obtain ⟨cs,rfl,_⟩:=okWide_struct hu hv;exact ⟨cs,rfl⟩
 ·cases hp

inductive ArgsOk (P:Program) (w:World):List TypeId→List Value→Prop
 | nil:ArgsOk P w [] []
 | cons {t:TypeId} {v:Value} {ts:List TypeId} {vs:List Value}:ArgOk P w t v→ArgsOk P w ts vs→ArgsOk P w (t :: ts) (v :: vs)

theorem argsOk_of {S:List TypeId} (hS:plainSet P S=true) {base:Nat}:∀ (ts:List TypeId) (vs:List Value) (ds:List (DataW H)) (ps:List MemPlace),(∀ t∈ts,t∈S)→(∀ (j:Nat) t v,ts[j]?=some t→vs[j]?=some v→Value.okWide P W .any base t v) →
  (∀ n∈DataW.weightsEach P ts ds,n≤reachBytes)→DataW.TrodAll enc P W 0 (fun _=>true) true ts vs ds ps→ArgsOk P W ts vs
 | [],vs,ds,ps,_,_,_,h=>by
  obtain ⟨rfl,_,_⟩:=trodAll_nil h
  exact .nil
 | t :: ts,vs,ds,ps,hS',hv,hw,h=>by
  obtain ⟨v,vs',d,ds',p,q,rfl,rfl,rfl,h0,r0⟩:=trodAll_cons h
  simp only[DataW.weightsEach,List.mem_append] at hw
  exact .cons (argOk_of hS (hS' t List.mem_cons_self) (hv 0 t v rfl rfl) (fun n hn=>hw n (.inl hn)) h0) (argsOk_of hS ts vs' ds' q (fun t ht=>hS' t (List.mem_cons_of_mem _ ht)) (fun j t v hj hv'=>hv (j+1) t v (by simpa using hj) (by simpa using hv')) (fun n hn=>hw n (.inr hn)) r0)

theorem trodAll_stays (hl:laidOutB P=true) (hb:Below W.heap.size W W'):∀ (ts:List TypeId) (vs:List Value) (ds:List (DataW H)) (ps:List MemPlace),(∀ t∈ts,P.readableRec t=true∧t < P.types.size)→(∀ x∈ps,x.block < W.heap.size) →
  DataW.TrodAll enc P W 0 (fun _=>true) true ts vs ds ps→DataW.TrodAll enc P W' 0 (fun b=>decide (b < W.heap.size)) true ts vs ds ps
 | [],vs,ds,ps,_,_,h=>by
  obtain ⟨rfl,rfl,rfl⟩:=trodAll_nil h
  exact trodAll_mk0
 | t :: ts,vs,ds,ps,hr,hlt,h=>by
  obtain ⟨v,vs',d,ds',p,q,rfl,rfl,rfl,h0,r0⟩:=trodAll_cons h
  exact trodAll_cons_mk (Below.trod hl (hr t List.mem_cons_self).1 (hr t List.mem_cons_self).2 h0 hb (fun x hx=>hlt x (List.mem_append.2 (.inl hx))))
   (trodAll_stays hl hb ts vs' ds' q (fun t ht=>hr t (List.mem_cons_of_mem _ ht)) (fun x hx=>hlt x (List.mem_append.2 (.inr hx))) r0)

def Yes (w:World):Ending→World→Prop:=fun e w'=>e=.returned (.bool true)∧Fr (fun _=>False) w w'

theorem weightsEach_app {us:List TypeId}:∀ {ts:List TypeId} {ds gs:List (DataW H)},ds.length=ts.length→∀ {n:Nat},n∈DataW.weightsEach P ts ds→n∈DataW.weightsEach P (ts++us) (ds++gs)
 | [],[],_,_,n,h=>by simp[DataW.weightsEach] at h
 | [],_ :: _,_,hl,_,_=>by simp at hl
 | _ :: _,[],_,hl,_,_=>by simp at hl
 | t :: ts,d :: ds,gs,hl,n,h=>by
  simp only[List.cons_append,DataW.weightsEach,List.mem_append] at h ⊢
  rcases h with h | h
  ·exact .inl h
  ·exact .inr (weightsEach_app (by simpa using hl) h)
theorem law_contract {S:List TypeId} (hS:plainSet P S=true) (hl:laidOutB P=true) {f:FuncId} {fn:Func} {s:ChangeSpec} (hvars:s.vars=[]) (hfn:∀ ds:List (DataW H),ds.length=fn.params.size→(s.fn H (ds++[]))={ results:=[.lit (.bool true)],args:=ds })
  {tb:TypeId} (hres:fn.resultTypes=#[tb]) (htb:P.underlying tb=some .bool) (hps:∀ t∈fn.params.toList,t∈S∧P.readableRec t=true∧t < P.types.size)
  (walk:∀ (W:World) (args:List Value),ArgsOk P W fn.params.toList args→Calls P f args.toArray W (Yes W))
  (W:World) (base:Nat) (args:Array Value) (ds gs:List (DataW H)) (before:List MemPlace)
  (hval:∀ (j:Nat) t v,fn.params[j]?=some t→args[j]?=some v→Value.okWide P W .any base t v) (hwt:(DataW.weightsEach P (fn.params.toList++s.plain.varTypes P) (ds++gs)).all (·≤reachBytes)=true) (hW:DataW.Whole enc P fn.params.toList s.vars false W args.toList ds gs before) :
  Calls P f args W fun e W'=>∃ v,e=.returned v∧s.post enc P fn false true false false W args v W':=by
 have hW':=hW
 have hlt:∀ x∈before,x.block < W.heap.size:=fun x hx=>hW.lt x hx
 obtain ⟨p,q,hA,hV,rfl,hfz,hnd⟩:=hW
 rw[hvars] at hV
 obtain ⟨rfl,rfl⟩:=trodVars_none hV
 have hlen:ds.length=fn.params.size:=by
  have key:∀ (ts:List TypeId) (vs:List Value) (ds:List (DataW H)) (ps:List MemPlace),DataW.TrodAll enc P W 0 (fun _=>true) true ts vs ds ps→ds.length=ts.length:=by
   intro ts
   induction ts with
   | nil=>intro vs ds ps h;obtain ⟨rfl,rfl,rfl⟩:=trodAll_nil h;rfl
   | cons t ts ih=>intro vs ds ps h;obtain ⟨v,vs',d,ds',p,q,rfl,rfl,rfl,h0,r0⟩:=trodAll_cons h;simp[ih _ _ _ r0]
  rw[key _ _ _ _ hA]
  simp
 have hok:=argsOk_of hS fn.params.toList args.toList ds p (fun t ht=>(hps t ht).1) (fun j t v hj hv=>hval j t v (by simpa using hj) (by simpa using hv)) (fun n hn=>by
  have:=List.all_eq_true.1 hwt n (weightsEach_app (by simpa using hlen) hn)
  simpa using this) hA
 have hw:=walk W args.toList hok
 rw[Array.toArray_toList] at hw
 refine hw.mono fun e W' ⟨he,hfr⟩=>?_
 subst he
 have hb:=hfr.below
 refine ⟨_,rfl,ds,[],p++[],[],p,[],hW',?_,?_,?_,hb.frame _,fun h=>by cases h⟩
 ·rw[hfn ds hlen,hres]
  exact trodAll_cons_mk (shut_bool htb true) trodAll_mk0
 ·rw[hfn ds hlen]
  exact trodAll_stays hl hb _ _ _ _ (fun t ht=>(hps t ht).2) (fun x hx=>hlt x (by simpa using hx)) hA
 ·rw[hfn ds hlen,hvars]
  rfl
end
def parsOk (P:Program) (S:List TypeId) (ts:List TypeId):Bool:=ts.all fun t=>S.contains t && P.readableRec t && Nat.blt t P.types.size
theorem parsOk_ok {P:Program} {S ts:List TypeId} (h:parsOk P S ts=true):∀ t∈ts,t∈S∧P.readableRec t=true∧t < P.types.size:=by
 intro t ht
 have:=List.all_eq_true.1 h t ht
 simp only[Bool.and_eq_true] at this
 exact ⟨by simpa using this.1.1,this.1.2,Nat.le_of_ble_eq_true this.2⟩

section
variable {P:Program} {w:World} {t:TypeId} {v:Value}
theorem ArgOk.int (hu:P.underlying t=some (.int .i64)) (h:ArgOk P w t v):∃ n,v=.int .i64 n∧-9223372036854775808≤n∧n≤9223372036854775807:=by
 obtain ⟨f,gs,h1,h2,h3⟩:=h
 simp only[TypedR,hu] at h1 h3
 obtain ⟨g,rfl,hg⟩:=h1
 cases f with
 | zero=>simp only[TypedG] at hg
 | succ f =>
  simp only[TypedG,hu] at hg
  obtain ⟨n,rfl,hb⟩:=hg
  rw[h3] at h2
  have h4:=h2.1
  simp only[RepV] at h4
  exact ⟨n,h4,hb⟩
theorem ArgOk.strR (hu:P.underlying t=some .string) (h:ArgOk P w t v):∃ l,v=.string ⟨⟨l⟩⟩∧l.length≤reachBytes:=by
 obtain ⟨f,gs,h1,h2,h3⟩:=h
 simp only[TypedR,hu] at h1 h3
 obtain ⟨g,rfl,hg⟩:=h1
 cases f with
 | zero=>simp only[TypedG] at hg
 | succ f =>
  simp only[TypedG,hu] at hg
  obtain ⟨n,rfl,hb⟩:=hg
  rw[h3] at h2
  have h4:=h2.1
  simp only[RepV] at h4
  exact ⟨n,h4,hb⟩
theorem reach_max {n:Nat} (h:n≤reachBytes):n≤maxLen:=Nat.le_trans h (by decide)
theorem ArgOk.str (hu:P.underlying t=some .string) (h:ArgOk P w t v):∃ l,v=.string ⟨⟨l⟩⟩∧l.length≤maxLen:=by
 obtain ⟨l,h1,h2⟩:=h.strR hu
 exact ⟨l,h1,reach_max h2⟩
theorem ArgOk.slice {e:TypeId} (hu:P.underlying t=some (.slice e)) (h:ArgOk P w t v):∃ f g,TypedG P f t g∧RepV (fun k=>k < w.heap.size) w g v:=by
 obtain ⟨f,gs,h1,h2,h3⟩:=h
 simp only[TypedR,hu] at h1 h3
 obtain ⟨g,rfl,hg⟩:=h1
 rw[h3] at h2
 exact ⟨f,g,hg,h2.1⟩
theorem ArgOk.struct {fs:Array Field} (hu:P.underlying t=some (.struct fs)) (h:ArgOk P w t v):∃ f gs cs,v=.agg ⟨cs⟩∧TypedR P f t gs∧RepL (fun k=>k < w.heap.size) w gs cs:=by
 obtain ⟨f,gs,h1,h2,h3⟩:=h
 simp only[hu] at h3
 obtain ⟨cs,rfl⟩:=h3
 exact ⟨f,gs,cs.toList,rfl,h1,h2⟩
theorem ArgsOk.inv {ts:List TypeId} {vs:List Value} (h:ArgsOk P w (t :: ts) vs):∃ v vs',vs=v :: vs'∧ArgOk P w t v∧ArgsOk P w ts vs':=by
 cases h with
 | cons h0 r=>exact ⟨_,_,rfl,h0,r⟩
theorem ArgsOk.inv0 {vs:List Value} (h:ArgsOk P w [] vs):vs=[]:=by cases h;rfl

theorem law_of_ct {f:FuncId} {ds:List D} {vals:List Value} (h:CT P [] f ds (Is (.g (.bool true)))) (hr:RepDL [] (fun _=>undef) (fun k=>k < w.heap.size) w ds vals):Calls P f ⟨vals⟩ w (Yes w) :=
 (h w _ vals (fun _ h=>h) (fun p hp=>by simp at hp) hr).mono fun e w' he=>by
  cases e with
  | returned v =>
   obtain ⟨d,h',β',V',hq,hrel,hd⟩:=he
   injection hq with e1 e2
   subst e1
   simp only[RepD,RepV] at hd
   exact ⟨by rw[hd],hrel.fr⟩
  | panicked ch=>obtain ⟨d,t,u,β',V',_,hq,_⟩:=he;cases hq
  | outgrown=>exact he.elim
theorem arg_g {g:GV} (h:RepV (fun k=>k < w.heap.size) w g v):RepD [] (fun _=>undef) (fun k=>k < w.heap.size) w (.g g) v:=by simp only[RepD];exact h
theorem arg_agg {gs:List GV} {cs:List Value} (h:RepL (fun k=>k < w.heap.size) w gs cs):RepD [] (fun _=>undef) (fun k=>k < w.heap.size) w (.agg (gs.map .g)) (.agg ⟨cs⟩):=by
 simp only[RepD]
 exact ⟨cs,rfl,(RepDL_g _ _).2 h⟩
theorem args_nil:RepDL [] (fun _=>undef) (fun k=>k < w.heap.size) w [] []:=by simp[RepDL]
theorem args_cons {d:D} {ds:List D} {vs:List Value} (h:RepD [] (fun _=>undef) (fun k=>k < w.heap.size) w d v) (r:RepDL [] (fun _=>undef) (fun k=>k < w.heap.size) w ds vs):RepDL [] (fun _=>undef) (fun k=>k < w.heap.size) w (d :: ds) (v :: vs):=by
 simp only[RepDL]
 exact ⟨v,vs,rfl,h,r⟩
end

theorem pre6_eq {H:Type} {enc:TypeId × Value→H} {P:Program} {fn:Func} {s:ChangeSpec} {conds:List PathCond} {apart:Bool}:s.pre6 enc P fn conds apart=fun w args=>(s.pre enc P fn conds apart w args∧True)∧sizedMet enc P fn (OpenSpec.ofChange s) apart w args:=by
 funext w args
 simp[ChangeSpec.pre6]
theorem handed {H:Type} {enc:TypeId × Value→H} {C:Checked} {os:Os} {f:FuncId} {fn:Func} {s:ChangeSpec} {conds:List PathCond} {apart fresh handsOn again:Bool}
  (own:ownKnob C.prog.godebug=none) (started:os.Started) (noInit:C.prog.inits.idxOf? f=none) (hfn:C.prog.funcs[f]?=some fn)
  (witness:∃ (w:World) (tape:Tape) (i:Input),w.os=os∧(w.forCall tape i).Shaped C.prog∧i.vars=[]∧Input.okWide C.prog (w.forCall tape i) .any w.heap.size f i ∧
   s.pre6 enc C.prog fn conds apart (w.forCall tape i).memory i.args∧({}:Assume).holds C.prog (lone (Frame.enter C.prog f i.args .normal) [] (w.forCall tape i)))
  (contract:∀ (W:World) (base:Nat) (args:Array Value) (ds gs:List (DataW H)) (before:List MemPlace),
   (∀ (j:Nat) t v,fn.params[j]?=some t→args[j]?=some v→Value.okWide C.prog W .any base t v) →
   (DataW.weightsEach C.prog (fn.params.toList++s.plain.varTypes C.prog) (ds++gs)).all (·≤reachBytes)=true →
   DataW.Whole enc C.prog fn.params.toList s.vars apart W args.toList ds gs before →
   Calls C.prog f args W fun e W'=>∃ v,e=.returned v∧s.post enc C.prog fn apart fresh handsOn again W args v W') :
  ReturnsInHanded {} C os f .any (s.pre6 enc C.prog fn conds apart) (s.post enc C.prog fn apart fresh handsOn again):=by
 rw[pre6_eq] at witness ⊢
 exact returnsInHanded_of_change_and (X:=fun _ _=>True) (fun _ _ _ _ h=>h) own started noInit hfn
  (let ⟨w,t,i,h1,h2,h3,h4,h5,h6⟩:=witness;⟨w,t,i,h1,h2,h3,h4,h5,h6⟩)
  (fun W base args ds gs before hval hW _ hwt _ _=>contract W base args ds gs before hval hwt hW)
end Go.Dm
