/-
  The frame of a law's proof: where its walk returns true and leaves what was there, its statement holds. It holds of every program.
-/
import Derived.Test.YtijdegmamdhcbaaGreatDoorDa4
import Derived.Test.YtijdegmamdhcbaaGreatDoorTab
import Derived.OpenShut
import Derived.Handed
import Derived.Lib.LaidTab
import Derived.Deep.DeepHandedRow
import Derived.SevenTiedAt
import Derived.Test.YtijdegmamdhcbaaGreatDoorKer
namespace Go.Dm
open Go Go.Eng Go.RowKit Go.ChangeShapes Go.WideShapes Go.Deep Go.ChangeAt

def ArgOk (P:Program) (w:World) (t:TypeId) (v:Value):Prop :=
 ∃ f gs,TypedR P f t gs∧RepL (fun k=>k < w.heap.size) w gs v.cells.toList∧(match P.underlying t with | some (.struct _)=>∃ cs,v=.agg cs | _=>v.cells=#[v])

section
variable {H:Type} {enc:TypeId × Value→H} {P:Program} {W W':World}

theorem argOk_of {S:List TypeId} (hS:plainSet P S=true) {t:TypeId} (ht:t∈S) {v:Value} {d:DataW H} {ps:List MemPlace} {base:Nat}
  (hv:Value.okWide P W .any base t v) (hw:∀ n∈d.weights P t,n≤reachBytes) (h:DataW.Trod enc P W 0 (fun _=>true) true t v d ps):ArgOk P W t v:=by
 obtain ⟨fuel,hf⟩:=h
 obtain ⟨gs,h1,h2⟩:=rep_of_trod hS fuel t _ _ ht hw hf
 refine ⟨fuel,gs,h1,h2,?_⟩
 have hp:=List.all_eq_true.1 hS t ht
 unfold plainAt at hp
 split at hp
 ·rename_i k hu;rw[hu];obtain ⟨n,rfl⟩:=okWide_int hu hv;rfl
 ·rename_i hu;rw[hu];obtain ⟨s,rfl⟩:=okWide_string hu hv;rfl
 ·rename_i hu;rw[hu];obtain ⟨s,rfl⟩:=okWide_bool hu hv;rfl
 ·rename_i e hu;rw[hu];obtain ⟨a,l,c,rfl⟩:=okWide_slice hu hv;rfl
 ·rename_i fs hu;rw[hu];obtain ⟨cs,rfl,_⟩:=okWide_struct hu hv;exact ⟨cs,rfl⟩
 ·cases hp

inductive ArgsOk (P:Program) (w:World):List TypeId→List Value→Prop
 | nil:ArgsOk P w [] []
 | cons {t:TypeId} {v:Value} {ts:List TypeId} {vs:List Value}:ArgOk P w t v→ArgsOk P w ts vs→ArgsOk P w (t :: ts) (v :: vs)

theorem argsOk_of {S:List TypeId} (hS:plainSet P S=true) {base:Nat}:∀ (ts:List TypeId) (vs:List Value) (ds:List (DataW H)) (ps:List MemPlace),(∀ t∈ts,t∈S)→(∀ (j:Nat) t v,ts[j]?=some t→vs[j]?=some v→Value.okWide P W .any base t v) →
  (∀ n∈DataW.weightsEach P ts ds,n≤reachBytes)→DataW.TrodAll enc P W 0 (fun _=>true) true ts vs ds ps→ArgsOk P W ts vs
 | [],vs,ds,ps,_,_,_,h=>by
  obtain ⟨rfl,_,_⟩:=trodAll_nil h
  exact .nil
 | t :: ts,vs,ds,ps,hS',hv,hw,h=>by
  obtain ⟨v,vs',d,ds',p,q,rfl,rfl,rfl,h0,r0⟩:=trodAll_cons h
  simp only[DataW.weightsEach,List.mem_append] at hw
  exact .cons (argOk_of hS (hS' t List.mem_cons_self) (hv 0 t v rfl rfl) (fun n hn=>hw n (.inl hn)) h0) (argsOk_of hS ts vs' ds' q (fun t ht=>hS' t (List.mem_cons_of_mem _ ht)) (fun j t v hj hv'=>hv (j+1) t v (by simpa using hj) (by simpa using hv')) (fun n hn=>hw n (.inr hn)) r0)

theorem trodAll_stays (hl:laidOutB P=true) (hb:Below W.heap.size W W'):∀ (ts:List TypeId) (vs:List Value) (ds:List (DataW H)) (ps:List MemPlace),(∀ t∈ts,P.readableRec t=true∧t < P.types.size)→(∀ x∈ps,x.block < W.heap.size) →
  DataW.TrodAll enc P W 0 (fun _=>true) true ts vs ds ps→DataW.TrodAll enc P W' 0 (fun b=>decide (b < W.heap.size)) true ts vs ds ps
 | [],vs,ds,ps,_,_,h=>by
  obtain ⟨rfl,rfl,rfl⟩:=trodAll_nil h
  exact trodAll_mk0
 | t :: ts,vs,ds,ps,hr,hlt,h=>by
  obtain ⟨v,vs',d,ds',p,q,rfl,rfl,rfl,h0,r0⟩:=trodAll_cons h
  exact trodAll_cons_mk (Below.trod hl (hr t List.mem_cons_self).1 (hr t List.mem_cons_self).2 h0 hb (fun x hx=>hlt x (List.mem_append.2 (.inl hx))))
   (trodAll_stays hl hb ts vs' ds' q (fun t ht=>hr t (List.mem_cons_of_mem _ ht)) (fun x hx=>hlt x (List.mem_append.2 (.inr hx))) r0)

def Yes (w:World):Ending→World→Prop:=fun e w'=>e=.returned (.bool true)∧Fr (fun _=>False) w w'

theorem weightsEach_app {us:List TypeId}:∀ {ts:List TypeId} {ds gs:List (DataW H)},ds.length=ts.length→∀ {n:Nat},n∈DataW.weightsEach P ts ds→n∈DataW.weightsEach P (ts++us) (ds++gs)
 | [],[],_,_,n,h=>by simp[DataW.weightsEach] at h
 | [],_ :: _,_,hl,_,_=>by simp at hl
 | _ :: _,[],_,hl,_,_=>by simp at hl
 | t :: ts,d :: ds,gs,hl,n,h=>by
  simp only[List.cons_append,DataW.weightsEach,List.mem_append] at h ⊢
  rcases h with h | h
  ·exact .inl h
  ·exact .inr (weightsEach_app (by simpa using hl) h)
end
def parsOk (P:Program) (S:List TypeId) (ts:List TypeId):Bool:=ts.all fun t=>S.contains t && P.readableRec t && Nat.blt t P.types.size
theorem parsOk_ok {P:Program} {S ts:List TypeId} (h:parsOk P S ts=true):∀ t∈ts,t∈S∧P.readableRec t=true∧t < P.types.size:=by
 intro t ht
 have:=List.all_eq_true.1 h t ht
 simp only[Bool.and_eq_true] at this
 exact ⟨by simpa using this.1.1,this.1.2,Nat.le_of_ble_eq_true this.2⟩

section
variable {P:Program} {w:World} {t:TypeId} {v:Value}
theorem ArgOk.int (hu:P.underlying t=some (.int .i64)) (h:ArgOk P w t v):∃ n,v=.int .i64 n∧-9223372036854775808≤n∧n≤9223372036854775807:=by
 obtain ⟨f,gs,h1,h2,h3⟩:=h
 simp only[TypedR,hu] at h1 h3
 obtain ⟨g,rfl,hg⟩:=h1
 cases f with
 | zero=>simp only[TypedG] at hg
 | succ f =>
  simp only[TypedG,hu] at hg
  obtain ⟨n,rfl,hb⟩:=hg
  rw[h3] at h2
  have h4:=h2.1
  simp only[RepV] at h4
  exact ⟨n,h4,hb⟩
theorem ArgOk.slice {e:TypeId} (hu:P.underlying t=some (.slice e)) (h:ArgOk P w t v):∃ f g,TypedG P f t g∧RepV (fun k=>k < w.heap.size) w g v:=by
 obtain ⟨f,gs,h1,h2,h3⟩:=h
 simp only[TypedR,hu] at h1 h3
 obtain ⟨g,rfl,hg⟩:=h1
 rw[h3] at h2
 exact ⟨f,g,hg,h2.1⟩
theorem ArgOk.struct {fs:Array Field} (hu:P.underlying t=some (.struct fs)) (h:ArgOk P w t v):∃ f gs cs,v=.agg ⟨cs⟩∧TypedR P f t gs∧RepL (fun k=>k < w.heap.size) w gs cs:=by
 obtain ⟨f,gs,h1,h2,h3⟩:=h
 simp only[hu] at h3
 obtain ⟨cs,rfl⟩:=h3
 exact ⟨f,gs,cs.toList,rfl,h1,h2⟩
theorem ArgsOk.inv {ts:List TypeId} {vs:List Value} (h:ArgsOk P w (t :: ts) vs):∃ v vs',vs=v :: vs'∧ArgOk P w t v∧ArgsOk P w ts vs':=by
 cases h with
 | cons h0 r=>exact ⟨_,_,rfl,h0,r⟩
theorem ArgsOk.inv0 {vs:List Value} (h:ArgsOk P w [] vs):vs=[]:=by cases h;rfl

theorem arg_g {g:GV} (h:RepV (fun k=>k < w.heap.size) w g v):RepD [] (fun _=>undef) (fun k=>k < w.heap.size) w (.g g) v:=by simp only[RepD];exact h
theorem arg_agg {gs:List GV} {cs:List Value} (h:RepL (fun k=>k < w.heap.size) w gs cs):RepD [] (fun _=>undef) (fun k=>k < w.heap.size) w (.agg (gs.map .g)) (.agg ⟨cs⟩):=by
 simp only[RepD]
 exact ⟨cs,rfl,(RepDL_g _ _).2 h⟩
theorem args_nil:RepDL [] (fun _=>undef) (fun k=>k < w.heap.size) w [] []:=by simp[RepDL]
theorem args_cons {d:D} {ds:List D} {vs:List Value} (h:RepD [] (fun _=>undef) (fun k=>k < w.heap.size) w d v) (r:RepDL [] (fun _=>undef) (fun k=>k < w.heap.size) w ds vs):RepDL [] (fun _=>undef) (fun k=>k < w.heap.size) w (d :: ds) (v :: vs):=by
 simp only[RepDL]
 exact ⟨v,vs,rfl,h,r⟩
end

end Go.Dm
namespace Go.Dm
open Go Go.Eng Go.RowKit Go.ChangeShapes Go.WideShapes Go.Deep Go.ChangeAt

section
variable {H:Type} {enc:TypeId × Value→H} {P:Program} {w:World}
def tab2 {H:Type} (rows:List (List Int)):DataW H:=.agg (rows.map fun r=>.agg (r.map fun z=>.lit (.int .i64 z)))
theorem row3_of {base:Nat} {sp:Nat→Bool} {held:Bool} {fuel:Nat} {e:TypeId} {fs:Array Field} {cs:List Value} {r:List Int} {p:List MemPlace}
  (he:P.underlying e=some (.struct fs)) (hf:∀ (j:Nat) (f:Field),fs[j]?=some f→f.offset=j∧P.underlying f.type=some (.int .i64)∧P.cellsOf f.type=1)
  (h:DataW.trod enc P w base sp held fuel e cs=some (.agg (r.map fun z=>.lit (.int .i64 z)),p)):∀ (j:Nat) (z:Int),r[j]?=some z→cs[j]?=some (.int .i64 z):=by
 obtain ⟨xs,n,rfl,hx,hl,hxl,hxf⟩:=DataW.trod_struct he h
 intro j z hz
 injection hx with hx _
 injection hx with hx
 have hr:(xs.map (·.1))[j]?=some (DataW.lit (.int .i64 z):DataW H):=by rw[← hx];simp[hz]
 obtain ⟨x,hxj,hx1⟩:∃ x,xs[j]?=some x∧x.1=.lit (.int .i64 z):=by
  simp only[List.getElem?_map,Option.map_eq_some_iff] at hr
  exact hr
 have hjl:j < fs.size:=by rw[← hxl];exact (List.getElem?_eq_some_iff.1 hxj).1
 have hfj:fs[j]?=some fs[j]:=Array.getElem?_eq_getElem hjl
 obtain ⟨h1,h2,h3⟩:=hf j _ hfj
 have ht:=hxf j _ hfj
 rw[h1,h3,hxj] at ht
 obtain ⟨z',hc,hz',_⟩:=DataW.trod_int h2 ht
 have hzz:z'=z:=by
  rw[hz'] at hx1
  injection hx1 with hx1
  injection hx1
 subst hzz
 have:=congrArg (·[0]?) hc
 simpa [List.getElem?_take,List.getElem?_drop] using this
theorem cells_of_tab2 {base:Nat} {sp:Nat→Bool} {held:Bool} {fuel:Nat} {t e:TypeId} {n:Nat} {fs:Array Field} {cs:List Value} {rows:List (List Int)} {p:List MemPlace}
  (ht:P.underlying t=some (.array n e)) (he:P.underlying e=some (.struct fs)) (hce:P.cellsOf e=3) (hf:∀ (j:Nat) (f:Field),fs[j]?=some f→f.offset=j∧P.underlying f.type=some (.int .i64)∧P.cellsOf f.type=1)
  (h:DataW.trod enc P w base sp held fuel t cs=some (tab2 rows,p)):∀ (i:Nat) (r:List Int),rows[i]?=some r→∀ (j:Nat) (z:Int),r[j]?=some z→j < 3→cs[i*3+j]?=some (.int .i64 z):=by
 cases fuel with
 | zero=>simp[DataW.trod] at h
 | succ fuel =>
  simp only[DataW.trod,ht,hce] at h
  split at h
  ·obtain ⟨xs,hm,hx⟩:=Option.map_eq_some_iff.1 h
   have hxs:xs.map (·.1)=rows.map fun r=>(DataW.agg (r.map fun z=>.lit (.int .i64 z)):DataW H):=by
    have:=congrArg Prod.fst hx
    simpa [tab2] using this
   have hxl:xs.length=n:=by simpa using Lib.mapM_length hm
   intro i r hi j z hj hj3
   have h2:(xs.map (·.1))[i]?=some (DataW.agg (r.map fun z=>.lit (.int .i64 z)):DataW H):=by rw[hxs];simp[hi]
   obtain ⟨x,hxi,hx1⟩:∃ x,xs[i]?=some x∧x.1=.agg (r.map fun z=>.lit (.int .i64 z)):=by
    simp only[List.getElem?_map,Option.map_eq_some_iff] at h2
    exact h2
   have hil:i < n:=by rw[← hxl];exact (List.getElem?_eq_some_iff.1 hxi).1
   obtain ⟨b,hb,hfb⟩:=Lib.mapM_at hm i i (by simp[hil])
   rw[hxi] at hb
   injection hb with hb
   subst hb
   obtain ⟨x1,x2⟩:=x
   simp only at hx1
   subst hx1
   have:=row3_of he hf hfb j z hj
   rw[List.getElem?_take_of_lt hj3,List.getElem?_drop] at this
   exact this
  ·cases h
theorem glOk_of_head {name:String} {rows:List (List Int)} {rest:List (String × DataW Unit)} {g:Nat} {t e:TypeId} {n:Nat} {fs:Array Field}
  (hg:P.globalNamed name=some g) (hty:(P.globals[g]?).map (·.type)=some t) (ht:P.underlying t=some (.array n e)) (he:P.underlying e=some (.struct fs)) (hce:P.cellsOf e=3)
  (hf:∀ (j:Nat) (f:Field),fs[j]?=some f→f.offset=j∧P.underlying f.type=some (.int .i64)∧P.cellsOf f.type=1) (h3:∀ r∈rows,r.length=3) (hne:rows≠[])
  (h:laidMet P ((name,tab2 rows) :: rest) w):GlOk [(g,rows.flatten.map .int)] (fun k=>k < w.heap.size) w:=by
 obtain ⟨ps,⟨g',t',cs,fuel,p,q,hg',ht',hvar,hd,_,_⟩,_⟩:=h
 obtain rfl:=Option.some.inj (hg.symm.trans hg')
 obtain rfl:=Option.some.inj (hty.symm.trans ht')
 have hc:=cells_of_tab2 ht he hce hf hd
 have flat:∀ (rows:List (List Int)) (k:Nat) (z:Int),(∀ r∈rows,r.length=3)→rows.flatten[k]?=some z→∃ r,rows[k / 3]?=some r∧r[k % 3]?=some z:=by
  intro rows
  induction rows with
  | nil=>intro k z _ hk;simp at hk
  | cons r rows ih =>
   intro k z hr hk
   have hr3:=hr r List.mem_cons_self
   simp only[List.flatten_cons] at hk
   by_cases hl:k < 3
   ·rw[List.getElem?_append_left (by omega)] at hk
    exact ⟨r,by rw[show k / 3=0 from by omega];rfl,by rw[show k % 3=k from by omega];exact hk⟩
   ·rw[List.getElem?_append_right (by omega),hr3] at hk
    obtain ⟨r',h1,h2⟩:=ih (k - 3) z (fun r hr'=>hr r (List.mem_cons_of_mem _ hr')) hk
    exact ⟨r',by rw[show k / 3=(k - 3) / 3+1 from by omega];simpa using h1,by rw[show k % 3=(k - 3) % 3 from by omega];exact h2⟩
 have cell:∀ (k:Nat) (z:Int),rows.flatten[k]?=some z→w.cell? ⟨g,k,none⟩=some (.int .i64 z):=by
  intro k z hk
  obtain ⟨r,h1,h2⟩:=flat rows k z h3 hk
  have:=hc (k / 3) r h1 (k % 3) z h2 (Nat.mod_lt _ (by decide))
  rw[show k / 3*3+k % 3=k from by omega] at this
  rw[World.var?_cell hg hvar k]
  simpa using this
 have row:∀ (l:List Int) (i:Nat),(∀ (k:Nat) (z:Int),l[k]?=some z→rows.flatten[i+k]?=some z)→RepRow (fun k=>k < w.heap.size) w ⟨g,0,none⟩ i (l.map .int):=by
  intro l
  induction l with
  | nil=>intro i _;simp[RepRow]
  | cons z l ih =>
   intro i hl
   simp only[List.map_cons,RepRow]
   refine ⟨⟨.int .i64 z,?_,by simp only[RepV]⟩,ih (i+1) (fun k z' hk=>by rw[show i+1+k=i+(k+1) from by omega];exact hl (k+1) z' (by simpa using hk))⟩
   rw[add_mk]
   simpa using cell i z (by simpa using hl 0 z rfl)
 intro q hq
 simp only[List.mem_singleton] at hq
 subst hq
 refine ⟨?_,row _ 0 (fun k z hk=>by simpa using hk)⟩
 cases hrows:rows with
 | nil=>exact absurd hrows hne
 | cons r rs =>
  have hr3:=h3 r (by rw[hrows];exact List.mem_cons_self)
  obtain ⟨z,hz⟩:∃ z,r[0]?=some z:=⟨r[0]'(by omega),List.getElem?_eq_getElem _⟩
  have:=cell 0 z (by rw[hrows];simp only[List.flatten_cons];rw[List.getElem?_append_left (by omega)];exact hz)
  exact World.block_lt_of_cell? w _ this
theorem law_of_ctG {G:Gl} {f:FuncId} {ds:List D} {vals:List Value} (hG:GlOk G (fun k=>k < w.heap.size) w) (h:CT P G f ds (Is (.g (.bool true)))) (hr:RepDL [] (fun _=>undef) (fun k=>k < w.heap.size) w ds vals):Calls P f ⟨vals⟩ w (Yes w) :=
 (h w _ vals (fun _ h=>h) hG hr).mono fun e w' he=>by
  cases e with
  | returned v =>
   obtain ⟨d,h',β',V',hq,hrel,hd⟩:=he
   injection hq with e1 e2
   subst e1
   simp only[RepD,RepV] at hd
   exact ⟨by rw[hd],hrel.fr⟩
  | panicked ch=>obtain ⟨d,t,u,β',V',_,hq,_⟩:=he;cases hq
  | outgrown=>exact he.elim
end
section
variable {H:Type} {enc:TypeId × Value→H} {P:Program}
theorem law_contractW {S:List TypeId} (hS:plainSet P S=true) (hl:laidOutB P=true) {f:FuncId} {fn:Func} {s:ChangeSpec} (hvars:s.vars=[]) (hfn:∀ ds:List (DataW H),ds.length=fn.params.size→(s.fn H (ds++[]))={ results:=[.lit (.bool true)],args:=ds })
  {tb:TypeId} (hres:fn.resultTypes=#[tb]) (htb:P.underlying tb=some .bool) (hps:∀ t∈fn.params.toList,t∈S∧P.readableRec t=true∧t < P.types.size)
  (W:World) (walk:∀ args:List Value,ArgsOk P W fn.params.toList args→Calls P f args.toArray W (Yes W)) (base:Nat) (args:Array Value) (ds gs:List (DataW H)) (before:List MemPlace)
  (hval:∀ (j:Nat) t v,fn.params[j]?=some t→args[j]?=some v→Value.okWide P W .any base t v) (hwt:(DataW.weightsEach P (fn.params.toList++s.plain.varTypes P) (ds++gs)).all (·≤reachBytes)=true) (hW:DataW.Whole enc P fn.params.toList s.vars false W args.toList ds gs before) :
  Calls P f args W fun e W'=>∃ v,e=.returned v∧s.post enc P fn false true false false W args v W':=by
 have hW':=hW
 have hlt:∀ x∈before,x.block < W.heap.size:=fun x hx=>hW.lt x hx
 obtain ⟨p,q,hA,hV,rfl,hfz,hnd⟩:=hW
 rw[hvars] at hV
 obtain ⟨rfl,rfl⟩:=trodVars_none hV
 have hlen:ds.length=fn.params.size:=by
  have key:∀ (ts:List TypeId) (vs:List Value) (ds:List (DataW H)) (ps:List MemPlace),DataW.TrodAll enc P W 0 (fun _=>true) true ts vs ds ps→ds.length=ts.length:=by
   intro ts
   induction ts with
   | nil=>intro vs ds ps h;obtain ⟨rfl,rfl,rfl⟩:=trodAll_nil h;rfl
   | cons t ts ih=>intro vs ds ps h;obtain ⟨v,vs',d,ds',p,q,rfl,rfl,rfl,h0,r0⟩:=trodAll_cons h;simp[ih _ _ _ r0]
  rw[key _ _ _ _ hA]
  simp
 have hok:=argsOk_of hS fn.params.toList args.toList ds p (fun t ht=>(hps t ht).1) (fun j t v hj hv=>hval j t v (by simpa using hj) (by simpa using hv)) (fun n hn=>by
  have:=List.all_eq_true.1 hwt n (weightsEach_app (by simpa using hlen) hn)
  simpa using this) hA
 have hw:=walk args.toList hok
 rw[Array.toArray_toList] at hw
 refine hw.mono fun e W' ⟨he,hfr⟩=>?_
 subst he
 have hb:=hfr.below
 refine ⟨_,rfl,ds,[],p++[],[],p,[],hW',?_,?_,?_,hb.frame _,fun h=>by cases h⟩
 ·rw[hfn ds hlen,hres]
  exact trodAll_cons_mk (shut_bool htb true) trodAll_mk0
 ·rw[hfn ds hlen]
  exact trodAll_stays hl hb _ _ _ _ (fun t ht=>(hps t ht).2) (fun x hx=>hlt x (by simpa using hx)) hA
 ·rw[hfn ds hlen,hvars]
  rfl
end
end Go.Dm
namespace Go.Proofs.YtijdegmamdhcbaaGreatDoor
open Go.Dm Go.Eng Go.RowKit Go.ChangeShapes Go.WideShapes Go.ChangeAt

theorem hM:Mix Tryz.prog:=⟨by kernel_rfl⟩
def plainS:List TypeId:=[3
 ,9
 ,55
 ,30
 ,72
 ,109
 ,60
 ,71
 ,64
 ,66
 ,26
 ,28
 ,74
 ,29
 ,99
 ,56
 ,129
 ,127
 ,132
 ,67
 ,69,4
 ,57
 ,59
 ,25
 ,24
 ,22
 ]
theorem plainS_ok:plainSet Tryz.prog plainS=true:=by kernel_rfl
theorem pars_ok {ts:List TypeId} (h:parsOk Tryz.prog plainS ts=true):∀ t∈ts,t∈plainS∧Tryz.prog.readableRec t=true∧t < Tryz.prog.types.size:=parsOk_ok h
end Go.Proofs.YtijdegmamdhcbaaGreatDoor
namespace Go.Proofs.YtijdegmamdhcbaaGreatDoor
open Go Go.Dm Go.Eng

def ofRows:List (List Int):=[[0,0,0],[65535,0,0],[0,0,0],[0,0,0],[7,0,0],[7,0,0],[0,0,0],[0,0,0],[10,0,0],[1199,0,0],[1199,0,0],[1199,4,0],[4,7,4],[0,0,0],[0,0,0],[0,0,0]]
abbrev gl:Gl:=[(0,[.str [111,110,101],.str [116,119,111],.str [116,114,105]]),(1,ofRows.flatten.map .int)]
end Go.Proofs.YtijdegmamdhcbaaGreatDoor
namespace Go.Dm
open Go Go.Eng Go.RowKit Go.ChangeShapes Go.WideShapes Go.Deep Go.ChangeAt
section
variable {P:Program} {w:World}
theorem laidMet_tail {x:String × DataW Unit} {rest:List (String × DataW Unit)} (h:laidMet P (x :: rest) w):laidMet P rest w:=by
 obtain ⟨n,d⟩:=x
 obtain ⟨ps,⟨g,t,cs,fuel,p,q,_,_,_,_,hq,rfl⟩,hnd,hc⟩:=h
 refine ⟨q,hq,(List.nodup_append.1 hnd).2.1,fun b off hb=>hc b off (List.mem_append_right _ hb)⟩
def tabS {H:Type} (l:List (List UInt8)):DataW H:=.agg (l.map fun s=>.lit (.string s))
theorem cells_of_tabS {H:Type} {enc:TypeId × Value→H} {base:Nat} {sp:Nat→Bool} {held:Bool} {fuel:Nat} {t e:TypeId} {n:Nat} {cs:List Value} {l:List (List UInt8)} {p:List MemPlace}
  (ht:P.underlying t=some (.array n e)) (he:P.underlying e=some .string) (hce:P.cellsOf e=1) (h:DataW.trod enc P w base sp held fuel t cs=some (tabS l,p)) :
  ∀ (i:Nat) (s:List UInt8),l[i]?=some s→cs[i]?=some (.string ⟨⟨s⟩⟩):=by
 obtain ⟨xs,m,_,hx,_,hl,hat⟩:=DataW.trod_array ht h
 intro i s hi
 injection hx with hx _
 injection hx with hx
 have h2:(xs.map (·.1))[i]?=some (DataW.lit (.string s):DataW H):=by rw[← hx];simp[hi]
 obtain ⟨x,hxi,hx1⟩:∃ x,xs[i]?=some x∧x.1=.lit (.string s):=by
  simp only[List.getElem?_map,Option.map_eq_some_iff] at h2
  exact h2
 have hil:i < n:=by rw[← hl];exact (List.getElem?_eq_some_iff.1 hxi).1
 have ha:=hat i hil
 rw[hxi,hce] at ha
 obtain ⟨b,hb,hz,_⟩:=DataW.trod_string he ha
 rw[hz] at hx1
 injection hx1 with hx1
 injection hx1 with hx1
 subst hx1
 have:=congrArg (·[0]?) hb
 simpa [List.getElem?_take,List.getElem?_drop] using this
theorem glOk_strs {name:String} {l:List (List UInt8)} {rest:List (String × DataW Unit)} {g:Nat} {t e:TypeId} {n:Nat}
  (hg:P.globalNamed name=some g) (hty:(P.globals[g]?).map (·.type)=some t) (ht:P.underlying t=some (.array n e)) (he:P.underlying e=some .string) (hce:P.cellsOf e=1) (hne:l≠[])
  (h:laidMet P ((name,tabS l) :: rest) w):GlOk [(g,l.map .str)] (fun k=>k < w.heap.size) w:=by
 obtain ⟨ps,⟨g',t',cs,fuel,p,q,hg',ht',hvar,hd,_,_⟩,_⟩:=h
 obtain rfl:=Option.some.inj (hg.symm.trans hg')
 obtain rfl:=Option.some.inj (hty.symm.trans ht')
 have hc:=cells_of_tabS ht he hce hd
 have cell:∀ (k:Nat) (s:List UInt8),l[k]?=some s→w.cell? ⟨g,k,none⟩=some (.string ⟨⟨s⟩⟩):=by
  intro k s hk
  have:=hc k s hk
  rw[World.var?_cell hg hvar k]
  simpa using this
 have row:∀ (m:List (List UInt8)) (i:Nat),(∀ (k:Nat) (s:List UInt8),m[k]?=some s→l[i+k]?=some s)→RepRow (fun k=>k < w.heap.size) w ⟨g,0,none⟩ i (m.map .str):=by
  intro m
  induction m with
  | nil=>intro i _;simp[RepRow]
  | cons s m ih =>
   intro i hl
   simp only[List.map_cons,RepRow]
   refine ⟨⟨.string ⟨⟨s⟩⟩,?_,by simp only[RepV]⟩,ih (i+1) (fun k z' hk=>by rw[show i+1+k=i+(k+1) from by omega];exact hl (k+1) z' (by simpa using hk))⟩
   rw[add_mk]
   simpa using cell i s (by simpa using hl 0 s rfl)
 intro q hq
 simp only[List.mem_singleton] at hq
 subst hq
 refine ⟨?_,row _ 0 (fun k z hk=>by simpa using hk)⟩
 cases hrows:l with
 | nil=>exact absurd hrows hne
 | cons s rs =>
  have:=cell 0 s (by rw[hrows];rfl)
  exact World.block_lt_of_cell? w _ this
theorem GlOk.both {G1 G2:Gl} {V:Nat→Prop} (h1:GlOk G1 V w) (h2:GlOk G2 V w):GlOk (G1++G2) V w:=fun p hp=>by
 rcases List.mem_append.1 hp with hp | hp
 ·exact h1 p hp
 ·exact h2 p hp
end
end Go.Dm
namespace Go.Proofs.YtijdegmamdhcbaaGreatDoor
open Go Go.Dm Go.Eng
theorem unName : Tryz.prog.globalNamed "barbican/barbicankeep.units" = some 0 := by kernel_rfl
theorem unType:(Tryz.prog.globals[0]?).map (·.type)=some 97:=by kernel_rfl
theorem unArray:Tryz.prog.underlying 97=some (.array 3 9):=by kernel_rfl
theorem ofName : Tryz.prog.globalNamed "barbican/code.of" = some 1 := by kernel_rfl
theorem ofType:(Tryz.prog.globals[1]?).map (·.type)=some 176:=by kernel_rfl
theorem ofCells:Tryz.prog.cellsOf 175=3:=by kernel_rfl
def fieldsOk (P:Program):List Field→Nat→Bool
 | [],_=>true
 | f :: l,j=>f.offset == j && (match P.underlying f.type with | some (.int .i64)=>true | _=>false) && P.cellsOf f.type == 1 && fieldsOk P l (j+1)
theorem fieldsOk_at {P:Program}:∀ {l:List Field} {i:Nat},fieldsOk P l i=true→∀ (j:Nat) (f:Field),l[j]?=some f→f.offset=i+j∧P.underlying f.type=some (.int .i64)∧P.cellsOf f.type=1
 | [],_,_,j,f,hj=>by simp at hj
 | g :: l,i,h,j,f,hj=>by
  simp only[fieldsOk,Bool.and_eq_true,beq_iff_eq] at h
  cases j with
  | zero =>
   simp at hj
   subst hj
   refine ⟨h.1.1.1,?_,h.1.2⟩
   have h2:=h.1.1.2
   split at h2
   ·assumption
   ·cases h2
  | succ j =>
   have:=fieldsOk_at h.2 j f (by simpa using hj)
   exact ⟨by omega,this.2⟩
theorem ofFields:(match Tryz.prog.underlying 175 with | some (.struct fs)=>fieldsOk Tryz.prog fs.toList 0 | _=>false)=true:=by kernel_rfl
theorem ofStruct:∃ fs,Tryz.prog.underlying 175=some (.struct fs)∧∀ (j:Nat) (f:Field),fs[j]?=some f→f.offset=j∧Tryz.prog.underlying f.type=some (.int .i64)∧Tryz.prog.cellsOf f.type=1:=by
 have h:=ofFields
 split at h
 ·rename_i fs hu
  exact ⟨fs,hu,fun j f hj=>by have:=fieldsOk_at h j f (by simpa using hj);simpa using this⟩
 ·cases h
theorem ofArray:Tryz.prog.underlying 176=some (.array 16 175):=by kernel_rfl
theorem unElem:Tryz.prog.underlying 9=some .string:=by kernel_rfl
theorem unCells:Tryz.prog.cellsOf 9=1:=by kernel_rfl
theorem laid_tab:(Rows.laid_barbican_code_of:DataW Unit)=tab2 ofRows:=rfl
abbrev unStrs:List (List UInt8):=[[111,110,101],[116,119,111],[116,114,105]]
theorem laid_strs:(Rows.laid_barbican_barbicankeep_units:DataW Unit)=tabS unStrs:=rfl
theorem gl_ok {W : World} (h : laidMetH Tryz.prog [("barbican/code.of", Rows.laid_barbican_code_of), ("barbican/barbicankeep.units", Rows.laid_barbican_barbicankeep_units)] W) : GlOk gl (fun k => k < W.heap.size) W := by
 obtain ⟨fs,hs,hf⟩:=ofStruct
 rw[laid_tab,laid_strs] at h
 have h1 : laidMet Tryz.prog [("barbican/code.of", tab2 ofRows), ("barbican/barbicankeep.units", tabS unStrs)] W := h
 exact GlOk.both (G1:=[_]) (G2:=[_]) (glOk_strs unName unType unArray unElem unCells (by decide) (laidMet_tail h1)) (glOk_of_head ofName ofType ofArray hs ofCells hf (by decide) (by decide) h1)
def recell (l:List Value):Go.Obj→Go.Obj
 | .cells _ t frozen=>.cells l.toArray t frozen
 | o=>o
noncomputable def gl_world (os:Os):World :=
 { World.holding Tryz.prog os ⟨#[],#[],[]⟩ with heap:=((World.holding Tryz.prog os ⟨#[],#[],[]⟩).heap.modify 1 (recell (ofRows.flatten.map fun z=>Value.int .i64 z))).modify 0 (recell (unStrs.map fun s=>Value.string ⟨⟨s⟩⟩)) }
end Go.Proofs.YtijdegmamdhcbaaGreatDoor
namespace Go.Dm
open Go Go.Eng Go.RowKit

theorem ret2I {h:Heap} {a b c d:Int} (e:a=b) (e':c=d):RetTo (Is (.tuple [.g (.int b),.g (.int d)])) h (.tuple [.g (.int a),.g (.int c)]):=by subst e;subst e';exact retIs (.inl rfl)

def firstE {α:Type} (f:α→Int):List α→Int
 | []=>0
 | x :: l=>if f x=0 then firstE f l else f x
theorem firstE_zero {α:Type} {f:α→Int}:∀ {l:List α},(∀ x∈l,f x=0)→firstE f l=0
 | [],_=>rfl
 | x :: l,h=>by simp only[firstE];rw[if_pos (h x List.mem_cons_self)];exact firstE_zero (fun y hy=>h y (List.mem_cons_of_mem _ hy))
theorem firstE_end {α:Type} {f:α→Int} {l:List α} {i:Nat} (hi:l.length≤i) (h:∀ j (hj:j < l.length),j < i→f l[j]=0):firstE f l=0 :=
 firstE_zero (fun x hx=>by obtain ⟨j,hj,rfl⟩:=List.getElem_of_mem hx;exact h j hj (by omega))
theorem firstE_at {α:Type} {f:α→Int}:∀ {l:List α} {i:Nat} (hi:i < l.length),(∀ j (hj:j < l.length),j < i→f l[j]=0)→f l[i]≠0→firstE f l=f l[i]
 | [],i,hi,_,_=>by simp at hi
 | x :: l,0,hi,_,h1=>by simp only[firstE];rw[if_neg (by simpa using h1)];rfl
 | x :: l,i+1,hi,h,h1=>by
  simp only[firstE]
  rw[if_pos (show f x=0 from h 0 (by simp) (by omega))]
  have:=firstE_at (f:=f) (l:=l) (i:=i) (by simpa using hi) (fun j hj hji=>show f l[j]=0 from h (j+1) (by simpa using hj) (by omega)) (by simpa using h1)
  simpa using this
theorem firstE_step {α:Type} {f:α→Int} {l:List α} {i:Nat} (hi:i < l.length) (h:∀ j (hj:j < l.length),j < i→f l[j]=0) (h1:f l[i]=0):∀ j (hj:j < l.length),j < i+1→f l[j]=0:=by
 intro j hj hji
 by_cases e:j=i
 ·subst e;exact h1
 ·exact h j hj (by omega)
theorem none0 {α:Type} {f:α→Int} {l:List α}:∀ j (hj:j < l.length),j < 0→f l[j]=0:=fun j _ h=>absurd h (Nat.not_lt_zero j)
theorem allp_step {α:Type} {p:α→Prop} {l:List α} {i:Nat} (hi:i < l.length) (h:∀ j (hj:j < l.length),j < i→p l[j]) (h1:p l[i]):∀ j (hj:j < l.length),j < i+1→p l[j]:=by
 intro j hj hji
 by_cases e:j=i
 ·subst e;exact h1
 ·exact h j hj (by omega)
theorem allp_end {α:Type} {p:α→Prop} {l:List α} {i:Nat} (hi:l.length≤i) (h:∀ j (hj:j < l.length),j < i→p l[j]):∀ x∈l,p x :=
 fun x hx=>by obtain ⟨j,hj,rfl⟩:=List.getElem_of_mem hx;exact h j hj (by omega)

theorem alln_step {α:Type} {q:α→Prop} {l:List α} {i:Nat} (hi:i < l.length) (h:∀ j (hj:j < l.length),j < i→¬q l[j]) (h1:¬q l[i]):∀ j (hj:j < l.length),j < i+1→¬q l[j]:=allp_step (p:=fun x=>¬q x) hi h h1
theorem alln_0 {α:Type} {q:α→Prop} {l:List α}:∀ j (hj:j < l.length),j < 0→¬q l[j]:=fun j _ h=>absurd h (Nat.not_lt_zero j)
theorem alln_end {α:Type} {q:α→Prop} {l:List α} {i:Nat} (hi:l.length≤i) (h:∀ j (hj:j < l.length),j < i→¬q l[j]):∀ x∈l,¬q x:=allp_end (p:=fun x=>¬q x) hi h

def agree (env:Env):List (Nat × D)→Prop
 | []=>True
 | (k,x) :: l=>env k=x∧agree env l
theorem many_self {env:Env}:∀ {l:List (Nat × D)},agree env l→Env.many env l=env
 | [],_=>rfl
 | (k,x) :: l,h=>by
  simp only[Env.many,many_self h.2]
  funext j
  by_cases hj:j=k
  ·subst hj;simp[Env.set,h.1]
  ·simp[Env.set,beq_ne hj]
def seqPost (Rd:St→Prop) (Q:Post):Post
 | .normal,st'=>Rd st'
 | e,st'=>Q e st'
theorem seqJ {P:Program} {T:Tab} {F:FuncId→Bool} {G:Gl} {n:Nat} {x y:Code} {env:Env} {h:Heap} {df:List Deferred} {Q:Post} {ι:Type} (val:ι→List (Nat × D)) (hpI:ι→Heap) (Inv:ι→Prop)
  (tail:∀ (e0:Env) (i:ι),Inv i→vc P T F G n y ⟨Env.many e0 (val i),hpI i,df⟩ Q)
  (head:∀ Rd:St→Prop,(∀ (i:ι) (e:Env),agree e (val i)→Inv i→Rd ⟨e,hpI i,df⟩)→vc P T F G n x ⟨env,h,df⟩ (seqPost Rd Q)) :
  vc P T F G n (.seq x y) ⟨env,h,df⟩ Q:=by
 have hh:=head (fun st'=>vc P T F G n y st' Q) (fun i e ha hi=>by
  have:=tail e i hi
  rw[many_self ha] at this
  exact this)
 have e:seqPost (fun st'=>vc P T F G n y st' Q) Q=(fun e st'=>match e with | .normal=>vc P T F G n y st' Q | e=>Q e st'):=by
  funext e st'
  cases e<;>rfl
 rw[e] at hh
 exact hh
structure Hold (p:Prop):Prop where
 out:p
def holdPost (P:Program) (T:Tab) (F:FuncId→Bool) (G:Gl) (n:Nat) (y:Code) (Q:Post):Post
 | .normal,st'=>Hold (vc P T F G n y st' Q)
 | e,st'=>Q e st'
theorem stepS {P:Program} {T:Tab} {F:FuncId→Bool} {G:Gl} {n:Nat} {x y:Code} {st:St} {Q:Post} (h:vc P T F G n x st (holdPost P T F G n y Q)):vc P T F G n (.seq x y) st Q:=by
 have e:holdPost P T F G n y Q=(fun e st'=>match e with | .normal=>vc P T F G n y st' Q | e=>Q e st'):=by
  funext e st'
  cases e with
  | normal=>exact propext ⟨Hold.out,Hold.mk⟩
  | _=>rfl
 rw[e] at h
 exact h
end Go.Dm
namespace Barb
open Go Go.Dm

abbrev Str:=List UInt8
structure Instr where
 op:Int
 a:Int
 b:Int
 c:Int
deriving DecidableEq
structure Entry where
 at_:Int
 params:Int
deriving DecidableEq
structure Part where
 code:List Instr
 entries:List Entry
 lo:Int
 hi:Int
abbrev Image:=List Part
structure Arr where
 name:Str
 size:Int
deriving DecidableEq
inductive Expr where
 | mk (kind n:Int) (of s:Str) (args:List Expr)
inductive Stmt where
 | mk (kind:Int) (s:Str) (exprs:List Expr) (body els:List Stmt)
structure Fun where
 name:Str
 isOpen:Bool
 params:List Str
 body:List Stmt
structure Unit where
 name:Str
 vars:List Str
 arrays:List Arr
 funcs:List Fun
structure Cells where
 vars:List Int
 arrays:List (List Int)

def Instr.g (i:Instr):List GV:=[.int i.op,.int i.a,.int i.b,.int i.c]
def Entry.g (i:Entry):List GV:=[.int i.at_,.int i.params]
def Part.g (p:Part):List GV:=[.sl 4 (p.code.map Instr.g),.sl 2 (p.entries.map Entry.g),.int p.lo,.int p.hi]
def Image.g (m:Image):List GV:=[.sl 4 (m.map Part.g)]
def Arr.g (a:Arr):List GV:=[.str a.name,.int a.size]
def intG (n:Int):List GV:=[.int n]
def strG (l:Str):List GV:=[.str l]
def intsG (l:List Int):List GV:=[.sl 1 (l.map intG)]
mutual
def Expr.g:Expr→List GV
 | .mk k n of s args=>[.int k,.int n,.str of,.str s,.sl 5 (Expr.gs args)]
def Expr.gs:List Expr→List (List GV)
 | []=>[]
 | x :: l=>x.g :: Expr.gs l
end
mutual
def Stmt.g:Stmt→List GV
 | .mk k s xs b e=>[.int k,.str s,.sl 5 (Expr.gs xs),.sl 5 (Stmt.gs b),.sl 5 (Stmt.gs e)]
def Stmt.gs:List Stmt→List (List GV)
 | []=>[]
 | x :: l=>x.g :: Stmt.gs l
end
def Fun.g (f:Fun):List GV:=[.str f.name,.bool f.isOpen,.sl 1 (f.params.map strG),.sl 5 (Stmt.gs f.body)]
def Unit.g (u:Unit):List GV:=[.str u.name,.sl 1 (u.vars.map strG),.sl 2 (u.arrays.map Arr.g),.sl 4 (u.funcs.map Fun.g)]
def Cells.g (c:Cells):List GV:=[.sl 1 (c.vars.map intG),.sl 1 (c.arrays.map intsG)]

theorem Expr.gs_map (l:List Expr):Expr.gs l=l.map Expr.g:=by
 induction l with
 | nil=>rfl
 | cons x l ih=>simp[Expr.gs,ih]
theorem Stmt.gs_map (l:List Stmt):Stmt.gs l=l.map Stmt.g:=by
 induction l with
 | nil=>rfl
 | cons x l ih=>simp[Stmt.gs,ih]


theorem list_of {α:Type} {e:α→List GV} {ok:α→Prop}:∀ xs:List (List GV),(∀ r∈xs,∃ x,r=e x∧ok x)→∃ l:List α,xs=l.map e∧∀ x∈l,ok x
 | [],_=>⟨[],rfl,fun x h=>by simp at h⟩
 | r :: xs,h=>by
  obtain ⟨x,rfl,hx⟩:=h r List.mem_cons_self
  obtain ⟨l,rfl,hl⟩:=list_of xs (fun r hr=>h r (List.mem_cons_of_mem _ hr))
  refine ⟨x :: l,rfl,fun y hy=>?_⟩
  rcases List.mem_cons.1 hy with rfl | hy
  ·exact hx
  ·exact hl y hy

def Instr.I (i:Instr):Prop:=I64 i.op∧I64 i.a∧I64 i.b∧I64 i.c
def Entry.I (i:Entry):Prop:=I64 i.at_∧I64 i.params
def Part.I (p:Part):Prop:=(∀ i∈p.code,i.I)∧(∀ i∈p.entries,i.I)∧I64 p.lo∧I64 p.hi∧p.code.length*32≤140737488351232∧p.entries.length*16≤140737488351232
def Image.I (m:Image):Prop:=(∀ p∈m,p.I)∧m.length*64≤140737488351232
def Arr.I (a:Arr):Prop:=a.name.length≤maxLen∧I64 a.size
def strsI (l:List Str):Prop:=(∀ s∈l,s.length≤maxLen)∧l.length*16≤140737488351232
def intsI (l:List Int):Prop:=(∀ s∈l,I64 s)∧l.length*8≤140737488351232
inductive Expr.I:Expr→Prop
 | mk {k n:Int} {of s:Str} {args:List Expr}:I64 k→I64 n→of.length≤maxLen→s.length≤maxLen→args.length*72≤140737488351232→(∀ x∈args,Expr.I x)→Expr.I (.mk k n of s args)
inductive Stmt.I:Stmt→Prop
 | mk {k:Int} {s:Str} {xs:List Expr} {b e:List Stmt}:I64 k→s.length≤maxLen→xs.length*72≤140737488351232→b.length*96≤140737488351232→e.length*96≤140737488351232→(∀ x∈xs,Expr.I x)→(∀ x∈b,Stmt.I x)→(∀ x∈e,Stmt.I x)→Stmt.I (.mk k s xs b e)
def Fun.I (f:Fun):Prop:=f.name.length≤maxLen∧strsI f.params∧f.body.length*96≤140737488351232∧∀ x∈f.body,Stmt.I x
def Unit.I (u:Unit):Prop:=u.name.length≤maxLen∧strsI u.vars∧(∀ a∈u.arrays,a.I)∧u.arrays.length*24≤140737488351232∧(∀ f∈u.funcs,f.I)∧u.funcs.length*72≤140737488351232
def Cells.I (c:Cells):Prop:=intsI c.vars∧(∀ l∈c.arrays,intsI l)∧c.arrays.length*24≤140737488351232
theorem dec_sl {P:Program} {f:Nat} {t e:TypeId} {g:GV} (hu:P.underlying t=some (.slice e)) (h:TypedG P f t g):∃ f' xs,g=.sl (P.cellsOf e) xs∧xs.length*P.bytesOf e≤reachBytes∧∀ r∈xs,TypedR P f' e r:=by
 cases f with
 | zero=>simp only[TypedG] at h
 | succ f =>
  simp only[TypedG,hu] at h
  obtain ⟨xs,h1,h2,h3⟩:=h
  exact ⟨f,xs,h1,h2,fun r hr=>by unfold TypedR;exact h3 r hr⟩
theorem dec_list {P:Program} {f:Nat} {t e:TypeId} {g:GV} {k:Nat} {α:Type} {enc:α→List GV} {ok:α→Prop} (hu:P.underlying t=some (.slice e)) (hk:P.cellsOf e=k) {b:Nat} (hb:P.bytesOf e=b) (h:TypedG P f t g)
  (hd:∀ f r,TypedR P f e r→∃ x,r=enc x∧ok x):∃ l:List α,g=.sl k (l.map enc)∧(∀ x∈l,ok x)∧l.length*b≤140737488351232:=by
 obtain ⟨f',xs,rfl,hl,hx⟩:=dec_sl hu h
 obtain ⟨l,rfl,hok⟩:=list_of (e:=enc) (ok:=ok) xs (fun r hr=>hd f' r (hx r hr))
 subst hk
 subst hb
 exact ⟨l,rfl,hok,by simpa [reachBytes] using hl⟩
theorem dec_lit {P:Program} {f:Nat} {t:TypeId} {g:GV} (hu:P.underlying t=some (.int .i64)) (h:TypedG P f t g):∃ n,g=.int n∧I64 n:=by
 cases f with
 | zero=>simp only[TypedG] at h
 | succ f=>simp only[TypedG,hu] at h;exact h
theorem dec_fields {P:Program} {f:Nat} {t:TypeId} {r:List GV} {fs:Array Field} (hu:P.underlying t=some (.struct fs)) (h:TypedR P f t r):r.length=fs.size∧∀ (i:Nat) (fd:Field) (g:GV),fs[i]?=some fd→r[i]?=some g→TypedG P f fd.type g:=by
 unfold TypedR at h
 rw[hu] at h
 exact h
end Barb
namespace Barb
open Go Go.Dm Go.Eng

noncomputable instance (priority:=10) propDec (p:Prop):Decidable p:=Classical.propDecidable p

def lowc (c:UInt8):Prop:=97≤c.toNat∧c.toNat≤122
def digc (c:UInt8):Prop:=48≤c.toNat∧c.toNat≤57
def chrOk (s:Str) (j:Nat) (hj:j < s.length):Prop:=lowc s[j]∨(j≠0∧digc s[j])
def wordP (s:Str):Prop:=(1≤s.length∧s.length≤8)∧∀ j (hj:j < s.length),chrOk s j hj
def keys:List Str:=[[117,110,105,116],[118,97,114],[97,114,114,97,121],[102,117,110,99],[111,112,101,110],[105,102],[101,108,115,101],[119,104,105,108,101],[114,101,116,117,114,110],[115,97,121]]
def identP (s:Str):Prop:=wordP s∧s ∉ keys

def exprOk (k n:Int) (of s:Str) (m:Nat):Prop :=
 (k=1∧of=[]∧s=[]∧m=0)∨(k=2∧of=[]∧identP s∧m=0∧n=0)∨(k=3∧of=[]∧identP s∧m=1∧n=0)∨(k=4∧(of=[]∨identP of)∧identP s∧n=0)∨(k=5∧of=[]∧s=[]∧m=2)
def exprBad (k n:Int):Prop:=(k=1∧¬(0≤n∧n≤65535))∨(k=5∧¬(1≤n∧n≤10))
noncomputable def exprE:Nat→Expr→Int
 | 0,_=>1
 | f+1,.mk k n of s args=>if ¬(1≤k∧k≤5) then 3 else if 4 < args.length then 1 else if ¬exprOk k n of s args.length then 4 else if exprBad k n then 2 else firstE (exprE f) args

def stmtOk (k:Int) (s:Str) (nx nb ne:Nat):Prop :=
 ((k≤2→identP s)∧(2 < k→s=[])∧(k=2→nx=2)∧(k≠2→nx=1))∧(nb=0∨k=3∨k=4)∧(ne=0∨k=3)
noncomputable def stmtE1 (f:List Stmt→Int):Stmt→Int
 | .mk k s xs b e=>if ¬(1≤k∧k≤6) then 3 else if ¬stmtOk k s xs.length b.length e.length then 4 else if firstE (exprE 12) xs≠0 then firstE (exprE 12) xs else if f b≠0 then f b else f e
noncomputable def stmtsE:Nat→List Stmt→Int
 | 0,_=>1
 | f+1,l=>firstE (stmtE1 (stmtsE f)) l
def stmtN1 (f:List Stmt→Int):Stmt→Int
 | .mk _ _ _ b e=>f b+f e
def stmtsN:Nat→List Stmt→Int
 | 0,_=>0
 | f+1,l=>l.length+(l.map (stmtN1 (stmtsN f))).sum

noncomputable def arrE (a:Arr):Int:=if ¬identP a.name then 4 else if ¬(1≤a.size∧a.size≤10) then 2 else 0
noncomputable def nameE (s:Str):Int:=if identP s then 0 else 4
noncomputable def funE (f:Fun):Int:=if ¬identP f.name then 4 else if 4 < f.params.length then 1 else if firstE nameE f.params≠0 then firstE nameE f.params else stmtsE 12 f.body
def manyN (l:List Fun):Int:=(l.map fun f=>stmtsN 12 f.body).sum
noncomputable def unitE (u:Unit):Int :=
 if ¬identP u.name then 4 else if 8 < u.vars.length∨3 < u.arrays.length∨8 < u.funcs.length then 1
 else if firstE nameE u.vars≠0 then firstE nameE u.vars else if firstE arrE u.arrays≠0 then firstE arrE u.arrays else if firstE funE u.funcs≠0 then firstE funE u.funcs
 else if 300 < IntKind.i64.wrap (manyN u.funcs) then 1 else 0

def sizes (l:List Arr):Int:=(l.map Arr.size).sum
def unitWords (u:Unit):Int:=u.vars.length+sizes u.arrays
theorem sizes_succ {l:List Arr} {i:Nat} (h:i < l.length):sizes (l.take (i+1))=sizes (l.take i)+l[i].size:=by
 unfold sizes;rw[take_one h,List.map_append,List.sum_append];simp
theorem sizes_le {l:List Arr} (h:∀ a∈l,1≤a.size∧a.size≤10):0≤sizes l∧sizes l≤10*l.length:=by
 induction l with
 | nil=>simp[sizes]
 | cons a l ih =>
  have:=h a List.mem_cons_self
  have:=ih (fun b hb=>h b (List.mem_cons_of_mem _ hb))
  simp only[sizes,List.map_cons,List.sum_cons,List.length_cons] at this ⊢
  omega
theorem firstE_all {α:Type} {f:α→Int}:∀ {l:List α},firstE f l=0→∀ x∈l,f x=0
 | [],_,x,hx=>by simp at hx
 | y :: l,h,x,hx=>by
  simp only[firstE] at h
  by_cases h0:f y=0
  ·rw[if_pos h0] at h
   rcases List.mem_cons.1 hx with rfl | hx
   ·exact h0
   ·exact firstE_all h x hx
  ·rw[if_neg h0] at h;exact absurd h h0
theorem unitE_ok {u:Unit} (h:unitE u=0):u.vars.length≤8∧u.arrays.length≤3∧u.funcs.length≤8∧∀ a∈u.arrays,1≤a.size∧a.size≤10:=by
 unfold unitE at h
 by_cases h1:identP u.name
 ·rw[if_neg (by simpa using h1)] at h
  by_cases h2:8 < u.vars.length∨3 < u.arrays.length∨8 < u.funcs.length
  ·rw[if_pos h2] at h;omega
  ·rw[if_neg h2] at h
   by_cases h3:firstE nameE u.vars≠0
   ·rw[if_pos h3] at h;exact absurd h h3
   ·rw[if_neg h3] at h
    by_cases h4:firstE arrE u.arrays≠0
    ·rw[if_pos h4] at h;exact absurd h h4
    ·refine ⟨by omega,by omega,by omega,fun a ha=>?_⟩
     have:=firstE_all (Classical.not_not.1 h4) a ha
     unfold arrE at this
     by_cases h5:identP a.name
     ·rw[if_neg (by simpa using h5)] at this
      by_cases h6:1≤a.size∧a.size≤10
      ·exact h6
      ·rw[if_pos h6] at this;omega
     ·rw[if_pos h5] at this;omega
 ·rw[if_pos h1] at h;omega
theorem wrap_def (a:Int):IntKind.i64.wrap a=if 9223372036854775808≤a % 18446744073709551616 then a % 18446744073709551616 - 18446744073709551616 else a % 18446744073709551616:=by
 simp[IntKind.wrap,IntKind.signed,IntKind.bits]
theorem wrap_add (a b:Int):IntKind.i64.wrap (IntKind.i64.wrap a+b)=IntKind.i64.wrap (a+b):=by
 rw[wrap_def,wrap_def,wrap_def]
 omega
theorem wrap_add' (a b:Int):IntKind.i64.wrap (a+IntKind.i64.wrap b)=IntKind.i64.wrap (a+b):=by
 rw[Int.add_comm,wrap_add,Int.add_comm]
end Barb
namespace Barb
open Go Go.Dm Go.Eng

noncomputable def idxFrom {α:Type} (q:α→Prop):List α→Nat→Int
 | [],_=>-1
 | x :: l,i=>if q x then (i:Int) else idxFrom q l (i+1)
noncomputable def idx {α:Type} (q:α→Prop) (l:List α):Int:=idxFrom q l 0
theorem idxFrom_at {α:Type} {q:α→Prop}:∀ {l:List α} {i0 i:Nat} (hi:i < l.length),(∀ j (hj:j < l.length),j < i→¬q l[j])→q l[i]→idxFrom q l i0=((i0+i:Nat):Int)
 | [],_,i,hi,_,_=>by simp at hi
 | x :: l,i0,0,hi,_,h1=>by simp only[idxFrom];rw[if_pos (by simpa using h1)];simp
 | x :: l,i0,i+1,hi,h,h1=>by
  simp only[idxFrom]
  rw[if_neg (show ¬q x from h 0 (by simp) (by omega)),idxFrom_at (l:=l) (i:=i) (by simpa using hi) (fun j hj hji=>h (j+1) (by simpa using hj) (by omega)) (by simpa using h1)]
  congr 1;omega
theorem idxFrom_no {α:Type} {q:α→Prop}:∀ {l:List α} {i0:Nat},(∀ x∈l,¬q x)→idxFrom q l i0=-1
 | [],_,_=>rfl
 | x :: l,i0,h=>by simp only[idxFrom];rw[if_neg (h x List.mem_cons_self)];exact idxFrom_no (fun y hy=>h y (List.mem_cons_of_mem _ hy))
theorem idx_at {α:Type} {q:α→Prop} {l:List α} {i:Nat} (hi:i < l.length) (h:∀ j (hj:j < l.length),j < i→¬q l[j]) (h1:q l[i]):idx q l=(i:Int):=by
 unfold idx;rw[idxFrom_at hi h h1];simp
theorem idx_no {α:Type} {q:α→Prop} {l:List α} (h:∀ x∈l,¬q x):idx q l=-1:=idxFrom_no h
theorem idxFrom_cases {α:Type} (q:α→Prop):∀ (l:List α) (i0:Nat),(idxFrom q l i0=-1∧∀ x∈l,¬q x)∨∃ (i:Nat) (hi:i < l.length),idxFrom q l i0=((i0+i:Nat):Int)∧q l[i]∧∀ j (hj:j < l.length),j < i→¬q l[j]
 | [],_=>.inl ⟨rfl,fun x hx=>by simp at hx⟩
 | x :: l,i0=>by
  by_cases hx:q x
  ·exact .inr ⟨0,by simp,by simp only[idxFrom];rw[if_pos hx];simp,by simpa using hx,fun j hj hji=>absurd hji (by omega)⟩
  ·rcases idxFrom_cases q l (i0+1) with ⟨h1,h2⟩ | ⟨i,hi,h1,h2,h3⟩
   ·refine .inl ⟨by simp only[idxFrom];rw[if_neg hx];exact h1,fun y hy=>?_⟩
    rcases List.mem_cons.1 hy with rfl | hy
    ·exact hx
    ·exact h2 y hy
   ·refine .inr ⟨i+1,by simpa using hi,by simp only[idxFrom];rw[if_neg hx,h1];congr 1;omega,by simpa using h2,fun j hj hji=>?_⟩
    cases j with
    | zero=>simpa using hx
    | succ j=>simpa using h3 j (by simpa using hj) (by omega)
theorem idx_cases {α:Type} (q:α→Prop) (l:List α):(idx q l=-1∧∀ x∈l,¬q x)∨∃ (i:Nat) (hi:i < l.length),idx q l=(i:Int)∧q l[i]∧∀ j (hj:j < l.length),j < i→¬q l[j]:=by
 rcases idxFrom_cases q l 0 with h | ⟨i,hi,h1,h2,h3⟩
 ·exact .inl h
 ·exact .inr ⟨i,hi,by unfold idx;rw[h1];simp,h2,h3⟩

noncomputable def unitIdx (p:List Unit) (name:Str):Int:=idx (fun u:Unit=>u.name=name) p
noncomputable def funIdx (u:Unit) (name:Str):Int:=idx (fun f:Fun=>f.name=name) u.funcs
def varP (u:Unit) (f:Fun) (name:Str):Prop:=name∈f.params∨name∈u.vars
def arrP (u:Unit) (name:Str):Prop:=∃ a∈u.arrays,a.name=name
noncomputable def calledIn (to:Unit) (of s:Str) (m:Nat):Int :=
 match to.funcs.find? (fun f=>decide (f.name=s)) with
 | none=>5
 | some g=>if of≠[]∧g.isOpen=false then 5 else if g.params.length≠m then 7 else 0
noncomputable def calledE (p:List Unit) (u:Unit) (of s:Str) (m:Nat):Int :=
 if of=[] then calledIn u of s m else match p.find? (fun v=>decide (v.name=of)) with
  | none=>5
  | some v=>calledIn v of s m
noncomputable def exprS1 (p:List Unit) (u:Unit) (f:Fun) (k:Int) (of s:Str) (m:Nat):Int :=
 if (k=2∧¬varP u f s)∨(k=3∧¬arrP u s) then 5 else if k=4 then calledE p u of s m else 0
mutual
noncomputable def exprS (p:List Unit) (u:Unit) (f:Fun):Expr→Int
 | .mk k _ of s args=>if exprS1 p u f k of s args.length≠0 then exprS1 p u f k of s args.length else exprsS p u f args
noncomputable def exprsS (p:List Unit) (u:Unit) (f:Fun):List Expr→Int
 | []=>0
 | x :: l=>if exprS p u f x=0 then exprsS p u f l else exprS p u f x
end
theorem exprsS_first (p:List Unit) (u:Unit) (f:Fun):∀ l,exprsS p u f l=firstE (exprS p u f) l
 | []=>rfl
 | x :: l=>by simp only[exprsS,firstE,exprsS_first p u f l]
mutual
noncomputable def stmtS (p:List Unit) (u:Unit) (f:Fun):Stmt→Int
 | .mk k s xs b e=>if (k=1∧¬varP u f s)∨(k=2∧¬arrP u s) then 5 else if exprsS p u f xs≠0 then exprsS p u f xs else if stmtsS p u f b≠0 then stmtsS p u f b else stmtsS p u f e
noncomputable def stmtsS (p:List Unit) (u:Unit) (f:Fun):List Stmt→Int
 | []=>0
 | x :: l=>if stmtS p u f x=0 then stmtsS p u f l else stmtS p u f x
end
theorem stmtsS_first (p:List Unit) (u:Unit) (f:Fun):∀ l,stmtsS p u f l=firstE (stmtS p u f) l
 | []=>rfl
 | x :: l=>by simp only[stmtsS,firstE,stmtsS_first p u f l]

def dupP (l:List Str):Prop:=∃ j,∃ hj:j < l.length,l[j]∈l.take j
noncomputable def funS (p:List Unit) (u:Unit) (f:Fun):Int:=if dupP f.params then 6 else stmtsS p u f f.body
noncomputable def unitS (p:List Unit) (u:Unit):Int :=
 if dupP (u.vars++u.arrays.map Arr.name)∨dupP (u.funcs.map Fun.name) then 6 else firstE (funS p u) u.funcs
def progWords (p:List Unit):Int:=(p.map unitWords).sum
noncomputable def progE (p:List Unit):Int :=
 if 5 < p.length then 1 else if firstE unitE p≠0 then firstE unitE p else if dupP (p.map Unit.name) then 6 else if 250 < progWords p then 1 else firstE (unitS p) p
end Barb
namespace Go.Proofs.YtijdegmamdhcbaaGreatDoor
open Go Go.Dm Barb

theorem dec_int {f:Nat} {g:GV} (h:TypedG Tryz.prog f 3 g):∃ n,g=.int n∧I64 n:=dec_lit Tryz.underlying3 h
end Go.Proofs.YtijdegmamdhcbaaGreatDoor
namespace Barb
open Go Go.Eng Go.Dm Go.RowKit

theorem mask_any (x:Int):Op.intBits .and .i64 x 65535=pure (.int .i64 (x % 65536)):=by
 have h:(BitVec.ofInt 64 x &&& BitVec.ofInt 64 65535).toNat=(x % 65536).toNat:=by
  rw[BitVec.toNat_and,BitVec.toNat_ofInt,show (BitVec.ofInt 64 65535).toNat=2 ^ 16 - 1 from rfl,Nat.and_two_pow_sub_one_eq_mod]
  omega
 have h2:IntKind.i64.wrap ((x % 65536).toNat:Int)=x % 65536:=by
  have:=isI64.of (x:=x % 65536) (by omega) (by omega)
  rw[Int.toNat_of_nonneg (by omega)]
  exact this
 show pure (Value.int .i64 (IntKind.i64.wrap ((BitVec.ofInt 64 x &&& BitVec.ofInt 64 65535).toNat:Int)))=_
 rw[h,h2]
theorem ofInt_nat {x:Nat} (hx:x≤65535):(BitVec.ofInt 64 (x:Int)).toNat=x:=by
 rw[BitVec.toNat_ofInt];omega
theorem wrap_nat {x:Nat} (hx:x≤65535):IntKind.i64.wrap (x:Int)=x:=isI64.of (x:=(x:Int)) (by omega) (by omega)
theorem and_any {x y:Nat} (hx:x≤65535) (hy:y≤65535):Op.intBits .and .i64 x y=pure (.int .i64 ((x &&& y:Nat):Int)):=by
 show pure (Value.int .i64 (IntKind.i64.wrap ((BitVec.ofInt 64 (x:Int) &&& BitVec.ofInt 64 (y:Int)).toNat:Int)))=_
 rw[BitVec.toNat_and,ofInt_nat hx,ofInt_nat hy,wrap_nat]
 exact Nat.le_trans Nat.and_le_left hx
theorem or_le {x y:Nat} (hx:x≤65535) (hy:y≤65535):x ||| y≤65535:=Nat.le_of_lt_succ (Nat.or_lt_two_pow (n:=16) (Nat.lt_succ_of_le hx) (Nat.lt_succ_of_le hy))
theorem xor_le {x y:Nat} (hx:x≤65535) (hy:y≤65535):x ^^^ y≤65535:=Nat.le_of_lt_succ (Nat.xor_lt_two_pow (n:=16) (Nat.lt_succ_of_le hx) (Nat.lt_succ_of_le hy))
theorem or_any {x y:Nat} (hx:x≤65535) (hy:y≤65535):Op.intBits .or .i64 x y=pure (.int .i64 ((x ||| y:Nat):Int)):=by
 show pure (Value.int .i64 (IntKind.i64.wrap ((BitVec.ofInt 64 (x:Int) ||| BitVec.ofInt 64 (y:Int)).toNat:Int)))=_
 rw[BitVec.toNat_or,ofInt_nat hx,ofInt_nat hy,wrap_nat (or_le hx hy)]
theorem xor_any {x y:Nat} (hx:x≤65535) (hy:y≤65535):Op.intBits .xor .i64 x y=pure (.int .i64 ((x ^^^ y:Nat):Int)):=by
 show pure (Value.int .i64 (IntKind.i64.wrap ((BitVec.ofInt 64 (x:Int) ^^^ BitVec.ofInt 64 (y:Int)).toNat:Int)))=_
 rw[BitVec.toNat_xor,ofInt_nat hx,ofInt_nat hy,wrap_nat (xor_le hx hy)]
def half (m k:Nat):Nat:=m / 2 ^ k
def did (op:Nat) (m n:Nat):Nat:=match op with
 | 1=>(m+n) % 65536 | 2=>(m+65536 - n) % 65536 | 3=>m*n % 65536 | 4=>m &&& n | 5=>m ||| n | 6=>m ^^^ n
 | 7=>if m < n then 1 else 0 | 8=>if m=n then 1 else 0 | 9=>m*2 ^ (n % 16) % 65536 | _=>m / 2 ^ (n % 16)
theorem mask15 {n:Nat} (hn:n≤65535):Op.intBits .and .i64 (n:Int) 15=pure (.int .i64 ((n % 16:Nat):Int)):=by
 have h:=and_any (x:=n) (y:=15) hn (by decide)
 have h2:n &&& 15=n % 16:=Nat.and_two_pow_sub_one_eq_mod n 4
 rw[h2] at h
 exact h
theorem shl_nat (m n:Nat):(m:Int)*2 ^ (min ((n % 16:Nat):Int).toNat 64)=((m*2 ^ (n % 16):Nat):Int):=by
 rw[Int.toNat_natCast,Nat.min_eq_left (by omega)];simp
theorem shl_le {m n:Nat} (hm:m≤65535):m*2 ^ (n % 16)≤65535*32768 :=
 Nat.mul_le_mul hm (Nat.le_trans (Nat.pow_le_pow_right (by decide) (show n % 16≤15 by omega)) (by decide))
theorem shr_nat (m n:Nat):(m:Int).fdiv (2 ^ (min ((n % 16:Nat):Int).toNat 64))=((m / 2 ^ (n % 16):Nat):Int):=by
 rw[Int.toNat_natCast,Nat.min_eq_left (by omega),Int.fdiv_eq_ediv_of_nonneg _ (by exact_mod_cast Nat.zero_le _)];simp
theorem did_le {op:Int} {m n:Nat} (hm:m≤65535) (hn:n≤65535) (h:op=4∨op=5∨op=6):did op.toNat m n≤65535:=by
 rcases h with e | e | e<;>subst e
 ·exact Nat.le_trans Nat.and_le_left hm
 ·exact or_le hm hn
 ·exact xor_le hm hn
end Barb
namespace Go.Proofs.YtijdegmamdhcbaaGreatDoor
open Go Go.Dm Go.Eng Barb

theorem Is_any (x:Int):CT Tryz.prog gl 23 [.g (.int x)] (Is (.pb (0≤x∧x≤65535))):=by
 refine enter hT hF hM Tryz.func23 rfl 9 rfl (by kernel_rfl) [.tmp 2] rfl [.g (.int x)] rfl _ ?_
 exact ⟨fun h1=>⟨rfl,retP (by omega)⟩,fun h1=>⟨rfl,retF (by omega)⟩⟩
theorem truth_any (p:Prop) [Decidable p]:CT Tryz.prog gl 85 [.pb p] (Is (.g (.int (if p then 1 else 0)))):=by
 refine enter hT hF hM Tryz.func85 rfl 4 rfl (by kernel_rfl) [.tmp 2] rfl [.pb p] rfl _ ?_
 exact ⟨fun h=>⟨rfl,retI (by rw[if_pos h])⟩,fun h=>⟨rfl,retI (by rw[if_neg h])⟩⟩

def doI (op a b:Int):Int:=if op < 1∨10 < op then 0 else if (0≤a∧a≤65535)∧(0≤b∧b≤65535) then (did op.toNat a.toNat b.toNat:Nat) else 0
def doE (op a b:Int):Int:=if op < 1∨10 < op then 3 else if (0≤a∧a≤65535)∧(0≤b∧b≤65535) then 0 else 2
theorem do_ok {op a b:Int} (h:¬(op < 1∨10 < op)) {m n:Nat} (ha:a=(m:Int)) (hb:b=(n:Int)) (hm:m≤65535) (hn:n≤65535) {k:Nat} (ho:op=(k:Int)):doI op a b=(did k m n:Nat)∧doE op a b=0:=by
 subst ha;subst hb;subst ho
 unfold doI doE
 rw[if_neg h,if_neg h,if_pos (by omega),if_pos (by omega)]
 simp

theorem Do_any (op a b:Int):CT Tryz.prog gl 71 [.g (.int op),.g (.int a),.g (.int b)] (Is (.tuple [.g (.int (doI op a b)),.g (.int (doE op a b))])):=by
 refine enter hT hF hM Tryz.func71 rfl 77 rfl (by kernel_rfl) [.tmp 6,.tmp 7] rfl [.g (.int op),.g (.int a),.g (.int b)] rfl _ ?_
 refine ⟨fun h1=>?_,fun h1=>⟨fun h2=>?_,fun h2=>?_⟩⟩
 ·exact ⟨rfl,ret2I (by unfold doI;rw[if_pos (.inl h1)]) (by unfold doE;rw[if_pos (.inl h1)])⟩
 ·exact ⟨rfl,ret2I (by unfold doI;rw[if_pos (.inr h2)]) (by unfold doE;rw[if_pos (.inr h2)])⟩
 have hop:¬(op < 1∨10 < op):=by omega
 refine callIs (.inl rfl) (Is_any a) ?_
 refine ⟨fun h3=>?_,fun h3=>callIs (.inl rfl) (Is_any b) ⟨fun h4=>?_,fun h4=>?_⟩⟩
 ·have hn:¬((0≤a∧a≤65535)∧(0≤b∧b≤65535)):=by omega
  exact ⟨rfl,ret2I (by unfold doI;rw[if_neg hop,if_neg hn]) (by unfold doE;rw[if_neg hop,if_neg hn])⟩
 ·have hn:¬((0≤a∧a≤65535)∧(0≤b∧b≤65535)):=by omega
  exact ⟨rfl,ret2I (by unfold doI;rw[if_neg hop,if_neg hn]) (by unfold doE;rw[if_neg hop,if_neg hn])⟩
 obtain ⟨m,rfl⟩:∃ m:Nat,a=(m:Int):=⟨a.toNat,by omega⟩
 obtain ⟨n,rfl⟩:∃ n:Nat,b=(n:Int):=⟨b.toNat,by omega⟩
 have hm:m≤65535:=by omega
 have hn:n≤65535:=by omega
 have fin:∀ (k:Nat) (x:Int),op=(k:Int)→x % 65536=((did k m n:Nat):Int)→∀ h:Heap,RetTo (Is (.tuple [.g (.int (doI op m n)),.g (.int (doE op m n))])) h (.tuple [.g (.int (x % 65536)),.g (.int 0)]):=by
  intro k x hk hx h
  obtain ⟨e1,e2⟩:=do_ok hop rfl rfl hm hn hk
  exact ret2I (by rw[e1,hx]) e2.symm
 refine ⟨fun h=>⟨_,I64.wrap (by unfold I64;omega),_,mask_any _,rfl,fin 1 _ h (by simp only[did];omega) _⟩,fun h5=>?_⟩
 refine ⟨fun h=>⟨by unfold I64;omega,_,mask_any _,rfl,fin 2 _ h (by simp only[did];omega) _⟩,fun h5=>?_⟩
 have hmn:m*n≤65535*65535:=Nat.mul_le_mul hm hn
 have hp:(m:Int)*(n:Int)=((m*n:Nat):Int):=by simp
 refine ⟨fun h=>⟨by rw[hp];unfold I64;omega,_,mask_any _,rfl,fin 3 _ h (by rw[hp];simp only[did];omega) _⟩,fun h5=>?_⟩
 have hand:m &&& n≤65535:=Nat.le_trans Nat.and_le_left hm
 refine ⟨fun h=>⟨_,and_any hm hn,_,mask_any _,rfl,fin 4 _ h (by simp only[did];omega) _⟩,fun h5=>?_⟩
 refine ⟨fun h=>⟨_,or_any hm hn,_,mask_any _,rfl,fin 5 _ h (by have:=or_le hm hn;simp only[did];omega) _⟩,fun h5=>?_⟩
 refine ⟨fun h=>⟨_,xor_any hm hn,_,mask_any _,rfl,fin 6 _ h (by have:=xor_le hm hn;simp only[did];omega) _⟩,fun h5=>?_⟩
 refine ⟨fun h=>callIs (.inl rfl) (truth_any ((m:Int) < n)) ⟨_,mask_any _,rfl,fin 7 _ h (by simp only[did,Int.ofNat_lt];split<;>rfl) _⟩,fun h5=>?_⟩
 refine ⟨fun h=>callIs (.inl rfl) (truth_any ((m:Int)=n)) ⟨_,mask_any _,rfl,fin 8 _ h (by simp only[did,Int.ofNat_inj];split<;>rfl) _⟩,fun h5=>?_⟩
 refine ⟨fun h=>?_,fun h5=>?_⟩
 ·have hb:=shl_le (n:=n) hm
  have hs:=shl_nat m n
  exact ⟨_,mask15 hn,by omega,by rw[hs];unfold I64;omega,_,mask_any _,rfl,fin 9 _ h (by rw[hs];simp only[did];omega) _⟩
 ·have hb:m / 2 ^ (n % 16)≤65535:=Nat.le_trans (Nat.div_le_self _ _) hm
  have hs:=shr_nat m n
  exact ⟨_,mask15 hn,by omega,_,mask_any _,rfl,fin 10 _ (by omega) (by rw[hs];simp only[did];clear hs;generalize m / 2 ^ (n % 16)=q at hb ⊢;omega) _⟩

end Go.Proofs.YtijdegmamdhcbaaGreatDoor
namespace Go.Proofs.YtijdegmamdhcbaaGreatDoor
open Go Go.Dm Go.Eng Barb

theorem small_any (c:UInt8):CT Tryz.prog gl 97 [.g (.u8 (c.toNat:Int))] (Is (.pb (lowc c))):=by
 refine enter hT hF hM Tryz.func97 rfl 9 rfl (by kernel_rfl) [.tmp 2] rfl [.g (.u8 (c.toNat:Int))] rfl _ ?_
 exact ⟨fun h1=>⟨rfl,retP ⟨fun h=>⟨by omega,by omega⟩,fun h=>by have:=h.2;omega⟩⟩,fun h1=>⟨rfl,retF (fun h=>h1 (by have:=h.1;omega))⟩⟩
theorem digit_any (c:UInt8):CT Tryz.prog gl 100 [.g (.u8 (c.toNat:Int))] (Is (.pb (digc c))):=by
 refine enter hT hF hM Tryz.func100 rfl 9 rfl (by kernel_rfl) [.tmp 2] rfl [.g (.u8 (c.toNat:Int))] rfl _ ?_
 exact ⟨fun h1=>⟨rfl,retP ⟨fun h=>⟨by omega,by omega⟩,fun h=>by have:=h.2;omega⟩⟩,fun h1=>⟨rfl,retF (fun h=>h1 (by have:=h.1;omega))⟩⟩
def oddc (c:UInt8):Prop:=¬lowc c∧¬digc c
theorem odd_any (c:UInt8):CT Tryz.prog gl 99 [.g (.u8 (c.toNat:Int))] (Is (.pb (oddc c))):=by
 refine enter hT hF hM Tryz.func99 rfl 11 rfl (by kernel_rfl) [.tmp 2] rfl [.g (.u8 (c.toNat:Int))] rfl _ ?_
 refine callIs (.inl rfl) (small_any c) ?_
 refine ⟨fun h=>callIs (.inl rfl) (digit_any c) ⟨rfl,retN ⟨fun k=>⟨h,k⟩,fun k=>k.2⟩⟩,fun h=>⟨rfl,retF (fun k=>k.1 h)⟩⟩
theorem idxByte_any (s:Str) (hs:s.length≤9223372036854775807):CT Tryz.prog gl 106 [.g (.sl 1 (bytesG s)),.fn 99 [] []] (Is (.g (.int (idx oddc s)))):=by
 refine enter hT hF hM Tryz.func106 rfl 19 rfl (by kernel_rfl) [.tmp 4] rfl [.g (.sl 1 (bytesG s)),.fn 99 [] []] rfl _ ?_
 refine loopR (ι:=Nat) (fun i=>[(8,.g (.int (i:Int)))]) (fun _=>[]) (fun i=>i≤s.length∧∀ j (hj:j < s.length),j < i→¬oddc s[j]) (fun i=>s.length - i)
  ⟨0,[],⟨rfl,.inl rfl,.inr ⟨lk rfl,trivial⟩,rfl⟩,Nat.zero_le _,alln_0⟩ ?_
 intro Rd hRd i ⟨hi,ha⟩
 refine ⟨fun h=>?_,fun h=>?_⟩
 ·have h1:i < s.length:=by simp[bytesG] at h;omega
  refine ⟨i,_,rfl,gm h1,?_⟩
  refine callIs (.inl rfl) (odd_any s[i]) ?_
  refine ⟨fun h2=>⟨rfl,retI (idx_at h1 ha h2).symm⟩,fun h2=>⟨_,I64.wrap (by unfold I64;omega),?_⟩⟩
  exact hRd _ _ _ ⟨i+1,[],⟨rfl,.inl rfl,.inr ⟨lk rfl,trivial⟩,rfl⟩,⟨h1,alln_step h1 ha h2⟩,by omega⟩
 ·have h1:s.length≤i:=by simp[bytesG] at h;omega
  exact ⟨rfl,retI (idx_no (alln_end h1 ha)).symm⟩
theorem hasByte_any (s:Str) (hs:s.length≤9223372036854775807):CT Tryz.prog gl 98 [.g (.sl 1 (bytesG s)),.fn 99 [] []] (Is (.pb (∃ c∈s,oddc c))):=by
 refine enter hT hF hM Tryz.func98 rfl 9 rfl (by kernel_rfl) [.tmp 4] rfl [.g (.sl 1 (bytesG s)),.fn 99 [] []] rfl _ ?_
 refine callIs (.inl rfl) (idxByte_any s hs) ⟨rfl,retP ?_⟩
 rcases idx_cases oddc s with ⟨h1,h2⟩ | ⟨i,hi,h1,h2,h3⟩
 ·rw[h1];exact ⟨fun h=>absurd h (by decide),fun ⟨c,hc,ho⟩=>absurd ho (h2 c hc)⟩
 ·rw[h1];exact ⟨fun _=>⟨s[i],List.getElem_mem _,h2⟩,fun _=>by omega⟩
theorem wordP_iff (s:Str) (h0:s≠[]) (h8:s.length≤8):wordP s↔lowc (s[0]'(List.length_pos_iff.2 h0))∧¬∃ c∈s,oddc c:=by
 constructor
 ·rintro ⟨_,h⟩
  refine ⟨?_,fun ⟨c,hc,ho⟩=>?_⟩
  ·rcases h 0 (List.length_pos_iff.2 h0) with h | h
   ·exact h
   ·exact absurd rfl h.1
  ·obtain ⟨i,hi,rfl⟩:=List.getElem_of_mem hc
   rcases h i hi with h | h
   ·exact ho.1 h
   ·exact ho.2 h.2
 ·rintro ⟨h1,h2⟩
  refine ⟨⟨List.length_pos_iff.2 h0,h8⟩,fun j hj=>?_⟩
  by_cases hl:lowc s[j]
  ·exact .inl hl
  ·refine .inr ⟨fun e=>?_,?_⟩
   ·subst e;exact hl h1
   ·exact Classical.not_not.1 (fun hd=>h2 ⟨s[j],List.getElem_mem _,hl,hd⟩)
theorem Word_any (s:Str) (hs:s.length≤9223372036854775807):CT Tryz.prog gl 87 [.g (.str s)] (Is (.pb (wordP s))):=by
 refine enter hT hF hM Tryz.func87 rfl 21 rfl (by kernel_rfl) [.tmp 2] rfl [.g (.str s)] rfl _ ?_
 refine ⟨fun h1=>⟨fun h2=>?_,fun h2=>⟨rfl,retF (fun h=>h2 (by have:=h.1.2;omega))⟩⟩,fun h1=>⟨rfl,retF (fun h=>by have h1:s=[]:=h1;subst h1;exact absurd h.1.1 (by decide))⟩⟩
 have h8:s.length≤8:=by omega
 have h1:s≠[]:=h1
 have hw:=wordP_iff s h1 h8
 have hp:=List.length_pos_iff.2 h1
 refine ⟨0,s[0],rfl,ge hp,?_⟩
 refine callIs (.inl rfl) (small_any _) ⟨fun h3=>?_,fun h3=>⟨rfl,retF (fun h=>h3 (hw.1 h).1)⟩⟩
 exact callIs (.inl rfl) (hasByte_any s hs) ⟨rfl,retN ⟨fun h=>hw.2 ⟨h3,h⟩,fun h=>(hw.1 h).2⟩⟩


theorem strIdx_any (l:List Str) (hl:l.length≤9223372036854775807) (s:Str):CT Tryz.prog gl 80 [.g (.sl 1 (l.map strG)),.g (.str s)] (Is (.g (.int (idx (fun x=>s=x) l)))):=by
 refine enter hT hF hM Tryz.func80 rfl 19 rfl (by kernel_rfl) [.tmp 4] rfl [.g (.sl 1 (l.map strG)),.g (.str s)] rfl _ ?_
 refine loopR (ι:=Nat) (fun i=>[(8,.g (.int (i:Int)))]) (fun _=>[]) (fun i=>i≤l.length∧∀ j (hj:j < l.length),j < i→¬s=l[j]) (fun i=>l.length - i)
  ⟨0,[],⟨rfl,.inl rfl,.inr ⟨lk rfl,trivial⟩,rfl⟩,Nat.zero_le _,alln_0 (q:=fun x=>s=x)⟩ ?_
 intro Rd hRd i ⟨hi,ha⟩
 refine ⟨fun h=>?_,fun h=>?_⟩
 ·have h1:i < l.length:=by simp at h;omega
  refine ⟨i,_,rfl,gm h1,?_⟩
  refine ⟨fun h2=>⟨rfl,retI (idx_at (q:=fun x=>s=x) h1 ha h2).symm⟩,fun h2=>⟨_,I64.wrap (by unfold I64;omega),?_⟩⟩
  exact hRd _ _ _ ⟨i+1,[],⟨rfl,.inl rfl,.inr ⟨lk rfl,trivial⟩,rfl⟩,⟨h1,alln_step (q:=fun x=>s=x) h1 ha h2⟩,by omega⟩
 ·have h1:l.length≤i:=by simp at h;omega
  exact ⟨rfl,retI (idx_no (alln_end (q:=fun x=>s=x) h1 ha)).symm⟩
theorem strHas_any (l:List Str) (hl:l.length≤9223372036854775807) (s:Str):CT Tryz.prog gl 77 [.g (.sl 1 (l.map strG)),.g (.str s)] (Is (.pb (s∈l))):=by
 refine enter hT hF hM Tryz.func77 rfl 9 rfl (by kernel_rfl) [.tmp 4] rfl [.g (.sl 1 (l.map strG)),.g (.str s)] rfl _ ?_
 refine callIs (.inl rfl) (strIdx_any l hl s) ⟨rfl,retP ?_⟩
 rcases idx_cases (fun x=>s=x) l with ⟨h1,h2⟩ | ⟨i,hi,h1,h2,h3⟩
 ·rw[h1];exact ⟨fun h=>absurd h (by decide),fun h=>absurd rfl (h2 s h)⟩
 ·rw[h1];exact ⟨fun _=>by have h2:s=l[i]:=h2;rw[h2];exact List.getElem_mem _,fun _=>by omega⟩
theorem Ident_any (s:Str) (hs:s.length≤9223372036854775807):CT Tryz.prog gl 75 [.g (.str s)] (Is (.pb (identP s))):=by
 refine enter hT hF hM Tryz.func75 rfl 11 rfl (by kernel_rfl) [.tmp 2] rfl [.g (.str s)] rfl _ ?_
 refine callIs (.inl rfl) (Word_any s hs) ⟨fun h1=>?_,fun h1=>⟨rfl,retF (fun h=>h1 h.1)⟩⟩
 refine ⟨keys.map strG,rfl,rfl,⟨rfl,rfl,rfl,rfl,rfl,rfl,rfl,rfl,rfl,rfl,trivial⟩,?_⟩
 exact callIs (.inl rfl) (strHas_any keys (by decide) s) ⟨rfl,retN ⟨fun h=>⟨h1,h⟩,fun h=>h.2⟩⟩
end Go.Proofs.YtijdegmamdhcbaaGreatDoor
namespace Barb
open Go Go.Dm Go.Eng

def Expr.k:Expr→Int | .mk k _ _ _ _=>k
def Expr.n:Expr→Int | .mk _ n _ _ _=>n
def Expr.of:Expr→Str | .mk _ _ of _ _=>of
def Expr.s:Expr→Str | .mk _ _ _ s _=>s
def Expr.args:Expr→List Expr | .mk _ _ _ _ a=>a
theorem Expr.g_eq (x:Expr):x.g=[.int x.k,.int x.n,.str x.of,.str x.s,.sl 5 (x.args.map Expr.g)]:=by
 cases x;rw[Expr.g,Expr.gs_map];rfl
abbrev Expr.d (x:Expr):List D:=[.g (.int x.k),.g (.int x.n),.g (.str x.of),.g (.str x.s),.g (.sl 5 (x.args.map Expr.g))]
theorem Expr.I.inv {x:Expr} (h:x.I):I64 x.k∧I64 x.n∧x.of.length≤9223372036854775807∧x.s.length≤9223372036854775807∧x.args.length*72≤140737488351232∧∀ y∈x.args,Expr.I y:=by
 cases h with
 | mk h1 h2 h3 h4 h5 h6=>exact ⟨h1,h2,h3,h4,h5,h6⟩
def Stmt.k:Stmt→Int | .mk k _ _ _ _=>k
def Stmt.s:Stmt→Str | .mk _ s _ _ _=>s
def Stmt.xs:Stmt→List Expr | .mk _ _ x _ _=>x
def Stmt.b:Stmt→List Stmt | .mk _ _ _ b _=>b
def Stmt.e:Stmt→List Stmt | .mk _ _ _ _ e=>e
theorem Stmt.g_eq (x:Stmt):x.g=[.int x.k,.str x.s,.sl 5 (x.xs.map Expr.g),.sl 5 (x.b.map Stmt.g),.sl 5 (x.e.map Stmt.g)]:=by
 cases x;rw[Stmt.g,Expr.gs_map,Stmt.gs_map,Stmt.gs_map];rfl
abbrev Stmt.d (x:Stmt):List D:=[.g (.int x.k),.g (.str x.s),.g (.sl 5 (x.xs.map Expr.g)),.g (.sl 5 (x.b.map Stmt.g)),.g (.sl 5 (x.e.map Stmt.g))]
theorem Stmt.I.inv {x:Stmt} (h:x.I):I64 x.k∧x.s.length≤9223372036854775807∧x.xs.length*72≤140737488351232∧x.b.length*96≤140737488351232∧x.e.length*96≤140737488351232∧(∀ y∈x.xs,Expr.I y)∧(∀ y∈x.b,Stmt.I y)∧∀ y∈x.e,Stmt.I y:=by
 cases h with
 | mk h1 h2 h3 h4 h5 h6 h7 h8=>exact ⟨h1,h2,h3,h4,h5,h6,h7,h8⟩
theorem exprE_succ (f:Nat) (x:Expr):exprE (f+1) x=if ¬(1≤x.k∧x.k≤5) then 3 else if 4 < x.args.length then 1 else if ¬exprOk x.k x.n x.of x.s x.args.length then 4 else if exprBad x.k x.n then 2 else firstE (exprE f) x.args:=by
 cases x;rfl
theorem stmtE1_eq (f:List Stmt→Int) (x:Stmt):stmtE1 f x=if ¬(1≤x.k∧x.k≤6) then 3 else if ¬stmtOk x.k x.s x.xs.length x.b.length x.e.length then 4 else if firstE (exprE 12) x.xs≠0 then firstE (exprE 12) x.xs else if f x.b≠0 then f x.b else f x.e:=by
 cases x;rfl
theorem stmtN1_eq (f:List Stmt→Int) (x:Stmt):stmtN1 f x=f x.b+f x.e:=by cases x;rfl
theorem exprOk_1 {n:Int} {of s:Str} {m:Nat}:exprOk 1 n of s m↔of=[]∧s=[]∧m=0:=by simp[exprOk]
theorem exprOk_2 {n:Int} {of s:Str} {m:Nat}:exprOk 2 n of s m↔of=[]∧identP s∧m=0∧n=0:=by simp[exprOk]
theorem exprOk_3 {n:Int} {of s:Str} {m:Nat}:exprOk 3 n of s m↔of=[]∧identP s∧m=1∧n=0:=by simp[exprOk]
theorem exprOk_4 {n:Int} {of s:Str} {m:Nat}:exprOk 4 n of s m↔(of=[]∨identP of)∧identP s∧n=0:=by simp[exprOk]
theorem exprOk_5 {n:Int} {of s:Str} {m:Nat}:exprOk 5 n of s m↔of=[]∧s=[]∧m=2:=by simp[exprOk]
end Barb
namespace Go.Proofs.YtijdegmamdhcbaaGreatDoor
open Go Go.Dm Go.Eng Barb

end Go.Proofs.YtijdegmamdhcbaaGreatDoor
namespace Barb
open Go Go.Dm Go.Eng
def manyAt (f:Nat) (l:List Stmt) (i:Nat):Int:=l.length+((l.take i).map (stmtN1 (stmtsN f))).sum
theorem manyAt_succ {f:Nat} {l:List Stmt} {i:Nat} (h:i < l.length):manyAt f l (i+1)=manyAt f l i+(stmtsN f l[i].b+stmtsN f l[i].e):=by
 unfold manyAt
 rw[take_one h,List.map_append,List.sum_append,← stmtN1_eq]
 simp;omega
def nOf (k:Int):Int:=if k=2 then 2 else 1
def bad1 (k:Int) (s:Str) (nx:Nat):Prop:=¬((k≤2→identP s)∧(2 < k→s=[])∧(nx:Int)=nOf k)
def bad2 (k:Int) (nb ne:Nat):Prop:=¬((nb=0∨k=3∨k=4)∧(ne=0∨k=3))
theorem stmtOk_iff {k:Int} {s:Str} {nx nb ne:Nat}:stmtOk k s nx nb ne↔¬bad1 k s nx∧¬bad2 k nb ne:=by
 unfold stmtOk bad1 bad2 nOf
 rw[Classical.not_not,Classical.not_not]
 constructor
 ·rintro ⟨⟨h1,h2,h3,h4⟩,h5⟩
  refine ⟨⟨h1,h2,?_⟩,h5⟩
  by_cases hk:k=2
  ·rw[if_pos hk,h3 hk];rfl
  ·rw[if_neg hk,h4 hk];rfl
 ·rintro ⟨⟨h1,h2,h3⟩,h5⟩
  refine ⟨⟨h1,h2,fun hk=>?_,fun hk=>?_⟩,h5⟩
  ·rw[if_pos hk] at h3;omega
  ·rw[if_neg hk] at h3;omega
end Barb
namespace Go.Proofs.YtijdegmamdhcbaaGreatDoor
open Go Go.Dm Go.Eng Barb

end Go.Proofs.YtijdegmamdhcbaaGreatDoor
namespace Barb
open Go Go.Dm Go.Eng
def pickN (n many:Int):Int:=(if n < 0 then -(n+1) else n) % many
theorem pickN_nat (n:Int) {many:Nat} (hm:0 < many):∃ k:Nat,pickN n many=(k:Int)∧k < many:=by
 have h1:=Int.emod_nonneg (if n < 0 then -(n+1) else n) (show ((many:Nat):Int)≠0 by omega)
 have h2:=Int.emod_lt_of_pos (if n < 0 then -(n+1) else n) (show (0:Int) < ((many:Nat):Int) by omega)
 exact ⟨(pickN n many).toNat,by unfold pickN;omega,by unfold pickN;omega⟩
theorem pickN_lo (n:Int) {many:Int} (hm:0 < many):0≤pickN n many∧pickN n many < many :=
 ⟨Int.emod_nonneg _ (by omega),Int.emod_lt_of_pos _ hm⟩
structure Raw where
 kind:Int
 a:Int
 b:Int
 c:Int
def Raw.g (r:Raw):List GV:=[.int r.kind,.int r.a,.int r.b,.int r.c]
def Raw.I (r:Raw):Prop:=I64 r.kind∧I64 r.a∧I64 r.b∧I64 r.c
end Barb
namespace Go.Proofs.YtijdegmamdhcbaaGreatDoor
open Go Go.Dm Go.Eng Barb
theorem picked_any (n many:Int) (hn:I64 n) (hm:0 < many):CT Tryz.prog gl 19 [.g (.int n),.g (.int many)] (Is (.g (.int (pickN n many)))):=by
 refine enter hT hF hM Tryz.func19 rfl 13 rfl (by kernel_rfl) [.tmp 4] rfl [.g (.int n),.g (.int many)] rfl _ ?_
 unfold I64 at hn
 refine ⟨fun h=>?_,fun h=>?_⟩
 ·refine ⟨_,I64.wrap (by unfold I64;omega),by unfold I64;omega,by omega,rfl,retI ?_⟩
  rw[Int.tmod_eq_emod_of_nonneg (by omega)]
  unfold pickN
  rw[if_pos h]
  congr 1
  omega
 ·refine ⟨by omega,rfl,retI ?_⟩
  rw[Int.tmod_eq_emod_of_nonneg (by omega)]
  unfold pickN
  rw[if_neg h]
theorem cells_Raw:Tryz.prog.cellsOf 24=4:=by kernel_rfl
theorem bytes_Raw:Tryz.prog.bytesOf 24=32:=by kernel_rfl
theorem dec_Raw {f:Nat} {r:List GV} (h:TypedR Tryz.prog f 24 r):∃ i:Raw,r=i.g∧i.I:=by
 obtain ⟨hl,hf⟩:=dec_fields Tryz.underlying24 h
 match r,hl with
 | [g0,g1,g2,g3],_ =>
  obtain ⟨n0,rfl,h0⟩:=dec_int (hf 0 _ g0 rfl rfl)
  obtain ⟨n1,rfl,h1⟩:=dec_int (hf 1 _ g1 rfl rfl)
  obtain ⟨n2,rfl,h2⟩:=dec_int (hf 2 _ g2 rfl rfl)
  obtain ⟨n3,rfl,h3⟩:=dec_int (hf 3 _ g3 rfl rfl)
  exact ⟨⟨n0,n1,n2,n3⟩,rfl,h0,h1,h2,h3⟩
theorem dec_Raws {f:Nat} {g:GV} (h:TypedG Tryz.prog f 22 g):∃ l,g=.sl 4 (List.map Raw.g l)∧(∀ x∈l,Raw.I x)∧l.length*32≤140737488351232 :=
 dec_list Tryz.underlying22 cells_Raw bytes_Raw h (fun _ _ h=>dec_Raw h)
end Go.Proofs.YtijdegmamdhcbaaGreatDoor
namespace Go.Dm
open Go Go.Eng Go.RowKit
theorem retNilRow {Q:Out→Prop} {h:Heap} {e sz:Nat} (hs:srcOk [.nil e sz]=true) (q:Q (.ret (.row 0) [.row [] e sz])):RetTo Q h .nils :=
 ⟨[.nil e sz],.row 0,[.row [] e sz],⟨hs,.inl rfl,.inr ⟨.inr rfl,trivial⟩,rfl⟩,q⟩
theorem retSl {h:Heap} {i k:Nat} {xs ys:List (List GV)} {t:TypeId} (hi:h[i]?=some (.row xs t k)) (hx:xs=ys):RetTo (Is (.g (.sl k ys))) h (.row i):=by
 subst hx
 refine retIs (.inl ?_)
 simp only[conv,kp,hi]
theorem retNl {h:Heap} {k:Nat} {xs:List (List GV)} (hx:xs=[]):RetTo (Is (.g (.sl k xs))) h .nils:=retIs (.inr (.inr hx))
end Go.Dm
namespace Go.Proofs.YtijdegmamdhcbaaGreatDoor
open Go Go.Dm Go.Eng Barb

def RowIs (xs:List (List GV)) (e:TypeId) (sz:Nat):Out→Prop:=fun o=>o=.ret (.row 0) [.row xs e sz]
theorem Clone_any (xs:List (List GV)) (hx:xs.length*8≤140737488351232):CT Tryz.prog gl 7 [.g (.sl 1 xs)] (RowIs xs 3 1):=by
 refine enter hT hF hM Tryz.func7 rfl 8 rfl (by kernel_rfl) [.tmp 2] rfl [.g (.sl 1 xs)] rfl _ ?_
 intro p hp
 refine ⟨fun h=>⟨rfl,retNilRow rfl (by rw[hp h];rfl)⟩,fun h=>?_⟩
 refine ⟨[],rfl,rfl,trivial,?_⟩
 refine ⟨⟨by simp only[maxLen,List.length_nil];omega,by simp only[List.length_nil];omega⟩,?_⟩
 exact ⟨rfl,retRow (ys:=xs) rfl rfl rfl⟩
theorem Clone_is (xs:List (List GV)) (hx:xs.length*8≤140737488351232):CT Tryz.prog gl 7 [.g (.sl 1 xs)] (Is (.g (.sl 1 xs))):=by
 refine enter hT hF hM Tryz.func7 rfl 8 rfl (by kernel_rfl) [.tmp 2] rfl [.g (.sl 1 xs)] rfl _ ?_
 intro p hp
 refine ⟨fun h=>⟨rfl,retNl (hp h)⟩,fun h=>?_⟩
 refine ⟨[],rfl,rfl,trivial,?_⟩
 refine ⟨⟨by simp only[maxLen,List.length_nil];omega,by simp only[List.length_nil];omega⟩,?_⟩
 exact ⟨rfl,retSl rfl rfl⟩
end Go.Proofs.YtijdegmamdhcbaaGreatDoor
