import Derived.Test.YtpjjkiidjofflaaGreatDoorRDa4
import Derived.Test.YtpjjkiidjofflaaGreatDoorRTab
import Derived.OpenShut
import Derived.Handed
namespace Go.Dm
open Go Go.Eng Go.RowKit Go.ChangeShapes Go.WideShapes Go.Deep Go.ChangeAt
def ArgOk (P:Program) (w:World) (t:TypeId) (v:Value):Prop :=
 ∃f gs,Zdg P f t gs/\Za4 (λk=>k < w.heap.size) w gs v.cells.toList/\(match P.underlying t with | some (.struct _)=>∃cs,v=.agg cs | _=>v.cells=#[v])
section
variable {H:Type} {enc:TypeId × Value->H} {P:Program} {W W':World}
theorem argOk_of {S:List TypeId} (hS:Zgt P S=true) {t:TypeId} (ht:t∈S) {v:Value} {d:DataW H} {ps:List MemPlace} {base:Nat}
  (hv:Value.okWide P W .any base t v) (hw:∀n∈d.weights P t,n<=reachBytes) (h:DataW.Trod enc P W 0 (λ_=>true) true t v d ps):ArgOk P W t v:=by
 obtain ⟨fuel,hf⟩:=h;obtain ⟨gs,h1,h2⟩:=rep_of_trod hS fuel t _ _ ht hw hf;refine ⟨fuel,gs,h1,h2,?_⟩;have hp:=List.all_eq_true.1 hS t ht;unfold plainAt at hp
 split at hp
 ·rename_i k hu;rw[hu];obtain ⟨n,rfl⟩:=okWide_int hu hv;rfl
 ·rename_i hu;rw[hu];obtain ⟨s,rfl⟩:=okWide_string hu hv;rfl
 ·rename_i hu;rw[hu];obtain ⟨s,rfl⟩:=okWide_bool hu hv;rfl
 ·rename_i e hu;rw[hu];obtain ⟨a,l,c,rfl⟩:=okWide_slice hu hv;rfl
 ·rename_i fs hu;rw[hu];obtain ⟨cs,rfl,_⟩:=okWide_struct hu hv;exact ⟨cs,rfl⟩
 ·cases hp
inductive ArgsOk (P:Program) (w:World):List TypeId->List Value->Prop
 | nil:ArgsOk P w [] []
 | cons {t:TypeId} {v:Value} {ts:List TypeId} {vs:List Value}:ArgOk P w t v->ArgsOk P w ts vs->ArgsOk P w (t :: ts) (v :: vs)
theorem argsOk_of {S:List TypeId} (hS:Zgt P S=true) {base:Nat}:∀(ts:List TypeId) (vs:List Value) (ds:List (DataW H)) (ps:List MemPlace),(∀t∈ts,t∈S)->(∀(j:Nat) t v,ts[j]?=some t->vs[j]?=some v->Value.okWide P W .any base t v) ->
  (∀n∈DataW.weightsEach P ts ds,n<=reachBytes)->DataW.TrodAll enc P W 0 (λ_=>true) true ts vs ds ps->ArgsOk P W ts vs
 | [],vs,ds,ps,_,_,_,h=>by obtain ⟨rfl,_,_⟩:=trodAll_nil h;exact .nil
 | t :: ts,vs,ds,ps,hS',hv,hw,h=>by obtain ⟨v,vs',d,ds',p,q,rfl,rfl,rfl,h0,r0⟩:=trodAll_cons h;simp only[DataW.weightsEach,List.mem_append] at hw;exact .cons (argOk_of hS (hS' t List.mem_cons_self) (hv 0 t v rfl rfl) (λn hn=>hw n (.inl hn)) h0) (argsOk_of hS ts vs' ds' q (λt ht=>hS' t (List.mem_cons_of_mem _ ht)) (λj t v hj hv'=>hv (j+1) t v (by simpa using hj) (by simpa using hv')) (λn hn=>hw n (.inr hn)) r0)
theorem Zgk (hl:laidOutB P=true) (hb:Below W.heap.size W W'):∀(ts:List TypeId) (vs:List Value) (ds:List (DataW H)) (ps:List MemPlace),(∀t∈ts,P.readableRec t=true/\t < P.types.size)->(∀x∈ps,x.block < W.heap.size) ->
  DataW.TrodAll enc P W 0 (λ_=>true) true ts vs ds ps->DataW.TrodAll enc P W' 0 (λb=>decide (b < W.heap.size)) true ts vs ds ps
 | [],vs,ds,ps,_,_,h=>by obtain ⟨rfl,rfl,rfl⟩:=trodAll_nil h;exact trodAll_mk0
 | t :: ts,vs,ds,ps,hr,hlt,h=>by
  obtain ⟨v,vs',d,ds',p,q,rfl,rfl,rfl,h0,r0⟩:=trodAll_cons h;exact trodAll_cons_mk (Below.trod hl (hr t List.mem_cons_self).1 (hr t List.mem_cons_self).2 h0 hb (λx hx=>hlt x (List.mem_append.2 (.inl hx))))
   (Zgk hl hb ts vs' ds' q (λt ht=>hr t (List.mem_cons_of_mem _ ht)) (λx hx=>hlt x (List.mem_append.2 (.inr hx))) r0)
def Yes (w:World):Ending->World->Prop:=λe w'=>e=.returned (.bool true)/\Fr (λ_=>False) w w'
theorem ZeN {us:List TypeId}:∀{ts:List TypeId} {ds gs:List (DataW H)},ds.length=ts.length->∀{n:Nat},n∈DataW.weightsEach P ts ds->n∈DataW.weightsEach P (ts++us) (ds++gs)
 | [],[],_,_,n,h=>by simp[DataW.weightsEach] at h
 | [],_ :: _,_,hl,_,_=>by simp at hl
 | _ :: _,[],_,hl,_,_=>by simp at hl
 | t :: ts,d :: ds,gs,hl,n,h=>by
  simp only[List.cons_append,DataW.weightsEach,List.mem_append] at h ⊢
  rcases h with h | h
  ·exact .inl h
  ·exact .inr (ZeN (by simpa using hl) h)
end
def parsOk (P:Program) (S:List TypeId) (ts:List TypeId):Bool:=ts.all λt=>S.contains t && P.readableRec t && Nat.blt t P.types.size
theorem parsOk_ok {P:Program} {S ts:List TypeId} (h:parsOk P S ts=true):∀t∈ts,t∈S/\P.readableRec t=true/\t < P.types.size:=by intro t ht;have:=List.all_eq_true.1 h t ht;simp only[Bool.and_eq_true] at this;exact ⟨by simpa using this.1.1,this.1.2,Nat.le_of_ble_eq_true this.2⟩
section
variable {P:Program} {w:World} {t:TypeId} {v:Value}
theorem ArgOk.int (hu:P.underlying t=some (.int .i64)) (h:ArgOk P w t v):∃n,v=.int .i64 n/\-9223372036854775808<=n/\n<=9223372036854775807:=by
 obtain ⟨f,gs,h1,h2,h3⟩:=h;simp only[Zdg,hu] at h1 h3;obtain ⟨g,rfl,hg⟩:=h1
 cases f with
 | zero=>simp only[Zbt] at hg
 | succ f =>simp only[Zbt,hu] at hg;obtain ⟨n,rfl,hb⟩:=hg;rw[h3] at h2;have h4:=h2.1;simp only[ZaR] at h4;exact ⟨n,h4,hb⟩
theorem ArgOk.slice {e:TypeId} (hu:P.underlying t=some (.slice e)) (h:ArgOk P w t v):∃f g,Zbt P f t g/\ZaR (λk=>k < w.heap.size) w g v:=by obtain ⟨f,gs,h1,h2,h3⟩:=h;simp only[Zdg,hu] at h1 h3;obtain ⟨g,rfl,hg⟩:=h1;rw[h3] at h2;exact ⟨f,g,hg,h2.1⟩
theorem ArgOk.struct {fs:Array Field} (hu:P.underlying t=some (.struct fs)) (h:ArgOk P w t v):∃f gs cs,v=.agg ⟨cs⟩/\Zdg P f t gs/\Za4 (λk=>k < w.heap.size) w gs cs:=by obtain ⟨f,gs,h1,h2,h3⟩:=h;simp only[hu] at h3;obtain ⟨cs,rfl⟩:=h3;exact ⟨f,gs,cs.toList,rfl,h1,h2⟩
theorem ArgsOk.inv {ts:List TypeId} {vs:List Value} (h:ArgsOk P w (t :: ts) vs):∃v vs',vs=v :: vs'/\ArgOk P w t v/\ArgsOk P w ts vs':=by
 cases h with
 | cons h0 r=>exact ⟨_,_,rfl,h0,r⟩
theorem ArgsOk.inv0 {vs:List Value} (h:ArgsOk P w [] vs):vs=[]:=by cases h;rfl
theorem arg_g {g:GV} (h:ZaR (λk=>k < w.heap.size) w g v):Zaa [] (λ_=>undef) (λk=>k < w.heap.size) w (.g g) v:=by simp only[Zaa];exact h
theorem arg_agg {gs:List GV} {cs:List Value} (h:Za4 (λk=>k < w.heap.size) w gs cs):Zaa [] (λ_=>undef) (λk=>k < w.heap.size) w (.agg (gs.map .g)) (.agg ⟨cs⟩):=by simp only[Zaa];exact ⟨cs,rfl,(Zhu _ _).2 h⟩
theorem args_nil:Zac [] (λ_=>undef) (λk=>k < w.heap.size) w [] []:=by simp[Zac]
theorem Zjo {d:D} {ds:List D} {vs:List Value} (h:Zaa [] (λ_=>undef) (λk=>k < w.heap.size) w d v) (r:Zac [] (λ_=>undef) (λk=>k < w.heap.size) w ds vs):Zac [] (λ_=>undef) (λk=>k < w.heap.size) w (d :: ds) (v :: vs):=by simp only[Zac];exact ⟨v,vs,rfl,h,r⟩
end
end Go.Dm
