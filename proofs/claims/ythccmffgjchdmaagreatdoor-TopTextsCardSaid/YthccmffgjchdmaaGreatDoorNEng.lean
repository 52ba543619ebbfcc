import Derived.OwnWalk
import Derived.Below
import Derived.Laws.OwnMore
import Derived.Laws.Tables
import Derived.Laws.CopyRow
import Derived.Laws.AppendOwnNone
import Derived.WalkSmall
import Derived.Maps.AppendAt
import Derived.Laws.MakeOwn
import Derived.Lib.Strings
import Derived.Laws.Concat
import Derived.Laws.Small
import Derived.Orders
namespace Go.Proofs.YthccmffgjchdmaaGreatDoor
end Go.Proofs.YthccmffgjchdmaaGreatDoor
namespace ZN
end ZN
abbrev Yaa:=@List.length_map
abbrev Yab:=@List.length_append
abbrev Yac:=@List.getElem?_eq_some_iff
abbrev Yad:=@List.mem_cons_of_mem
abbrev Yae:=@List.mem_cons_self
abbrev Yaf:=@List.map_append
abbrev Yag:=@Bool.and_eq_true
abbrev Yah:=@Classical.not_not
abbrev Yai:=@List.getElem_mem
abbrev Yaj:=@List.getElem?_append_right
abbrev Yak:=@List.getElem?_eq_getElem
abbrev Yal:=@List.getElem?_append_left
abbrev Yam:=@List.length_take
abbrev Yan:=@List.map_cons
abbrev Yao:=@Array.getD_eq_getD_getElem?
abbrev Yap:=@List.Perm.refl
abbrev Yaq:=@Nat.eq_of_beq_eq_true
abbrev Yar:=@List.mem_append
abbrev Yas:=@Nat.le_refl
abbrev Yat:=@Nat.zero_le
abbrev Yau:=@Nat.le_of_ble_eq_true
abbrev Yav:=@List.mem_cons
abbrev Yaw:=@List.getElem?_take_of_lt
abbrev Yax:=@List.append_assoc
abbrev Yay:=@List.take_of_length_le
abbrev Yaz:=@List.mem_singleton
abbrev YaA:=@Nat.zero_add
abbrev YaB:=@Option.map_eq_some_iff
abbrev YaC:=@Nat.le_trans
abbrev YaD:=@Array.getElem?_eq_getElem
abbrev YaE:=@List.getElem?_map
abbrev YaF:=@List.append_nil
abbrev YaG:=@List.getD_eq_getElem?_getD
abbrev YaH:=@List.take_length
abbrev YaI:=@List.map_nil
abbrev YaJ:=@Nat.mul_le_mul_right
abbrev YaK:=@List.mem_of_mem_take
abbrev YaL:=@List.mem_of_getElem?
abbrev YaM:=@List.length_drop
abbrev YaN:=@Classical.byContradiction
abbrev YaO:=@List.mem_filterMap
abbrev YaP:=@List.eq_nil_of_length_eq_zero
abbrev YaQ:=@Array.getElem?_eq_some_iff
abbrev YaR:=@List.getElem_of_mem
abbrev YaS:=@Bool.not_eq_true'
abbrev YaT:=@List.getElem?_drop
abbrev YaU:=@List.mem_map
abbrev YaV:=@List.getElem?_set_ne
abbrev YaW:=@Nat.succ_mul
abbrev YaX:=@Nat.lt_of_lt_of_le
abbrev YaY:=@Nat.beq_refl
abbrev YaZ:=@Bool.or_eq_true
abbrev Ya0:=@Array.getElem?_replicate
abbrev Ya1:=@List.mem_range
abbrev Ya2:=@Option.some.inj
abbrev Ya3:=@Iff.rfl
abbrev Ya4:=@List.not_mem_nil
abbrev Ya5:=@List.mem_of_mem_drop
abbrev Ya6:=@Nat.add_sub_cancel
abbrev Ya7:=@List.take_append_drop
abbrev Ya8:=@List.eq_nil_iff_forall_not_mem
abbrev Ya9:=@List.getElem?_eq_none
abbrev Yba:=@Array.getElem?_append_left
abbrev Ybb:=@List.flatMap_cons
abbrev Ybc:=@Array.mem_toList_iff
abbrev Ybd:=@Nat.min_eq_left
abbrev Ybe:=@List.mem_flatMap
abbrev Ybf:=@List.all_eq_true
abbrev Ybg:=@Option.some.injEq
abbrev Ybh:=@List.getElem?_take
abbrev Ybi:=@List.drop_eq_getElem_cons
abbrev Ybj:=@Nat.add_mul
abbrev Ybk:=@Array.getElem?_append_right
abbrev Ybl:=@List.length_eq_zero_iff
abbrev Ybm:=@List.length_pos_iff
abbrev Ybn:=@Nat.not_lt_zero
abbrev Ybo:=@Nat.ble_eq_true_of_le
abbrev Ybp:=@List.take_append_of_le_length
abbrev Ybq:=@Nat.sub_self
abbrev Ybr:=@List.take_append
abbrev Ybs:=@Array.getElem?_setIfInBounds
abbrev Ybt:=@List.pairwise_append
abbrev Ybu:=@Int.tdiv_eq_ediv_of_nonneg
abbrev Ybv:=@Array.getElem?_setIfInBounds_ne
abbrev Ybw:=@List.length_set
abbrev Ybx:=@List.ext_getElem?
abbrev Yby:=@Int.toNat_of_nonneg
abbrev Ybz:=@List.drop_succ_cons
abbrev YbA:=@List.getElem?_set_self
abbrev YbB:=@Nat.not_lt
abbrev YbC:=@Int.le_refl
abbrev YbD:=@List.countP_le_length
abbrev YbE:=@List.sum_append
abbrev YbF:=@List.concat_eq_append
abbrev YbG:=@Int.tmod_eq_emod_of_nonneg
abbrev YbH:=@List.map_take
abbrev YbI:=@List.map_drop
abbrev YbJ:=@Array.all_eq_true
abbrev YbK:=@List.take_take
abbrev YbL:=@List.map_map
abbrev YbM:=@List.drop_of_length_le
abbrev YbN:=@List.length_eq_one_iff
abbrev YbO:=@List.length_replicate
abbrev YbP:=@Classical.choose_spec
abbrev YbQ:=@Bool.or_eq_false_iff
abbrev YbR:=@Nat.lt_succ_self
abbrev YbS:=@List.flatten_append
abbrev YbT:=@List.map_congr_left
abbrev YbU:=@List.mem_filter
abbrev YbV:=@List.mem_of_find?_eq_some
abbrev YbW:=@Bool.false_eq_true
abbrev YbX:=@List.drop_take
abbrev YbY:=@List.pairwise_singleton
abbrev YbZ:=@Nat.lt_succ_of_le
abbrev Yb0:=@List.filter_eq_nil_iff
abbrev Yb1:=@List.countP_cons
abbrev Yb2:=@List.take_succ_eq_append_getElem
abbrev Yb3:=@List.set_append_right
abbrev Yb4:=@List.eq_nil_or_concat
abbrev Yb5:=@Nat.and_two_pow_sub_one_eq_mod
abbrev Yb6:=@List.find?_eq_some_iff_getElem
abbrev Yb7:=@List.getElem?_modify
abbrev Yb8:=@List.drop_eq_nil_iff
abbrev Yb9:=@Bool.false_and
abbrev Yca:=@List.getElem_range
abbrev Ycb:=@Nat.add_assoc
abbrev Ycc:=@Bool.true_and
abbrev Ycd:=@Nat.lt_trichotomy
abbrev Yce:=@List.mem_or_eq_of_mem_set
abbrev Ycf:=@Array.ext'
abbrev Ycg:=@Array.mapM_eq_mapM_toList
abbrev Ych:=@Nat.zero_mul
abbrev Yci:=@List.eq_of_mem_replicate
abbrev Ycj:=@List.drop_append
abbrev Yck:=@List.nodup_range
abbrev Ycl:=@List.drop_length
abbrev Ycm:=@List.getElem_map
abbrev Ycn:=@List.prefix_refl
abbrev Yco:=@Nat.add_sub_cancel_left
abbrev Ycp:=@Nat.le_mul_of_pos_right
abbrev Ycq:=@Nat.and_le_left
abbrev Ycr:=@Nat.div_le_self
abbrev Ycs:=@List.range_succ
abbrev Yct:=@List.drop_eq_nil_of_le
abbrev Ycu:=@Bool.not_false
abbrev Ycv:=@List.mapM_cons
abbrev Ycw:=@Nat.lt_irrefl
namespace Go.Eng
open Go.RowKit
inductive SV where
 | v (x:Value)
 | sb (c:Bool)
 | loc (i off:Nat)
structure Fr (own:Nat->Prop) (w w':World):Prop where
 os:w'.os=w.os
 tape:w'.tape=w.tape
 output:w'.output=w.output
 size:w.heap.size<=w'.heap.size
 block:∀k,k < w.heap.size->¬ own k->w'.heap[k]?=w.heap[k]?
theorem Fr.refl (own:Nat->Prop) (w:World):Fr own w w:=⟨rfl,rfl,rfl,Yas _,λ_ _ _=>rfl⟩
theorem Fr.below {w w':World} (h:Fr (λ_=>False) w w'):Below w.heap.size w w':=⟨h.os,h.tape,h.output,h.size,λk hk=>h.block k hk (λh=>h)⟩
theorem Fr.of_below {own:Nat->Prop} {w w':World} (h:Below w.heap.size w w'):Fr own w w':=⟨h.os,h.tape,h.output,h.size,λk hk _=>h.block k hk⟩
inductive TK where
 | cell
 | bool
 | int (k:IntKind)
 | str
 | slice (e:TypeId)
 | struct (fs:List (Nat × Nat))
 | array (n:Nat) (e:TypeId)
 | iface
structure TI where
 agg:Bool
 size:Nat
 bytes:Nat
 zero:List Value
 kind:TK
abbrev Tab:=TypeId->Option TI
def ZqE:TypeDesc->Bool
 | .struct _ | .array _ _=>true
 | _=>false
def Zrb (P:Program) (d:TypeDesc):TK->Prop
 | .cell=>(match d with | .interface _=>False | _=>True)
 | .bool=>d=.bool
 | .int k=>d=.int k
 | .str=>d=.string
 | .slice e=>d=.slice e
 | .struct fs=>∃fields,d=.struct fields/\fields.size=fs.length/\∀(k off sz:Nat),fs[k]?=some (off,sz)->∃(f:Field) (inf:TypeInfo),fields[k]?=some f/\f.offset=off/\P.info? f.type=some inf/\inf.size=sz/\sz≠0
 | .array n e=>d=.array n e
 | .iface=>(match d with | .interface _=>True | _=>False)
structure InfoOk (P:Program) (t:TypeId) (i:TI):Prop where
 d:∃d,P.underlying t=some d/\Zrb P d i.kind/\ZqE d=i.agg
 inf:∃(inf:TypeInfo) (z:Value),P.info? t=some inf/\inf.size=i.size/\inf.bytes=i.bytes/\inf.zero=some z/\z.cells=i.zero.toArray
 zsize:i.zero.length=i.size
def TabOk (P:Program) (T:Tab):Prop:=∀t i,T t=some i->InfoOk P t i
def fnOk (P:Program) (g:FuncId):Bool :=
 match P.funcs[g]? with
 | some fn => !(fn.name == "runtime.NumGoroutine") && fn.body.isSome
 | none=>false
def Zse (x c:Int):Prop:=IntKind.i64.wrap x=c
theorem Zse.of {x:Int} (h0:-9223372036854775808<=x) (h1:x<=9223372036854775807):Zse x x:=by unfold Zse;rw[IntKind.wrap_i64];omega
def Zfs:List Value->Nat->List Value->List Value
 | l,_,[]=>l
 | l,k,v :: vs=>Zfs (l.set k v) (k+1) vs
def ZkD (place:Nat->Option (Nat × Nat)):List Value->List (Nat × List Value)->Option (List Value)
 | cs,[]=>some cs
 | cs,(i,v) :: rest =>
  match place i with
  | none=>none
  | some (off,size)=>bif Nat.beq v.length size && Nat.ble (off+size) cs.length then ZkD place (Zfs cs off v) rest else none
def ZaG (x:Value):List Value :=
 match x with
 | .agg cs=>cs.toList
 | x=>[x]
def flat:List Value->Bool
 | []=>true
 | v :: vs=>v.oneCell' && flat vs
def Zej (z:List Value):Nat->List Value
 | 0=>[]
 | n+1=>z++Zej z n
theorem ZeM (x:Value):ZaG x=x.cells.toList:=by cases x<;>rfl
theorem Znr {w w':World} {b e sz n:Nat} {v:Value} {xs:List Value} (h:w.ownsRow b e sz v n xs) (hb:∀k,v.ownBlock=some k->w'.heap[k]?=w.heap[k]?):w'.ownsRow b e sz v n xs:=by
 refine ⟨h.1,?_⟩;rcases h.2 with hn | ⟨g,cap,cur,rfl,hg,l8,rest⟩
 ·exact .inl hn
 ·exact .inr ⟨g,cap,cur,rfl,hg,(hb g rfl).trans l8,rest⟩
section
variable {w w':World}
theorem Fr.alloc (G:Nat->Prop) (w:World) (o:Obj):Fr G w (w.alloc o) :=
 ⟨rfl,rfl,rfl,by simp,λk hk _=>Below.heap_alloc w o k hk⟩
theorem ZhU (w:World) (g:Nat) (cs:Array Value) (k:Nat) (h:k≠g):(w.setRow g cs).heap[k]?=w.heap[k]?:=by simp only[World.setRow,Array.getElem?_modify];rw[if_neg (λe=>h e.symm)]
theorem Fr.setRow (w:World) (g:Nat) (cs:Array Value):Fr (λk=>k=g) w (w.setRow g cs) :=
 ⟨rfl,rfl,rfl,by simp[World.setRow],λk _ hn=>ZhU w g cs k hn⟩
end
section
variable {w w':World}
theorem Zb8 (b o j:Nat):(⟨b,o,none⟩:Addr).add j=⟨b,o+j,none⟩:=by unfold Addr.add;split<;>simp_all
theorem ZfS (a:Addr) (j:Nat):(a.add j).block=a.block:=by unfold Addr.add;split<;>rfl
theorem ZdO {P:Program} {t:TypeId} {i:TI} (hi:InfoOk P t i) (bw:i.agg=false) {a:Addr} {v:Value} (hc:w.cell? a=some v):(loadVar t a).run P w=.ok v w:=by
 obtain ⟨d,hd,_,oQ⟩:=hi.d;rw[bw] at oQ;have:(isAgg t).run P w=.ok false w:=by
  cases d<;>simp_all [isAgg,run_underlying hd,ZqE]
 simp[loadVar,this,hc]
theorem ZdP {P:Program} {t:TypeId} {i:TI} (hi:InfoOk P t i) (bw:i.agg=true) {a:Addr} {vs:List Value} (hl:vs.length=i.size) (hc:∀j v,vs[j]?=some v->w.cell? (a.add j)=some v) :
  (loadVar t a).run P w=.ok (.agg vs.toArray) w:=by
 obtain ⟨d,hd,_,oQ⟩:=hi.d;obtain ⟨inf,z,aJ,ah,_⟩:=hi.inf;rw[bw] at oQ;have h1:(isAgg t).run P w=.ok true w:=by
  cases d<;>simp_all [isAgg,run_underlying hd,ZqE]
 have h2:(sizeOf t).run P w=.ok vs.length w:=by simp[sizeOf,typeInfo,aJ,ah,hl]
 simp[loadVar,h1,h2,run_loadCells_list (P:=P) w a vs hc]
theorem ZnA (vs:List Value):∀(l:List Value) (o:Nat),(Zfs l o vs).length=l.length:=by
 induction vs with
 | nil=>intro l o;rfl
 | cons v vs ih=>intro l o;simp[Zfs,ih]
theorem ZlE (vs:List Value):∀(l:List Value) (o:Nat),o+vs.length<=l.length->Zfs l o vs=l.take o++vs++l.drop (o+vs.length):=by
 induction vs with
 | nil=>intro l o h;simp[Zfs]
 | cons v vs ih =>
  intro l o h;simp only[List.length_cons] at h;rw[Zfs,ih (l.set o v) (o+1) (by simp;omega)];have h1:(l.set o v).take (o+1)=l.take o++[v]:=by rw[Yb2 (by simp;omega)];simp[List.take_set_of_le]
  have h2:(l.set o v).drop (o+1+vs.length)=l.drop (o+(vs.length+1)):=by rw[List.drop_set_of_lt (by omega),show o+1+vs.length=o+(vs.length+1) from by omega]
  rw[h1,h2];simp[List.append_assoc,List.length_cons]
theorem ZrB (vs:List Value) (l:List Value) (m o:Nat) (hm:m<=l.length) (ho:o+vs.length<=m):(l.take o++vs++l.drop (o+vs.length)).take m=Zfs (l.take m) o vs:=by
 rw[ZlE _ _ _ (by rw[Yam];omega)];rw[Ybr,Ybr,YbK,Nat.min_eq_right (by omega)];have e1:(l.take o).length=o:=by rw[Yam];omega
 have e2:vs.take (m - o)=vs:=Yay (by omega);rw[e1,e2,YbK,Ybd (by omega),Yab,e1,YbX]
theorem ZwY:∀{l:List Value},flat l=true->∀v∈l,v.oneCell'=true:=by
 intro l
 induction l with
 | nil=>intro _ v hv;simp at hv
 | cons a l ih =>
  intro h v hv;simp only[flat,Yag] at h;rcases Yav.1 hv with rfl | hv
  ·exact h.1
  ·exact ih h.2 v hv
theorem Zjx {P:Program} {t:TypeId} {i:TI} (hi:InfoOk P t i) {y:Value} (hl:(ZaG y).length=i.size) (hf:flat (ZaG y)=true) {g o:Nat} {cur:Array Value} {t':TypeId}
  (hg:w.heap[g]?=some (.cells cur t' (0,0))) (gJ:o+(ZaG y).length<=cur.size) :
  (storeVar t ⟨g,o,none⟩ y).run P w=.ok () (w.setRow g (cur.toList.take o++ZaG y++cur.toList.drop (o+(ZaG y).length)).toArray):=by
 obtain ⟨inf,z,aJ,ah,_⟩:=hi.inf;have hs:y.cells.size=inf.size:=by rw[ZeM] at hl;simpa [ah] using hl
 have:=run_storeCells_at (P:=P) g o t' (ZaG y) 0 cur w hg (by simpa using gJ) (ZwY hf);rw[ZeM] at this;simp only[Nat.add_zero] at this;rw[ZeM];simp[storeVar,sizeOf,typeInfo,aJ,hs,this]
theorem Zc9 {P:Program} {T:Tab} (hT:TabOk P T) {s f off sz:Nat} {i:TI} {fs:List (Nat × Nat)} (hs:T s=some i) (hk:i.kind=.struct fs) (hf:fs[f]?=some (off,sz)) (a:Addr) (w:World) :
  (Instr.fieldAt s (.pointer (some a)) f).run P w=.ok (.pointer (some (a.add off))) w:=by obtain ⟨d,hd,aA,_⟩:=(hT s i hs).d;rw[hk] at aA;obtain ⟨fields,rfl,_,rN⟩:=aA;obtain ⟨fd,inf,im,rfl,aJ,rfl,aC⟩:=rN f off sz hf;simp[Instr.fieldAt,run_underlying hd,im,Instr.sureAddr,fieldPlace,sizeOf,typeInfo,aJ,aC]
theorem Zdi {P:Program} {T:Tab} (hT:TabOk P T) {t e:TypeId} {i ei:TI} (hs:T t=some i) (hk:i.kind=.slice e) (he:T e=some ei) (b:Addr) (n c j:Nat) (hj:j < n) (w:World) :
  (Instr.indexAt t (.slice (some b) n c) (.int .i64 (j:Int))).run P w=.ok (.pointer (some (b.add (j*ei.size)))) w:=by
 obtain ⟨d,hd,aA,_⟩:=(hT t i hs).d;rw[hk] at aA;have aA:d=.slice e:=aA;subst aA;obtain ⟨inf,z,aJ,ah,_⟩:=(hT e ei he).inf;have h1:(0:Int)<=(j:Int)/\(j:Int) < (n:Int):=by omega
 simp[Instr.indexAt,run_underlying hd,asIntOf,sizeOf,typeInfo,aJ,ah,hj]
theorem ZdQ {P:Program} {T:Tab} (hT:TabOk P T) {t e:TypeId} {i ei:TI} {n:Nat} (hs:T t=some i) (hk:i.kind=.array n e) (he:T e=some ei) (b:Addr) (j:Nat) (hj:j < n) (w:World) :
  (Instr.indexAt t (.pointer (some b)) (.int .i64 (j:Int))).run P w=.ok (.pointer (some (b.add (j*ei.size)))) w:=by obtain ⟨d,hd,aA,_⟩:=(hT t i hs).d;rw[hk] at aA;have aA:d=.array n e:=aA;subst aA;obtain ⟨inf,z,aJ,ah,_⟩:=(hT e ei he).inf;simp[Instr.indexAt,run_underlying hd,asIntOf,Instr.sureAddr,sizeOf,typeInfo,aJ,ah,hj]
theorem ZeB {P:Program} {T:Tab} (hT:TabOk P T) {t e:TypeId} {i:TI} (hs:T t=some i) (hk:i.kind=.slice e) (a:Option Addr) (n c:Nat) (ty:TypeId) (w:World) :
  (Builtin.len_ #[t] ty #[.slice a n c]).run P w=.ok (.int .i64 (n:Int)) w:=by obtain ⟨d,hd,aA,_⟩:=(hT t i hs).d;rw[hk] at aA;have aA:d=.slice e:=aA;subst aA;simp[Builtin.len_,run_underlying hd,goInt]
theorem Zo2 {P:Program} {T:Tab} (hT:TabOk P T) {t:TypeId} {i:TI} (hs:T t=some i) (hk:i.kind=.str) (s:ByteArray) (ty:TypeId) (w:World) :
  (Builtin.len_ #[t] ty #[.string s]).run P w=.ok (.int .i64 (s.data.toList.length:Int)) w:=by obtain ⟨d,hd,aA,_⟩:=(hT t i hs).d;rw[hk] at aA;have aA:d=.string:=aA;subst aA;show _=Result.ok (Value.int .i64 ((s.size:Nat):Int)) w;simp[Builtin.len_,run_underlying hd,goInt]
theorem ZuR (place:Nat->Option (Nat × Nat)):∀(parts:List (Nat × Value)) (cs out:List Value),ZkD place cs (parts.map λp=>(p.1,ZaG p.2))=some out->Instr.fill place cs.toArray parts=some out.toArray:=by
 intro parts
 induction parts with
 | nil=>intro cs out h;simp[ZkD] at h;subst h;rfl
 | cons p rest ih =>
  intro cs out h;obtain ⟨k,v⟩:=p;simp only[Yan,ZkD] at h;cases hp:place k with
  | none=>rw[hp] at h;cases h
  | some q =>
   obtain ⟨off,size⟩:=q;rw[hp] at h;simp only at h;cases hb:Nat.beq (ZaG v).length size && Nat.ble (off+size) cs.length with
   | false=>rw[hb] at h;cases h
   | true =>
    rw[hb] at h;simp only[Yag] at hb;have h1:(ZaG v).length=size:=Yaq hb.1;have h2:off+size<=cs.length:=Yau hb.2;have h:=ih _ _ h;simp only[Instr.fill,hp];have ah:v.cells.size=size:=by rw[ZeM] at h1;simpa using h1
    rw[if_neg (by simp[ah];omega)];rw[<- h]
    congr 1
    rw[ZeM];have key:∀(vs:List Value) (o:Nat) (l:List Value),(vs.zipIdx o).foldl (fun (a:Array Value) (x:Value × Nat)=>a.setIfInBounds (off+x.2) x.1) l.toArray=(Zfs l (off+o) vs).toArray:=by
     intro vs
     induction vs with
     | nil=>intro o l;rfl
     | cons u us vd =>intro o l;simp only[List.zipIdx_cons,List.foldl_cons,List.setIfInBounds_toArray,Zfs];rw[vd (o+1) (l.set (off+o) u)];rfl
    have:=key v.cells.toList 0 cs;rw[<- Array.foldl_toList,Array.toList_zipIdx];simpa using this
theorem Znb {P:Program} {T:Tab} (hT:TabOk P T) {t:TypeId} {i:TI} {fs:List (Nat × Nat)} (hs:T t=some i) (hk:i.kind=.struct fs) (parts:Array (Nat × Value)) (out:List Value)
  (h:ZkD (fs[·]?) i.zero (parts.toList.map λp=>(p.1,ZaG p.2))=some out) (w:World) :
  (Instr.build t parts).run P w=.ok (.agg out.toArray) w:=by
 obtain ⟨d,hd,aA,_⟩:=(hT t i hs).d;rw[hk] at aA;obtain ⟨fields,rfl,hlen,rN⟩:=aA;obtain ⟨inf,z,aJ,_,_,hz,gy⟩:=(hT t i hs).inf;have hm:(fields.mapM (m:=Sem) λf=>do pure (f.offset,<- sizeOf f.type)).run P w=.ok fs.toArray w:=by
  have key:∀(l:List Field) (gs:List (Nat × Nat)),l.length=gs.length->(∀(k off sz:Nat),gs[k]?=some (off,sz)->∃(f:Field) (inf:TypeInfo),l[k]?=some f/\f.offset=off/\P.info? f.type=some inf/\inf.size=sz/\sz≠0) ->
    (l.mapM (m:=Sem) λf=>do pure (f.offset,<- sizeOf f.type)).run P w=.ok gs w:=by
   intro l
   induction l with
   | nil=>intro gs hg _;cases gs with | nil=>rfl | cons a b=>simp at hg
   | cons f l ih =>
    intro gs hg hh;cases gs with
    | nil=>simp at hg
    | cons a b =>obtain ⟨off,sz⟩:=a;obtain ⟨f',u6,iq,rfl,oz,rfl,_⟩:=hh 0 off sz rfl;simp at iq;subst iq;have:=ih b (by simpa using hg) (λk off sz hk=>by simpa using hh (k+1) off sz (by simpa using hk));simp only[Ycv,Sem.run_bind,sizeOf,typeInfo,run_program,Result.andThen_ok,oz,Sem.run_pure];simp only[sizeOf,typeInfo] at this;rw[this];rfl
  have:=key fields.toList fs (by simpa using hlen) (λk off sz hk=>by simpa using rN k off sz hk);rw[Ycg,Sem.run_map,this];rfl
 have oE:=ZuR (fs[·]?) parts.toList i.zero out h;simp only[Instr.build,Sem.run_bind,zeroValue,typeInfo,run_program,Result.andThen_ok,aJ,Sem.run_pure,hz,run_underlying hd,hm,gy];have mc:Instr.fill (λx=>fs.toArray[x]?) i.zero.toArray parts.toList=some out.toArray:=by
  rw[<- oE]
  congr 1
  funext x;simp
 rw[mc];rfl
end
theorem Ze1 (z:List Value):∀n,(Zej z n).length=n*z.length:=by
 intro n
 induction n with
 | zero=>simp[Zej]
 | succ n ih=>simp[Zej,ih,Nat.succ_mul,Nat.add_comm]
theorem ZnO (z:List Value) (_hz:0 < z.length):∀(n j:Nat),j < n*z.length->(Zej z n)[j]?=z[j % z.length]?:=by
 intro n
 induction n with
 | zero=>intro j h;simp at h
 | succ n ih =>
  intro j h;rw[Zej];by_cases hj:j < z.length
  ·rw[Yal hj,Nat.mod_eq_of_lt hj]
  ·rw[Yaj (by omega),ih (j - z.length) (by rw[YaW] at h;omega),<- Nat.mod_eq_sub_mod (by omega)]
theorem ZjK (z:List Value) (hz:0 < z.length) (n:Nat):(Array.range (n*z.length)).map (λi=>z.toArray[i % z.toArray.size]!)=(Zej z n).toArray:=by
 apply Ycf;apply Ybx;intro j;by_cases hj:j < n*z.length
 ·show _=(Zej z n)[j]?;rw[ZnO z hz n j hj];have hm:j % z.length < z.length:=Nat.mod_lt _ hz;simp[hj,hm]
 ·have h1:(Zej z n)[j]?=none:=Ya9 (by rw[Ze1];omega);simp[h1];omega
theorem Zn1 (place:Nat->Option (Nat × Nat)):∀(parts:List (Nat × List Value)) (cs out:List Value),ZkD place cs parts=some out->out.length=cs.length:=by
 intro parts
 induction parts with
 | nil=>intro cs out h;simp[ZkD] at h;subst h;rfl
 | cons p rest ih =>
  intro cs out h;obtain ⟨k,v⟩:=p;simp only[ZkD] at h;cases hp:place k with
  | none=>rw[hp] at h;cases h
  | some q =>
   obtain ⟨off,size⟩:=q;rw[hp] at h;simp only at h;cases hb:Nat.beq v.length size && Nat.ble (off+size) cs.length with
   | false=>rw[hb] at h;cases h
   | true=>rw[hb] at h;rw[ih _ _ h,ZnA]
section
variable {w w':World}
theorem Zei {P:Program} (l y:Nat) (code:BoundsCode) (h:l<=y):(Instr.sliceBound (.int .i64 (l:Int)) y code).run P w=.ok l w:=by
 have h1:(0:Int)<=(l:Int)/\(l:Int)<=(y:Int):=by omega
 simp[Instr.sliceBound,asIntOf,h]
theorem ZeC {P:Program} (b:Bool) (len cap l h:Nat) (lo hi:Option Value) (aT:match lo with | none=>l=0 | some p=>p=.int .i64 (l:Int)) (du:match hi with | none=>h=len | some p=>p=.int .i64 (h:Int))
  (hl:l<=h) (hc:h<=cap):(Instr.sliceBounds b len cap lo hi none).run P w=.ok (l,h,cap) w:=by
 cases lo with
 | none =>
  cases hi with
  | none=>simp only at aT du;subst aT;subst du;simp[Instr.sliceBounds]
  | some q=>simp only at aT du;subst aT;subst du;cases b<;>simp[Instr.sliceBounds,Zei,hc]
 | some p =>
  cases hi with
  | none=>simp only at aT du;subst aT;subst du;simp[Instr.sliceBounds,Zei,hl]
  | some q=>simp only at aT du;subst aT;subst du;cases b<;>simp[Instr.sliceBounds,Zei,hc,hl]
theorem Zn2 (s:ByteArray) (l h:Nat) (_hh:h<=s.data.toList.length):s.extract l h=⟨⟨(s.data.toList.take h).drop l⟩⟩:=by
 have:(s.extract l h).data=(⟨(s.data.toList.take h).drop l⟩:Array UInt8):=by rw[ByteArray.data_extract];apply Ycf;simp[Array.toList_extract,List.extract_eq_take_drop,List.drop_take]
 cases hs:s.extract l h with
 | mk d=>rw[hs] at this;simp only at this;rw[this]
end
def Zbu (P:Program) (next:Value->World->Prop) (qp:List PanicEntry->World->Prop):Result Next->Prop
 | .ok (.value v) w'=>next v w'
 | .ok .skip w'=>next undef w'
 | .ok (.enter f args) w'=>Calls P f args w' fun
   | .returned v,bH=>next v bH
   | .panicked ch,bH=>qp ch bH
   | .outgrown,_=>False
 | .halt (.panic v) w'=>qp [{ v,recovered:=false }] w'
 | _=>False
theorem Zbu.wp {P:Program} {o:Oper} {a:Act} {w:World} {next:Act->World->Prop} {Q:Exit->Act->World->Prop}
  (h:Zbu P (λv w'=>next (a.put o.dst v) w') (λch w'=>Q (.panic ch) a w') ((execOp a.eval o).run P w)):o.wp P a w next Q:=by
 unfold Oper.wp;revert h;cases (execOp a.eval o).run P w with
 | ok x w' =>
  cases x<;>intro h<;>try exact h.elim
  ·exact h
  ·exact h
  ·refine h.mono λe bH he=>?_;cases e with
   | returned v=>exact he
   | panicked ch=>exact he
   | outgrown=>exact he.elim
 | halt x w' =>
  cases x<;>intro h<;>first | exact h.elim | exact h
section
variable {P:Program} {T:Tab} {F:FuncId->Bool} {n:Nat} {a:Act} {w:World} {next:Value->World->Prop} {qp:List PanicEntry->World->Prop}
end
section
variable {P:Program} {T:Tab} {F:FuncId->Bool} {n:Nat} {a:Act} {w:World} {next:Value->World->Prop} {qp:List PanicEntry->World->Prop}
theorem run_v {o:Oper} {ρ:Operand->Value} {x:Sem Value} {v:Value} {w':World} (he:execOp ρ o=(do pure (.value (<- x)))) (h:x.run P w=.ok v w'):(execOp ρ o).run P w=.ok (.value v) w':=by rw[he,Sem.run_bind,h];rfl
theorem str_eq (s t:ByteArray):(s.toList == t.toList)=decide (s.data.toList=t.data.toList):=by
 rw[ByteArray.toList_eq,ByteArray.toList_eq];by_cases hd:s.data.toList=t.data.toList
 ·simp[hd]
 ·have bF:¬ s.data=t.data:=λe=>hd (by rw[e]);simp[bF]
theorem Zyw (s t:ByteArray):s++t=⟨⟨s.data.toList++t.data.toList⟩⟩:=by
 have h:(s++t).data=(⟨s.data.toList++t.data.toList⟩:Array UInt8):=by apply Ycf;simp
 cases hs:s++t with
 | mk d=>rw[hs] at h;simp only at h;rw[h]
end
section
variable {P:Program} {T:Tab} {F:FuncId->Bool} {n:Nat} {a:Act} {w:World} {next:Value->World->Prop} {qp:List PanicEntry->World->Prop}
end
theorem Zc5 {i d:Nat} (h:i≠d):Nat.beq i d=false:=by
 cases h':Nat.beq i d with
 | false=>rfl
 | true=>exact absurd (Yaq h') h
section
variable {P:Program} {T:Tab} {F:FuncId->Bool} {n:Nat}
def Zvm (P:Program) (ops:Array Oper) (o:Oper) (a:Act) (w:World) (next:Act->World->Prop) (Q:Exit->Act->World->Prop):Prop :=
 if Region.wanted o (yielded ops a.tmps)=true then o.wp P a w next Q else next (a.put o.dst undef) w
end
def eqV:Value->Value->Bool
 | .int k a,.int k' b=>decide (k=k') && decide (a=b)
 | .bool a,.bool b=>a == b
 | .string a,.string b=>a.data.toList == b.data.toList
 | .slice none n c,.slice none n' c'=>n == n' && c == c'
 | .pointer none,.pointer none=>true
 | .map none,.map none=>true
 | .chan none,.chan none=>true
 | .nilFunc,.nilFunc=>true
 | .nilIface,.nilIface=>true
 | _,_=>false
theorem ZBi {a b:Value} (h:eqV a b=true):a=b:=by
 unfold eqV at h;split at h<;>first | (cases h;done) | rfl | skip
 ·simp only[Yag,decide_eq_true_eq] at h;rw[h.1,h.2]
 ·rw[eq_of_beq h]
 ·rename_i s t;have:s=t:=by cases s;cases t;rename_i x y;have:=eq_of_beq h;simp at this;rw[this]
  rw[this]
 ·simp only[Yag,beq_iff_eq] at h;rw[h.1,h.2]
def ZBL:List Value->List Value->Bool
 | [],[]=>true
 | a :: l,b :: m=>eqV a b && ZBL l m
 | _,_=>false
theorem ZzC:∀{a b:List Value},ZBL a b=true->a=b:=by
 intro a
 induction a with
 | nil=>intro b h;cases b with | nil=>rfl | cons x y=>cases h
 | cons x l ih =>
  intro b h;cases b with
  | nil=>cases h
  | cons y m=>simp only[ZBL,Yag] at h;rw[ZBi h.1,ih h.2]
def Ze5 (P:Program):List Field->List (Nat × Nat)->Bool
 | [],[]=>true
 | f :: fs,(off,sz) :: l=>f.offset == off && (match P.info? f.type with | some inf=>inf.size == sz | none=>false) && !(sz == 0) && Ze5 P fs l
 | _,_=>false
theorem ZkF {P:Program}:∀{fs:List Field} {l:List (Nat × Nat)},Ze5 P fs l=true->fs.length=l.length/\∀(k off sz:Nat),l[k]?=some (off,sz)->∃(f:Field) (inf:TypeInfo),fs[k]?=some f/\f.offset=off/\P.info? f.type=some inf/\inf.size=sz/\sz≠0:=by
 intro fs
 induction fs with
 | nil=>intro l h;cases l with | nil=>exact ⟨rfl,λk off sz hk=>by simp at hk⟩ | cons x y=>cases h
 | cons f fs ih =>
  intro l h;cases l with
  | nil=>cases h
  | cons p l =>
   obtain ⟨off,sz⟩:=p;simp only[Ze5,Yag,beq_iff_eq,YaS,beq_eq_false_iff_ne] at h;obtain ⟨⟨⟨h1,h2⟩,h3⟩,h4⟩:=h;obtain ⟨hl,hh⟩:=ih h4;refine ⟨by simp[hl],λk o s hk=>?_⟩;cases k with
   | zero =>
    simp at hk;obtain ⟨rfl,rfl⟩:=hk;cases hi:P.info? f.type with
    | none=>rw[hi] at h2;cases h2
    | some inf=>rw[hi] at h2;exact ⟨f,inf,rfl,h1,hi,eq_of_beq h2,h3⟩
   | succ k=>exact hh k o s (by simpa using hk)
def ZjN (P:Program):TypeDesc->TK->Bool
 | .interface _,.iface=>true
 | .interface _,_=>false
 | .bool,.bool=>true
 | .int k,.int k'=>decide (k=k')
 | .string,.str=>true
 | .slice e,.slice e'=>e == e'
 | .struct fs,.struct l=>Ze5 P fs.toList l
 | .array n e,.array n' e'=>n == n' && e == e'
 | _,.cell=>true
 | _,_=>false
theorem ZnE {P:Program} {d:TypeDesc} {k:TK} (h:ZjN P d k=true):Zrb P d k:=by
 unfold ZjN at h;split at h<;>first | (cases h;done) | skip
 ·trivial
 ·rfl
 ·rw[of_decide_eq_true h];rfl
 ·rfl
 ·rw[eq_of_beq h];rfl
 ·rename_i fs l;obtain ⟨h1,h2⟩:=ZkF h;exact ⟨fs,rfl,by simpa using h1,λk off sz hk=>by simpa using h2 k off sz hk⟩
 ·simp only[Yag,beq_iff_eq] at h;rw[h.1,h.2];rfl
 ·unfold Zrb;split<;>first | trivial | simp_all
def ZjO (P:Program) (t:TypeId) (i:TI):Bool :=
 match P.underlying t,P.info? t with
 | some d,some inf=>ZjN P d i.kind && inf.size == i.size && inf.bytes == i.bytes && (match inf.zero with | some z=>ZBL z.cells.toList i.zero | none=>false) && (ZqE d == i.agg) && (i.zero.length == i.size)
 | _,_=>false
theorem ZnI {P:Program} {t:TypeId} {i:TI} (h:ZjO P t i=true):InfoOk P t i:=by
 unfold ZjO at h;split at h
 ·rename_i d inf hd hi;simp only[Yag,beq_iff_eq] at h;obtain ⟨⟨⟨⟨⟨h1,h2⟩,h3⟩,h4⟩,h5⟩,h6⟩:=h;cases hz:inf.zero with
  | none=>rw[hz] at h4;cases h4
  | some z =>rw[hz] at h4;exact ⟨⟨d,hd,ZnE h1,h5⟩,⟨inf,z,hi,h2,h3,hz,by rw[<- ZzC h4]⟩,h6⟩
 ·cases h
def lookT:List (TypeId × TI)->Tab
 | [],_=>none
 | p :: l,t=>bif Nat.beq p.1 t then some p.2 else lookT l t
def tabCheck (P:Program) (L:List (TypeId × TI)):Bool:=L.all λp=>ZjO P p.1 p.2
theorem tabCheck_ok {P:Program} {L:List (TypeId × TI)} (h:tabCheck P L=true):TabOk P (lookT L):=by
 induction L with
 | nil=>intro t i ht;cases ht
 | cons p l ih =>
  unfold tabCheck at h;simp only[List.all_cons,Yag] at h;intro t i ht;unfold lookT at ht;cases hb:Nat.beq p.1 t with
  | true =>rw[hb] at ht;have he:=Yaq hb;injection ht with ht;subst ht;subst he;exact ZnI h.1
  | false=>rw[hb] at ht;exact ih h.2 t i ht
def fnsIn (lo N:Nat) (g:Nat):Bool:=Nat.ble lo g && Nat.blt g N
def fnsCheck (P:Program) (lo:Nat):Nat->Bool
 | 0=>true
 | N+1=>(Nat.blt N lo || fnOk P N) && fnsCheck P lo N
theorem fns_ok {P:Program} {lo N:Nat} (h:fnsCheck P lo N=true):∀g:Nat,fnsIn lo N g=true->fnOk P g=true:=by
 induction N with
 | zero=>intro g hg;simp[fnsIn,Nat.blt] at hg
 | succ N ih =>
  intro g hg;simp only[fnsCheck,Yag,YaZ] at h;simp only[fnsIn,Yag] at hg;have h1:=Yau hg.1;have h2:g < N+1:=Yau hg.2;by_cases tJ:g=N
  ·subst tJ;rcases h.1 with h3 | h3
   ·have:g < lo:=Yau h3;omega
   ·exact h3
  ·exact ih h.2 g (by simp only[fnsIn,Yag];exact ⟨hg.1,Ybo (by omega)⟩)
def Zwo:List Value->Value
 | [v]=>v
 | vs=>.tuple vs.toArray
section
variable {P:Program} {T:Tab} {F:FuncId->Bool} {n:Nat}
end
end Go.Eng
