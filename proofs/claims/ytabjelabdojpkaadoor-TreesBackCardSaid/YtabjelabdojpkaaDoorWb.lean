/-
  strings.Join: its contract, as the walks ask it.
-/
import Derived.Test.YtabjelabdojpkaaDoorLb
import Derived.Test.YtabjelabdojpkaaDoorSpec2
import Derived.Shelf.Strings.OnBuilder
import Derived.Shelf.Strings.Builder1
namespace Go.Proofs.YtabjelabdojpkaaDoor
open Go Go.Dm Go.Eng Go.RowKit Go.Shelf Barb
variable {L:Lv}
shelf_lay Lays.n156 Nm 156 at Tryd as laysJoin
theorem extraJoin:Builder.Extra Tryd.prog laysJoin_ren where
 sizeBuilder:=by kernel_rfl
 liesBuilder:=by kernel_rfl
 t5:=laysIndex.t5
 a5:=run_isAgg_plain laysIndex.t5 rfl
 z5:=laysIndex.z5
 v5:=laysIndex.v5
 infoByte:=by kernel_rfl
 cellsByte:=by kernel_rfl
 sizeByte:=by kernel_rfl
 neB5:=by decide
theorem rows_at {V:Nat→Prop} {w:World} {a:Addr}:∀ (l:List Str) (i:Nat),RepAll V w 1 a i (l.map strG)→∀ (j:Nat) (s:Str),l[j]?=some s→w.cell? (a.add (i+j))=some (.string ⟨⟨s⟩⟩)
 | [],_,_,j,s,h=>by simp at h
 | u :: l,i,h,j,s,hj=>by
  simp only[List.map_cons,RepAll,strG,RepRow,RepV] at h
  obtain ⟨⟨_,⟨⟨v,hc,rfl⟩,_⟩⟩,hr⟩:=h
  cases j with
  | zero =>
   simp only[List.getElem?_cons_zero,Option.some.injEq] at hj
   subst hj
   simpa using hc
  | succ j =>
   have:=rows_at l (i+1) hr j s (by simpa using hj)
   rw[show i+(j+1)=i+1+j from by omega]
   exact this
theorem Join_any (l:List Str) (sep:Str) (hn:l.length≤140737488355328) (hl:(Lib.join l sep).length≤140737488355328):CT Tryd.prog (gl L) 15 [.g (.sl 1 (l.map strG)),.g (.str sep)] (Is (.g (.str (Lib.join l sep)))):=by
 refine ct_of_raw fun w V vals hG hr=>?_
 simp only[RepDL] at hr
 obtain ⟨v,us,rfl,hv,v2,us2,rfl,hv2,rfl⟩:=hr
 simp only[RepD,RepV] at hv hv2
 subst hv2
 obtain ⟨A,cap,rfl,hcap,hrow,hz⟩:=hv
 have e:(l.map (fun s=>(⟨⟨s⟩⟩:ByteArray))).map (·.data.toList)=l:=by
  rw[List.map_map]
  exact List.map_id' l
 cases l with
 | nil =>
  refine (Any.strings_Join_none laysJoin extraJoin A cap ⟨⟨sep⟩⟩ w).mono fun e w' ⟨he,hw⟩=>⟨_,he,hw▸Below.refl _ _,?_⟩
  simp only[RepD,RepV]
  rfl
 | cons x l =>
  obtain ⟨a,rfl,_,hall⟩:=hrow (by simp)
  have hc:=rows_at (x :: l) 0 hall
  have h0:=hc 0 x rfl
  obtain ⟨b,o,sp⟩:=a
  have hsp:sp=none:=by
   rw[Addr.add,if_pos rfl] at h0
   unfold World.cell? at h0
   cases sp with
   | none=>rfl
   | some k=>split at h0<;>simp at h0
  subst hsp
  have hb:b < w.heap.size:=World.block_lt_of_cell? w _ (by rw[Addr.add,if_pos rfl] at h0;exact h0)
  have hJ:=Any.strings_Join laysJoin extraJoin b o cap ((x :: l).map (fun s=>(⟨⟨s⟩⟩:ByteArray))) ⟨⟨sep⟩⟩ w (fun j y hj=>by
   simp only[List.getElem?_map,Option.map_eq_some_iff] at hj
   obtain ⟨s,hs,rfl⟩:=hj
   have:=hc j s hs
   rw[Nat.zero_add,add_mk] at this
   exact this) hb (by rw[List.length_map];exact hn) (by simpa using hcap) (by rw[e];exact hl)
  rw[e] at hJ
  simp only[List.length_map] at hJ ⊢
  refine hJ.mono fun e w' ⟨he,hw⟩=>⟨_,he,hw,?_⟩
  simp only[RepD,RepV]
end Go.Proofs.YtabjelabdojpkaaDoor
namespace Go.Proofs.YtabjelabdojpkaaDoor
open Go Go.Dm Go.Eng Go.RowKit Go.Shelf Barb
section
variable {P:Program} {ρ:Ren}
theorem app_str (w:World) (t u ty e:TypeId) (i:TypeInfo) (ht:P.underlying t=some (.slice e)) (hu:P.underlying u=some .string) (hi:P.info? e=some i) (hz:i.zero=some (.int .u8 0))
  (hsize:i.size=1) (hby:i.bytes=1) (v:Value) (n:Nat) (xs:List Value) (hown:w.ownsRow 0 e 1 v n xs) (s:ByteArray) (h63:n+s.size≤maxLen) (hbytes:n+s.size≤140737488355328) :
  ∃ v' w',(Builtin.append_ #[t,u] ty #[v,.string s]).run P w=.ok v' w'∧w'.ownsRow 0 e 1 v' (n+s.size) (xs++Lib.strCells s)∧w.grownBy w' v.ownBlock∧(v'.ownBlock=v.ownBlock∨v'.ownBlock=some w.heap.size):=by
 obtain ⟨v',w',hr,h2,h3,h4⟩:=Lib.run_append_own_string (P:=P) w 0 t u ty e i ht hu hi hz hsize hby v n xs hown s h63 hbytes (Nat.zero_le _)
 refine ⟨v',w',hr,h2,h3,?_⟩
 have hsmall:n+s.size≤9223372036854775807:=by omega
 rcases hown.2 with ⟨rfl,rfl⟩ | ⟨g,cap,cur,rfl,hbg,hg,hnc,hcm,hcs,htake⟩
 ·by_cases hm:s.size=0
  ·rw[h4.2 ⟨rfl,hm⟩];exact .inl rfl
  ·rw[run_append_nil_string (P:=P) w t u ty e i (.int .u8 0) ht hu hi hz s (by omega) (by omega) (by rw[hby];omega)] at hr
   injection hr with e1 _
   rw[← e1];exact .inr rfl
 ·have hxl:xs.length=n:=by simpa using hown.1
  by_cases hroom:n+s.size≤cap
  ·rw[Lib.run_append_room_string (P:=P) w t u ty e i ht hu hi hsize g n cap cur hg s hroom (by omega)] at hr
   injection hr with e1 _
   rw[← e1];exact .inl rfl
  ·have holds:∀ j u,xs[j]?=some u→w.cell? ((⟨g,0,none⟩:Addr).add j)=some u:=hown.cells (g:=g) rfl
   rw[Lib.run_append_grow_string (P:=P) w t u ty e i (.int .u8 0) ht hu hi hz ⟨g,0,none⟩ n cap xs (by rw[hsize];simpa using hxl) holds s (by omega) (by omega) (by rw[hby];exact growslice_fits (by omega) (by omega))] at hr
   injection hr with e1 _
   rw[← e1];exact .inr rfl
theorem wpList_app_str {w:World} {ops:Array Oper} {rest:List Oper} {o:Oper} {a:Act} {Q:Exit→Act→World→Prop} (hgd:o.guard=none) (sl x:Operand) (t u:TypeId)
  (ho:o.op=.call { callee:=.builtin .append,args:=#[sl,x],argTypes:=#[t,u] }) (e:TypeId) (i:TypeInfo) (ht:P.underlying t=some (.slice e)) (hu:P.underlying u=some .string) (hi:P.info? e=some i) (hz:i.zero=some (.int .u8 0))
  (hsize:i.size=1) (hby:i.bytes=1) (v:Value) (n:Nat) (xs:List Value) (hs:a.eval sl=v) (hown:w.ownsRow 0 e 1 v n xs) (s:ByteArray) (hx:a.eval x=.string s) (h63:n+s.size≤maxLen) (hbytes:n+s.size≤140737488355328)
  (h:∀ v' w',w'.ownsRow 0 e 1 v' (n+s.size) (xs++Lib.strCells s)→w.grownBy w' v.ownBlock→(v'.ownBlock=v.ownBlock∨v'.ownBlock=some w.heap.size)→wpList P ops Q rest (a.put o.dst v') w'):wpList P ops Q (o :: rest) a w:=by
 refine wpList_plain hgd fun K hK=>?_
 obtain ⟨v',w',hr,h2,h3,h4⟩:=app_str (P:=P) w t u o.type e i ht hu hi hz hsize hby v n xs hown s h63 hbytes
 unfold Oper.wp execOp
 simp only[ho,resolve,invoke,builtin,Sem.run_bind,Sem.run_pure,Result.andThen_ok,List.map_toArray,List.map_cons,List.map_nil,hs,hx,hr]
 exact hK _ _ (h v' w' h2 h3 h4)
theorem write_raw (L:Lays.n166 P ρ) (X:Builder.Extra P ρ) (b:Nat) (p v:Value) (bs:List Value) (s:ByteArray) (w:World) (hp:p=.pointer none∨p=.pointer (some ⟨b,0,none⟩))
  (hbk:w.heap[b]?=some (.cells #[p,v] (ρ.t 72) (0,0))) (hown:w.ownsRow 0 (ρ.t 5) 1 v bs.length bs) (hne:v.ownBlock≠some b) (hlen:bs.length+s.size≤140737488355328) :
  Calls P (ρ.f 166) #[.pointer (some ⟨b,0,none⟩),.string s] w fun e w'=>e=.returned (.tuple #[.int .i64 s.size,.nilIface]) ∧
   ∃ w1 v' w2,(w1=w∧p=.pointer (some ⟨b,0,none⟩)∨w1=w.setCell ⟨b,0,none⟩ (.pointer (some ⟨b,0,none⟩)))∧w2.ownsRow 0 (ρ.t 5) 1 v' (bs.length+s.size) (bs++Lib.strCells s)∧w1.grownBy w2 v.ownBlock ∧
    (v'.ownBlock=v.ownBlock∨v'.ownBlock=some w1.heap.size)∧w'=w2.setCell ⟨b,1,none⟩ v':=by
 obtain ⟨i0,hi,hz0,hz1,hz2⟩:=info_parts X.infoByte
 have mixed:=L.mixed
 have t72:=L.t72;have a72:=L.a72;have z72:=L.z72;have v72:=L.v72;have u72:=run_underlying L.t72
 have t70:=L.t70;have a70:=L.a70;have z70:=L.z70;have v70:=L.v70;have u70:=run_underlying L.t70
 have t37:=L.t37;have a37:=L.a37;have z37:=L.z37;have v37:=L.v37;have u37:=run_underlying L.t37
 have t3:=L.t3;have a3:=L.a3;have z3:=L.z3;have v3:=L.v3;have u3:=run_underlying L.t3
 have t9:=L.t9;have a9:=L.a9;have z9:=L.z9;have v9:=L.v9;have u9:=run_underlying L.t9
 have t4:=L.t4;have a4:=L.a4;have z4:=L.z4;have v4:=L.v4;have u4:=run_underlying L.t4
 have t164:=L.t164;have a164:=L.a164;have z164:=L.z164;have v164:=L.v164;have u164:=run_underlying L.t164
 have t5:=X.t5;have a5:=X.a5;have z5:=X.z5;have v5:=X.v5;have u5:=run_underlying X.t5
 have e240:∀ args w,(callFunc (ρ.f 240) args).run P w=.ok (.enter (ρ.f 240) args) w:=enters_of L.f240 (by kernel_rfl) rfl
 have hcc:Calls P (ρ.f 240) #[.pointer (some ⟨b,0,none⟩)] w fun e w1=>e=.returned (.tuple #[])∧(w1=w∧p=.pointer (some ⟨b,0,none⟩)∨w1=w.setCell ⟨b,0,none⟩ (.pointer (some ⟨b,0,none⟩))):=by
  rcases hp with rfl | rfl
  ·refine (Any.Builder_copyCheck_fresh { L with } X.toX72 b w (by rw[Lib.cell_of_heap hbk];rfl) (by simp[World.shape?,hbk]) (Lib.frozen_of_heap hbk 0)).mono ?_
   rintro e w' ⟨rfl,rfl⟩
   exact ⟨rfl,.inr rfl⟩
  ·refine (Any.Builder_copyCheck_used { L with } X.toX72 b w (by rw[Lib.cell_of_heap hbk];rfl)).mono ?_
   rintro e w' ⟨rfl,rfl⟩
   exact ⟨rfl,.inl ⟨rfl,rfl⟩⟩
 go_enter L.f166,Body.n166_ntmps ρ
 go_wp2_with (go_at_fn (ρ.f 240);refine hcc.mono ?_)
 rintro e w1 ⟨rfl,h1⟩
 have hbk1:w1.heap[b]?=some (.cells #[.pointer (some ⟨b,0,none⟩),v] (ρ.t 72) (0,0)):=by
  rcases h1 with ⟨rfl,rfl⟩ | rfl
  ·exact hbk
  ·simp[World.setCell,Array.getElem?_modify,hbk]
 have hown1:w1.ownsRow 0 (ρ.t 5) 1 v bs.length bs:=by
  rcases h1 with ⟨rfl,_⟩ | rfl
  ·exact hown
  ·exact ownsRow_setCell_other hown (a:=⟨b,0,none⟩) hne _
 have c0:w1.cell? ⟨b,0,none⟩=some (.pointer (some ⟨b,0,none⟩)):=by rw[Lib.cell_of_heap hbk1];rfl
 have c1:w1.cell? ⟨b,1,none⟩=some v:=by rw[Lib.cell_of_heap hbk1];rfl
 go_wp2_with (at_builtin;refine wpList_app_str rfl _ _ (ρ.t 37) (ρ.t 9) rfl (ρ.t 5) i0 L.t37 L.t9 hi hz0 hz1 hz2 _ _ _ rfl hown1 s rfl ?c3 ?c4 ?_)
 case c3=>unfold maxLen;omega
 case c4=>omega
 intro v' w2 hown' hgrow hblk
 have hlt:b < w1.heap.size:=by
  rcases Nat.lt_or_ge b w1.heap.size with h' | h'
  ·exact h'
  ·simp[Array.getElem?_eq_none h'] at hbk1
 have hb2:w2.heap[b]?=some (.cells #[.pointer (some ⟨b,0,none⟩),v] (ρ.t 72) (0,0)):=by
  rw[hgrow.block b hlt (fun e=>hne e.symm)]
  exact hbk1
 have d0:w2.cell? ⟨b,0,none⟩=some (.pointer (some ⟨b,0,none⟩)):=by rw[Lib.cell_of_heap hb2];rfl
 have d1:w2.cell? ⟨b,1,none⟩=some v:=by rw[Lib.cell_of_heap hb2];rfl
 have f1:w2.frozen? ⟨b,1,none⟩=false:=Lib.frozen_of_heap hb2 1
 obtain ⟨ao,n',cap,rfl⟩:∃ ao n' cap,v'=.slice ao n' cap:=by
  rcases hown'.2 with ⟨hv,_⟩ | ⟨g,cap,cur,hv,_⟩
  ·exact ⟨_,_,_,hv⟩
  ·exact ⟨_,_,_,hv⟩
 go_wp2
 go_ret2
 exact ⟨rfl,w1,_,w2,h1,hown',hgrow,hblk,rfl⟩
theorem string_raw (L:Lays.n169 P ρ) (X:Builder.Extra P ρ) (b g cap:Nat) (p:Value) (cur:Array Value) (l:List UInt8) (w:World) (h0:l≠[]) (hbk:w.heap[b]?=some (.cells #[p,.slice (some ⟨g,0,none⟩) l.length cap] (ρ.t 72) (0,0)))
  (hg:w.heap[g]?=some (.cells cur (ρ.t 5) (0,0))) (hcap:l.length≤cap) (hcm:cap≤maxLen) (hcs:cur.size=cap) (hown:w.ownsRow 0 (ρ.t 5) 1 (.slice (some ⟨g,0,none⟩) l.length cap) l.length (Lib.byteCells l)) :
  Calls P (ρ.f 169) #[.pointer (some ⟨b,0,none⟩)] w fun e w'=>e=.returned (.string ⟨l.toArray⟩)∧w'=w.drew.freeze ⟨g,0,none⟩ l.length:=by
 have hl0:l.length≠0:=by simpa using h0
 have c1:w.drew.cell? ⟨b,1,none⟩=some (.slice (some ⟨g,0,none⟩) l.length cap):=by
  have:w.drew.heap[b]?=some (.cells #[p,.slice (some ⟨g,0,none⟩) l.length cap] (ρ.t 72) (0,0)):=hbk
  rw[Lib.cell_of_heap this];rfl
 have hSD:(Builtin.unsafeSliceData_ #[(ρ.t 37)] (ρ.t 127) #[.slice (some ⟨g,0,none⟩) l.length cap]).run P w.drew=.ok (.pointer (some ⟨g,0,none⟩)) w.drew :=
  Lib.run_unsafeSliceData_row _ _ _ _ _ _ (by omega)
 have hUS:(Builtin.unsafeString_ #[(ρ.t 127),(ρ.t 3)] (ρ.t 9) #[.pointer (some ⟨g,0,none⟩),.int .i64 l.length]).run P w.drew=.ok (.string ⟨l.toArray⟩) (w.drew.freeze ⟨g,0,none⟩ l.length):=by
  refine Lib.run_unsafeString_row w.drew (ρ.t 127) (ρ.t 3) (ρ.t 9) (ρ.t 5) L.t127 X.cellsByte g cur.size (by have hg':w.drew.heap[g]?=some (.cells cur (ρ.t 5) (0,0)):=hg;simp[World.shape?,hg']) l h0 (by omega) (by unfold maxLen at hcm;omega) ?_
  intro j x hx
  exact hown.cells (g:=g) rfl j (.int .u8 x.toNat) (by simp[Lib.byteCells,hx])
 have mixed:=L.mixed
 have t72:=L.t72;have a72:=L.a72;have z72:=L.z72;have v72:=L.v72;have u72:=run_underlying L.t72
 have t70:=L.t70;have a70:=L.a70;have z70:=L.z70;have v70:=L.v70;have u70:=run_underlying L.t70
 have t37:=L.t37;have a37:=L.a37;have z37:=L.z37;have v37:=L.v37;have u37:=run_underlying L.t37
 have t127:=L.t127;have a127:=L.a127;have z127:=L.z127;have v127:=L.v127;have u127:=run_underlying L.t127
 have t3:=L.t3;have a3:=L.a3;have z3:=L.z3;have v3:=L.v3;have u3:=run_underlying L.t3
 have t9:=L.t9;have a9:=L.a9;have z9:=L.z9;have v9:=L.v9;have u9:=run_underlying L.t9
 have t5:=X.t5;have a5:=X.a5;have z5:=X.z5;have v5:=X.v5;have u5:=run_underlying X.t5
 go_enter L.f169,Body.n169_ntmps ρ
 go_wp2
 go_region_o
 all_goals (go_wp2;go_ret;exact ⟨rfl,rfl⟩)
end
theorem laysWrite:Lays.n166 Tryd.prog laysJoin_ren:={ laysJoin with }
theorem laysString:Lays.n169 Tryd.prog laysJoin_ren:={ laysJoin with }
def byG (c:UInt8):List GV:=[.u8 (c.toNat:Int)]
abbrev BuH (a:D) (s:Str):Heap:=[.blk [a,.row 1] 44,.row (s.map byG) 5 1]
abbrev BuO (s:Str):Heap:=[.blk [.ptr 0 0,.row 2] 44,.dead,.row (s.map byG) 5 1]
theorem rep_bytes {V:Nat→Prop} {w:World}:∀ {s:Str} {vs:List Value},RepL V w (s.map byG).flatten vs→vs=Lib.byteCells s
 | [],[],_=>rfl
 | [],_ :: _,h=>h.elim
 | _ :: _,[],h=>h.elim
 | c :: s,v :: vs,h=>by
  have h:RepV V w (.u8 (c.toNat:Int)) v∧RepL V w (s.map byG).flatten vs:=h
  have h1:v=.int .u8 (c.toNat:Int):=h.1
  rw[h1,rep_bytes h.2]
  rfl
theorem bytes_rep {V:Nat→Prop} {w:World}:∀ (s:Str),RepL V w (s.map byG).flatten (Lib.byteCells s)
 | []=>trivial
 | _ :: s=>⟨rfl,bytes_rep s⟩
theorem set_rowB {w:World} {g:Nat} {v0 v1 v:Value} {t:TypeId} (h:w.heap[g]?=some (.cells ⟨[v0,v1]⟩ t (0,0))):w.setCell ⟨g,1,none⟩ v=w.setRow g ⟨[v0,v]⟩:=by
 unfold World.setCell World.setRow
 refine congrArg (fun hp=>({ w with heap:=hp }:World)) (Array.ext_getElem? fun i=>?_)
 rw[Array.getElem?_modify,Array.getElem?_modify]
 by_cases e:g=i
 ·subst e
  simp[h]
 ·simp[e]
theorem set_row1 {w:World} {g:Nat} {v0 v1 v:Value} {t:TypeId} (h:w.heap[g]?=some (.cells ⟨[v0,v1]⟩ t (0,0))):w.setCell ⟨g,0,none⟩ v=w.setRow g ⟨[v,v1]⟩:=by
 unfold World.setCell World.setRow
 refine congrArg (fun hp=>({ w with heap:=hp }:World)) (Array.ext_getElem? fun i=>?_)
 rw[Array.getElem?_modify,Array.getElem?_modify]
 by_cases e:g=i
 ·subst e
  simp[h]
 ·simp[e]
theorem own_bk {w:World} {e:TypeId} {v:Value} {n:Nat} {xs:List Value} (h:w.ownsRow 0 e 1 v n xs):v.ownBlock=bk v:=by
 rcases h.2 with ⟨rfl,_⟩ | ⟨g,cap,cur,rfl,_⟩<;>rfl
theorem WriteString_any {L:Lv} (a:D) (ha:a=.nilP∨a=.ptr 0 0) (s t:Str) (hl:s.length+t.length≤140737488355328):CTH Tryd.prog (gl L) 13 1 (BuH a s) [.ptr 0 0,.g (.str t)] (fun out=>out=.ret (.tuple [.g (.int (t.length:Int)),.nilI]) (BuO (s++t))):=by
 intro w β V vals hr hv
 simp only[RepDL] at hv
 obtain ⟨v0,us,rfl,h0,v1,us1,rfl,h1,rfl⟩:=hv
 have h0:∃ g,β 0=.pointer (some ⟨g,0,none⟩)∧v0=.pointer (some ⟨g,0,none⟩):=by simpa [RepD] using h0
 have h1:v1=.string ⟨⟨t⟩⟩:=by simpa [RepD,RepV] using h1
 obtain ⟨g,hb0,rfl⟩:=h0
 subst h1
 obtain ⟨g',vs,hb0',hg,hcs⟩:=hr.obj 0 _ rfl
 have eg:g'=g:=by rw[hb0] at hb0';simpa using hb0'.symm
 subst eg
 obtain ⟨vs1,hown,hrep,hsz,_⟩:=hr.obj 1 _ rfl
 have e1:=rep_bytes hrep
 subst e1
 simp only[RepDL] at hcs
 obtain ⟨va,us,rfl,hva,vr,us1,rfl,hvr,rfl⟩:=hcs
 have hvr:vr=β 1:=by simpa [RepD] using hvr
 subst hvr
 have hp:(a=.nilP∧va=.pointer none)∨(a=.ptr 0 0∧va=.pointer (some ⟨g',0,none⟩)):=by
  rcases ha with rfl | rfl
  ·exact .inl ⟨rfl,by simpa [RepD] using hva⟩
  ·have:∃ g,β 0=.pointer (some ⟨g,0,none⟩)∧va=.pointer (some ⟨g,0,none⟩):=by simpa [RepD] using hva
   obtain ⟨g2,h2,rfl⟩:=this
   rw[hb0] at h2
   injection h2 with h2;injection h2 with h2;injection h2 with h2
   exact .inr ⟨rfl,by rw[h2]⟩
 have hne:(β 1).ownBlock≠some g':=fun e=>by
  rw[own_bk hown] at e
  exact absurd (hr.sep 0 1 _ _ g' rfl rfl rfl rfl (by rw[hb0];rfl) e) (by decide)
 have lb:(Lib.byteCells s).length=s.length:=Lib.byteCells_length s
 have ls:(s.map byG).length=s.length:=List.length_map _
 refine (write_raw laysWrite extraJoin g' va (β 1) (Lib.byteCells s) ⟨⟨t⟩⟩ w (hp.imp And.right And.right) hg (by rw[lb,← ls];exact hown) hne (by rw[lb];exact hl)).mono ?_
 rintro e w' ⟨rfl,w1,v',w2,hw1,hown',hgrow,hblk,rfl⟩
 have r1:RelD ⟨w,ownB (BuH a s) β,V,gl L⟩ (BuH (.ptr 0 0) s) β V w1:=by
  rcases hw1 with ⟨rfl,hs⟩ | rfl
  ·rcases hp with ⟨_,hv⟩ | ⟨rfl,_⟩
   ·rw[hv] at hs;cases hs
   ·exact hr
  ·rw[set_row1 hg]
   exact hr.set_blk (i:=0) rfl hb0 [.ptr 0 0,.row 1] [.pointer (some ⟨g',0,none⟩),β 1] (by simp only[RepDL,RepD];exact ⟨_,_,rfl,⟨g',hb0,rfl⟩,_,_,rfl,rfl,rfl⟩)
 have ec:Lib.byteCells s++Lib.strCells ⟨⟨t⟩⟩=Lib.byteCells (s++t):=by simp[Lib.byteCells,Lib.strCells]
 have r2:=r1.grow_row (i:=1) rfl ((s++t).map byG) (Lib.byteCells (s++t)) v' 5 1 (bytes_rep _) (fun r hr=>by obtain ⟨c,_,rfl⟩:=List.mem_map.1 hr;rfl) (by decide) (by rw[← ec,List.length_map,List.length_append,← lb];exact hown') hgrow hblk
 have hb2:upf β 2 v' 0=.pointer (some ⟨g',0,none⟩):=hb0
 obtain ⟨g3,vs3,hb3,hg3,hc3⟩:=r2.obj 0 _ rfl
 have eg:g3=g':=by
  have hb3:upf β 2 v' 0=.pointer (some ⟨g3,0,none⟩):=hb3
  rw[hb2] at hb3
  injection hb3 with h2;injection h2 with h2;injection h2 with h2
  exact h2.symm
 subst eg
 simp only[RepDL] at hc3
 obtain ⟨x,_,rfl,hx,y,_,rfl,_,rfl⟩:=hc3
 have hx:x=.pointer (some ⟨g3,0,none⟩):=by
  have:∃ g,upf β 2 v' 0=.pointer (some ⟨g,0,none⟩)∧x=.pointer (some ⟨g,0,none⟩):=by simpa [RepD] using hx
  obtain ⟨g2,h2,rfl⟩:=this
  rw[hb2] at h2
  injection h2 with h2;injection h2 with h2;injection h2 with h2
  rw[h2]
 subst hx
 rw[set_rowB hg3]
 have r3:=r2.set_blk (i:=0) rfl hb2 [.ptr 0 0,.row 2] [.pointer (some ⟨g3,0,none⟩),v'] (by simp only[RepDL,RepD];exact ⟨_,_,rfl,⟨g3,hb2,rfl⟩,_,_,rfl,rfl,rfl⟩)
 refine ⟨_,_,_,_,rfl,r3,by simp only[RepD,RepDL,RepV];exact ⟨_,rfl,_,_,rfl,rfl,_,_,rfl,rfl,rfl⟩,fun i hi=>?_⟩
 obtain rfl:i=0:=by omega
 exact ⟨⟨_,_,rfl,rfl,trivial,rfl⟩,rfl⟩
theorem freeze_other {w:World} {p:Addr} {n k:Nat} (h:k≠p.block):(w.freeze p n).heap[k]?=w.heap[k]?:=by
 unfold World.freeze
 split
 ·rfl
 ·simp only[Array.getElem?_modify]
  rw[if_neg (fun e=>h e.symm)]
theorem freeze_fr {w:World} {p:Addr} {n:Nat}:(w.freeze p n).os=w.os∧(w.freeze p n).tape=w.tape∧(w.freeze p n).output=w.output∧(w.freeze p n).heap.size=w.heap.size:=by
 unfold World.freeze
 split
 ·exact ⟨rfl,rfl,rfl,rfl⟩
 ·exact ⟨rfl,rfl,rfl,by simp⟩
theorem String_any {L:Lv} (s:Str) (h0:s≠[]):CTH Tryd.prog (gl L) 17 0 (BuH (.ptr 0 0) s) [.ptr 0 0] (fun out=>out=.ret (.g (.str s)) []):=by
 intro w β V vals hr hv
 simp only[RepDL] at hv
 obtain ⟨v0,us,rfl,hv0,rfl⟩:=hv
 have hv0:∃ g,β 0=.pointer (some ⟨g,0,none⟩)∧v0=.pointer (some ⟨g,0,none⟩):=by simpa [RepD] using hv0
 obtain ⟨b,hb0,rfl⟩:=hv0
 obtain ⟨b',vs,hb0',hbk,hcs⟩:=hr.obj 0 _ rfl
 have eg:b'=b:=by rw[hb0] at hb0';simpa using hb0'.symm
 subst eg
 obtain ⟨vs1,hown,hrep,hsz,_⟩:=hr.obj 1 _ rfl
 have e1:=rep_bytes hrep
 subst e1
 simp only[RepDL] at hcs
 obtain ⟨va,us,rfl,_,vr,us1,rfl,hvr,rfl⟩:=hcs
 have hvr:vr=β 1:=by simpa [RepD] using hvr
 subst hvr
 have lb:(Lib.byteCells s).length=s.length:=Lib.byteCells_length s
 have ls:(s.map byG).length=s.length:=List.length_map _
 rw[ls] at hown
 rcases hown.2 with ⟨_,hz⟩ | ⟨g,cap,cur,hv1,_,hg,hnc,hcm,hcs,htk⟩
 ·exact absurd (List.eq_nil_of_length_eq_zero hz) h0
 have hog:ownB (BuH (.ptr 0 0) s) β g:=⟨1,_,rfl,rfl,by show bk (β 1)=some g;rw[hv1];rfl⟩
 have hVg:¬V g:=hr.vout 1 _ g rfl rfl (by show bk (β 1)=some g;rw[hv1];rfl)
 rw[hv1] at hbk hown
 refine (string_raw laysString extraJoin b' g cap va cur s w h0 hbk hg hnc hcm (by omega) hown).mono ?_
 rintro e w' ⟨rfl,rfl⟩
 obtain ⟨f1,f2,f3,f4⟩:=freeze_fr (w:=w.drew) (p:=⟨g,0,none⟩) (n:=s.length)
 have hoth:∀ k,k≠g→(w.drew.freeze ⟨g,0,none⟩ s.length).heap[k]?=w.heap[k]?:=fun k hk=>freeze_other (w:=w.drew) (p:=⟨g,0,none⟩) hk
 have hmv:Moved V w V (w.drew.freeze ⟨g,0,none⟩ s.length):=fun k hk=>⟨hk,hoth k (fun e=>hVg (e▸hk))⟩
 have r1:RelD ⟨w,ownB (BuH (.ptr 0 0) s) β,V,gl L⟩ [] β V (w.drew.freeze ⟨g,0,none⟩ s.length):=by
  refine ⟨fun i o h=>(by simp at h),fun i j o o' k h=>(by simp at h),fun i o k h=>(by simp at h),fun i o k h=>(by simp at h),fun k hk=>?_,hr.vin,hr.vnew,⟨f1,f2,f3,?_,fun k _ hk=>hoth k (fun e=>hk (e▸hog))⟩,hr.gl.move hmv⟩
  ·rw[f4];exact hr.vlt k hk
  ·rw[f4];exact Nat.le_refl _
 exact ⟨_,_,_,_,rfl,r1,by simp only[RepD,RepV],fun i hi=>absurd hi (Nat.not_lt_zero i)⟩
end Go.Proofs.YtabjelabdojpkaaDoor
