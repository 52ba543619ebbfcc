/-
  tree.Show and the reference's UnitText: the contracts.
-/
import Derived.Test.YtabjelabdojpkaaDoorWf
import Derived.Test.YtabjelabdojpkaaDoorDjk
import Derived.Test.YtabjelabdojpkaaDoorTq
namespace Go.Proofs.YtabjelabdojpkaaDoor
open Go Go.Dm Go.Eng Go.RowKit Barb
theorem str_fn:fnOk Tryd.prog 17=true:=by kernel_rfl
theorem arG2 {l:List Arr} {i:Nat} (h:i < l.length):(l.map Arr.g)[i]?=some [.str l[i].name,.int l[i].size]:=gm h
theorem fuG2 {l:List Fun} {i:Nat} (h:i < l.length):(l.map Fun.g)[i]?=some [.str l[i].name,.bool l[i].isOpen,.sl 1 (l[i].params.map strG),.sl 5 (l[i].body.map Stmt.g)]:=(gm h).trans (congrArg some (Fun.g_eq _))
noncomputable def shR (u:Barb.Unit):Str:=if unitE u=0 then unS u else []
abbrev hdS (u:Barb.Unit):Str:=[117,110,105,116,32]++u.name++[10]
theorem flat_take {α:Type} (g:α→Str) (l:List α) (i:Nat):((l.take i).flatMap g).length≤(l.flatMap g).length:=by
 conv=>rhs;rw[← List.take_append_drop i l,List.flatMap_append,List.length_append]
 omega
theorem flat_snoc {α:Type} (g:α→Str) {l:List α} {i:Nat} (h:i < l.length):(l.take (i+1)).flatMap g=(l.take i).flatMap g++g l[i]:=by rw[take_one h,List.flatMap_append];simp
set_option maxRecDepth 20000 in
set_option maxHeartbeats 4000000 in
theorem Show_any {L:Lv} (u:Barb.Unit) (hu:u.I) (hN:unitE u=0→manyN u.funcs≤300):CT Tryd.prog (gl L) 6 [.agg u.d] (Is (.tuple [.g (.str (shR u)),.g (.int (unitE u))])):=by
 have hK:=TreeCheck_any (L:=L) u hu
 by_cases hE:unitE u=0
 ·have hlen:=un_len hE (hN hE)
  obtain ⟨h1,h2,h3,h4⟩:=unitE_inv hE
  obtain ⟨k1,k2,k3,_⟩:=unitE_ok hE
  obtain ⟨_,_,_,_,hfI,_⟩:=hu
  have hnm:=id_len h1
  have lv:(u.vars.map strG).length=u.vars.length:=List.length_map _
  have la:(u.arrays.map Arr.g).length=u.arrays.length:=List.length_map _
  have lf:(u.funcs.map Fun.g).length=u.funcs.length:=List.length_map _
  have e:shR u=unS u:=by unfold shR;rw[if_pos hE]
  rw[e,hE]
  rw[hE] at hK
  have hl1:=hlen
  unfold unS at hl1
  simp only[List.length_append,List.length_cons,List.length_nil] at hl1
  clear e hN
  refine enterJ [5] hT hF hM Tryd.func6 rfl 88 rfl (by kernel_rfl) [.tmp 2,.tmp 3] rfl [.agg u.d] rfl _ ?_
  refine callIs (.inl rfl) hK ?_
  refine ⟨fun h=>absurd rfl h,fun _=>?_⟩
  refine turnTo [.old 0,.old 1,.nil 5 1] [(1,.ptr 0 0),(5,.ptr 1 0)] [.blk u.d 26,.blk [.nilP,.row 2] 44,.row (([]:Str).map byG) 5 1] ⟨rfl,.inr ⟨⟨rfl,.inl rfl⟩,⟨rfl,.inr ⟨lk rfl,.inr rfl,trivial⟩⟩,⟨rfl,rfl,rfl⟩,trivial⟩,.inl rfl,rfl⟩ ?_
  refine ⟨by simp only[List.length_cons,List.length_nil];omega,?_⟩
  refine ⟨by simp only[List.length_append,List.length_cons,List.length_nil];omega,?_⟩
  refine callO [1,2] wstr_fn rfl rfl ⟨rfl,.inl rfl,.inl rfl,rfl⟩ (WriteString_any (L:=L) .nilP (.inl rfl) [] (hdS u) (by simp only[List.length_append,List.length_cons,List.length_nil];omega)) (fun d' h' hq=>?_) (fun d' h' hq=>by cases hq)
  injection hq with q1 q2;subst q1;subst q2
  refine loopR (ι:=Nat) (fun i=>[(1,.ptr 0 0),(5,.ptr 1 0),(27,.g (.sl 1 (u.vars.map strG))),(28,.g (.int ((u.vars.map strG).length:Int))),(29,.g (.int (i:Int)))]) (fun i=>[.blk u.d 26,.blk [.ptr 1 0,.row 2] 44,.row ((hdS u++(u.vars.take i).flatMap vaS).map byG) 5 1]) (fun i=>i≤u.vars.length) (fun i=>u.vars.length - i)
   ⟨0,[.old 0,.old 1,.old 4],⟨rfl,.inr ⟨⟨rfl,.inl rfl⟩,⟨rfl,.inl rfl⟩,⟨by simp,rfl,rfl⟩,trivial⟩,.inr ⟨lk rfl,lk rfl,lk rfl,lk rfl,lk rfl,trivial⟩,rfl⟩,Nat.zero_le _⟩ ?_
  intro Rv hRv i hi
  have t1:=flat_take vaS u.vars i
  refine ⟨fun h1'=>?_,fun h1'=>?_⟩
  ·have h2':i < u.vars.length:=by omega
   have es:=flat_snoc vaS h2'
   have t2:=flat_take vaS u.vars (i+1)
   have ll:=congrArg List.length es
   rw[List.length_append] at ll
   have hv8:=id_len (h2 _ (List.getElem_mem h2'))
   refine ⟨i,_,rfl,gm h2',?_⟩
   refine ⟨by simp only[List.length_cons,List.length_nil];omega,?_⟩
   refine ⟨by simp only[List.length_append,List.length_cons,List.length_nil];omega,?_⟩
   refine callO [1,2] wstr_fn rfl rfl ⟨rfl,.inl rfl,.inl rfl,rfl⟩ (WriteString_any (L:=L) (.ptr 0 0) (.inr rfl) (hdS u++(u.vars.take i).flatMap vaS) ([118,97,114,32]++u.vars[i]++[10]) (by simp only[List.length_append,List.length_cons,List.length_nil];omega)) (fun d' h' hq=>?_) (fun d' h' hq=>by cases hq)
   injection hq with q1 q2;subst q1;subst q2
   refine ⟨_,I64.wrap (by unfold I64;omega),?_⟩
   exact hRv _ _ _ ⟨i+1,[.old 0,.old 1,.old 4],⟨rfl,.inr ⟨⟨rfl,.inl rfl⟩,⟨rfl,.inl rfl⟩,⟨by rw[es];simp[vaS],rfl,rfl⟩,trivial⟩,.inr ⟨lk rfl,lk rfl,lk rfl,lk rfl,lkI (by omega),trivial⟩,rfl⟩,h2',by omega⟩
  have ev:u.vars.take i=u.vars:=List.take_of_length_le (by omega)
  refine loopR (ι:=Nat) (fun i=>[(1,.ptr 0 0),(5,.ptr 1 0),(40,.g (.sl 2 (u.arrays.map Arr.g))),(41,.g (.int ((u.arrays.map Arr.g).length:Int))),(42,.g (.int (i:Int)))]) (fun i=>[.blk u.d 26,.blk [.ptr 1 0,.row 2] 44,.row ((hdS u++u.vars.flatMap vaS++(u.arrays.take i).flatMap arS).map byG) 5 1]) (fun i=>i≤u.arrays.length) (fun i=>u.arrays.length - i)
   ⟨0,[.old 0,.old 1,.old 2],⟨rfl,.inr ⟨⟨rfl,.inl rfl⟩,⟨rfl,.inl rfl⟩,⟨by rw[ev];simp,rfl,rfl⟩,trivial⟩,.inr ⟨lk rfl,lk rfl,lk rfl,lk rfl,lk rfl,trivial⟩,rfl⟩,Nat.zero_le _⟩ ?_
  clear ev t1
  intro Ra hRa i hi
  have t1:=flat_take arS u.arrays i
  refine ⟨fun h1'=>?_,fun h1'=>?_⟩
  ·have h2':i < u.arrays.length:=by omega
   have es:=flat_snoc arS h2'
   have t2:=flat_take arS u.arrays (i+1)
   have ll:=congrArg List.length es
   rw[List.length_append] at ll
   obtain ⟨i1,i2,i3⟩:=arrE_inv (h3 _ (List.getElem_mem h2'))
   have hv8:=id_len i1
   obtain ⟨sz,hsz⟩:∃ sz:Nat,u.arrays[i].size=(sz:Int):=⟨u.arrays[i].size.toNat,(Int.toNat_of_nonneg (by omega)).symm⟩
   have hd6:=dec_len (n:=sz) (by omega)
   have hIt:=Itoa_any (L:=L) sz (by omega)
   rw[← hsz] at hIt
   have ea:arS u.arrays[i]=[97,114,114,97,121,32]++u.arrays[i].name++[32]++Lib.decDigits sz++[10]:=by unfold arS;rw[hsz];simp
   rw[ea] at es ll
   refine ⟨i,_,rfl,arG2 h2',?_⟩
   refine ⟨some 9999,[10],rfl,?_⟩
   refine ⟨by simp only[List.length_cons,List.length_nil];omega,?_⟩
   refine ⟨by simp only[List.length_append,List.length_cons,List.length_nil];omega,?_⟩
   refine ⟨_,_,.inl rfl,hIt,rfl,?_⟩
   refine ⟨by simp only[List.length_append,List.length_cons,List.length_nil];omega,?_⟩
   refine ⟨by simp only[List.length_append,List.length_cons,List.length_nil];omega,?_⟩
   refine callO [1,2] wstr_fn rfl rfl ⟨rfl,.inl rfl,.inl rfl,rfl⟩ (WriteString_any (L:=L) (.ptr 0 0) (.inr rfl) (hdS u++u.vars.flatMap vaS++(u.arrays.take i).flatMap arS) ([97,114,114,97,121,32]++u.arrays[i].name++[32]++Lib.decDigits sz++[10]) (by simp only[List.length_append,List.length_cons,List.length_nil];omega)) (fun d' h' hq=>?_) (fun d' h' hq=>by cases hq)
   injection hq with q1 q2;subst q1;subst q2
   refine ⟨_,I64.wrap (by unfold I64;omega),?_⟩
   exact hRa _ _ _ ⟨i+1,[.old 0,.old 1,.old 5],⟨rfl,.inr ⟨⟨rfl,.inl rfl⟩,⟨rfl,.inl rfl⟩,⟨by rw[es];simp only[List.append_assoc],rfl,rfl⟩,trivial⟩,.inr ⟨lk rfl,lk rfl,lk rfl,lk rfl,lkI (by omega),trivial⟩,rfl⟩,h2',by omega⟩
  have ev:u.arrays.take i=u.arrays:=List.take_of_length_le (by omega)
  refine loopR (ι:=Nat) (fun i=>[(1,.ptr 0 0),(5,.ptr 1 0),(59,.g (.sl 4 (u.funcs.map Fun.g))),(60,.g (.int ((u.funcs.map Fun.g).length:Int))),(61,.g (.int (i:Int)))]) (fun i=>[.blk u.d 26,.blk [.ptr 1 0,.row 2] 44,.row ((hdS u++u.vars.flatMap vaS++u.arrays.flatMap arS++(u.funcs.take i).flatMap fuS).map byG) 5 1]) (fun i=>i≤u.funcs.length) (fun i=>u.funcs.length - i)
   ⟨0,[.old 0,.old 1,.old 2],⟨rfl,.inr ⟨⟨rfl,.inl rfl⟩,⟨rfl,.inl rfl⟩,⟨by rw[ev];simp,rfl,rfl⟩,trivial⟩,.inr ⟨lk rfl,lk rfl,lk rfl,lk rfl,lk rfl,trivial⟩,rfl⟩,Nat.zero_le _⟩ ?_
  clear ev t1
  intro Rf hRf i hi
  have t1:=flat_take fuS u.funcs i
  refine ⟨fun h1'=>?_,fun h1'=>?_⟩
  ·have h2':i < u.funcs.length:=by omega
   have es:=flat_snoc fuS h2'
   have t2:=flat_take fuS u.funcs (i+1)
   have ll:=congrArg List.length es
   rw[List.length_append] at ll
   have hfE:=h4 _ (List.getElem_mem h2')
   obtain ⟨i1,i2,i3⟩:=funE_inv hfE
   have hv8:=id_len i1
   have hp4:=funE_pars hfE
   have hj:=join_len (b:=8) u.funcs[i].params (fun s hs=>id_len (i2 s hs))
   have hj2:u.funcs[i].params.length*(8+2)≤4*(8+2):=Nat.mul_le_mul_right _ hp4
   have hJ:=Join_any (L:=L) u.funcs[i].params [44,32] (by omega) (by omega)
   obtain ⟨_,_,hb96,hbI⟩:=hfI _ (List.getElem_mem h2')
   have hB:=blockText_any (L:=L) 12 0 (by omega) u.funcs[i].body i3 hbI hb96
   have hg:=fuG2 h2'
   cases ho:u.funcs[i].isOpen with
   | true =>
    have ea:fuS u.funcs[i]=[111,112,101,110,32]++u.funcs[i].name++[40]++Lib.join u.funcs[i].params [44,32]++[41,32]++blS 12 0 u.funcs[i].body++[10]:=by unfold fuS;rw[ho];simp
    rw[ea] at es ll
    simp only[List.length_append,List.length_cons,List.length_nil] at ll
    rw[ho] at hg
    refine ⟨i,_,rfl,hg,?_⟩
    refine ⟨some 9999,[11],rfl,?_⟩
    refine ⟨by simp only[List.length_cons,List.length_nil];omega,?_⟩
    refine ⟨by simp only[List.length_append,List.length_cons,List.length_nil];omega,?_⟩
    refine ⟨_,_,.inl rfl,hJ,rfl,?_⟩
    refine ⟨by simp only[List.length_append,List.length_cons,List.length_nil];omega,?_⟩
    refine ⟨by simp only[List.length_append,List.length_cons,List.length_nil];omega,?_⟩
    refine callO [1,2] wstr_fn rfl rfl ⟨rfl,.inl rfl,.inl rfl,rfl⟩ (WriteString_any (L:=L) (.ptr 0 0) (.inr rfl) (hdS u++u.vars.flatMap vaS++u.arrays.flatMap arS++(u.funcs.take i).flatMap fuS) ([111,112,101,110,32]++u.funcs[i].name++[40]++Lib.join u.funcs[i].params [44,32]++[41,32]) (by simp only[List.length_append,List.length_cons,List.length_nil];omega)) (fun d' h' hq=>?_) (fun d' h' hq=>by cases hq)
    injection hq with q1 q2;subst q1;subst q2
    have hB1:=hB ((hdS u++u.vars.flatMap vaS++u.arrays.flatMap arS++(u.funcs.take i).flatMap fuS)++([111,112,101,110,32]++u.funcs[i].name++[40]++Lib.join u.funcs[i].params [44,32]++[41,32])) (by simp only[List.length_append,List.length_cons,List.length_nil];omega)
    refine callO [1,5] btxt_fn rfl rfl ⟨rfl,.inl rfl,.inl rfl,rfl⟩ hB1 (fun d' h' hq=>?_) (fun d' h' hq=>by cases hq)
    injection hq with q1 q2;subst q1;subst q2
    refine callO [1,6] wstr_fn rfl rfl ⟨rfl,.inl rfl,.inl rfl,rfl⟩ (WriteString_any (L:=L) (.ptr 0 0) (.inr rfl) ((hdS u++u.vars.flatMap vaS++u.arrays.flatMap arS++(u.funcs.take i).flatMap fuS)++([111,112,101,110,32]++u.funcs[i].name++[40]++Lib.join u.funcs[i].params [44,32]++[41,32])++blS 12 0 u.funcs[i].body) [10] (by simp only[List.length_append,List.length_cons,List.length_nil];omega)) (fun d' h' hq=>?_) (fun d' h' hq=>by cases hq)
    injection hq with q1 q2;subst q1;subst q2
    refine ⟨_,I64.wrap (by unfold I64;omega),?_⟩
    exact hRf _ _ _ ⟨i+1,[.old 0,.old 1,.old 8],⟨rfl,.inr ⟨⟨rfl,.inl rfl⟩,⟨rfl,.inl rfl⟩,⟨by rw[es];simp,rfl,rfl⟩,trivial⟩,.inr ⟨lk rfl,lk rfl,lk rfl,lk rfl,lkI (by omega),trivial⟩,rfl⟩,h2',by omega⟩
   | false =>
    have ea:fuS u.funcs[i]=[102,117,110,99,32]++u.funcs[i].name++[40]++Lib.join u.funcs[i].params [44,32]++[41,32]++blS 12 0 u.funcs[i].body++[10]:=by unfold fuS;rw[ho];simp
    rw[ea] at es ll
    simp only[List.length_append,List.length_cons,List.length_nil] at ll
    rw[ho] at hg
    refine ⟨i,_,rfl,hg,?_⟩
    refine ⟨some 9999,[11],rfl,?_⟩
    refine ⟨by simp only[List.length_cons,List.length_nil];omega,?_⟩
    refine ⟨by simp only[List.length_append,List.length_cons,List.length_nil];omega,?_⟩
    refine ⟨_,_,.inl rfl,hJ,rfl,?_⟩
    refine ⟨by simp only[List.length_append,List.length_cons,List.length_nil];omega,?_⟩
    refine ⟨by simp only[List.length_append,List.length_cons,List.length_nil];omega,?_⟩
    refine callO [1,2] wstr_fn rfl rfl ⟨rfl,.inl rfl,.inl rfl,rfl⟩ (WriteString_any (L:=L) (.ptr 0 0) (.inr rfl) (hdS u++u.vars.flatMap vaS++u.arrays.flatMap arS++(u.funcs.take i).flatMap fuS) ([102,117,110,99,32]++u.funcs[i].name++[40]++Lib.join u.funcs[i].params [44,32]++[41,32]) (by simp only[List.length_append,List.length_cons,List.length_nil];omega)) (fun d' h' hq=>?_) (fun d' h' hq=>by cases hq)
    injection hq with q1 q2;subst q1;subst q2
    have hB1:=hB ((hdS u++u.vars.flatMap vaS++u.arrays.flatMap arS++(u.funcs.take i).flatMap fuS)++([102,117,110,99,32]++u.funcs[i].name++[40]++Lib.join u.funcs[i].params [44,32]++[41,32])) (by simp only[List.length_append,List.length_cons,List.length_nil];omega)
    refine callO [1,5] btxt_fn rfl rfl ⟨rfl,.inl rfl,.inl rfl,rfl⟩ hB1 (fun d' h' hq=>?_) (fun d' h' hq=>by cases hq)
    injection hq with q1 q2;subst q1;subst q2
    refine callO [1,6] wstr_fn rfl rfl ⟨rfl,.inl rfl,.inl rfl,rfl⟩ (WriteString_any (L:=L) (.ptr 0 0) (.inr rfl) ((hdS u++u.vars.flatMap vaS++u.arrays.flatMap arS++(u.funcs.take i).flatMap fuS)++([102,117,110,99,32]++u.funcs[i].name++[40]++Lib.join u.funcs[i].params [44,32]++[41,32])++blS 12 0 u.funcs[i].body) [10] (by simp only[List.length_append,List.length_cons,List.length_nil];omega)) (fun d' h' hq=>?_) (fun d' h' hq=>by cases hq)
    injection hq with q1 q2;subst q1;subst q2
    refine ⟨_,I64.wrap (by unfold I64;omega),?_⟩
    exact hRf _ _ _ ⟨i+1,[.old 0,.old 1,.old 8],⟨rfl,.inr ⟨⟨rfl,.inl rfl⟩,⟨rfl,.inl rfl⟩,⟨by rw[es];simp,rfl,rfl⟩,trivial⟩,.inr ⟨lk rfl,lk rfl,lk rfl,lk rfl,lkI (by omega),trivial⟩,rfl⟩,h2',by omega⟩
  ·have ev:u.funcs.take i=u.funcs:=List.take_of_length_le (by omega)
   have eS:hdS u++u.vars.flatMap vaS++u.arrays.flatMap arS++(u.funcs.take i).flatMap fuS=unS u:=by rw[ev];unfold unS;simp
   have hT:=String_any (L:=L) (hdS u++u.vars.flatMap vaS++u.arrays.flatMap arS++(u.funcs.take i).flatMap fuS) (by simp)
   refine callO [1,2] str_fn rfl rfl ⟨rfl,.inl rfl,.inl rfl,rfl⟩ hT (fun d' h' hq=>?_) (fun d' h' hq=>by cases hq)
   injection hq with q1 q2
   rw[eS] at q1
   subst q1;subst q2
   exact ⟨rfl,retIs (.inl rfl)⟩
 ·have e:shR u=[]:=by unfold shR;rw[if_neg hE]
  rw[e]
  generalize unitE u=ue at *
  refine enter hT hF hM Tryd.func6 rfl 88 rfl (by kernel_rfl) [.tmp 2,.tmp 3] rfl [.agg u.d] rfl _ ?_
  refine callIs (.inl rfl) hK ?_
  refine ⟨fun _=>?_,fun h=>absurd h hE⟩
  exact ⟨rfl,retIs (.inl rfl)⟩
set_option maxRecDepth 20000 in
set_option maxHeartbeats 4000000 in
theorem UnitText_any {L:Lv} (u:Barb.Unit) (hu:u.I) (hN:unitE u=0→manyN u.funcs≤300):CT Tryd.prog (gl L) 7 [.agg u.d] (Is (.tuple [.g (.str (shR u)),.g (.int (unitE u))])):=by
 have hK:=UnitFault_any (L:=L) u hu
 by_cases hE:unitE u=0
 ·have hlen:=un_len hE (hN hE)
  obtain ⟨h1,h2,h3,h4⟩:=unitE_inv hE
  obtain ⟨k1,k2,k3,_⟩:=unitE_ok hE
  obtain ⟨_,_,_,_,hfI,_⟩:=hu
  have hnm:=id_len h1
  have lv:(u.vars.map strG).length=u.vars.length:=List.length_map _
  have la:(u.arrays.map Arr.g).length=u.arrays.length:=List.length_map _
  have lf:(u.funcs.map Fun.g).length=u.funcs.length:=List.length_map _
  have e:shR u=unS u:=by unfold shR;rw[if_pos hE]
  rw[e,hE]
  rw[hE] at hK
  have hl1:=hlen
  unfold unS at hl1
  simp only[List.length_append,List.length_cons,List.length_nil] at hl1
  clear e hN
  refine enter hT hF hM Tryd.func7 rfl 111 rfl (by kernel_rfl) [.tmp 2,.tmp 3] rfl [.agg u.d] rfl _ ?_
  refine callIs (.inl rfl) hK ?_
  refine ⟨fun h=>absurd rfl h,fun _=>?_⟩
  refine ⟨by simp only[List.length_cons,List.length_nil];omega,?_⟩
  refine ⟨by simp only[List.length_append,List.length_cons,List.length_nil];omega,?_⟩
  refine loopR (ι:=Nat) (fun i=>[(1,.ptr 0 0),(5,.g (.str (hdS u++(u.vars.take i).flatMap vaS))),(6,.g (.int (i:Int)))]) (fun _=>[.blk u.d 26]) (fun i=>i≤u.vars.length) (fun i=>u.vars.length - i)
   ⟨0,[.old 0],⟨rfl,.inl rfl,.inr ⟨lk rfl,lkS (by simp),lk rfl,trivial⟩,rfl⟩,Nat.zero_le _⟩ ?_
  intro Rv hRv i hi
  have t1:=flat_take vaS u.vars i
  refine ⟨fun h1'=>?_,fun h1'=>?_⟩
  ·have h2':i < u.vars.length:=by omega
   have es:=flat_snoc vaS h2'
   have hv8:=id_len (h2 _ (List.getElem_mem h2'))
   refine ⟨by simp only[List.length_append,List.length_cons,List.length_nil];omega,?_⟩
   refine ⟨i,_,rfl,gm h2',?_⟩
   refine ⟨by simp only[List.length_append,List.length_cons,List.length_nil];omega,?_⟩
   refine ⟨by simp only[List.length_append,List.length_cons,List.length_nil];omega,?_⟩
   refine ⟨_,I64.wrap (by unfold I64;omega),?_⟩
   exact hRv _ _ _ ⟨i+1,[.old 0],⟨rfl,.inl rfl,.inr ⟨lk rfl,lkS (by rw[es];simp[vaS]),lkI (by omega),trivial⟩,rfl⟩,h2',by omega⟩
  have ev:u.vars.take i=u.vars:=List.take_of_length_le (by omega)
  refine loopR (ι:=Nat) (fun i=>[(1,.ptr 0 0),(5,.g (.str (hdS u++u.vars.flatMap vaS++(u.arrays.take i).flatMap arS))),(7,.g (.int (i:Int)))]) (fun _=>[.blk u.d 26]) (fun i=>i≤u.arrays.length) (fun i=>u.arrays.length - i)
   ⟨0,[.old 0],⟨rfl,.inl rfl,.inr ⟨lk rfl,lkS (by rw[ev];simp),lk rfl,trivial⟩,rfl⟩,Nat.zero_le _⟩ ?_
  clear ev t1
  intro Ra hRa i hi
  have t1:=flat_take arS u.arrays i
  refine ⟨fun h1'=>?_,fun h1'=>?_⟩
  ·have h2':i < u.arrays.length:=by omega
   have es:=flat_snoc arS h2'
   obtain ⟨i1,i2,i3⟩:=arrE_inv (h3 _ (List.getElem_mem h2'))
   have hv8:=id_len i1
   obtain ⟨sz,hsz⟩:∃ sz:Nat,u.arrays[i].size=(sz:Int):=⟨u.arrays[i].size.toNat,(Int.toNat_of_nonneg (by omega)).symm⟩
   have hd6:=dec_len (n:=sz) (by omega)
   have hIt:=dec_any (L:=L) sz (by omega)
   rw[← hsz] at hIt
   have ea:arS u.arrays[i]=[97,114,114,97,121,32]++u.arrays[i].name++[32]++Lib.decDigits sz++[10]:=by unfold arS;rw[hsz];simp
   rw[ea] at es
   refine ⟨none,rfl,?_⟩
   refine ⟨by simp only[List.length_append,List.length_cons,List.length_nil];omega,?_⟩
   refine ⟨i,_,rfl,arG2 h2',?_⟩
   refine ⟨by simp only[List.length_append,List.length_cons,List.length_nil];omega,?_⟩
   refine ⟨by simp only[List.length_append,List.length_cons,List.length_nil];omega,?_⟩
   refine ⟨i,_,rfl,arG2 h2',?_⟩
   refine ⟨_,_,.inl rfl,hIt,rfl,?_⟩
   refine ⟨by simp only[List.length_append,List.length_cons,List.length_nil];omega,?_⟩
   refine ⟨by simp only[List.length_append,List.length_cons,List.length_nil];omega,?_⟩
   refine ⟨_,I64.wrap (by unfold I64;omega),?_⟩
   exact hRa _ _ _ ⟨i+1,[.old 0],⟨rfl,.inl rfl,.inr ⟨lk rfl,lkS (by rw[es];simp),lkI (by omega),trivial⟩,rfl⟩,h2',by omega⟩
  have ev:u.arrays.take i=u.arrays:=List.take_of_length_le (by omega)
  refine loopR (ι:=Nat) (fun i=>[(1,.ptr 0 0),(5,.g (.str (hdS u++u.vars.flatMap vaS++u.arrays.flatMap arS++(u.funcs.take i).flatMap fuS))),(8,.g (.int (i:Int)))]) (fun _=>[.blk u.d 26]) (fun i=>i≤u.funcs.length) (fun i=>u.funcs.length - i)
   ⟨0,[.old 0],⟨rfl,.inl rfl,.inr ⟨lk rfl,lkS (by rw[ev];simp),lk rfl,trivial⟩,rfl⟩,Nat.zero_le _⟩ ?_
  clear ev t1
  intro Rf hRf i hi
  have t1:=flat_take fuS u.funcs i
  refine ⟨fun h1'=>?_,fun h1'=>?_⟩
  ·have h2':i < u.funcs.length:=by omega
   have es:=flat_snoc fuS h2'
   have t2:=flat_take fuS u.funcs (i+1)
   have ll:=congrArg List.length es
   rw[List.length_append] at ll
   have hfE:=h4 _ (List.getElem_mem h2')
   obtain ⟨i1,i2,i3⟩:=funE_inv hfE
   have hv8:=id_len i1
   have hp4:=funE_pars hfE
   have hjt:=fun j=>join_len (b:=8) (u.funcs[i].params.take j) (fun s hs=>id_len (i2 s (List.mem_of_mem_take hs)))
   obtain ⟨_,_,hb96,hbI⟩:=hfI _ (List.getElem_mem h2')
   have lp:(u.funcs[i].params.map strG).length=u.funcs[i].params.length:=List.length_map _
   have hg:=fuG2 h2'
   cases ho:u.funcs[i].isOpen with
   | true =>
    have ea:fuS u.funcs[i]=[111,112,101,110,32]++u.funcs[i].name++[40]++Lib.join u.funcs[i].params [44,32]++[41,32]++blS 12 0 u.funcs[i].body++[10]:=by unfold fuS;rw[ho];simp
    rw[ea] at es ll
    simp only[List.length_append,List.length_cons,List.length_nil] at ll
    have hB:=blockShown_any (L:=L) 12 0 (by omega) u.funcs[i].body i3 hb96 hbI (by omega)
    rw[ho] at hg
    obtain ⟨F,hF⟩:∃ F,u.funcs[i]=F:=⟨_,rfl⟩
    rw[hF] at hg es ll hB hjt lp hp4 hv8
    refine ⟨i,_,rfl,hg,?_⟩
    refine ⟨by simp only[List.length_append,List.length_cons,List.length_nil];omega,?_⟩
    refine ⟨by simp only[List.length_append,List.length_cons,List.length_nil];omega,?_⟩
    refine ⟨by simp only[List.length_append,List.length_cons,List.length_nil];omega,?_⟩
    refine loopR (ι:=Nat) (fun j=>[(1,.ptr 0 0),(8,.g (.int (i:Int))),(9,.ptr 1 0),(5,.g (.str ((hdS u++u.vars.flatMap vaS++u.arrays.flatMap arS++(u.funcs.take i).flatMap fuS)++[111,112,101,110,32]++F.name++[40]++Lib.join (F.params.take j) [44,32]))),(10,.g (.int (j:Int)))]) (fun _=>[.blk u.d 26,.blk [.g (.str F.name),.g (.bool true),.g (.sl 1 (F.params.map strG)),.g (.sl 5 (F.body.map Stmt.g))] 54]) (fun j=>j≤F.params.length) (fun j=>F.params.length - j)
     ⟨0,[.old 0,.old 1],⟨rfl,.inl rfl,.inr ⟨lk rfl,lk rfl,lk rfl,lkS (by simp[Lib.join]),lk rfl,trivial⟩,rfl⟩,Nat.zero_le _⟩ ?_
    intro Rp hRp j hj
    have hjj:=hjt j
    have hjl:(F.params.take j).length*(8+2)≤4*(8+2):=Nat.mul_le_mul_right _ (by rw[List.length_take];omega)
    refine ⟨fun c1=>?_,fun c1=>?_⟩
    ·have j2:j < F.params.length:=by omega
     have hp8:=id_len (i2 F.params[j] (by rw[hF];exact List.getElem_mem j2))
     have ej:=join_snoc (F.params.take j) F.params[j]
     rw[← take_one j2] at ej
     refine ⟨fun h0=>?_,fun h0=>?_⟩
     ·have hne:¬F.params.take j=[]:=fun e=>by
       have:=congrArg List.length e
       rw[List.length_take] at this
       have this:min j F.params.length=0:=this
       omega
      rw[if_neg hne] at ej
      refine ⟨by simp only[List.length_append,List.length_cons,List.length_nil];omega,?_⟩
      refine ⟨j,_,rfl,gm j2,?_⟩
      refine ⟨by simp only[List.length_append,List.length_cons,List.length_nil];omega,?_⟩
      refine ⟨_,I64.wrap (by unfold I64;omega),?_⟩
      exact hRp _ _ _ ⟨j+1,[.old 0,.old 1],⟨rfl,.inl rfl,.inr ⟨lk rfl,lk rfl,lk rfl,lkS (by rw[ej];simp),lkI (by omega),trivial⟩,rfl⟩,j2,by omega⟩
     ·have hz:j=0:=by omega
      subst hz
      rw[if_pos (by simp)] at ej
      refine ⟨0,_,rfl,gm j2,?_⟩
      refine ⟨by simp only[List.length_append,List.length_cons,List.length_nil];omega,?_⟩
      refine ⟨_,I64.wrap (by unfold I64;omega),?_⟩
      exact hRp _ _ _ ⟨0+1,[.old 0,.old 1],⟨rfl,.inl rfl,.inr ⟨lk rfl,lk rfl,lk rfl,lkS (by rw[ej];simp),lkI (by omega),trivial⟩,rfl⟩,j2,by omega⟩
    ·have ep:F.params.take j=F.params:=List.take_of_length_le (by omega)
     refine ⟨by simp only[List.length_append,List.length_cons,List.length_nil];omega,?_⟩
     refine callIs (.inl rfl) hB ?_
     refine ⟨by simp only[List.length_append,List.length_cons,List.length_nil];omega,?_⟩
     refine ⟨by simp only[List.length_append,List.length_cons,List.length_nil];omega,?_⟩
     refine ⟨_,I64.wrap (by unfold I64;omega),?_⟩
     exact hRf _ _ _ ⟨i+1,[.old 0],⟨rfl,.inl rfl,.inr ⟨lk rfl,lkS (by rw[es,ep];simp),lkI (by omega),trivial⟩,rfl⟩,h2',by omega⟩
   | false =>
    have ea:fuS u.funcs[i]=[102,117,110,99,32]++u.funcs[i].name++[40]++Lib.join u.funcs[i].params [44,32]++[41,32]++blS 12 0 u.funcs[i].body++[10]:=by unfold fuS;rw[ho];simp
    rw[ea] at es ll
    simp only[List.length_append,List.length_cons,List.length_nil] at ll
    have hB:=blockShown_any (L:=L) 12 0 (by omega) u.funcs[i].body i3 hb96 hbI (by omega)
    rw[ho] at hg
    obtain ⟨F,hF⟩:∃ F,u.funcs[i]=F:=⟨_,rfl⟩
    rw[hF] at hg es ll hB hjt lp hp4 hv8
    refine ⟨i,_,rfl,hg,?_⟩
    refine ⟨by simp only[List.length_append,List.length_cons,List.length_nil];omega,?_⟩
    refine ⟨by simp only[List.length_append,List.length_cons,List.length_nil];omega,?_⟩
    refine ⟨by simp only[List.length_append,List.length_cons,List.length_nil];omega,?_⟩
    refine loopR (ι:=Nat) (fun j=>[(1,.ptr 0 0),(8,.g (.int (i:Int))),(9,.ptr 1 0),(5,.g (.str ((hdS u++u.vars.flatMap vaS++u.arrays.flatMap arS++(u.funcs.take i).flatMap fuS)++[102,117,110,99,32]++F.name++[40]++Lib.join (F.params.take j) [44,32]))),(10,.g (.int (j:Int)))]) (fun _=>[.blk u.d 26,.blk [.g (.str F.name),.g (.bool false),.g (.sl 1 (F.params.map strG)),.g (.sl 5 (F.body.map Stmt.g))] 54]) (fun j=>j≤F.params.length) (fun j=>F.params.length - j)
     ⟨0,[.old 0,.old 1],⟨rfl,.inl rfl,.inr ⟨lk rfl,lk rfl,lk rfl,lkS (by simp[Lib.join]),lk rfl,trivial⟩,rfl⟩,Nat.zero_le _⟩ ?_
    intro Rp hRp j hj
    have hjj:=hjt j
    have hjl:(F.params.take j).length*(8+2)≤4*(8+2):=Nat.mul_le_mul_right _ (by rw[List.length_take];omega)
    refine ⟨fun c1=>?_,fun c1=>?_⟩
    ·have j2:j < F.params.length:=by omega
     have hp8:=id_len (i2 F.params[j] (by rw[hF];exact List.getElem_mem j2))
     have ej:=join_snoc (F.params.take j) F.params[j]
     rw[← take_one j2] at ej
     refine ⟨fun h0=>?_,fun h0=>?_⟩
     ·have hne:¬F.params.take j=[]:=fun e=>by
       have:=congrArg List.length e
       rw[List.length_take] at this
       have this:min j F.params.length=0:=this
       omega
      rw[if_neg hne] at ej
      refine ⟨by simp only[List.length_append,List.length_cons,List.length_nil];omega,?_⟩
      refine ⟨j,_,rfl,gm j2,?_⟩
      refine ⟨by simp only[List.length_append,List.length_cons,List.length_nil];omega,?_⟩
      refine ⟨_,I64.wrap (by unfold I64;omega),?_⟩
      exact hRp _ _ _ ⟨j+1,[.old 0,.old 1],⟨rfl,.inl rfl,.inr ⟨lk rfl,lk rfl,lk rfl,lkS (by rw[ej];simp),lkI (by omega),trivial⟩,rfl⟩,j2,by omega⟩
     ·have hz:j=0:=by omega
      subst hz
      rw[if_pos (by simp)] at ej
      refine ⟨0,_,rfl,gm j2,?_⟩
      refine ⟨by simp only[List.length_append,List.length_cons,List.length_nil];omega,?_⟩
      refine ⟨_,I64.wrap (by unfold I64;omega),?_⟩
      exact hRp _ _ _ ⟨0+1,[.old 0,.old 1],⟨rfl,.inl rfl,.inr ⟨lk rfl,lk rfl,lk rfl,lkS (by rw[ej];simp),lkI (by omega),trivial⟩,rfl⟩,j2,by omega⟩
    ·have ep:F.params.take j=F.params:=List.take_of_length_le (by omega)
     refine ⟨by simp only[List.length_append,List.length_cons,List.length_nil];omega,?_⟩
     refine callIs (.inl rfl) hB ?_
     refine ⟨by simp only[List.length_append,List.length_cons,List.length_nil];omega,?_⟩
     refine ⟨by simp only[List.length_append,List.length_cons,List.length_nil];omega,?_⟩
     refine ⟨_,I64.wrap (by unfold I64;omega),?_⟩
     exact hRf _ _ _ ⟨i+1,[.old 0],⟨rfl,.inl rfl,.inr ⟨lk rfl,lkS (by rw[es,ep];simp),lkI (by omega),trivial⟩,rfl⟩,h2',by omega⟩
  ·have ev:u.funcs.take i=u.funcs:=List.take_of_length_le (by omega)
   have eS:unS u=hdS u++u.vars.flatMap vaS++u.arrays.flatMap arS++(u.funcs.take i).flatMap fuS:=by rw[ev];unfold unS;simp
   rw[eS]
   exact ⟨rfl,retIs (.inl rfl)⟩
 ·have e:shR u=[]:=by unfold shR;rw[if_neg hE]
  rw[e]
  generalize unitE u=ue at *
  refine enter hT hF hM Tryd.func7 rfl 111 rfl (by kernel_rfl) [.tmp 2,.tmp 3] rfl [.agg u.d] rfl _ ?_
  refine callIs (.inl rfl) hK ?_
  refine ⟨fun _=>?_,fun h=>absurd h hE⟩
  exact ⟨rfl,retIs (.inl rfl)⟩
end Go.Proofs.YtabjelabdojpkaaDoor
