/-
  tree's reader: lists of expressions, and expressions: the contracts.
-/
import Derived.Test.YtabjelabdojpkaaGreatDoorRx
namespace Go.Proofs.YtabjelabdojpkaaGreatDoor
open Go Go.Dm Go.Eng Go.RowKit Barb
variable {L:Lv}
def RdOk (l:List Tok):Prop:=l.length≤3000∧∀ t∈l,t.text.length≤3000
theorem RdOk.step {l l':List Tok} (h:RdOk l) (hs:l'.length≤l.length) (hm:∀ t∈l',t∈l):RdOk l':=⟨Nat.le_trans hs h.1,fun t ht=>h.2 t (hm t ht)⟩
theorem RdOk.take {s:Str} {l l':List Tok} (h:RdOk l) (ht:takeP s l=some l'):RdOk l':=h.step (by have:=(take_some ht).2;omega) (take_mem ht)
theorem RdOk.next {α:Type} {p:List Tok→PR α} (hs:Shr p) (hm:Cl p) {l l':List Tok} {a:α} (h:RdOk l) (e:p l=.ok a l'):RdOk l':=h.step (Nat.le_of_lt (hs _ _ _ e)) (hm _ _ _ e)
theorem RdOk.text {l:List Tok} (h:RdOk l):(textP l).length≤3000:=by
 cases l with
 | nil=>simp[textP]
 | cons t l=>exact h.2 t List.mem_cons_self
theorem RdOk.tail {l:List Tok} (h:RdOk l):RdOk l.tail:=h.step (by simp) (fun _ ht=>List.mem_of_mem_tail ht)
abbrev exD:Barb.Expr→D:=fun x=>.agg x.d
abbrev exsD:List Barb.Expr→D:=fun xs=>.g (.sl 5 (xs.map Expr.g))
def ExC (L:Lv) (f:Nat) (k:Int):Prop:=∀ l,RdOk l→CTH Tryz.prog (gl L) 91 1 (RH l k) [.ptr 0 0] (rdQ exD k (exprP f l))
theorem expr_fn:fnOk Tryz.prog 91=true:=by kernel_rfl
theorem list_fn:fnOk Tryz.prog 104=true:=by kernel_rfl
set_option maxRecDepth 20000 in
theorem list_any {f:Nat} {k:Int} (hE:ExC L f k) (l:List Tok) (hl:RdOk l):CTH Tryz.prog (gl L) 104 1 (RH l k) [.ptr 0 0] (rdQ exsD k (listP (exprP f) l)):=by
 suffices H:∀ r,listP (exprP f) l=r→CTH Tryz.prog (gl L) 104 1 (RH l k) [.ptr 0 0] (rdQ exsD k r) from H _ rfl
 intro r hr
 have hl1:=hl.1
 have hTk:=take_any (L:=L) l k [41] (by omega)
 unfold listP at hr
 cases ht:takeP [41] l with
 | some l1 =>
  rw[ht] at hTk hr
  have hr:r=.ok [] l1:=hr.symm
  refine enterH [] hT hF hM Tryz.func104 rfl 19 rfl (by kernel_rfl) [.tmp 2] rfl [.ptr 0 0] rfl (RH l k) [0] rfl rfl rfl 1 [] trivial _ ?_
  refine callO [0] take_fn rfl rfl ⟨rfl,.inl rfl,.inl rfl,rfl⟩ hTk (fun d' h' hq=>?_) (fun d' h' hq=>by cases hq)
  injection hq with e1 e2;subst e1;subst e2
  exact ⟨rfl,endRH (exsD []) l1 k [.old 0] rfl rfl rfl (.inr lkNil) rfl rfl rfl (by rw[hr];rfl)⟩
 | none =>
  rw[ht] at hTk hr
  have hEl:=hE l hl
  refine enterH [] hT hF hM Tryz.func104 rfl 19 rfl (by kernel_rfl) [.tmp 2] rfl [.ptr 0 0] rfl (RH l k) [0] rfl rfl rfl 1 [] trivial _ ?_
  refine callO [0] take_fn rfl rfl ⟨rfl,.inl rfl,.inl rfl,rfl⟩ hTk (fun d' h' hq=>?_) (fun d' h' hq=>by cases hq)
  injection hq with e1 e2;subst e1;subst e2
  refine callO [0] expr_fn rfl rfl ⟨rfl,.inl rfl,.inl rfl,rfl⟩ hEl (fun d' h' hq=>?_) (fun d' h' hq=>?_)
  rotate_left
  ·obtain ⟨e,l',k',he,hk',rfl,rfl⟩:=rdQ_pan hq
   have hr:r=.bad e:=by rw[← hr,he];rfl
   exact ⟨rfl,endRH (panV e) l' k' [.old 0] rfl rfl rfl (.inl rfl) rfl rfl rfl (by rw[hr];exact ⟨l',k',hk',rfl⟩)⟩
  obtain ⟨x,l1,he,rfl,rfl⟩:=rdQ_ret hq
  rw[he] at hr
  have hr:moreP (exprP f) (l1.length+1) [x] l1=r:=hr
  have ho1:=hl.next (expr_shr f) (expr_mem f) he
  refine ⟨[[.int x.k,.int x.n,.str x.of,.str x.s,.sl 5 (x.args.map Expr.g)]],rfl,rfl,⟨rfl,rfl,rfl,rfl,rfl,trivial⟩,?_⟩
  refine loopR (ι:=List Barb.Expr × List Tok) (fun i=>[(0,.ptr 0 0),(3,.row 1)]) (fun i=>[.blk (RB i.2 k) 60,.row (i.1.map Expr.g) 94 5]) (fun i=>RdOk i.2∧i.1.length+i.2.length≤3001∧moreP (exprP f) (i.2.length+1) i.1 i.2=r) (fun i=>i.2.length)
   ⟨([x],l1),[.old 0,.old 1],⟨rfl,.inr ⟨⟨rfl,.inl rfl⟩,⟨by rw[List.map_cons,List.map_nil,Expr.g_eq],rfl,rfl⟩,trivial⟩,.inr ⟨lk rfl,lk rfl,trivial⟩,rfl⟩,ho1,by have:=ho1.1;simp;omega,hr⟩ ?_
  rintro Rd hRd ⟨acc,m⟩ ⟨hm,hn,hr⟩
  have hm:RdOk m:=hm
  have hn:acc.length+m.length≤3001:=hn
  have hm1:=hm.1
  have hr:moreP (exprP f) (m.length+1) acc m=r:=hr
  have hTk2:=take_any (L:=L) m k [44] (by omega)
  simp only[moreP] at hr
  cases ht2:takeP [44] m with
  | none =>
   rw[ht2] at hTk2 hr
   have hr:(mustP [41] m).then (fun _ l1=>PR.ok acc l1)=r:=hr
   have hMu:=must_any (L:=L) m k [41] (by omega)
   refine callO [0] take_fn rfl rfl ⟨rfl,.inl rfl,.inl rfl,rfl⟩ hTk2 (fun d' h' hq=>?_) (fun d' h' hq=>by cases hq)
   injection hq with e1 e2;subst e1;subst e2
   refine callO [0] must_fn rfl rfl ⟨rfl,.inl rfl,.inl rfl,rfl⟩ hMu (fun d' h' hq=>?_) (fun d' h' hq=>?_)
   ·obtain ⟨_,l2,he,rfl,rfl⟩:=rdQ_ret hq
    have hr:r=.ok acc l2:=by rw[← hr,he];rfl
    exact ⟨rfl,endRH (exsD acc) l2 k [.old 0] rfl rfl rfl (.inl rfl) rfl rfl rfl (by rw[hr];rfl)⟩
   ·obtain ⟨e,l',k',he,hk',rfl,rfl⟩:=rdQ_pan hq
    have hr:r=.bad e:=by rw[← hr,he];rfl
    exact ⟨rfl,endRH (panV e) l' k' [.old 0] rfl rfl rfl (.inl rfl) rfl rfl rfl (by rw[hr];exact ⟨l',k',hk',rfl⟩)⟩
  | some m1 =>
   rw[ht2] at hTk2 hr
   have hr:(exprP f m1).then (fun b l2=>moreP (exprP f) m.length (acc++[b]) l2)=r:=hr
   have hom:=hm.take ht2
   have hlm:=(take_some ht2).2
   have hE2:=hE m1 hom
   refine callO [0] take_fn rfl rfl ⟨rfl,.inl rfl,.inl rfl,rfl⟩ hTk2 (fun d' h' hq=>?_) (fun d' h' hq=>by cases hq)
   injection hq with e1 e2;subst e1;subst e2
   refine callO [0] expr_fn rfl rfl ⟨rfl,.inl rfl,.inl rfl,rfl⟩ hE2 (fun d' h' hq=>?_) (fun d' h' hq=>?_)
   rotate_left
   ·obtain ⟨e,l',k',he,hk',rfl,rfl⟩:=rdQ_pan hq
    have hr:r=.bad e:=by rw[← hr,he];rfl
    exact ⟨rfl,endRH (panV e) l' k' [.old 0] rfl rfl rfl (.inl rfl) rfl rfl rfl (by rw[hr];exact ⟨l',k',hk',rfl⟩)⟩
   obtain ⟨y,m2,he,rfl,rfl⟩:=rdQ_ret hq
   have hs2:=expr_shr f _ _ _ he
   rw[he] at hr
   have hr:moreP (exprP f) (m2.length+1) (acc++[y]) m2=r:=by rw[← hr];exact more_far (expr_shr f) _ _ _ _ (by omega) (by omega)
   have ho2:=hom.next (expr_shr f) (expr_mem f) he
   refine ⟨[[.int y.k,.int y.n,.str y.of,.str y.s,.sl 5 (y.args.map Expr.g)]],rfl,rfl,⟨rfl,rfl,rfl,rfl,rfl,trivial⟩,?_⟩
   refine ⟨⟨by simp only[maxLen,List.length_cons,List.length_nil,List.length_map];omega,by simp only[List.length_cons,List.length_nil,List.length_map];omega⟩,?_⟩
   exact hRd _ _ _ ⟨(acc++[y],m2),[.old 0,.old 3],⟨rfl,.inr ⟨⟨rfl,.inl rfl⟩,⟨by rw[List.map_append,List.map_cons,List.map_nil,Expr.g_eq],rfl,rfl⟩,trivial⟩,.inr ⟨lk rfl,lk rfl,trivial⟩,rfl⟩,⟨ho2,by simp;omega,hr⟩,by show m2.length < m.length;omega⟩
end Go.Proofs.YtabjelabdojpkaaGreatDoor
