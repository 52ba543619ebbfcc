/-
  tree's reader: what its small methods do: the contracts.
-/
import Derived.Test.YtabjelabdojpkaaDoorRp
import Derived.Test.YtabjelabdojpkaaDoorTq
import Derived.Test.YtabjelabdojpkaaDoorGh
namespace Go.Proofs.YtabjelabdojpkaaDoor
open Go Go.Dm Go.Eng Go.RowKit Barb
variable {L:Lv}
abbrev RB (l:List Tok) (k:Int):List D:=[.g (.sl 2 (l.map Tok.g)),.g (.int k)]
abbrev RH (l:List Tok) (k:Int):Heap:=[.blk (RB l k) 93]
theorem endRH {R:D→Heap→Prop} {env:Dm.Env} {h hin:Heap} {rows:List (List GV)} {n:Int} {d0:D} (d:D) (l:List Tok) (k:Int) (src:List Src) (hok:srcOk src=true) (hlen:nrOk src (RH l k)=true)
  (h0:conv h src 4 (env 0)=.ptr 0 0) (hd:conv h src 4 d0=d∨Like (newN src) 4 (conv h src 4 d0) d) (hTn:turnH h src=[.blk [.g (.sl 2 rows),.g (.int n)] 93]) (e1:rows=l.map Tok.g) (e2:n=k) (q:R d (RH l k)):ToH [0] hin 1 [] R h env d0:=by
 subst e1;subst e2
 refine ⟨src,d,RH l n,⟨hok,.inr ?_,.inr ?_,hlen⟩,rfl,trivial,q⟩
 ·rw[hTn]
  exact ⟨⟨rfl,.inl rfl⟩,trivial⟩
 ·rw[List.map_cons,List.map_cons,List.map_cons,h0]
  exact ⟨by rcases hd with hd | hd;exact lk hd;exact hd,lk rfl,trivial⟩
theorem take_yes {s:Str} {t:Tok} {r:List Tok} (h:t.text=s):takeP s (t :: r)=some r:=by
 unfold takeP
 rw[if_pos ⟨by simp,h⟩]
 rfl
theorem take_no {s:Str} {t:Tok} {r:List Tok} (h:¬t.text=s):takeP s (t :: r)=none:=by
 unfold takeP
 rw[if_neg (fun hc=>h hc.2)]
theorem take_nil (s:Str):takeP s []=none:=by
 unfold takeP
 rw[if_neg (fun hc=>hc.1 rfl)]
theorem take_any (l:List Tok) (k:Int) (s:Str) (hl:l.length≤1048576):CTH Tryd.prog (gl L) 67 1 (RH l k) [.ptr 0 0,.g (.str s)] (fun out=>out=.ret (.g (.bool (takeP s l).isSome)) (RH ((takeP s l).getD l) k)):=by
 cases l with
 | nil =>
  rw[take_nil]
  refine enterH [] hT hF hM Tryd.func67 rfl 30 rfl (by kernel_rfl) [.tmp 4] rfl [.ptr 0 0,.g (.str s)] rfl (RH [] k) [0] rfl rfl rfl 1 [] trivial _ ?_
  refine ⟨fun _=>?_,fun h=>absurd rfl h⟩
  exact ⟨rfl,endRH (.g (.bool false)) [] k [.old 0] rfl rfl rfl (.inl rfl) rfl rfl rfl rfl⟩
 | cons t r =>
  have lr:((t :: r).map Tok.g).length=r.length+1:=by simp
  simp only[List.length_cons] at hl
  by_cases ht:t.text=s
  ·rw[take_yes ht]
   refine enterH [] hT hF hM Tryd.func67 rfl 30 rfl (by kernel_rfl) [.tmp 4] rfl [.ptr 0 0,.g (.str s)] rfl (RH (t :: r) k) [0] rfl rfl rfl 1 [] trivial _ ?_
   refine ⟨fun h=>absurd h (by omega),fun _=>?_⟩
   refine ⟨0,_,rfl,rfl,?_⟩
   refine ⟨fun h=>absurd ht h,fun _=>?_⟩
   refine ⟨1,rfl,by omega,?_⟩
   exact ⟨rfl,endRH (.g (.bool true)) r k [.old 0] rfl rfl rfl (.inl rfl) rfl rfl rfl rfl⟩
  ·rw[take_no ht]
   refine enterH [] hT hF hM Tryd.func67 rfl 30 rfl (by kernel_rfl) [.tmp 4] rfl [.ptr 0 0,.g (.str s)] rfl (RH (t :: r) k) [0] rfl rfl rfl 1 [] trivial _ ?_
   refine ⟨fun h=>absurd h (by omega),fun _=>?_⟩
   refine ⟨0,_,rfl,rfl,?_⟩
   refine ⟨fun _=>?_,fun h=>absurd h ht⟩
   exact ⟨rfl,endRH (.g (.bool false)) (t :: r) k [.old 0] rfl rfl rfl (.inl rfl) rfl rfl rfl rfl⟩
def tokD (t:Tok):List D:=[.g (.int t.kind),.g (.str t.text)]
def headP (l:List Tok):Tok:=⟨kindP l,textP l⟩
theorem next_any (l:List Tok) (k:Int) (hl:l.length≤1048576):CTH Tryd.prog (gl L) 82 1 (RH l k) [.ptr 0 0] (fun out=>out=.ret (.agg (tokD (headP l))) (RH l.tail k)):=by
 cases l with
 | nil =>
  refine enterH [] hT hF hM Tryd.func82 rfl 26 rfl (by kernel_rfl) [.cell 2 87] rfl [.ptr 0 0] rfl (RH [] k) [0] rfl rfl rfl 1 [] trivial _ ?_
  refine ⟨fun _=>?_,fun h=>absurd rfl h⟩
  exact ⟨rfl,endRH (.agg (tokD (headP []))) [] k [.old 0] rfl rfl rfl (.inl rfl) rfl rfl rfl rfl⟩
 | cons t r =>
  have lr:((t :: r).map Tok.g).length=r.length+1:=by simp
  simp only[List.length_cons] at hl
  refine enterH [] hT hF hM Tryd.func82 rfl 26 rfl (by kernel_rfl) [.cell 2 87] rfl [.ptr 0 0] rfl (RH (t :: r) k) [0] rfl rfl rfl 1 [] trivial _ ?_
  refine ⟨fun h=>absurd h (by omega),fun _=>?_⟩
  refine ⟨0,_,rfl,rfl,?_⟩
  refine ⟨1,rfl,by omega,?_⟩
  exact ⟨rfl,endRH (.agg (tokD t)) r k [.old 0] rfl rfl rfl (.inl rfl) rfl rfl rfl rfl⟩
end Go.Proofs.YtabjelabdojpkaaDoor
namespace Go.Proofs.YtabjelabdojpkaaDoor
open Go Go.Dm Go.Eng Go.RowKit Barb
variable {L:Lv}
def rdQ {α:Type} (enc:α→D) (k:Int):PR α→Out→Prop
 | .ok a l,out=>out=.ret (enc a) (RH l k)
 | .bad e,out=>∃ l' k',(k≤k'∧k'≤k+1)∧out=.panH (panV e) (RH l' k')
theorem rdQ_ret {α:Type} {enc:α→D} {k:Int} {r:PR α} {d:D} {h:Heap} (hq:rdQ enc k r (.ret d h)):∃ a l,r=.ok a l∧d=enc a∧h=RH l k:=by
 cases r with
 | ok a l=>injection hq with e1 e2;exact ⟨a,l,rfl,e1,e2⟩
 | bad e=>obtain ⟨_,_,_,hq⟩:=hq;cases hq
theorem rdQ_pan {α:Type} {enc:α→D} {k:Int} {r:PR α} {d:D} {h:Heap} (hq:rdQ enc k r (.panH d h)):∃ e l' k',r=.bad e∧(k≤k'∧k'≤k+1)∧d=panV e∧h=RH l' k':=by
 cases r with
 | ok a l=>cases hq
 | bad e=>obtain ⟨l',k',h1,hq⟩:=hq;injection hq with e1 e2;exact ⟨e,l',k',rfl,h1,e1,e2⟩
def voidD:PUnit→D:=fun _=>.tuple []
theorem take_fn:fnOk Tryd.prog 67=true:=by kernel_rfl
theorem next_fn:fnOk Tryd.prog 82=true:=by kernel_rfl
theorem must_fn:fnOk Tryd.prog 65=true:=by kernel_rfl
theorem name_fn:fnOk Tryd.prog 66=true:=by kernel_rfl
theorem number_fn:fnOk Tryd.prog 68=true:=by kernel_rfl
theorem must_any (l:List Tok) (k:Int) (s:Str) (hl:l.length≤1048576):CTH Tryd.prog (gl L) 65 1 (RH l k) [.ptr 0 0,.g (.str s)] (rdQ voidD k (mustP s l)):=by
 have hTk:=take_any (L:=L) l k s hl
 unfold mustP
 cases ht:takeP s l with
 | none =>
  rw[ht] at hTk
  refine enterH [] hT hF hM Tryd.func65 rfl 8 rfl (by kernel_rfl) [] rfl [.ptr 0 0,.g (.str s)] rfl (RH l k) [0] rfl rfl rfl 1 [] trivial _ ?_
  refine callO [0] take_fn rfl rfl ⟨rfl,.inl rfl,.inl rfl,rfl⟩ hTk (fun d' h' hq=>?_) (fun d' h' hq=>by cases hq)
  injection hq with e1 e2;subst e1;subst e2
  refine callNeed (p:=False) (by decide) (lkBP ⟨fun h=>(by cases h),fun h=>h.elim⟩) (fun h=>h.elim) (fun _=>?_)
  exact ⟨rfl,endRH (panV 4) l k [.old 0] rfl rfl rfl (.inl rfl) rfl rfl rfl ⟨l,k,by omega,rfl⟩⟩
 | some l' =>
  rw[ht] at hTk
  refine enterH [] hT hF hM Tryd.func65 rfl 8 rfl (by kernel_rfl) [] rfl [.ptr 0 0,.g (.str s)] rfl (RH l k) [0] rfl rfl rfl 1 [] trivial _ ?_
  refine callO [0] take_fn rfl rfl ⟨rfl,.inl rfl,.inl rfl,rfl⟩ hTk (fun d' h' hq=>?_) (fun d' h' hq=>by cases hq)
  injection hq with e1 e2;subst e1;subst e2
  refine callNeed (p:=True) (by decide) (lkBP ⟨fun _=>trivial,fun _=>rfl⟩) (fun _=>?_) (fun h=>absurd trivial h)
  exact ⟨rfl,endRH (.tuple []) l' k [.old 0] rfl rfl rfl (.inl rfl) rfl rfl rfl rfl⟩
theorem name_any (l:List Tok) (k:Int) (hl:l.length≤1048576) (hs:(textP l).length≤9223372036854775807):CTH Tryd.prog (gl L) 66 1 (RH l k) [.ptr 0 0] (rdQ (fun s=>.g (.str s)) k (nameP l)):=by
 have hTk:=next_any (L:=L) l k hl
 unfold nameP
 by_cases hi:identP (textP l)
 ·rw[if_pos hi]
  refine enterH [] hT hF hM Tryd.func66 rfl 12 rfl (by kernel_rfl) [.tmp 2] rfl [.ptr 0 0] rfl (RH l k) [0] rfl rfl rfl 1 [] trivial _ ?_
  refine callO [0] next_fn rfl rfl ⟨rfl,.inl rfl,.inl rfl,rfl⟩ hTk (fun d' h' hq=>?_) (fun d' h' hq=>by cases hq)
  injection hq with e1 e2;subst e1;subst e2
  refine callIs (.inl rfl) (Ident_any (textP l) hs) ?_
  refine callNeed (p:=identP (textP l)) (by decide) (lkP Iff.rfl) (fun _=>?_) (fun h=>absurd hi h)
  exact ⟨rfl,endRH (.g (.str (textP l))) l.tail k [.old 0] rfl rfl rfl (.inl rfl) rfl rfl rfl rfl⟩
 ·rw[if_neg hi]
  refine enterH [] hT hF hM Tryd.func66 rfl 12 rfl (by kernel_rfl) [.tmp 2] rfl [.ptr 0 0] rfl (RH l k) [0] rfl rfl rfl 1 [] trivial _ ?_
  refine callO [0] next_fn rfl rfl ⟨rfl,.inl rfl,.inl rfl,rfl⟩ hTk (fun d' h' hq=>?_) (fun d' h' hq=>by cases hq)
  injection hq with e1 e2;subst e1;subst e2
  refine callIs (.inl rfl) (Ident_any (textP l) hs) ?_
  refine callNeed (p:=identP (textP l)) (by decide) (lkP Iff.rfl) (fun h=>absurd h hi) (fun _=>?_)
  exact ⟨rfl,endRH (panV 4) l.tail k [.old 0] rfl rfl rfl (.inl rfl) rfl rfl rfl ⟨l.tail,k,by omega,rfl⟩⟩
theorem number_any (l:List Tok) (k:Int) (hl:l.length≤1048576) (hs:(textP l).length≤140737488351232):CTH Tryd.prog (gl L) 68 1 (RH l k) [.ptr 0 0] (rdQ (fun n=>.g (.int n)) k (numP l)):=by
 have hTk:=next_any (L:=L) l k hl
 unfold numP
 by_cases hi:kindP l=2
 ·rw[if_pos hi]
  refine enterH [] hT hF hM Tryd.func68 rfl 19 rfl (by kernel_rfl) [.tmp 2] rfl [.ptr 0 0] rfl (RH l k) [0] rfl rfl rfl 1 [] trivial _ ?_
  refine callO [0] next_fn rfl rfl ⟨rfl,.inl rfl,.inl rfl,rfl⟩ hTk (fun d' h' hq=>?_) (fun d' h' hq=>by cases hq)
  injection hq with e1 e2;subst e1;subst e2
  refine callNeed (p:=kindP l=2) (by decide) (lkP Iff.rfl) (fun _=>?_) (fun h=>absurd hi h)
  refine callIs (.inl rfl) (Number_any (textP l) hs) ?_
  exact ⟨rfl,endRH (.g (.int (numR (textP l)))) l.tail k [.old 0] rfl rfl rfl (.inl rfl) rfl rfl rfl rfl⟩
 ·rw[if_neg hi]
  refine enterH [] hT hF hM Tryd.func68 rfl 19 rfl (by kernel_rfl) [.tmp 2] rfl [.ptr 0 0] rfl (RH l k) [0] rfl rfl rfl 1 [] trivial _ ?_
  refine callO [0] next_fn rfl rfl ⟨rfl,.inl rfl,.inl rfl,rfl⟩ hTk (fun d' h' hq=>?_) (fun d' h' hq=>by cases hq)
  injection hq with e1 e2;subst e1;subst e2
  refine callNeed (p:=kindP l=2) (by decide) (lkP Iff.rfl) (fun h=>absurd h hi) (fun _=>?_)
  exact ⟨rfl,endRH (panV 4) l.tail k [.old 0] rfl rfl rfl (.inl rfl) rfl rfl rfl ⟨l.tail,k,by omega,rfl⟩⟩
end Go.Proofs.YtabjelabdojpkaaDoor
