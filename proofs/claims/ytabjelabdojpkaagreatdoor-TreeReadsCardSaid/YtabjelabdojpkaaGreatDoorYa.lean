/-
  The eye that reads tokens: what its small methods do: the contracts.
-/
import Derived.Test.YtabjelabdojpkaaGreatDoorRe
namespace Go.Proofs.YtabjelabdojpkaaGreatDoor
open Go Go.Dm Go.Eng Go.RowKit Barb
abbrev EB (T:List Tok) (i:Nat) (e k:Int):List D:=[.g (.sl 2 (T.map Tok.g)),.g (.int (i:Int)),.g (.int e),.g (.int k)]
abbrev EH (T:List Tok) (i:Nat) (e k:Int):Heap:=[.blk (EB T i e k) 39]
theorem endEH {R:D→Heap→Prop} {env:Dm.Env} {h hin:Heap} {rows:List (List GV)} {n e' k':Int} {d0:D} (d:D) (T:List Tok) (i:Nat) (e k:Int) (src:List Src) (hok:srcOk src=true) (hlen:nrOk src (EH T i e k)=true)
  (h0:conv h src 4 (env 0)=.ptr 0 0) (hd:conv h src 4 d0=d∨Like (newN src) 4 (conv h src 4 d0) d) (hTn:turnH h src=[.blk [.g (.sl 2 rows),.g (.int n),.g (.int e'),.g (.int k')] 39]) (e1:rows=T.map Tok.g) (e2:n=(i:Int)) (e3:e'=e) (e4:k'=k) (q:R d (EH T i e k)):ToH [0] hin 1 [] R h env d0:=by
 subst e1;subst e2;subst e3;subst e4
 refine ⟨src,d,EH T i e' k',⟨hok,.inr ?_,.inr ?_,hlen⟩,rfl,trivial,q⟩
 ·rw[hTn]
  exact ⟨⟨rfl,.inl rfl⟩,trivial⟩
 ·rw[List.map_cons,List.map_cons,List.map_cons,h0]
  exact ⟨by rcases hd with hd | hd;exact lk hd;exact hd,lk rfl,trivial⟩
def go {α:Type} (T:List Tok) (p:List Tok→PR α) (i:Nat) (e:Int):PR α:=if e=0 then p (T.drop i) else .bad e
def EyR {α:Type} (T:List Tok) (i0:Nat) (r:PR α) (a:α) (i:Nat) (e:Int):Prop:=(i0≤i∧i≤T.length)∧((e=0∧r=.ok a (T.drop i))∨(e≠0∧r=.bad e))
def eyQ {α:Type} (enc:α→D) (T:List Tok) (k:Int) (i0:Nat) (r:PR α):Out→Prop:=fun out=>∃ a i e,EyR T i0 r a i e∧out=.ret (enc a) (EH T i e k)
theorem EyR.then {α β:Type} {T:List Tok} {i0 i:Nat} {r:PR α} {a:α} {e:Int} (h:EyR T i0 r a i e) (K:α→List Tok→PR β):r.then K=go T (K a) i e:=by
 unfold go
 rcases h.2 with ⟨rfl,rfl⟩ | ⟨h1,rfl⟩
 ·rw[if_pos rfl];rfl
 ·rw[if_neg h1];rfl
theorem go_then {α β:Type} (T:List Tok) (p:List Tok→PR α) (K:α→List Tok→PR β) (i:Nat) (e:Int):go T (fun l=>(p l).then K) i e=(go T p i e).then K:=by
 unfold go
 split<;>rfl
theorem EyR.ok {α:Type} {T:List Tok} {i0 i:Nat} {e:Int} {v:α} (h1:i0≤i) (h2:i≤T.length):EyR T i0 (go T (fun l=>.ok v l) i e) v i e:=by
 refine ⟨⟨h1,h2⟩,?_⟩
 unfold go
 by_cases h:e=0
 ·exact .inl ⟨h,by rw[if_pos h]⟩
 ·exact .inr ⟨h,by rw[if_neg h]⟩
theorem EyR.bad {α:Type} {T:List Tok} {i0 i:Nat} {e:Int} {v:α} (h1:i0≤i) (h2:i≤T.length) (he:e≠0):EyR T i0 (.bad e) v i e:=⟨⟨h1,h2⟩,.inr ⟨he,rfl⟩⟩
theorem EyR.to {α:Type} {T:List Tok} {i0 i1 i:Nat} {r r':PR α} {a:α} {e:Int} (h:EyR T i1 r a i e) (hi:i0≤i1) (hr:r=r'):EyR T i0 r' a i e:=⟨⟨Nat.le_trans hi h.1.1,h.1.2⟩,hr▸h.2⟩
abbrev EyC (P:Program) (G:Gl) {α:Type} (g:FuncId) (ar:List D) (enc:α→D) (T:List Tok) (k:Int) (p:List Tok→PR α):Prop:=∀ i e,i≤T.length→CTH P G g 1 (EH T i e k) (.ptr 0 0 :: ar) (eyQ enc T k i (go T p i e))
theorem ey_ret {α:Type} {enc:α→D} {T:List Tok} {k:Int} {i0:Nat} {r:PR α} {d:D} {h:Heap} (hq:eyQ enc T k i0 r (.ret d h)):∃ a i e,EyR T i0 r a i e∧d=enc a∧h=EH T i e k:=by
 obtain ⟨a,i,e,h1,h2⟩:=hq
 injection h2 with h2 h3
 exact ⟨a,i,e,h1,h2,h3⟩
theorem ey_pan {α:Type} {enc:α→D} {T:List Tok} {k:Int} {i0:Nat} {r:PR α} {d:D} {h:Heap} (hq:eyQ enc T k i0 r (.panH d h)):False:=by
 obtain ⟨a,i,e,h1,h2⟩:=hq
 cases h2
theorem bad_fn:fnOk Tryz.prog 33=true:=by kernel_rfl
theorem sees_fn:fnOk Tryz.prog 13=true:=by kernel_rfl
theorem wants_fn:fnOk Tryz.prog 11=true:=by kernel_rfl
theorem one_fn:fnOk Tryz.prog 34=true:=by kernel_rfl
theorem ident_fn:fnOk Tryz.prog 12=true:=by kernel_rfl
theorem num_fn:fnOk Tryz.prog 14=true:=by kernel_rfl
theorem down_fn:fnOk Tryz.prog 55=true:=by kernel_rfl
def badN (e c:Int):Int:=if e=0 then c else e
theorem bad_any {L:Lv} (T:List Tok) (i:Nat) (e k c:Int):CTH Tryz.prog (gl L) 33 1 (EH T i e k) [.ptr 0 0,.g (.int c)] (fun out=>out=.ret (.tuple []) (EH T i (badN e c) k)):=by
 by_cases he:e=0
 ·have e1:badN e c=c:=by unfold badN;rw[if_pos he]
  rw[e1]
  refine enterH [] hT hF hM Tryz.func33 rfl 13 rfl (by kernel_rfl) [] rfl [.ptr 0 0,.g (.int c)] rfl (EH T i e k) [0] rfl rfl rfl 1 [] trivial _ ?_
  refine ⟨fun _=>?_,fun h=>absurd he h⟩
  exact ⟨rfl,endEH (.tuple []) T i c k [.old 0] rfl rfl rfl (.inl rfl) rfl rfl rfl rfl rfl rfl⟩
 ·have e1:badN e c=e:=by unfold badN;rw[if_neg he]
  rw[e1]
  refine enterH [] hT hF hM Tryz.func33 rfl 13 rfl (by kernel_rfl) [] rfl [.ptr 0 0,.g (.int c)] rfl (EH T i e k) [0] rfl rfl rfl 1 [] trivial _ ?_
  refine ⟨fun h=>absurd h he,fun _=>?_⟩
  exact ⟨rfl,endEH (.tuple []) T i e k [.old 0] rfl rfl rfl (.inl rfl) rfl rfl rfl rfl rfl rfl⟩
noncomputable def seesB (T:List Tok) (i:Nat) (e:Int) (s:Str):Bool:=decide (e=0) && (takeP s (T.drop i)).isSome
theorem sees_yes {T:List Tok} {i:Nat} {e:Int} {s:Str} (h:seesB T i e s=true):e=0∧i+1≤T.length∧takeP s (T.drop i)=some (T.drop (i+1)):=by
 unfold seesB at h
 rw[Bool.and_eq_true] at h
 obtain ⟨h1,h2⟩:=h
 obtain ⟨l,hl⟩:=Option.isSome_iff_exists.1 h2
 have h3:=take_some hl
 have hi:i < T.length:=by
  have:=h3.2
  rw[List.length_drop] at this
  omega
 refine ⟨of_decide_eq_true h1,hi,?_⟩
 rw[hl,h3.1,List.tail_drop]
theorem sees_no {T:List Tok} {i:Nat} {e:Int} {s:Str} (h:seesB T i e s=false):e=0→takeP s (T.drop i)=none:=fun he=>by
 unfold seesB at h
 rw[he] at h
 simpa using h
theorem go0 {α:Type} (T:List Tok) (p:List Tok→PR α) (i:Nat):go T p i 0=p (T.drop i):=by unfold go;rw[if_pos rfl]
theorem goE {α:Type} {T:List Tok} (p:List Tok→PR α) (i:Nat) {e:Int} (h:e≠0):go T p i e=.bad e:=by unfold go;rw[if_neg h]
theorem go_congr {α:Type} {T:List Tok} {p q:List Tok→PR α} {i:Nat} {e:Int} (h:e=0→p (T.drop i)=q (T.drop i)):go T p i e=go T q i e:=by
 unfold go
 split
 ·rename_i he;exact h he
 ·rfl
theorem sees_any {L:Lv} (T:List Tok) (hTl:T.length≤3000) (i:Nat) (hi:i≤T.length) (e k:Int) (s:Str):CTH Tryz.prog (gl L) 13 1 (EH T i e k) [.ptr 0 0,.g (.str s)] (fun out=>out=.ret (.g (.bool (seesB T i e s))) (EH T (if seesB T i e s=true then i+1 else i) e k)):=by
 have lT:(T.map Tok.g).length=T.length:=by simp
 suffices H:∀ b,seesB T i e s=b→CTH Tryz.prog (gl L) 13 1 (EH T i e k) [.ptr 0 0,.g (.str s)] (fun out=>out=.ret (.g (.bool b)) (EH T (if b=true then i+1 else i) e k)) from H _ rfl
 intro b hb
 by_cases he:e=0
 ·by_cases hl:i < T.length
  ·have hd:T.drop i=T[i] :: T.drop (i+1):=List.drop_eq_getElem_cons hl
   have hg:(T.map Tok.g)[i]?=some T[i].g:=by rw[List.getElem?_map,List.getElem?_eq_getElem hl];rfl
   by_cases ht:T[i].text=s
   ·have eb:b=true:=by rw[← hb];unfold seesB;rw[hd,take_yes ht];simp[he]
    rw[eb,if_pos rfl]
    refine enterH [] hT hF hM Tryz.func13 rfl 44 rfl (by kernel_rfl) [.tmp 4] rfl [.ptr 0 0,.g (.str s)] rfl (EH T i e k) [0] rfl rfl rfl 1 [] trivial _ ?_
    refine ⟨none,rfl,?_⟩
    refine ⟨fun h=>absurd he h,fun _=>?_⟩
    refine ⟨fun h=>absurd h (by omega),fun _=>?_⟩
    refine ⟨i,_,rfl,hg,?_⟩
    refine ⟨fun h=>absurd ht h,fun _=>?_⟩
    refine ⟨_,I64.wrap (by unfold I64;omega),?_⟩
    exact ⟨rfl,endEH (.g (.bool true)) T (i+1) e k [.old 0] rfl rfl rfl (.inl rfl) rfl rfl (by omega) rfl rfl rfl⟩
   ·have eb:b=false:=by rw[← hb];unfold seesB;rw[hd,take_no ht];simp
    rw[eb,if_neg (by decide)]
    refine enterH [] hT hF hM Tryz.func13 rfl 44 rfl (by kernel_rfl) [.tmp 4] rfl [.ptr 0 0,.g (.str s)] rfl (EH T i e k) [0] rfl rfl rfl 1 [] trivial _ ?_
    refine ⟨none,rfl,?_⟩
    refine ⟨fun h=>absurd he h,fun _=>?_⟩
    refine ⟨fun h=>absurd h (by omega),fun _=>?_⟩
    refine ⟨i,_,rfl,hg,?_⟩
    refine ⟨fun _=>?_,fun h=>absurd h ht⟩
    exact ⟨rfl,endEH (.g (.bool false)) T i e k [.old 0] rfl rfl rfl (.inl rfl) rfl rfl rfl rfl rfl rfl⟩
  ·have eb:b=false:=by rw[← hb];unfold seesB;rw[List.drop_eq_nil_of_le (by omega),take_nil];simp
   rw[eb,if_neg (by decide)]
   refine enterH [] hT hF hM Tryz.func13 rfl 44 rfl (by kernel_rfl) [.tmp 4] rfl [.ptr 0 0,.g (.str s)] rfl (EH T i e k) [0] rfl rfl rfl 1 [] trivial _ ?_
   refine ⟨none,rfl,?_⟩
   refine ⟨fun h=>absurd he h,fun _=>?_⟩
   refine ⟨fun _=>?_,fun h=>absurd (show (i:Int) ≥ ((T.map Tok.g).length:Int) by omega) h⟩
   exact ⟨rfl,endEH (.g (.bool false)) T i e k [.old 0] rfl rfl rfl (.inl rfl) rfl rfl rfl rfl rfl rfl⟩
 ·have eb:b=false:=by rw[← hb];unfold seesB;simp[he]
  rw[eb,if_neg (by decide)]
  refine enterH [] hT hF hM Tryz.func13 rfl 44 rfl (by kernel_rfl) [.tmp 4] rfl [.ptr 0 0,.g (.str s)] rfl (EH T i e k) [0] rfl rfl rfl 1 [] trivial _ ?_
  refine ⟨none,rfl,?_⟩
  refine ⟨fun _=>?_,fun h=>absurd h he⟩
  exact ⟨rfl,endEH (.g (.bool false)) T i e k [.old 0] rfl rfl rfl (.inl rfl) rfl rfl rfl rfl rfl rfl⟩
def oneT (T:List Tok) (i:Nat) (e:Int):Tok:=if e=0 then headP (T.drop i) else ⟨0,[]⟩
def oneN (T:List Tok) (i:Nat) (e:Int):Nat:=if e=0∧i < T.length then i+1 else i
theorem oneN_le {T:List Tok} {i:Nat} {e:Int} (h:i≤T.length):i≤oneN T i e∧oneN T i e≤T.length:=by unfold oneN;split<;>omega
theorem oneN_drop {T:List Tok} {i:Nat}:(T.drop i).tail=T.drop (oneN T i 0):=by
 unfold oneN
 rw[List.tail_drop]
 by_cases h:i < T.length
 ·rw[if_pos ⟨rfl,h⟩]
 ·rw[if_neg (fun hc=>h hc.2),List.drop_eq_nil_of_le (by omega),List.drop_eq_nil_of_le (by omega)]
theorem one_any {L:Lv} (T:List Tok) (hTl:T.length≤3000) (i:Nat) (hi:i≤T.length) (e k:Int):CTH Tryz.prog (gl L) 34 1 (EH T i e k) [.ptr 0 0] (fun out=>out=.ret (.agg (tokD (oneT T i e))) (EH T (oneN T i e) e k)):=by
 have lT:(T.map Tok.g).length=T.length:=by simp
 suffices H:∀ t n,oneT T i e=t→oneN T i e=n→CTH Tryz.prog (gl L) 34 1 (EH T i e k) [.ptr 0 0] (fun out=>out=.ret (.agg (tokD t)) (EH T n e k)) from H _ _ rfl rfl
 intro t n ht hn
 by_cases he:e=0
 ·by_cases hl:i < T.length
  ·have hd:T.drop i=T[i] :: T.drop (i+1):=List.drop_eq_getElem_cons hl
   have hg:(T.map Tok.g)[i]?=some T[i].g:=by rw[List.getElem?_map,List.getElem?_eq_getElem hl];rfl
   have et:t=T[i]:=by rw[← ht];unfold oneT;rw[if_pos he,hd];rfl
   have en:n=i+1:=by rw[← hn];unfold oneN;rw[if_pos ⟨he,hl⟩]
   rw[et,en]
   refine enterH [] hT hF hM Tryz.func34 rfl 39 rfl (by kernel_rfl) [.cell 2 52] rfl [.ptr 0 0] rfl (EH T i e k) [0] rfl rfl rfl 1 [] trivial _ ?_
   refine ⟨none,rfl,?_⟩
   refine ⟨fun h=>absurd he h,fun _=>?_⟩
   refine ⟨fun h=>absurd h (by omega),fun _=>?_⟩
   refine ⟨_,I64.wrap (by unfold I64;omega),?_⟩
   refine ⟨none,rfl,?_⟩
   refine ⟨by unfold I64;omega,?_⟩
   refine ⟨i,_,(show D.g (GV.int ((i:Int)+1 - 1))=D.g (GV.int (i:Int)) from by rw[Int.add_sub_cancel]),hg,?_⟩
   exact ⟨rfl,endEH (.agg (tokD T[i])) T (i+1) e k [.old 0] rfl rfl rfl (.inl rfl) rfl rfl (by omega) rfl rfl rfl⟩
  ·have et:t=⟨0,[]⟩:=by rw[← ht];unfold oneT;rw[if_pos he,List.drop_eq_nil_of_le (by omega)];rfl
   have en:n=i:=by rw[← hn];unfold oneN;rw[if_neg (fun hc=>hl hc.2)]
   rw[et,en]
   refine enterH [] hT hF hM Tryz.func34 rfl 39 rfl (by kernel_rfl) [.cell 2 52] rfl [.ptr 0 0] rfl (EH T i e k) [0] rfl rfl rfl 1 [] trivial _ ?_
   refine ⟨none,rfl,?_⟩
   refine ⟨fun h=>absurd he h,fun _=>?_⟩
   refine ⟨fun _=>?_,fun h=>absurd (show (i:Int) ≥ ((T.map Tok.g).length:Int) by omega) h⟩
   exact ⟨rfl,endEH (.agg (tokD ⟨0,[]⟩)) T i e k [.old 0] rfl rfl rfl (.inl rfl) rfl rfl rfl rfl rfl rfl⟩
 ·have et:t=⟨0,[]⟩:=by rw[← ht];unfold oneT;rw[if_neg he]
  have en:n=i:=by rw[← hn];unfold oneN;rw[if_neg (fun hc=>he hc.1)]
  rw[et,en]
  refine enterH [] hT hF hM Tryz.func34 rfl 39 rfl (by kernel_rfl) [.cell 2 52] rfl [.ptr 0 0] rfl (EH T i e k) [0] rfl rfl rfl 1 [] trivial _ ?_
  refine ⟨none,rfl,?_⟩
  refine ⟨fun _=>?_,fun h=>absurd h he⟩
  exact ⟨rfl,endEH (.agg (tokD ⟨0,[]⟩)) T i e k [.old 0] rfl rfl rfl (.inl rfl) rfl rfl rfl rfl rfl rfl⟩

theorem badN_ne {e c:Int} (hc:c≠0):badN e c≠0:=by unfold badN;split<;>assumption
theorem badN_0 (c:Int):badN 0 c=c:=rfl
theorem badN_e {e:Int} (h:e≠0) (c:Int):badN e c=e:=by unfold badN;rw[if_neg h]
theorem wants_any {L:Lv} (T:List Tok) (hTl:T.length≤3000) (k:Int) (s:Str):EyC Tryz.prog (gl L) 11 [.g (.str s)] voidD T k (mustP s):=by
 intro i e hi
 have hS:=sees_any (L:=L) T hTl i hi e k s
 cases hb:seesB T i e s with
 | true =>
  rw[hb,if_pos rfl] at hS
  obtain ⟨he,hl,ht⟩:=sees_yes hb
  refine enterH [] hT hF hM Tryz.func11 rfl 10 rfl (by kernel_rfl) [] rfl [.ptr 0 0,.g (.str s)] rfl (EH T i e k) [0] rfl rfl rfl 1 [] trivial _ ?_
  refine callO [0] sees_fn rfl rfl ⟨rfl,.inl rfl,.inl rfl,rfl⟩ hS (fun d' h' hq=>?_) (fun d' h' hq=>by cases hq)
  injection hq with e1 e2;subst e1;subst e2
  exact ⟨rfl,endEH (.tuple []) T (i+1) e k [.old 0] rfl rfl rfl (.inl rfl) rfl rfl rfl rfl rfl ⟨⟨⟩,i+1,e,⟨⟨by omega,hl⟩,.inl ⟨he,by rw[he,go0];unfold mustP;rw[ht]⟩⟩,rfl⟩⟩
 | false =>
  rw[hb,if_neg (by decide)] at hS
  have hn:=sees_no hb
  have hB:=bad_any (L:=L) T i e k 4
  refine enterH [] hT hF hM Tryz.func11 rfl 10 rfl (by kernel_rfl) [] rfl [.ptr 0 0,.g (.str s)] rfl (EH T i e k) [0] rfl rfl rfl 1 [] trivial _ ?_
  refine callO [0] sees_fn rfl rfl ⟨rfl,.inl rfl,.inl rfl,rfl⟩ hS (fun d' h' hq=>?_) (fun d' h' hq=>by cases hq)
  injection hq with e1 e2;subst e1;subst e2
  refine callO [0] bad_fn rfl rfl ⟨rfl,.inl rfl,.inl rfl,rfl⟩ hB (fun d' h' hq=>?_) (fun d' h' hq=>by cases hq)
  injection hq with e1 e2;subst e1;subst e2
  exact ⟨rfl,endEH (.tuple []) T i (badN e 4) k [.old 0] rfl rfl rfl (.inl rfl) rfl rfl rfl rfl rfl ⟨⟨⟩,i,badN e 4,⟨⟨by omega,hi⟩,.inr ⟨badN_ne (by decide),by
   by_cases he:e=0
   ·rw[he,go0,badN_0];unfold mustP;rw[hn he]
   ·rw[goE _ _ he,badN_e he]⟩⟩,rfl⟩⟩
theorem ident_any {L:Lv} (T:List Tok) (hTl:RdOk T) (k:Int):EyC Tryz.prog (gl L) 12 [] (fun s:Str=>.g (.str s)) T k nameP:=by
 intro i e hi
 have hO:=one_any (L:=L) T hTl.1 i hi e k
 have hn:=oneN_le (e:=e) hi
 have hlen:(oneT T i e).text.length≤3000:=by
  unfold oneT
  split
  ·exact (hTl.step (l':=T.drop i) (by rw[List.length_drop];omega) (fun t ht=>List.mem_of_mem_drop ht)).text
  ·simp
 have hNM:=NameMay_any (L:=L) (oneT T i e).text (by omega)
 have hB:=bad_any (L:=L) T (oneN T i e) e k 4
 have key:(e=0∧identP (oneT T i e).text→go T nameP i e=.ok (oneT T i e).text (T.drop (oneN T i e)))∧(¬(e=0∧identP (oneT T i e).text)→go T nameP i e=.bad (badN e 4)):=by
  by_cases he:e=0
  ·subst he
   rw[go0]
   unfold nameP
   have e1:(oneT T i 0).text=textP (T.drop i):=by unfold oneT;rw[if_pos rfl];rfl
   rw[e1]
   refine ⟨fun h=>by rw[if_pos h.2,oneN_drop],fun h=>by rw[if_neg (fun hc=>h ⟨rfl,hc⟩)];rfl⟩
  ·exact ⟨fun h=>absurd h.1 he,fun _=>by rw[goE _ _ he,badN_e he]⟩
 have noid:e≠0→¬identP (oneT T i e).text:=fun he=>by
  unfold oneT
  rw[if_neg he]
  exact ident_nil
 generalize hr:go T nameP i e=r at key
 generalize oneN T i e=n at *
 generalize oneT T i e=t at *
 refine enterH [] hT hF hM Tryz.func12 rfl 14 rfl (by kernel_rfl) [.tmp 2] rfl [.ptr 0 0] rfl (EH T i e k) [0] rfl rfl rfl 1 [] trivial _ ?_
 refine callO [0] one_fn rfl rfl ⟨rfl,.inl rfl,.inl rfl,rfl⟩ hO (fun d' h' hq=>?_) (fun d' h' hq=>by cases hq)
 injection hq with e1 e2;subst e1;subst e2
 refine callIs (.inl rfl) hNM ?_
 refine ⟨fun hi'=>?_,fun hi'=>?_⟩
 ·refine callO [0] bad_fn rfl rfl ⟨rfl,.inl rfl,.inl rfl,rfl⟩ hB (fun d' h' hq=>?_) (fun d' h' hq=>by cases hq)
  injection hq with e1 e2;subst e1;subst e2
  exact ⟨rfl,endEH (.g (.str t.text)) T n (badN e 4) k [.old 0] rfl rfl rfl (.inl rfl) rfl rfl rfl rfl rfl ⟨t.text,n,badN e 4,⟨hn,.inr ⟨badN_ne (by decide),key.2 (fun hc=>hi' hc.2)⟩⟩,rfl⟩⟩
 ·have he:e=0:=Classical.not_not.1 (fun he=>noid he hi')
  exact ⟨rfl,endEH (.g (.str t.text)) T n e k [.old 0] rfl rfl rfl (.inl rfl) rfl rfl rfl rfl rfl ⟨t.text,n,e,⟨hn,.inl ⟨he,key.1 ⟨he,hi'⟩⟩⟩,rfl⟩⟩
theorem num_any {L:Lv} (T:List Tok) (hTl:RdOk T) (k:Int):EyC Tryz.prog (gl L) 14 [] (fun n:Int=>.g (.int n)) T k numP:=by
 intro i e hi
 have hO:=one_any (L:=L) T hTl.1 i hi e k
 have hn:=oneN_le (e:=e) hi
 have hlen:(oneT T i e).text.length≤3000:=by
  unfold oneT
  split
  ·exact (hTl.step (l':=T.drop i) (by rw[List.length_drop];omega) (fun t ht=>List.mem_of_mem_drop ht)).text
  ·simp
 have hNM:=NumberOf_any (L:=L) (oneT T i e).text (by omega)
 have hB:=bad_any (L:=L) T (oneN T i e) e k 4
 have key:(e=0∧(oneT T i e).kind=2→go T numP i e=.ok (numR (oneT T i e).text) (T.drop (oneN T i e)))∧(¬(e=0∧(oneT T i e).kind=2)→go T numP i e=.bad (badN e 4)):=by
  by_cases he:e=0
  ·subst he
   rw[go0]
   unfold numP
   have e1:oneT T i 0=headP (T.drop i):=by unfold oneT;rw[if_pos rfl]
   rw[e1]
   refine ⟨fun h=>by rw[if_pos (show kindP (T.drop i)=2 from h.2),oneN_drop];rfl,fun h=>by rw[if_neg (fun hc:kindP (T.drop i)=2=>h ⟨rfl,hc⟩)];rfl⟩
  ·exact ⟨fun h=>absurd h.1 he,fun _=>by rw[goE _ _ he,badN_e he]⟩
 have noid:e≠0→¬(oneT T i e).kind=2:=fun he=>by
  unfold oneT
  rw[if_neg he]
  decide
 generalize hr:go T numP i e=r at key
 generalize oneN T i e=n at *
 generalize oneT T i e=t at *
 refine enterH [] hT hF hM Tryz.func14 rfl 20 rfl (by kernel_rfl) [.tmp 2] rfl [.ptr 0 0] rfl (EH T i e k) [0] rfl rfl rfl 1 [] trivial _ ?_
 refine callO [0] one_fn rfl rfl ⟨rfl,.inl rfl,.inl rfl,rfl⟩ hO (fun d' h' hq=>?_) (fun d' h' hq=>by cases hq)
 injection hq with e1 e2;subst e1;subst e2
 refine ⟨fun hi'=>?_,fun hi'=>?_⟩
 ·refine callO [0] bad_fn rfl rfl ⟨rfl,.inl rfl,.inl rfl,rfl⟩ hB (fun d' h' hq=>?_) (fun d' h' hq=>by cases hq)
  injection hq with e1 e2;subst e1;subst e2
  refine callIs (.inl rfl) hNM ?_
  exact ⟨rfl,endEH (.g (.int (numR t.text))) T n (badN e 4) k [.old 0] rfl rfl rfl (.inl rfl) rfl rfl rfl rfl rfl ⟨numR t.text,n,badN e 4,⟨hn,.inr ⟨badN_ne (by decide),key.2 (fun hc=>hi' hc.2)⟩⟩,rfl⟩⟩
 ·have he:e=0:=Classical.not_not.1 (fun he=>noid he hi')
  refine callIs (.inl rfl) hNM ?_
  exact ⟨rfl,endEH (.g (.int (numR t.text))) T n e k [.old 0] rfl rfl rfl (.inl rfl) rfl rfl rfl rfl rfl ⟨numR t.text,n,e,⟨hn,.inl ⟨he,key.1 ⟨he,hi'⟩⟩⟩,rfl⟩⟩
theorem down_any {L:Lv} (T:List Tok) (i:Nat) (e k:Int) (hk:0≤k∧k≤100):CTH Tryz.prog (gl L) 55 1 (EH T i e k) [.ptr 0 0] (fun out=>out=.ret (.tuple []) (EH T i (if k+1 > 48 then badN e 1 else e) (k+1))):=by
 have hB:=bad_any (L:=L) T i e (k+1) 1
 by_cases h:k+1 > 48
 ·rw[if_pos h]
  refine enterH [] hT hF hM Tryz.func55 rfl 16 rfl (by kernel_rfl) [] rfl [.ptr 0 0] rfl (EH T i e k) [0] rfl rfl rfl 1 [] trivial _ ?_
  refine ⟨_,I64.wrap (by unfold I64;omega),?_⟩
  refine ⟨fun _=>?_,fun h'=>absurd h h'⟩
  refine callO [0] bad_fn rfl rfl ⟨rfl,.inl rfl,.inl rfl,rfl⟩ hB (fun d' h' hq=>?_) (fun d' h' hq=>by cases hq)
  injection hq with e1 e2;subst e1;subst e2
  exact ⟨rfl,endEH (.tuple []) T i (badN e 1) (k+1) [.old 0] rfl rfl rfl (.inl rfl) rfl rfl rfl rfl rfl rfl⟩
 ·rw[if_neg h]
  refine enterH [] hT hF hM Tryz.func55 rfl 16 rfl (by kernel_rfl) [] rfl [.ptr 0 0] rfl (EH T i e k) [0] rfl rfl rfl 1 [] trivial _ ?_
  refine ⟨_,I64.wrap (by unfold I64;omega),?_⟩
  refine ⟨fun h'=>absurd h' h,fun _=>?_⟩
  exact ⟨rfl,endEH (.tuple []) T i e (k+1) [.old 0] rfl rfl rfl (.inl rfl) rfl rfl rfl rfl rfl rfl⟩
end Go.Proofs.YtabjelabdojpkaaGreatDoor
