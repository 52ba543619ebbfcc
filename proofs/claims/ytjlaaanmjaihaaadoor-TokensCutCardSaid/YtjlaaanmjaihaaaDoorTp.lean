/-
  Tokens with blanks and newlines between them are cut as they were: the plain law.
-/
import Derived.Test.YtjlaaanmjaihaaaDoorTl
import Derived.Lib.Join
namespace Go.Proofs.YtjlaaanmjaihaaaDoor
open Go Go.Dm Go.Eng Barb

def endS (tail:Str):Prop:=tail=[]∨∃ r,tail=32 :: r
theorem run_end {tail:Str} (h:endS tail):runS tail=0:=by
 rcases h with rfl | ⟨r,rfl⟩
 ·rfl
 ·rfl
theorem run_take {tail:Str} (h:endS tail):∀ s:Str,runS (s.take (runS s)++tail)=runS s
 | []=>by simpa [runS] using run_end h
 | c :: s=>by
  by_cases hc:chrA c=true
  ·have e:runS (c :: s)=runS s+1:=by simp[runS,hc]
   rw[e,List.take_succ_cons,List.cons_append]
   simp only[runS,hc,if_true]
   rw[run_take h s]
  ·have e:runS (c :: s)=0:=by simp[runS,hc]
   rw[e]
   simpa using run_end h
theorem sign_front (s:Str):signOf s=signOf (s.take 2):=by
 have hp:∀ t∈signL,Lib.hasPrefix s t=Lib.hasPrefix (s.take 2) t:=by
  have h2:∀ t∈signL,t.length≤2:=by decide
  intro t ht
  have:=h2 t ht
  match s,t,this with
  | _,[],_=>simp[Lib.hasPrefix]
  | [],_,_=>rfl
  | [c],_,_=>rfl
  | c :: d :: r,[x],_=>simp[Lib.hasPrefix,List.isPrefixOf]
  | c :: d :: r,[x,y],_=>simp[Lib.hasPrefix,List.isPrefixOf]
 have key:∀ l:List (List UInt8),(∀ t∈l,Lib.hasPrefix s t=Lib.hasPrefix (s.take 2) t)→l.find? (fun t=>Lib.hasPrefix s t)=l.find? (fun t=>Lib.hasPrefix (s.take 2) t):=by
  intro l
  induction l with
  | nil=>intro _;rfl
  | cons t l ih =>
   intro h
   simp only[List.find?_cons]
   rw[h t List.mem_cons_self,ih (fun t ht=>h t (List.mem_cons_of_mem _ ht))]
 unfold signOf
 rw[key signL hp]
theorem sign_again {tail:Str} (h:endS tail):∀ g∈signL,signOf (g++tail)=g∧runS (g++tail)=0∧∃ c r,g++tail=c :: r∧blankA c=false:=by
 intro g hg
 have h1:∀ g∈signL,signOf g=g∧signOf ((g++[32]).take 2)=g:=by decide
 have h2:∀ g∈signL,g.length=1∨g.length=2:=by decide
 have h3:∀ g∈signL,∀ c∈g,chrA c=false∧blankA c=false:=by decide
 have hf:∃ c r,g=c :: r:=by
  cases g with
  | nil=>have:=h2 [] hg;simp at this
  | cons c r=>exact ⟨c,r,rfl⟩
 obtain ⟨c,r,rfl⟩:=hf
 obtain ⟨h4,h5⟩:=h3 _ hg c List.mem_cons_self
 refine ⟨?_,by simp[runS,h4],c,r++tail,rfl,h5⟩
 rcases h with rfl | ⟨u,rfl⟩
 ·rw[List.append_nil];exact (h1 _ hg).1
 ·rw[sign_front]
  have e:((c :: r)++32 :: u).take 2=((c :: r)++[32]).take 2:=by
   cases r with
   | nil=>rfl
   | cons d r=>rfl
  rw[e];exact (h1 _ hg).2
theorem tok_again {s:Str} {t:Tok} (h:tokAt s=some t) {tail:Str} (he:endS tail):tokAt (t.text++tail)=some t∧∃ c r,t.text++tail=c :: r∧blankA c=false:=by
 unfold tokAt at h
 split at h
 ·split at h
  ·cases h
  ·rename_i _ hs
   injection h with h
   subst h
   obtain ⟨a1,a2,a3⟩:=sign_again he _ (sign_in hs).1
   refine ⟨?_,a3⟩
   show tokAt (signOf s++tail)=_
   unfold tokAt
   rw[if_pos a2,a1,if_neg hs]
 ·rename_i hr
  have hr2:=run_take he s
  have hl:(s.take (runS s)).length=runS s:=by have:=run_le s;rw[List.length_take];omega
  have htk:(s.take (runS s)++tail).take (runS s)=s.take (runS s):=List.take_left' hl
  have hd:∃ c r,s.take (runS s)++tail=c :: r∧blankA c=false:=by
   cases s with
   | nil=>exact absurd rfl hr
   | cons c r =>
    by_cases hc:chrA c=true
    ·have e:runS (c :: r)=runS r+1:=by simp[runS,hc]
     refine ⟨c,_,by rw[e,List.take_succ_cons,List.cons_append],?_⟩
     unfold blankA
     refine decide_eq_false ?_
     rintro (rfl | rfl)<;>exact absurd hc (by decide)
    ·exact absurd (by simp[runS,hc]) hr
  have again:∀ k:Int,tokAt s=some ⟨k,s.take (runS s)⟩→tokAt (s.take (runS s)++tail)=some ⟨k,s.take (runS s)⟩:=fun k hk=>by
   unfold tokAt at hk ⊢
   rw[if_neg hr] at hk
   rw[hr2,if_neg hr,htk]
   exact hk
  have h':tokAt s=some t:=by unfold tokAt;rw[if_neg hr];exact h
  split at h
  ·injection h with h
   subst h
   exact ⟨again 2 h',hd⟩
  ·split at h
   ·injection h with h
    subst h
    exact ⟨again 1 h',hd⟩
   ·cases h
def tokS (t:Tok):Prop:=∃ s,tokAt s=some t
theorem cutO_mem:∀ (f:Nat) (s:Str) (l:List Tok),cutO f s=some l→∀ t∈l,tokS t
 | f,[],l,h=>by cases f<;>(injection h with h;subst h;intro t ht;cases ht)
 | 0,c :: s,l,h=>by cases h
 | f+1,c :: s,l,h=>by
  simp only[cutO] at h
  split at h
  ·exact cutO_mem f s l h
  ·split at h
   ·cases h
   ·rename_i t ht
    obtain ⟨m,hm,rfl⟩:=Option.map_eq_some_iff.1 h
    intro u hu
    rcases List.mem_cons.1 hu with rfl | hu
    ·exact ⟨_,ht⟩
    ·exact cutO_mem f _ m hm u hu
theorem cut_front {t:Tok} (h:tokS t) {tail:Str} (he:endS tail):cutF (t.text++tail)=(cutF tail).map (t :: ·):=by
 obtain ⟨s,h⟩:=h
 obtain ⟨h1,c,r,h2,h3⟩:=tok_again h he
 have h4:(c :: r).drop t.text.length=tail:=by rw[← h2];exact List.drop_left' rfl
 rw[h2] at h1 ⊢
 rw[cutF_tok h3 h1,h4]
def wideS (l:List Tok):Str:=Lib.join (l.map Tok.text) [32,10]
theorem cut_wide:∀ l:List Tok,(∀ t∈l,tokS t)→cutF (wideS l)=some l
 | [],_=>rfl
 | [t],h=>by
  have:wideS [t]=t.text++[]:=by rw[List.append_nil];exact Lib.join_one _ _
  rw[this,cut_front (h t List.mem_cons_self) (.inl rfl)]
  rfl
 | t :: u :: l,h=>by
  have e:wideS (t :: u :: l)=t.text++32 :: 10 :: wideS (u :: l):=by
   unfold wideS
   rw[List.map_cons,List.map_cons,Lib.join_cons,Lib.join_cons]
   simp[Lib.joinTail]
  rw[e,cut_front (h t List.mem_cons_self) (.inr ⟨_,rfl⟩),cutF_blank (by decide),cutF_blank (by decide),cut_wide (u :: l) (fun t ht=>h t (List.mem_cons_of_mem _ ht))]
  rfl
theorem wide_law {s:Str} (h:cutE s=0):(3000 < (wideS (cutL s)).length∧cutE (wideS (cutL s))=1)∨(¬3000 < (wideS (cutL s)).length∧cutE (wideS (cutL s))=0∧cutL (wideS (cutL s))=cutL s):=by
 have hs:¬3000 < s.length:=fun hs=>by unfold cutE at h;rw[if_pos hs] at h;cases h
 obtain ⟨l,hl⟩:∃ l,cutF s=some l:=by
  cases hc:cutF s with
  | none=>rw[(cut_no hs hc).1] at h;cases h
  | some l=>exact ⟨l,rfl⟩
 rw[(cut_yes hs hl).2]
 by_cases hw:3000 < (wideS l).length
 ·exact .inl ⟨hw,by unfold cutE;rw[if_pos hw]⟩
 ·exact .inr ⟨hw,cut_yes hw (cut_wide l (cutO_mem _ _ _ hl))⟩
theorem cut_bad {s:Str} (h:cutE s≠0):cutL s=[]:=by
 by_cases hs:3000 < s.length
 ·unfold cutL;rw[if_pos hs]
 ·cases hc:cutF s with
  | none=>exact (cut_no hs hc).2
  | some l=>exact absurd (cut_yes hs hc).1 h
theorem cutO_sum:∀ (f:Nat) (s:Str) (l:List Tok),cutO f s=some l→Lib.lens (l.map Tok.text)≤s.length
 | f,[],l,h=>by cases f<;>(injection h with h;subst h;exact Nat.le_refl _)
 | 0,c :: s,l,h=>by cases h
 | f+1,c :: s,l,h=>by
  simp only[cutO] at h
  split at h
  ·have:=cutO_sum f s l h
   simp only[List.length_cons];omega
  ·split at h
   ·cases h
   ·rename_i t ht
    obtain ⟨m,hm,rfl⟩:=Option.map_eq_some_iff.1 h
    have h1:=cutO_sum f _ m hm
    have h2:=(tok_len ht).2.1
    rw[List.length_drop] at h1
    unfold Lib.lens at h1 ⊢
    simp only[List.map_cons,List.sum_cons]
    omega
theorem wide_len (s:Str):(wideS (cutL s)).length≤140737488355328:=by
 unfold cutL
 by_cases h:3000 < s.length
 ·rw[if_pos h];simp[wideS,Lib.join,List.intercalate]
 ·rw[if_neg h]
  cases hc:cutF s with
  | none=>simp[wideS,Lib.join,List.intercalate]
  | some l =>
   have h1:=cutO_sum _ _ _ hc
   have h2:=cutO_len _ _ _ hc
   simp only[Option.getD_some]
   cases l with
   | nil=>simp[wideS,Lib.join,List.intercalate]
   | cons t l =>
    unfold wideS
    rw[List.map_cons,Lib.join_length]
    rw[List.map_cons] at h1
    simp only[List.length_map,List.length_cons,List.length_nil] at h2 ⊢
    omega
theorem cut_three:cutL [97,32,61,49]=[⟨1,[97]⟩,⟨3,[61]⟩,⟨2,[49]⟩]:=by
 have hn1:numB [49]=true:=(numR_yes (n:=1) (by decide)).2 |> fun h=>by rwa [show Lib.decDigits 1=[49] from decDigits_small (by decide)] at h
 have hn0:numB [97]=false:=(numR_no (fun ⟨n,_,e⟩=>by
  have:=(decDigits_all n).1 97 (by rw[← e];exact List.mem_singleton.2 rfl)
  unfold digP at this
  exact absurd this (by decide))).2
 have hw:wordP [97]:=⟨by decide,fun j hj=>by
  have:j=0:=by simp at hj;exact hj
  subst this
  exact .inl (show lowc 97 from by decide)⟩
 have t1:tokAt [97,32,61,49]=some ⟨1,[97]⟩:=by
  unfold tokAt
  rw[show runS [97,32,61,49]=1 from by decide]
  simp[hn0,hw]
 have t2:tokAt [61,49]=some ⟨3,[61]⟩:=by
  unfold tokAt
  rw[show runS [61,49]=0 from by decide,show signOf [61,49]=[61] from by decide]
  simp
 have t3:tokAt [49]=some ⟨2,[49]⟩:=by
  unfold tokAt
  rw[show runS [49]=1 from by decide]
  simp[hn1]
 have e:cutF [97,32,61,49]=some [⟨1,[97]⟩,⟨3,[61]⟩,⟨2,[49]⟩]:=by
  rw[cutF_tok (by decide) t1]
  show Option.map _ (cutF [32,61,49])=_
  rw[cutF_blank (by decide),cutF_tok (by decide) t2]
  show Option.map _ (Option.map _ (cutF [49]))=_
  rw[cutF_tok (by decide) t3]
  rfl
 exact (cut_yes (by decide) e).2
end Go.Proofs.YtjlaaanmjaihaaaDoor
