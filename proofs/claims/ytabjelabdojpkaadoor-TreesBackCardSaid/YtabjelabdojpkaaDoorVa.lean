/-
  Units as texts: what is shown, its tokens, and that it is cut into them: the plain law.
-/
import Derived.Test.YtabjelabdojpkaaDoorRp
import Derived.Test.YtabjelabdojpkaaDoorFt
namespace Go.Proofs.YtabjelabdojpkaaDoor
open Go Go.Dm Go.Eng Barb

def endC (tail:Str):Prop:=runS tail=0
def CutA (s:Str) (l:List Tok):Prop:=∀ tail,cutF (s++tail)=(cutF tail).map (l++·)
def CutE (s:Str) (l:List Tok):Prop:=∀ tail,endC tail→cutF (s++tail)=(cutF tail).map (l++·)
theorem map_app {o:Option (List Tok)} {l m:List Tok}:(o.map (m++·)).map (l++·)=o.map (l++m++·):=by cases o<;>simp
theorem CutA.e {s:Str} {l:List Tok} (h:CutA s l):CutE s l:=fun tail _=>h tail
theorem CutA.app {s s':Str} {l l':List Tok} (h:CutA s l) (h':CutA s' l'):CutA (s++s') (l++l'):=fun tail=>by
 rw[List.append_assoc,h,h',map_app]
theorem CutA.appE {s s':Str} {l l':List Tok} (h:CutA s l) (h':CutE s' l'):CutE (s++s') (l++l'):=fun tail ht=>by
 rw[List.append_assoc,h,h' tail ht,map_app]
theorem CutE.app {s s':Str} {l l':List Tok} (h:CutE s l) (h':CutA s' l') (hc:∀ tail,endC (s'++tail)):CutA (s++s') (l++l'):=fun tail=>by
 rw[List.append_assoc,h _ (hc tail),h',map_app]
theorem CutA.nil:CutA [] []:=fun tail=>by cases h:cutF tail<;>simp[h]
theorem CutA.blank {c:UInt8} (h:blankA c=true):CutA [c] []:=fun tail=>by
 show cutF (c :: tail)=_
 rw[cutF_blank h]
 cases cutF tail<;>rfl
theorem cut_tok {t:Tok} {tail:Str} (h:tokAt (t.text++tail)=some t) (hb:∃ c r,t.text++tail=c :: r∧blankA c=false):cutF (t.text++tail)=(cutF tail).map ([t]++·):=by
 obtain ⟨c,r,h2,h3⟩:=hb
 have h4:(c :: r).drop t.text.length=tail:=by rw[← h2];exact List.drop_left' rfl
 rw[h2] at h ⊢
 rw[cutF_tok h3 h,h4]
 rfl
theorem CutA.sign {c:UInt8} (h1:chrA c=false) (h2:blankA c=false) (h3:∀ t∈signL,Lib.hasPrefix [c] t=true∨t.head?≠some c) (h4:signOf [c]=[c]):CutA [c] [⟨3,[c]⟩]:=fun tail=>by
 have hs:signOf (c :: tail)=[c]:=by
  rw[← h4]
  unfold signOf
  have key:∀ l:List Str,(∀ t∈l,t≠[]∧(Lib.hasPrefix [c] t=true∨t.head?≠some c))→l.find? (fun t=>Lib.hasPrefix (c :: tail) t)=l.find? (fun t=>Lib.hasPrefix [c] t):=by
   intro l
   induction l with
   | nil=>intro _;rfl
   | cons t l ih =>
    intro h
    have e:Lib.hasPrefix (c :: tail) t=Lib.hasPrefix [c] t:=by
     obtain ⟨hn,ht⟩:=h t List.mem_cons_self
     cases t with
     | nil=>exact absurd rfl hn
     | cons d t =>
      unfold Lib.hasPrefix at ht ⊢
      rcases ht with ht | ht
      ·rw[ht]
       rw[List.isPrefixOf_iff_prefix] at ht ⊢
       exact ht.trans ⟨tail,rfl⟩
      ·have hd:¬d=c:=fun e=>ht (by rw[e];rfl)
       have hb:(d == c)=false:=beq_eq_false_iff_ne.2 hd
       simp only[List.isPrefixOf,hb,Bool.false_and]
    simp only[List.find?_cons]
    rw[e,ih (fun t ht=>h t (List.mem_cons_of_mem _ ht))]
  have hne:∀ t∈signL,t≠[]:=by decide
  rw[key signL (fun t ht=>⟨hne t ht,h3 t ht⟩)]
 refine cut_tok (t:=⟨3,[c]⟩) ?_ ⟨c,tail,rfl,h2⟩
 show tokAt (c :: tail)=_
 unfold tokAt
 rw[if_pos (by simp[runS,h1]),hs,if_neg (by simp)]
def allA (s:Str):Prop:=∀ c∈s,chrA c=true
theorem run_all:∀ {s tail:Str},allA s→endC tail→runS (s++tail)=s.length
 | [],tail,_,h=>h
 | c :: s,tail,ha,h=>by
  show runS (c :: (s++tail))=_
  have:=run_all (s:=s) (fun d hd=>ha d (List.mem_cons_of_mem _ hd)) h
  simp[runS,ha c List.mem_cons_self,this]
theorem CutE.word {s:Str} (k:Int) (h0:s≠[]) (ha:allA s) (hk:tokAt s=some ⟨k,s⟩):CutE s [⟨k,s⟩]:=fun tail ht=>by
 have r0:runS s=s.length:=by have:=run_all (tail:=[]) ha rfl;rwa [List.append_nil] at this
 have r1:=run_all ha ht
 have hl:0 < s.length:=by cases s with | nil=>exact absurd rfl h0 | cons c s=>simp
 refine cut_tok (t:=⟨k,s⟩) ?_ ?_
 ·show tokAt (s++tail)=_
  unfold tokAt at hk ⊢
  rw[r0,if_neg (by omega),List.take_of_length_le (Nat.le_refl _)] at hk
  rw[r1,if_neg (by omega),List.take_left' rfl]
  exact hk
 ·cases s with
  | nil=>exact absurd rfl h0
  | cons c s =>
   refine ⟨c,s++tail,rfl,?_⟩
   have:=ha c List.mem_cons_self
   unfold blankA
   refine decide_eq_false ?_
   rintro (rfl | rfl)<;>exact absurd this (by decide)
theorem dig_chr {c:UInt8} (h:digP c):chrA c=true:=decide_eq_true (.inr h)
theorem num_all {n:Nat} (h:n≤65535):Lib.decDigits n≠[]∧allA (Lib.decDigits n)∧tokAt (Lib.decDigits n)=some ⟨2,Lib.decDigits n⟩:=by
 obtain ⟨h1,_,h3⟩:=decDigits_all n
 have ha:allA (Lib.decDigits n):=fun c hc=>dig_chr (h1 c hc)
 refine ⟨h3,ha,?_⟩
 have r0:runS (Lib.decDigits n)=(Lib.decDigits n).length:=by have:=run_all (tail:=[]) ha rfl;rwa [List.append_nil] at this
 have hl:=List.length_pos_iff.2 h3
 unfold tokAt
 rw[r0,if_neg (by omega),List.take_of_length_le (Nat.le_refl _),if_pos (numR_yes h).2]
theorem word_all {s:Str} (h:wordP s):s≠[]∧allA s∧tokAt s=some ⟨1,s⟩:=by
 have hne:s≠[]:=by rintro rfl;have:=h.1.1;simp at this
 have ha:allA s:=fun c hc=>by
  obtain ⟨j,hj,rfl⟩:=List.mem_iff_getElem.1 hc
  exact decide_eq_true ((h.2 j hj).imp id And.right)
 refine ⟨hne,ha,?_⟩
 have r0:runS s=s.length:=by have:=run_all (tail:=[]) ha rfl;rwa [List.append_nil] at this
 have hl:=List.length_pos_iff.2 hne
 have hn:numB s=false:=(numR_no (fun ⟨n,_,e⟩=>by
  have h0:=(h.2 0 hl).resolve_right (fun hc=>hc.1 rfl)
  have h1:digP s[0]:=(decDigits_all n).1 _ (by rw[← e];exact List.getElem_mem hl)
  have h0:97≤s[0].toNat∧s[0].toNat≤122:=h0
  have h1:48≤s[0].toNat∧s[0].toNat≤57:=h1
  omega)).2
 unfold tokAt
 rw[r0,if_neg (by omega),List.take_of_length_le (Nat.le_refl _),hn,if_neg (by decide),if_pos h]
end Go.Proofs.YtabjelabdojpkaaDoor
