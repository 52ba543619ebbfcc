/-
  Units as texts: the texts, their tokens, and reading of them: the plain law.
-/
import Derived.Test.YtabjelabdojpkaaDoorVa
import Derived.Test.YtabjelabdojpkaaDoorVs
import Derived.Lib.Join
import Derived.Test.YtabjelabdojpkaaDoorUf
namespace Go.Proofs.YtabjelabdojpkaaDoor
open Go Go.Dm Go.Eng Barb
abbrev sgT (c:UInt8):Tok:=⟨3,[c]⟩
def tailT:List (List Tok)→List Tok
 | []=>[sgT 41]
 | t :: r=>sgT 44 :: (t++tailT r)
def listT:List (List Tok)→List Tok
 | []=>[sgT 41]
 | t :: r=>t++tailT r
def exT:Nat→Barb.Expr→List Tok
 | 0,_=>[]
 | f+1,.mk k n of s args =>
  if k=1 then [⟨2,Lib.decDigits n.toNat⟩] else if k=2 then [⟨1,s⟩]
  else if k=3 then [⟨1,s⟩]++([sgT 91]++((args.map (exT f)).headD []++[sgT 93]))
  else if k=4 then (if of=[] then [] else [⟨1,of⟩]++[sgT 46])++([⟨1,s⟩]++([sgT 40]++listT (args.map (exT f))))
  else [sgT 40]++((args.map (exT f)).headD []++([]++([⟨3,opS n⟩]++((args.map (exT f)).tail.headD []++[sgT 41]))))
theorem op_cases {n:Int} (h:1≤n∧n≤10):opS n∈opsT∧opP (opS n)=n:=by
 have:n=1∨n=2∨n=3∨n=4∨n=5∨n=6∨n=7∨n=8∨n=9∨n=10:=by omega
 have key:∀ i (hi:i < opsT.length),opP opsT[i]=(i:Int)+1:=fun i hi=>by
  unfold opP idx
  have hd:∀ j (hj:j < opsT.length),j < i→¬opsT[i]=opsT[j]:=by
   have:i < 10:=hi
   have h2:∀ a:Fin 10,∀ b:Fin 10,b.1 < a.1→¬opsT[a.1]'a.2=opsT[b.1]'b.2:=by decide
   intro j hj hlt
   exact h2 ⟨i,this⟩ ⟨j,hj⟩ hlt
  rw[idxFrom_at (q:=fun x=>opsT[i]=x) (i0:=0) hi hd rfl]
  omega
 rcases this with rfl | rfl | rfl | rfl | rfl | rfl | rfl | rfl | rfl | rfl
 ·exact ⟨by decide,key 0 (by decide)⟩
 ·exact ⟨by decide,key 1 (by decide)⟩
 ·exact ⟨by decide,key 2 (by decide)⟩
 ·exact ⟨by decide,key 3 (by decide)⟩
 ·exact ⟨by decide,key 4 (by decide)⟩
 ·exact ⟨by decide,key 5 (by decide)⟩
 ·exact ⟨by decide,key 6 (by decide)⟩
 ·exact ⟨by decide,key 7 (by decide)⟩
 ·exact ⟨by decide,key 8 (by decide)⟩
 ·exact ⟨by decide,key 9 (by decide)⟩
theorem sg_cut (c:UInt8) (h:c∈[123,125,40,41,91,93,44,59,46]):CutA [c] [sgT c]:=by
 have:c=123∨c=125∨c=40∨c=41∨c=91∨c=93∨c=44∨c=59∨c=46:=by simpa using h
 rcases this with rfl | rfl | rfl | rfl | rfl | rfl | rfl | rfl | rfl<;>exact CutA.sign (by decide) (by decide) (by decide) (by decide)
theorem sg_end (c:UInt8) (s:Str) (h:chrA c=false):endC (c :: s):=by
 unfold endC
 simp[runS,h]
theorem id_cut {s:Str} (h:identP s):CutE s [⟨1,s⟩]:=CutE.word 1 (word_all h.1).1 (word_all h.1).2.1 (word_all h.1).2.2
theorem id_app {s s':Str} {l':List Tok} (h:identP s) (h':CutA s' l') (hc:∀ tail,endC (s'++tail)):CutA (s++s') ([⟨1,s⟩]++l'):=(id_cut h).app h' hc
theorem sgn_front (s:Str):signOf s=signOf (s.take 2):=by
 have hp:∀ t∈signL,Lib.hasPrefix s t=Lib.hasPrefix (s.take 2) t:=by
  have h2:∀ t∈signL,t.length≤2:=by decide
  intro t ht
  have:=h2 t ht
  match s,t,this with
  | _,[],_=>simp[Lib.hasPrefix]
  | [],_,_=>rfl
  | [c],_,_=>rfl
  | c :: d :: r,[x],_=>simp[Lib.hasPrefix,List.isPrefixOf]
  | c :: d :: r,[x,y],_=>simp[Lib.hasPrefix,List.isPrefixOf]
 have key:∀ l:List (List UInt8),(∀ t∈l,Lib.hasPrefix s t=Lib.hasPrefix (s.take 2) t)→l.find? (fun t=>Lib.hasPrefix s t)=l.find? (fun t=>Lib.hasPrefix (s.take 2) t):=by
  intro l
  induction l with
  | nil=>intro _;rfl
  | cons t l ih =>
   intro h
   simp only[List.find?_cons]
   rw[h t List.mem_cons_self,ih (fun t ht=>h t (List.mem_cons_of_mem _ ht))]
 unfold signOf
 rw[key signL hp]
theorem sgn_again {tail:Str} (h:∃ r,tail=32 :: r):∀ g∈signL,signOf (g++tail)=g∧runS (g++tail)=0∧∃ c r,g++tail=c :: r∧blankA c=false:=by
 intro g hg
 have h1:∀ g∈signL,signOf g=g∧signOf ((g++[32]).take 2)=g:=by decide
 have h2:∀ g∈signL,g.length=1∨g.length=2:=by decide
 have h3:∀ g∈signL,∀ c∈g,chrA c=false∧blankA c=false:=by decide
 have hf:∃ c r,g=c :: r:=by
  cases g with
  | nil=>have:=h2 [] hg;simp at this
  | cons c r=>exact ⟨c,r,rfl⟩
 obtain ⟨c,r,rfl⟩:=hf
 obtain ⟨h4,h5⟩:=h3 _ hg c List.mem_cons_self
 refine ⟨?_,by simp[runS,h4],c,r++tail,rfl,h5⟩
 obtain ⟨u,rfl⟩:=h
 ·rw[sgn_front]
  have e:((c :: r)++32 :: u).take 2=((c :: r)++[32]).take 2:=by
   cases r with
   | nil=>rfl
   | cons d r=>rfl
  rw[e];exact (h1 _ hg).2
theorem sgn_cut {g:Str} (h:g∈signL):CutA (g++[32]) [⟨3,g⟩]:=fun tail=>by
 obtain ⟨h1,h2,h3⟩:=sgn_again (tail:=32 :: tail) ⟨_,rfl⟩ g h
 have hg:g≠[]:=by
  have:∀ g∈signL,g≠[]:=by decide
  exact this g h
 rw[List.append_assoc]
 show cutF (g++32 :: tail)=_
 have e:tokAt (g++32 :: tail)=some ⟨3,g⟩:=by
  unfold tokAt
  rw[if_pos h2,h1,if_neg hg]
 rw[cut_tok (t:=⟨3,g⟩) e h3,cutF_blank (by decide)]
theorem op_cut {n:Int} (h:1≤n∧n≤10):CutA (opS n++[32]) [⟨3,opS n⟩]:=by
 have:∀ g∈opsT,g∈signL:=by decide
 exact sgn_cut (this _ (op_cases h).1)
theorem ex_cut:∀ (f:Nat) (x:Barb.Expr),exprE f x=0→CutE (exS f x) (exT f x)
 | 0,x,h=>by cases h
 | f+1,x,h=>by
  have tl:∀ l:List Barb.Expr,(∀ y∈l,exprE f y=0)→CutA (Lib.joinTail [44,32] (l.map (exS f))++[41]) (tailT (l.map (exT f)))∧∀ tail,endC (Lib.joinTail [44,32] (l.map (exS f))++[41]++tail):=by
   intro l
   induction l with
   | nil=>intro _;exact ⟨sg_cut 41 (by decide),fun tail=>sg_end _ _ (by decide)⟩
   | cons y l ih =>
    intro hl
    have e:Lib.joinTail [44,32] ((y :: l).map (exS f))++[41]=[44]++([32]++(exS f y++(Lib.joinTail [44,32] (l.map (exS f))++[41]))):=by
     simp[Lib.joinTail]
    obtain ⟨i1,i2⟩:=ih (fun z hz=>hl z (List.mem_cons_of_mem _ hz))
    rw[e]
    refine ⟨(sg_cut 44 (by decide)).app ((CutA.blank (by decide)).app ((ex_cut f y (hl y List.mem_cons_self)).app i1 i2)),fun tail=>sg_end _ _ (by decide)⟩
  have ls:∀ l:List Barb.Expr,(∀ y∈l,exprE f y=0)→CutA (Lib.join (l.map (exS f)) [44,32]++[41]) (listT (l.map (exT f))):=by
   intro l hl
   cases l with
   | nil=>exact sg_cut 41 (by decide)
   | cons y l =>
    obtain ⟨i1,i2⟩:=tl l (fun z hz=>hl z (List.mem_cons_of_mem _ hz))
    have e:Lib.join ((y :: l).map (exS f)) [44,32]++[41]=exS f y++(Lib.joinTail [44,32] (l.map (exS f))++[41]):=by
     rw[List.map_cons,Lib.join_cons,List.append_assoc]
    rw[e]
    exact (ex_cut f y (hl y List.mem_cons_self)).app i1 i2
  rcases ex_cases h with ⟨n,hn,rfl⟩ | ⟨s,hs,rfl⟩ | ⟨s,a,hs,ha,rfl⟩ | ⟨of,s,l,ho,hs,hl,rfl⟩ | ⟨n,a,b,hn,ha,hb,rfl⟩
  ·have:=num_all hn
   exact CutE.word 2 this.1 this.2.1 this.2.2
  ·exact id_cut hs
  ·exact (id_app hs ((sg_cut 91 (by decide)).app ((ex_cut f a ha).app (sg_cut 93 (by decide)) (fun _=>sg_end _ _ (by decide)))) (fun _=>sg_end _ _ (by decide))).e
  ·have h1:CutA (s++([40]++(Lib.join (l.map (exS f)) [44,32]++[41]))) ([⟨1,s⟩]++([sgT 40]++listT (l.map (exT f)))):=id_app hs ((sg_cut 40 (by decide)).app (ls l hl)) (fun _=>sg_end _ _ (by decide))
   show CutE ((if of=[] then [] else of++[46])++(s++([40]++(Lib.join (l.map (exS f)) [44,32]++[41])))) ((if of=[] then [] else [⟨1,of⟩]++[sgT 46])++([⟨1,s⟩]++([sgT 40]++listT (l.map (exT f)))))
   by_cases h0:of=[]
   ·rw[if_pos h0,if_pos h0];exact h1.e
   ·rw[if_neg h0,if_neg h0]
    exact ((id_app (ho.resolve_left h0) (sg_cut 46 (by decide)) (fun _=>sg_end _ _ (by decide))).app h1).e
  ·exact ((sg_cut 40 (by decide)).app ((ex_cut f a ha).app ((CutA.blank (by decide)).app ((op_cut hn).app ((ex_cut f b hb).app (sg_cut 41 (by decide)) (fun _=>sg_end _ _ (by decide))))) (fun _=>sg_end _ _ (by decide)))).e
def fo (l:List Tok):Prop:=textP l≠[91]∧textP l≠[40]∧textP l≠[46]
theorem take_hit (t:Tok) (l:List Tok):takeP t.text (t :: l)=some l:=by
 unfold takeP
 rw[if_pos ⟨by simp,rfl⟩];rfl
theorem take_miss {t:Tok} {l:List Tok} {s:Str} (h:t.text≠s):takeP s (t :: l)=none:=by
 unfold takeP
 rw[if_neg (fun hc=>h hc.2)]
theorem take_miss' {l:List Tok} {s:Str} (h:textP l≠s):takeP s l=none:=by
 unfold takeP
 rw[if_neg (fun hc=>h hc.2)]
theorem must_hit (t:Tok) (l:List Tok):mustP t.text (t :: l)=.ok ⟨⟩ l:=by
 unfold mustP
 rw[take_hit]
theorem name_hit {k:Int} {s:Str} (l:List Tok) (h:identP s):nameP (⟨k,s⟩ :: l)=.ok s l:=by
 unfold nameP
 rw[if_pos (show identP (textP (⟨k,s⟩ :: l)) from h)];rfl
theorem id_ne {s g:Str} (h:identP s) (hg:g.head?.all (fun c=>!chrA c)=true∨g∈keys):s≠g:=by
 rintro rfl
 rcases hg with hg | hg
 ·have h1:=word_all h.1
  cases s with
  | nil=>exact h1.1 rfl
  | cons c s =>
   have:=h1.2.1 c List.mem_cons_self
   simp[this] at hg
 ·exact h.2 hg
theorem dec_ne {n:Nat} {g:Str} (h:n≤65535) (hg:g.head?.all (fun c=>!chrA c)=true):Lib.decDigits n≠g:=by
 have h1:=num_all h
 intro e
 rw[e] at h1
 cases g with
 | nil=>exact h1.1 rfl
 | cons c s =>
  have:=h1.2.1 c List.mem_cons_self
  simp[this] at hg
theorem ex_head {f:Nat} {x:Barb.Expr} (h:exprE f x=0) (l:List Tok):textP (exT f x++l)≠[41]:=by
 cases f with
 | zero=>cases h
 | succ f =>
  rcases ex_cases h with ⟨n,hn,rfl⟩ | ⟨s,hs,rfl⟩ | ⟨s,a,hs,ha,rfl⟩ | ⟨of,s,l,ho,hs,hl,rfl⟩ | ⟨n,a,b,hn,ha,hb,rfl⟩
  ·exact dec_ne hn (by decide)
  ·exact id_ne hs (.inl (by decide))
  ·exact id_ne hs (.inl (by decide))
  ·show textP ((if of=[] then [] else [⟨1,of⟩]++[sgT 46])++([⟨1,s⟩]++([sgT 40]++listT (l.map (exT f))))++_)≠_
   by_cases h0:of=[]
   ·rw[if_pos h0];exact id_ne hs (.inl (by decide))
   ·rw[if_neg h0];exact id_ne (ho.resolve_left h0) (.inl (by decide))
  ·exact (by decide:([40]:Str)≠[41])
theorem fo_tail (l:List (List Tok)) (rest:List Tok):fo (tailT l++rest):=by
 cases l
 ·exact ⟨(by decide:([41]:Str)≠[91]),(by decide:([41]:Str)≠[40]),(by decide:([41]:Str)≠[46])⟩
 ·exact ⟨(by decide:([44]:Str)≠[91]),(by decide:([44]:Str)≠[40]),(by decide:([44]:Str)≠[46])⟩
theorem fo_sg {t:Tok} (rest:List Tok) (h:t.text≠[91]∧t.text≠[40]∧t.text≠[46]):fo (t :: rest):=h
theorem ex_read:∀ (f:Nat) (x:Barb.Expr),exprE f x=0→∀ g,f≤g→∀ rest,fo rest→exprP g (exT f x++rest)=.ok x rest
 | 0,x,h=>by cases h
 | f+1,x,h=>by
  intro g hg rest hr
  obtain ⟨g,rfl⟩:∃ m,g=m+1:=⟨g - 1,by omega⟩
  have hg:f≤g:=by omega
  show termP (exprP g) _=_
  have tl:∀ l:List Barb.Expr,(∀ y∈l,exprE f y=0)→∀ n acc rest,(tailT (l.map (exT f))++rest).length < n→moreP (exprP g) n acc (tailT (l.map (exT f))++rest)=.ok (acc++l) rest:=by
   intro l
   induction l with
   | nil =>
    intro _ n acc rest hn
    obtain ⟨n,rfl⟩:∃ m,n=m+1:=⟨n - 1,by omega⟩
    show moreP (exprP g) (n+1) acc (sgT 41 :: rest)=_
    unfold moreP
    rw[take_miss (by decide)]
    show (mustP (sgT 41).text (sgT 41 :: rest)).then _=_
    rw[must_hit,List.append_nil];rfl
   | cons y l ih =>
    intro hl n acc rest hn
    obtain ⟨n,rfl⟩:∃ m,n=m+1:=⟨n - 1,by omega⟩
    have e:tailT ((y :: l).map (exT f))++rest=sgT 44 :: (exT f y++(tailT (l.map (exT f))++rest)):=by
     simp[tailT]
    rw[e] at hn ⊢
    unfold moreP
    have:=take_hit (sgT 44) (exT f y++(tailT (l.map (exT f))++rest))
    simp only at this
    rw[this]
    have hfo:=fo_tail (l.map (exT f)) rest
    show (exprP g _).then _=_
    rw[ex_read f y (hl y List.mem_cons_self) g hg _ hfo]
    show moreP (exprP g) n (acc++[y]) _=_
    simp only[List.length_cons,List.length_append] at hn
    rw[ih (fun z hz=>hl z (List.mem_cons_of_mem _ hz)) n (acc++[y]) rest (by simp only[List.length_append];omega)]
    simp
  have ls:∀ l:List Barb.Expr,(∀ y∈l,exprE f y=0)→∀ rest,listP (exprP g) (listT (l.map (exT f))++rest)=.ok l rest:=by
   intro l hl rest
   cases l with
   | nil =>
    show listP (exprP g) (sgT 41 :: rest)=_
    unfold listP
    have:=take_hit (sgT 41) rest
    simp only at this
    rw[this]
   | cons y l =>
    have e:listT ((y :: l).map (exT f))++rest=exT f y++(tailT (l.map (exT f))++rest):=by
     simp[listT]
    rw[e]
    unfold listP
    rw[take_miss' (ex_head (hl y List.mem_cons_self) _)]
    have hfo:=fo_tail (l.map (exT f)) rest
    show (exprP g _).then _=_
    rw[ex_read f y (hl y List.mem_cons_self) g hg _ hfo]
    show moreP (exprP g) _ [y] _=_
    rw[tl l (fun z hz=>hl z (List.mem_cons_of_mem _ hz)) _ _ _ (Nat.lt_succ_self _)]
    rfl
  rcases ex_cases h with ⟨n,hn,rfl⟩ | ⟨s,hs,rfl⟩ | ⟨s,a,hs,ha,rfl⟩ | ⟨of,s,l,ho,hs,hl,rfl⟩ | ⟨n,a,b,hn,ha,hb,rfl⟩
  ·show termP (exprP g) (⟨2,Lib.decDigits n⟩ :: rest)=_
   unfold termP
   rw[take_miss (dec_ne hn (by decide))]
   show (if kindP (⟨2,Lib.decDigits n⟩ :: rest)=2 then (numP (⟨2,Lib.decDigits n⟩ :: rest)).then _ else _)=_
   rw[if_pos (show kindP (⟨2,Lib.decDigits n⟩ :: rest)=2 from rfl)]
   unfold numP
   rw[if_pos (show kindP (⟨2,Lib.decDigits n⟩ :: rest)=2 from rfl)]
   show PR.ok (Barb.Expr.mk 1 (numR (Lib.decDigits n)) [] [] []) rest=_
   rw[(numR_yes hn).1]
  ·show termP (exprP g) (⟨1,s⟩ :: rest)=_
   unfold termP
   rw[take_miss (id_ne hs (.inl (by decide)))]
   show (if kindP (⟨1,s⟩ :: rest)=2 then _ else (nameP (⟨1,s⟩ :: rest)).then _)=_
   rw[if_neg (by show ¬(1:Int)=2;decide),name_hit _ hs]
   simp only[PR.then,take_miss' hr.1,take_miss' hr.2.1,take_miss' hr.2.2]
  ·have e:exT (f+1) (.mk 3 0 [] s [a])++rest=⟨1,s⟩ :: sgT 91 :: (exT f a++sgT 93 :: rest):=by
    show ([⟨1,s⟩]++([sgT 91]++(exT f a++[sgT 93])))++rest=_
    simp
   rw[e]
   unfold termP
   rw[take_miss (id_ne hs (.inl (by decide)))]
   show (if kindP (⟨1,s⟩ :: sgT 91 :: (exT f a++sgT 93 :: rest))=2 then _ else (nameP (⟨1,s⟩ :: sgT 91 :: (exT f a++sgT 93 :: rest))).then _)=_
   rw[if_neg (by show ¬(1:Int)=2;decide),name_hit _ hs]
   have h1:=take_hit (sgT 91) (exT f a++sgT 93 :: rest)
   simp only at h1
   simp only[PR.then,h1]
   rw[ex_read f a ha g hg (sgT 93 :: rest) (fo_sg _ (by decide))]
   have h2:=must_hit (sgT 93) rest
   simp only at h2
   simp only[h2]
  ·by_cases h0:of=[]
   ·subst h0
    have e:exT (f+1) (.mk 4 0 [] s l)++rest=⟨1,s⟩ :: sgT 40 :: (listT (l.map (exT f))++rest):=by
     show (([]:List Tok)++([⟨1,s⟩]++([sgT 40]++listT (l.map (exT f)))))++rest=_
     simp
    rw[e]
    unfold termP
    rw[take_miss (id_ne hs (.inl (by decide)))]
    show (if kindP (⟨1,s⟩ :: sgT 40 :: (listT (l.map (exT f))++rest))=2 then _ else (nameP (⟨1,s⟩ :: sgT 40 :: (listT (l.map (exT f))++rest))).then _)=_
    rw[if_neg (by show ¬(1:Int)=2;decide),name_hit _ hs]
    have h1:=take_hit (sgT 40) (listT (l.map (exT f))++rest)
    simp only at h1
    have h2:takeP [91] (sgT 40 :: (listT (l.map (exT f))++rest))=none:=take_miss (by decide)
    simp only[PR.then,h2,h1]
    rw[ls l hl]
   ·have hof:=ho.resolve_left h0
    have e:exT (f+1) (.mk 4 0 of s l)++rest=⟨1,of⟩ :: sgT 46 :: ⟨1,s⟩ :: sgT 40 :: (listT (l.map (exT f))++rest):=by
     show ((if of=[] then [] else [⟨1,of⟩]++[sgT 46])++([⟨1,s⟩]++([sgT 40]++listT (l.map (exT f)))))++rest=_
     rw[if_neg h0]
     simp
    rw[e]
    unfold termP
    rw[take_miss (id_ne hof (.inl (by decide)))]
    show (if kindP (⟨1,of⟩ :: sgT 46 :: ⟨1,s⟩ :: sgT 40 :: (listT (l.map (exT f))++rest))=2 then _ else (nameP (⟨1,of⟩ :: sgT 46 :: ⟨1,s⟩ :: sgT 40 :: (listT (l.map (exT f))++rest))).then _)=_
    rw[if_neg (by show ¬(1:Int)=2;decide),name_hit _ hof]
    have h1:=take_hit (sgT 46) (⟨1,s⟩ :: sgT 40 :: (listT (l.map (exT f))++rest))
    simp only at h1
    have h2:takeP [91] (sgT 46 :: ⟨1,s⟩ :: sgT 40 :: (listT (l.map (exT f))++rest))=none:=take_miss (by decide)
    have h3:takeP [40] (sgT 46 :: ⟨1,s⟩ :: sgT 40 :: (listT (l.map (exT f))++rest))=none:=take_miss (by decide)
    have h4:=must_hit (sgT 40) (listT (l.map (exT f))++rest)
    simp only at h4
    simp only[PR.then,h2,h3,h1,name_hit _ hs,h4]
    rw[ls l hl]
  ·have e:exT (f+1) (.mk 5 n [] [] [a,b])++rest=sgT 40 :: (exT f a++⟨3,opS n⟩ :: (exT f b++sgT 41 :: rest)):=by
    show ([sgT 40]++(exT f a++([]++([⟨3,opS n⟩]++(exT f b++[sgT 41])))))++rest=_
    simp
   rw[e]
   obtain ⟨o1,o2⟩:=op_cases hn
   have hof:∀ g∈opsT,g≠[91]∧g≠[40]∧g≠[46]:=by decide
   unfold termP
   have h1:=take_hit (sgT 40) (exT f a++⟨3,opS n⟩ :: (exT f b++sgT 41 :: rest))
   simp only at h1
   simp only[h1]
   rw[ex_read f a ha g hg _ (fo_sg _ (hof _ o1))]
   show (if opP (opS n)=0 then _ else (exprP g (exT f b++sgT 41 :: rest)).then _)=_
   rw[if_neg (by rw[o2];omega),ex_read f b hb g hg _ (fo_sg _ (by decide))]
   have h2:=must_hit (sgT 41) rest
   simp only at h2
   simp only[PR.then,h2]
   show PR.ok (Barb.Expr.mk 5 (opP (opS n)) [] [] [a,b]) rest=_
   rw[o2]
end Go.Proofs.YtabjelabdojpkaaDoor
namespace Go.Proofs.YtabjelabdojpkaaDoor
open Go Go.Dm Go.Eng Barb
abbrev wdT (s:Str):Tok:=⟨1,s⟩
def stT (bl:List Barb.Stmt→List Tok):Barb.Stmt→List Tok
 | .mk k s xs b e =>
  if k=1 then [wdT s]++([sgT 61]++((xs.map (exT 12)).headD []++[sgT 59]))
  else if k=2 then [wdT s]++([sgT 91]++((xs.map (exT 12)).headD []++([sgT 93,sgT 61]++((xs.map (exT 12)).tail.headD []++[sgT 59]))))
  else if k=5 then [wdT [114,101,116,117,114,110]]++((xs.map (exT 12)).headD []++[sgT 59])
  else if k=6 then [wdT [115,97,121]]++((xs.map (exT 12)).headD []++[sgT 59])
  else if k=4 then [wdT [119,104,105,108,101]]++((xs.map (exT 12)).headD []++([]++(bl b++[])))
  else [wdT [105,102]]++((xs.map (exT 12)).headD []++([]++(bl b++([wdT [101,108,115,101]]++(bl e++[])))))
def blT:Nat→List Barb.Stmt→List Tok
 | 0,_=>[]
 | f+1,l=>[sgT 123]++(l.flatMap (stT (blT f))++([]++[sgT 125]))
theorem blank_cut (n:Nat):CutA (blS0 n) []:=by
 induction n with
 | zero=>exact CutA.nil
 | succ n ih=>exact (CutA.blank (c:=32) (by decide)).app ih
theorem blank_end:∀ (n:Nat) (c:UInt8) (s:Str),chrA c=false→endC (blS0 n++c :: s)
 | 0,c,s,h=>sg_end c s h
 | n+1,_,_,_=>sg_end 32 _ (by decide)
theorem key_word {s:Str} (h:s∈keys):wordP s:=by
 have h1:∀ s∈keys,(1≤s.length∧s.length≤8)∧∀ c∈s,97≤c.toNat∧c.toNat≤122:=by decide
 obtain ⟨h2,h3⟩:=h1 s h
 exact ⟨h2,fun j hj=>.inl (h3 _ (List.getElem_mem hj))⟩
theorem key_cut {s:Str} (h:s∈keys):CutA (s++[32]) [wdT s]:=(CutE.word 1 (word_all (key_word h)).1 (word_all (key_word h)).2.1 (word_all (key_word h)).2.2).app (CutA.blank (c:=32) (by decide)) (fun _=>sg_end 32 _ (by decide))
theorem eq_cut:CutA [32,61,32] [sgT 61]:=(CutA.blank (c:=32) (by decide)).app (sgn_cut (g:=[61]) (by decide))
theorem semi_cut:CutA [59,10] [sgT 59]:=(sg_cut 59 (by decide)).app (CutA.blank (c:=10) (by decide))
theorem st_cut {f n:Nat} (ih:∀ n l,stmtsE f l=0→CutA (blS f n l) (blT f l)) {x:Barb.Stmt} (h:stmtE1 (stmtsE f) x=0):CutA (stS (blS f) n x) (stT (blT f) x):=by
 rcases st_cases h with ⟨s,a,hs,ha,_,rfl⟩ | ⟨s,a,b,hs,ha,hb,_,rfl⟩ | ⟨a,b,e,ha,hb,he,rfl⟩ | ⟨a,b,ha,hb,_,rfl⟩ | ⟨a,ha,_,rfl⟩ | ⟨a,ha,_,rfl⟩
 ·exact (blank_cut n).app (id_app hs (eq_cut.app ((ex_cut 12 a ha).app semi_cut (fun _=>sg_end 59 _ (by decide)))) (fun _=>sg_end 32 _ (by decide)))
 ·exact (blank_cut n).app (id_app hs ((sg_cut 91 (by decide)).app ((ex_cut 12 a ha).app (((sg_cut 93 (by decide)).app eq_cut).app ((ex_cut 12 b hb).app semi_cut (fun _=>sg_end 59 _ (by decide)))) (fun _=>sg_end 93 _ (by decide)))) (fun _=>sg_end 91 _ (by decide)))
 ·exact (blank_cut n).app ((key_cut (s:=[105,102]) (by decide)).app ((ex_cut 12 a ha).app ((CutA.blank (c:=32) (by decide)).app ((ih n b hb).app (((CutA.blank (c:=32) (by decide)).app (key_cut (s:=[101,108,115,101]) (by decide))).app ((ih n e he).app (CutA.blank (c:=10) (by decide)))))) (fun _=>sg_end 32 _ (by decide))))
 ·exact (blank_cut n).app ((key_cut (s:=[119,104,105,108,101]) (by decide)).app ((ex_cut 12 a ha).app ((CutA.blank (c:=32) (by decide)).app ((ih n b hb).app (CutA.blank (c:=10) (by decide)))) (fun _=>sg_end 32 _ (by decide))))
 ·exact (blank_cut n).app ((key_cut (s:=[114,101,116,117,114,110]) (by decide)).app ((ex_cut 12 a ha).app semi_cut (fun _=>sg_end 59 _ (by decide))))
 ·exact (blank_cut n).app ((key_cut (s:=[115,97,121]) (by decide)).app ((ex_cut 12 a ha).app semi_cut (fun _=>sg_end 59 _ (by decide))))
theorem flat_cut {α:Type} {f:α→Str} {g:α→List Tok}:∀ {l:List α},(∀ x∈l,CutA (f x) (g x))→CutA (l.flatMap f) (l.flatMap g)
 | [],_=>CutA.nil
 | x :: l,h=>by
  rw[List.flatMap_cons,List.flatMap_cons]
  exact (h x List.mem_cons_self).app (flat_cut fun y hy=>h y (List.mem_cons_of_mem _ hy))
theorem bl_cut:∀ (f n:Nat) (l:List Barb.Stmt),stmtsE f l=0→CutA (blS f n l) (blT f l)
 | 0,_,_,h=>by cases h
 | f+1,n,l,h=>((sg_cut 123 (by decide)).app (CutA.blank (c:=10) (by decide))).app ((flat_cut fun x hx=>st_cut (bl_cut f) (firstE_all h x hx)).app ((blank_cut n).app (sg_cut 125 (by decide))))
theorem bl_fo {f:Nat} {l:List Barb.Stmt} (h:stmtsE f l=0) (rest:List Tok):fo (blT f l++rest):=by
 cases f with
 | zero=>cases h
 | succ f=>exact ⟨(by decide:([123]:Str)≠[91]),(by decide:([123]:Str)≠[40]),(by decide:([123]:Str)≠[46])⟩
theorem st_head {f:Nat} {x:Barb.Stmt} (h:stmtE1 (stmtsE f) x=0) (l:List Tok):textP (stT (blT f) x++l)≠[125]:=by
 rcases st_cases h with ⟨s,a,hs,ha,_,rfl⟩ | ⟨s,a,b,hs,ha,hb,_,rfl⟩ | ⟨a,b,e,ha,hb,he,rfl⟩ | ⟨a,b,ha,hb,_,rfl⟩ | ⟨a,ha,_,rfl⟩ | ⟨a,ha,_,rfl⟩
 ·exact id_ne hs (.inl (by decide))
 ·exact id_ne hs (.inl (by decide))
 ·exact (by decide:([105,102]:Str)≠[125])
 ·exact (by decide:([119,104,105,108,101]:Str)≠[125])
 ·exact (by decide:([114,101,116,117,114,110]:Str)≠[125])
 ·exact (by decide:([115,97,121]:Str)≠[125])
theorem st_read {f g:Nat} (hg:12≤g) (ih:∀ l,stmtsE f l=0→∀ rest,blockP (stmtP g) (blT f l++rest)=.ok l rest) {x:Barb.Stmt} (h:stmtE1 (stmtsE f) x=0) (rest:List Tok):stmtP (g+1) (stT (blT f) x++rest)=.ok x rest:=by
 show doP (stmtP g) (exprP g) _=_
 have hx:=fun (a:Barb.Expr) (ha:exprE 12 a=0) (r:List Tok) (hr:fo r)=>ex_read 12 a ha g hg r hr
 have semi:=must_hit (sgT 59) rest
 simp only at semi
 rcases st_cases h with ⟨s,a,hs,ha,_,rfl⟩ | ⟨s,a,b,hs,ha,hb,_,rfl⟩ | ⟨a,b,e,ha,hb,he,rfl⟩ | ⟨a,b,ha,hb,_,rfl⟩ | ⟨a,ha,_,rfl⟩ | ⟨a,ha,_,rfl⟩
 ·have e:stT (blT f) (.mk 1 s [a] [] [])++rest=wdT s :: sgT 61 :: (exT 12 a++sgT 59 :: rest):=by
   show ([wdT s]++([sgT 61]++(exT 12 a++[sgT 59])))++rest=_
   simp
  rw[e]
  unfold doP
  rw[take_miss (id_ne hs (.inr (by decide)))]
  simp only[take_miss (t:=wdT s) (id_ne hs (.inr (by decide:[119,104,105,108,101]∈keys))),take_miss (t:=wdT s) (id_ne hs (.inr (by decide:[114,101,116,117,114,110]∈keys))),take_miss (t:=wdT s) (id_ne hs (.inr (by decide:[115,97,121]∈keys)))]
  rw[name_hit _ hs]
  have h2:takeP [91] (sgT 61 :: (exT 12 a++sgT 59 :: rest))=none:=take_miss (by decide)
  have h3:=must_hit (sgT 61) (exT 12 a++sgT 59 :: rest)
  simp only at h3
  simp only[PR.then,h2,h3,hx a ha _ (fo_sg (t:=sgT 59) rest (by decide)),semi]
  rfl
 ·have e:stT (blT f) (.mk 2 s [a,b] [] [])++rest=wdT s :: sgT 91 :: (exT 12 a++sgT 93 :: sgT 61 :: (exT 12 b++sgT 59 :: rest)):=by
   show ([wdT s]++([sgT 91]++(exT 12 a++([sgT 93,sgT 61]++(exT 12 b++[sgT 59])))))++rest=_
   simp
  rw[e]
  unfold doP
  rw[take_miss (id_ne hs (.inr (by decide)))]
  simp only[take_miss (t:=wdT s) (id_ne hs (.inr (by decide:[119,104,105,108,101]∈keys))),take_miss (t:=wdT s) (id_ne hs (.inr (by decide:[114,101,116,117,114,110]∈keys))),take_miss (t:=wdT s) (id_ne hs (.inr (by decide:[115,97,121]∈keys)))]
  rw[name_hit _ hs]
  have h2:=take_hit (sgT 91) (exT 12 a++sgT 93 :: sgT 61 :: (exT 12 b++sgT 59 :: rest))
  have h3:=must_hit (sgT 93) (sgT 61 :: (exT 12 b++sgT 59 :: rest))
  have h4:=must_hit (sgT 61) (exT 12 b++sgT 59 :: rest)
  simp only at h2 h3 h4
  simp only[PR.then,h2,h3,h4,hx a ha _ (fo_sg (t:=sgT 93) _ (by decide)),hx b hb _ (fo_sg (t:=sgT 59) rest (by decide)),semi]
  rfl
 ·have e1:stT (blT f) (.mk 3 [] [a] b e)++rest=wdT [105,102] :: (exT 12 a++(blT f b++wdT [101,108,115,101] :: (blT f e++rest))):=by
   show ([wdT [105,102]]++(exT 12 a++([]++(blT f b++([wdT [101,108,115,101]]++(blT f e++[]))))))++rest=_
   simp
  rw[e1]
  unfold doP
  have h1:=take_hit (wdT [105,102]) (exT 12 a++(blT f b++wdT [101,108,115,101] :: (blT f e++rest)))
  have h2:=take_hit (wdT [101,108,115,101]) (blT f e++rest)
  simp only at h1 h2
  simp only[h1,hx a ha _ (bl_fo hb _),PR.then,ih b hb,h2,ih e he]
 ·have e1:stT (blT f) (.mk 4 [] [a] b [])++rest=wdT [119,104,105,108,101] :: (exT 12 a++(blT f b++rest)):=by
   show ([wdT [119,104,105,108,101]]++(exT 12 a++([]++(blT f b++[]))))++rest=_
   simp
  rw[e1]
  unfold doP
  have h0:takeP [105,102] (wdT [119,104,105,108,101] :: (exT 12 a++(blT f b++rest)))=none:=take_miss (by decide)
  have h1:=take_hit (wdT [119,104,105,108,101]) (exT 12 a++(blT f b++rest))
  simp only at h1
  simp only[h0,h1,hx a ha _ (bl_fo hb _),PR.then,ih b hb]
 ·have e1:stT (blT f) (.mk 5 [] [a] [] [])++rest=wdT [114,101,116,117,114,110] :: (exT 12 a++sgT 59 :: rest):=by
   show ([wdT [114,101,116,117,114,110]]++(exT 12 a++[sgT 59]))++rest=_
   simp
  rw[e1]
  unfold doP
  have h0:takeP [105,102] (wdT [114,101,116,117,114,110] :: (exT 12 a++sgT 59 :: rest))=none:=take_miss (by decide)
  have h1:takeP [119,104,105,108,101] (wdT [114,101,116,117,114,110] :: (exT 12 a++sgT 59 :: rest))=none:=take_miss (by decide)
  have h2:=take_hit (wdT [114,101,116,117,114,110]) (exT 12 a++sgT 59 :: rest)
  simp only at h2
  simp only[h0,h1,h2,hx a ha _ (fo_sg (t:=sgT 59) rest (by decide)),PR.then,semi]
  rfl
 ·have e1:stT (blT f) (.mk 6 [] [a] [] [])++rest=wdT [115,97,121] :: (exT 12 a++sgT 59 :: rest):=by
   show ([wdT [115,97,121]]++(exT 12 a++[sgT 59]))++rest=_
   simp
  rw[e1]
  unfold doP
  have h0:takeP [105,102] (wdT [115,97,121] :: (exT 12 a++sgT 59 :: rest))=none:=take_miss (by decide)
  have h1:takeP [119,104,105,108,101] (wdT [115,97,121] :: (exT 12 a++sgT 59 :: rest))=none:=take_miss (by decide)
  have h2:takeP [114,101,116,117,114,110] (wdT [115,97,121] :: (exT 12 a++sgT 59 :: rest))=none:=take_miss (by decide)
  have h3:=take_hit (wdT [115,97,121]) (exT 12 a++sgT 59 :: rest)
  simp only at h3
  simp only[h0,h1,h2,h3,hx a ha _ (fo_sg (t:=sgT 59) rest (by decide)),PR.then,semi]
  rfl
theorem stmtsP_read {st:List Tok→PR Barb.Stmt} {tk:Barb.Stmt→List Tok} (rest:List Tok):∀ (l:List Barb.Stmt),(∀ x∈l,∀ r,st (tk x++r)=.ok x r∧textP (tk x++r)≠[125])→∀ (n:Nat) (acc:List Barb.Stmt),l.length < n→stmtsP st n acc (l.flatMap tk++sgT 125 :: rest)=.ok (acc++l) rest
 | [],_,n+1,acc,_=>by
  have h1:=take_hit (sgT 125) rest
  simp only at h1
  show stmtsP st (n+1) acc (sgT 125 :: rest)=_
  simp only[stmtsP,h1,List.append_nil]
 | x :: l,h,n+1,acc,hn=>by
  obtain ⟨h1,h2⟩:=h x List.mem_cons_self (l.flatMap tk++sgT 125 :: rest)
  rw[List.flatMap_cons,List.append_assoc]
  simp only[stmtsP,take_miss' h2,h1,PR.then]
  rw[stmtsP_read rest l (fun y hy=>h y (List.mem_cons_of_mem _ hy)) n (acc++[x]) (by simpa using hn),List.append_assoc]
  rfl
theorem flat_len {α:Type} {tk:α→List Tok}:∀ {l:List α},(∀ x∈l,tk x≠[])→l.length≤(l.flatMap tk).length
 | [],_=>Nat.le_refl _
 | x :: l,h=>by
  have h1:=List.length_pos_iff.2 (h x List.mem_cons_self)
  have h2:=flat_len (tk:=tk) (l:=l) fun y hy=>h y (List.mem_cons_of_mem _ hy)
  rw[List.flatMap_cons,List.length_append,List.length_cons]
  omega
theorem st_ne {f:Nat} {x:Barb.Stmt} (h:stmtE1 (stmtsE f) x=0):stT (blT f) x≠[]:=by
 rcases st_cases h with ⟨s,a,hs,ha,_,rfl⟩ | ⟨s,a,b,hs,ha,hb,_,rfl⟩ | ⟨a,b,e,ha,hb,he,rfl⟩ | ⟨a,b,ha,hb,_,rfl⟩ | ⟨a,ha,_,rfl⟩ | ⟨a,ha,_,rfl⟩<;>exact List.cons_ne_nil _ _
theorem bl_read:∀ (f:Nat) (l:List Barb.Stmt),stmtsE f l=0→∀ g,f+12≤g→∀ rest,blockP (stmtP g) (blT f l++rest)=.ok l rest
 | 0,_,h,_,_,_=>by cases h
 | f+1,l,h,g,hg,rest=>by
  obtain ⟨g,rfl⟩:∃ m,g=m+1:=⟨g - 1,by omega⟩
  have hl:=firstE_all h
  have e:blT (f+1) l++rest=sgT 123 :: (l.flatMap (stT (blT f))++sgT 125 :: rest):=by
   show ([sgT 123]++(l.flatMap (stT (blT f))++([]++[sgT 125])))++rest=_
   simp
  rw[e]
  have h1:=must_hit (sgT 123) (l.flatMap (stT (blT f))++sgT 125 :: rest)
  simp only at h1
  simp only[blockP,h1,PR.then]
  rw[stmtsP_read rest l (fun x hx r=>⟨st_read (by omega) (fun l hl=>bl_read f l hl g (by omega)) (hl x hx) r,st_head (hl x hx) r⟩) _ [] (by
   have:=flat_len (tk:=stT (blT f)) (l:=l) fun x hx=>st_ne (hl x hx)
   rw[List.length_append,List.length_cons]
   omega)]
  rfl
end Go.Proofs.YtabjelabdojpkaaDoor
