/-
  Units as texts: a unit's text is cut into its tokens, and read as the unit: the plain law.
-/
import Derived.Test.YtabjelabdojpkaaDoorVc
import Derived.Test.YtabjelabdojpkaaDoorRi
namespace Go.Proofs.YtabjelabdojpkaaDoor
open Go Go.Dm Go.Eng Barb
def vaT (s:Str):List Tok:=[wdT [118,97,114]]++([wdT s]++[])
def arT (a:Arr):List Tok:=[wdT [97,114,114,97,121]]++([wdT a.name]++([]++([⟨2,Lib.decDigits a.size.toNat⟩]++[])))
def tailQ:List Str→List Tok
 | []=>[sgT 41]
 | s :: r=>sgT 44 :: wdT s :: tailQ r
def listQ:List Str→List Tok
 | []=>[sgT 41]
 | s :: r=>wdT s :: tailQ r
def opT (o:Bool):Tok:=if o=true then wdT [111,112,101,110] else wdT [102,117,110,99]
def fuT (f:Fun):List Tok:=[opT f.isOpen]++([wdT f.name]++([sgT 40]++(listQ f.params++([]++(blT 12 f.body++[])))))
def unT (u:Barb.Unit):List Tok:=[wdT [117,110,105,116]]++([wdT u.name]++([]++(u.vars.flatMap vaT++(u.arrays.flatMap arT++u.funcs.flatMap fuT))))
theorem nl_cut:CutA [10] []:=CutA.blank (by decide)
theorem sp_cut:CutA [32] []:=CutA.blank (by decide)
theorem va_cut {s:Str} (h:identP s):CutA (vaS s) (vaT s):=(key_cut (s:=[118,97,114]) (by decide)).app (id_app h nl_cut (fun _=>sg_end 10 _ (by decide)))
theorem ar_cut {a:Arr} (h:arrE a=0):CutA (arS a) (arT a):=by
 obtain ⟨h1,h2,h3⟩:=arrE_inv h
 have hn:=num_all (n:=a.size.toNat) (by omega)
 exact (key_cut (s:=[97,114,114,97,121]) (by decide)).app (id_app h1 (sp_cut.app ((CutE.word 2 hn.1 hn.2.1 hn.2.2).app nl_cut (fun _=>sg_end 10 _ (by decide)))) (fun _=>sg_end 32 _ (by decide)))
theorem tailQ_cut:∀ l:List Str,(∀ s∈l,identP s)→CutA (Lib.joinTail [44,32] l++[41]) (tailQ l)∧∀ tail,endC (Lib.joinTail [44,32] l++[41]++tail)
 | [],_=>⟨sg_cut 41 (by decide),fun tail=>sg_end 41 tail (by decide)⟩
 | s :: l,h=>by
  obtain ⟨i1,i2⟩:=tailQ_cut l (fun z hz=>h z (List.mem_cons_of_mem _ hz))
  have e:Lib.joinTail [44,32] (s :: l)++[41]=[44]++([32]++(s++(Lib.joinTail [44,32] l++[41]))):=by
   simp[Lib.joinTail]
  rw[e]
  exact ⟨(sg_cut 44 (by decide)).app (sp_cut.app (id_app (h s List.mem_cons_self) i1 i2)),fun tail=>sg_end 44 _ (by decide)⟩
theorem listQ_cut (l:List Str) (h:∀ s∈l,identP s):CutA (Lib.join l [44,32]++[41]) (listQ l):=by
 cases l with
 | nil=>exact sg_cut 41 (by decide)
 | cons s l =>
  obtain ⟨i1,i2⟩:=tailQ_cut l (fun z hz=>h z (List.mem_cons_of_mem _ hz))
  rw[Lib.join_cons,List.append_assoc]
  exact id_app (h s List.mem_cons_self) i1 i2
theorem fu_cut {f:Fun} (h:funE f=0):CutA (fuS f) (fuT f):=by
 obtain ⟨h1,h2,h3⟩:=funE_inv h
 have hk:CutA (if f.isOpen=true then [111,112,101,110,32] else [102,117,110,99,32]) [opT f.isOpen]:=by
  cases f.isOpen
  ·exact key_cut (s:=[102,117,110,99]) (by decide)
  ·exact key_cut (s:=[111,112,101,110]) (by decide)
 exact hk.app (id_app h1 ((sg_cut 40 (by decide)).app ((listQ_cut f.params h2).app (sp_cut.app ((bl_cut 12 0 f.body h3).app nl_cut)))) (fun _=>sg_end 40 _ (by decide)))
theorem un_cut {u:Barb.Unit} (h:unitE u=0):cutF (unS u)=some (unT u):=by
 obtain ⟨h1,h2,h3,h4⟩:=unitE_inv h
 have hc:CutA (unS u) (unT u):=(key_cut (s:=[117,110,105,116]) (by decide)).app (id_app h1 (nl_cut.app ((flat_cut fun s hs=>va_cut (h2 s hs)).app ((flat_cut fun a ha=>ar_cut (h3 a ha)).app (flat_cut fun f hf=>fu_cut (h4 f hf))))) (fun _=>sg_end 10 _ (by decide)))
 have:=hc []
 rw[List.append_nil] at this
 rw[this]
 show some (unT u++[])=_
 rw[List.append_nil]
theorem tailQ_read (rest:List Tok):∀ (l:List Str),(∀ s∈l,identP s)→∀ (n:Nat) (acc:List Str),acc≠[]→l.length < n→parsP n acc (tailQ l++rest)=.ok (acc++l) rest
 | [],_,n+1,acc,_,_=>by
  have h1:=take_hit (sgT 41) rest
  simp only at h1
  show parsP (n+1) acc (sgT 41 :: rest)=_
  simp only[parsP,h1,List.append_nil]
 | s :: l,h,n+1,acc,ha,hn=>by
  show parsP (n+1) acc (sgT 44 :: wdT s :: (tailQ l++rest))=_
  have h1:takeP [41] (sgT 44 :: wdT s :: (tailQ l++rest))=none:=take_miss (by decide)
  have h2:=must_hit (sgT 44) (wdT s :: (tailQ l++rest))
  simp only at h2
  simp only[parsP,h1,if_neg ha,h2,PR.then,name_hit _ (h s List.mem_cons_self)]
  rw[tailQ_read rest l (fun y hy=>h y (List.mem_cons_of_mem _ hy)) n (acc++[s]) (by simp) (by simpa using hn),List.append_assoc]
  rfl
theorem listQ_read (l:List Str) (h:∀ s∈l,identP s) (rest:List Tok) (n:Nat) (hn:l.length < n):parsP n [] (listQ l++rest)=.ok l rest:=by
 obtain ⟨n,rfl⟩:∃ m,n=m+1:=⟨n - 1,by omega⟩
 cases l with
 | nil =>
  have h1:=take_hit (sgT 41) rest
  simp only at h1
  show parsP (n+1) [] (sgT 41 :: rest)=_
  simp only[parsP,h1]
 | cons s l =>
  have hs:=h s List.mem_cons_self
  show parsP (n+1) [] (wdT s :: (tailQ l++rest))=_
  have h1:takeP [41] (wdT s :: (tailQ l++rest))=none:=take_miss (id_ne hs (.inl (by decide)))
  simp only[parsP,h1,if_pos,PR.then,name_hit _ hs]
  exact tailQ_read rest l (fun y hy=>h y (List.mem_cons_of_mem _ hy)) n [s] (by simp) (by simpa using hn)
theorem tailQ_len:∀ l:List Str,l.length < (tailQ l).length
 | []=>by simp[tailQ]
 | s :: l=>by
  have:=tailQ_len l
  simp only[tailQ,List.length_cons]
  omega
theorem listQ_len (l:List Str):l.length < (listQ l).length:=by
 cases l with
 | nil=>simp[listQ]
 | cons s l =>
  have:=tailQ_len l
  simp only[listQ,List.length_cons]
  omega
theorem fu_read {f:Fun} (h:funE f=0) (rest:List Tok):funP f.isOpen (wdT f.name :: sgT 40 :: (listQ f.params++(blT 12 f.body++rest)))=.ok f rest:=by
 obtain ⟨h1,h2,h3⟩:=funE_inv h
 have h4:=must_hit (sgT 40) (listQ f.params++(blT 12 f.body++rest))
 simp only at h4
 unfold funP
 rw[name_hit _ h1]
 simp only[PR.then,h4]
 rw[listQ_read f.params h2 _ _ (by have:=listQ_len f.params;rw[List.length_append];omega)]
 simp only
 rw[bl_read 12 f.body h3 48 (by omega)]
theorem vars_read {rest:List Tok} (hr:textP rest≠[118,97,114]):∀ (l:List Str),(∀ s∈l,identP s)→∀ (n:Nat) (acc:List Str),l.length < n→varsP n acc (l.flatMap vaT++rest)=.ok (acc++l) rest
 | [],_,n+1,acc,_=>by
  show varsP (n+1) acc rest=_
  simp only[varsP,take_miss' hr,List.append_nil]
 | s :: l,h,n+1,acc,hn=>by
  have e:(s :: l).flatMap vaT++rest=wdT [118,97,114] :: wdT s :: (l.flatMap vaT++rest):=rfl
  rw[e]
  have h1:=take_hit (wdT [118,97,114]) (wdT s :: (l.flatMap vaT++rest))
  simp only at h1
  simp only[varsP,h1,PR.then,name_hit _ (h s List.mem_cons_self)]
  rw[vars_read hr l (fun y hy=>h y (List.mem_cons_of_mem _ hy)) n (acc++[s]) (by simpa using hn),List.append_assoc]
  rfl
theorem arrs_read {rest:List Tok} (hr:textP rest≠[97,114,114,97,121]):∀ (l:List Arr),(∀ a∈l,arrE a=0)→∀ (n:Nat) (acc:List Arr),l.length < n→arrsP n acc (l.flatMap arT++rest)=.ok (acc++l) rest
 | [],_,n+1,acc,_=>by
  show arrsP (n+1) acc rest=_
  simp only[arrsP,take_miss' hr,List.append_nil]
 | a :: l,h,n+1,acc,hn=>by
  obtain ⟨i1,i2,i3⟩:=arrE_inv (h a List.mem_cons_self)
  have e:(a :: l).flatMap arT++rest=wdT [97,114,114,97,121] :: wdT a.name :: ⟨2,Lib.decDigits a.size.toNat⟩ :: (l.flatMap arT++rest):=rfl
  rw[e]
  have h1:=take_hit (wdT [97,114,114,97,121]) (wdT a.name :: ⟨2,Lib.decDigits a.size.toNat⟩ :: (l.flatMap arT++rest))
  simp only at h1
  have h2:numP (⟨2,Lib.decDigits a.size.toNat⟩ :: (l.flatMap arT++rest))=.ok a.size (l.flatMap arT++rest):=by
   unfold numP
   rw[if_pos (show kindP (⟨2,Lib.decDigits a.size.toNat⟩ :: (l.flatMap arT++rest))=2 from rfl)]
   show PR.ok (numR (Lib.decDigits a.size.toNat)) (l.flatMap arT++rest)=_
   rw[(numR_yes (n:=a.size.toNat) (by omega)).1,Int.toNat_of_nonneg (by omega)]
  simp only[arrsP,h1,PR.then,name_hit _ i1,h2]
  have ih:=arrs_read hr l (fun y hy=>h y (List.mem_cons_of_mem _ hy)) n (acc++[a]) (by simpa using hn)
  rw[List.append_assoc] at ih
  exact ih
theorem funs_read:∀ (l:List Fun),(∀ f∈l,funE f=0)→∀ (n:Nat) (acc:List Fun),l.length < n→funsP n acc (l.flatMap fuT)=.ok (acc++l) []
 | [],_,n+1,acc,_=>by
  show funsP (n+1) acc []=_
  simp only[funsP,if_pos,List.append_nil]
 | f :: l,h,n+1,acc,hn=>by
  have hf:=fu_read (h f List.mem_cons_self) (l.flatMap fuT)
  have e:(f :: l).flatMap fuT=opT f.isOpen :: (wdT f.name :: sgT 40 :: (listQ f.params++(blT 12 f.body++l.flatMap fuT))):=by
   rw[List.flatMap_cons]
   simp[fuT]
  rw[e]
  have ih:=funs_read l (fun y hy=>h y (List.mem_cons_of_mem _ hy)) n (acc++[f]) (by simpa using hn)
  rw[List.append_assoc] at ih
  simp only[funsP,if_neg (List.cons_ne_nil _ _)]
  cases ho:f.isOpen with
  | true =>
   rw[ho] at hf
   have h1:=take_hit (wdT [111,112,101,110]) (wdT f.name :: sgT 40 :: (listQ f.params++(blT 12 f.body++l.flatMap fuT)))
   simp only at h1
   have e2:opT true=wdT [111,112,101,110]:=rfl
   rw[e2]
   simp only[h1,hf,PR.then]
   exact ih
  | false =>
   rw[ho] at hf
   have e2:opT false=wdT [102,117,110,99]:=rfl
   rw[e2]
   have h1:takeP [111,112,101,110] (wdT [102,117,110,99] :: (wdT f.name :: sgT 40 :: (listQ f.params++(blT 12 f.body++l.flatMap fuT))))=none:=take_miss (by decide)
   have h2:=must_hit (wdT [102,117,110,99]) (wdT f.name :: sgT 40 :: (listQ f.params++(blT 12 f.body++l.flatMap fuT)))
   simp only at h2
   simp only[h1,h2,hf,PR.then]
   exact ih
theorem fuT_head (l:List Fun) {g:Str} (h1:g≠[]) (h2:g≠[111,112,101,110]) (h3:g≠[102,117,110,99]):textP (l.flatMap fuT)≠g:=by
 cases l with
 | nil=>exact fun e=>h1 e.symm
 | cons f l =>
  show (opT f.isOpen).text≠g
  cases f.isOpen
  ·exact fun e=>h3 e.symm
  ·exact fun e=>h2 e.symm
theorem arT_head (l:List Arr) (r:List Tok) (hr:textP r≠[118,97,114]):textP (l.flatMap arT++r)≠[118,97,114]:=by
 cases l with
 | nil=>exact hr
 | cons a l=>exact (by decide:([97,114,114,97,121]:Str)≠[118,97,114])
theorem un_read {u:Barb.Unit} (h:unitE u=0):unitP (unT u)=.ok u []:=by
 obtain ⟨h1,h2,h3,h4⟩:=unitE_inv h
 have e:unT u=wdT [117,110,105,116] :: wdT u.name :: (u.vars.flatMap vaT++(u.arrays.flatMap arT++u.funcs.flatMap fuT)):=rfl
 rw[e]
 have k1:=must_hit (wdT [117,110,105,116]) (wdT u.name :: (u.vars.flatMap vaT++(u.arrays.flatMap arT++u.funcs.flatMap fuT)))
 simp only at k1
 have f1:=fuT_head u.funcs (g:=[118,97,114]) (by decide) (by decide) (by decide)
 have f2:=fuT_head u.funcs (g:=[97,114,114,97,121]) (by decide) (by decide) (by decide)
 unfold unitP
 simp only[k1,PR.then,name_hit _ h1]
 rw[vars_read (arT_head u.arrays _ f1) u.vars h2 _ [] (by
  have:=flat_len (tk:=vaT) (l:=u.vars) fun s _=>List.cons_ne_nil _ _
  rw[List.length_append]
  omega)]
 simp only
 rw[arrs_read f2 u.arrays h3 _ [] (by
  have:=flat_len (tk:=arT) (l:=u.arrays) fun s _=>List.cons_ne_nil _ _
  rw[List.length_append]
  omega)]
 simp only
 rw[funs_read u.funcs h4 _ [] (by
  have:=flat_len (tk:=fuT) (l:=u.funcs) fun s _=>List.cons_ne_nil _ _
  omega)]
 rfl
theorem read_back {u:Barb.Unit} (h:unitE u=0):readR (unS u)=if 3000 < (unS u).length then (u0,1) else (u,0):=by
 have hc:=un_cut h
 by_cases hl:3000 < (unS u).length
 ·rw[if_pos hl]
  have e:cutE (unS u)=1:=by unfold cutE;rw[if_pos hl]
  rw[readR_cut (by rw[e];decide),e]
 ·rw[if_neg hl]
  have e:cutE (unS u)=0:=by unfold cutE;rw[if_neg hl,hc]
  have e2:cutL (unS u)=unT u:=by unfold cutL;rw[if_neg hl,hc];rfl
  exact readR_ok e (by rw[e2];exact un_read h) h
end Go.Proofs.YtabjelabdojpkaaDoor
