import Derived.Test.YthccmffgjchdmaaGreatDoorNTk
import Derived.Test.YthccmffgjchdmaaGreatDoorNRg
open Go Go.Proofs Go.Proofs.YthccmffgjchdmaaGreatDoor
namespace ZN
open Go Go.Dm Go.Eng Barb
def vaT (s:Str):List Tok:=[wdT [118,97,114]]++([wdT s]++[])
def arT (a:Arr):List Tok:=[wdT [97,114,114,97,121]]++([wdT a.name]++([]++([⟨2,Lib.decDigits a.size.toNat⟩]++[])))
def Ziu:List Str->List Tok
 | []=>[sgT 41]
 | s :: r=>sgT 44 :: wdT s :: Ziu r
def ZiB:List Str->List Tok
 | []=>[sgT 41]
 | s :: r=>wdT s :: Ziu r
def opT (o:Bool):Tok:=if o=true then wdT [111,112,101,110] else wdT [102,117,110,99]
def fuT (f:Fun):List Tok:=[opT f.isOpen]++([wdT f.name]++([sgT 40]++(ZiB f.params++([]++(blT 12 f.body++[])))))
def unT (u:Barb.Unit):List Tok:=[wdT [117,110,105,116]]++([wdT u.name]++([]++(u.vars.flatMap vaT++(u.arrays.flatMap arT++u.funcs.flatMap fuT))))
theorem Zqo:Zc0 [10] []:=Zc0.blank (by decide)
theorem Ztq:Zc0 [32] []:=Zc0.blank (by decide)
theorem ZAe {s:Str} (h:Zan s):Zc0 (vaS s) (vaT s):=(Zen (s:=[118,97,114]) (by decide)).app (ZfI h Zqo (λ_=>ZbZ 10 _ (by decide)))
theorem ZBv {a:Arr} (h:Zkm a=0):Zc0 (arS a) (arT a):=by obtain ⟨h1,h2,h3⟩:=ZcC h;have hn:=Zpf (n:=a.size.toNat) (by omega);exact (Zen (s:=[97,114,114,97,121]) (by decide)).app (ZfI h1 (Ztq.app ((ZsM.word 2 hn.1 hn.2.1 hn.2.2).app Zqo (λ_=>ZbZ 10 _ (by decide)))) (λ_=>ZbZ 32 _ (by decide)))
theorem ZmV:∀l:List Str,(∀s∈l,Zan s)->Zc0 (Lib.joinTail [44,32] l++[41]) (Ziu l)/\∀tail,Zx0 (Lib.joinTail [44,32] l++[41]++tail)
 | [],_=>⟨Zc1 41 (by decide),λtail=>ZbZ 41 tail (by decide)⟩
 | s :: l,h=>by
  obtain ⟨i1,i2⟩:=ZmV l (λz hz=>h z (Yad _ hz));have e:Lib.joinTail [44,32] (s :: l)++[41]=[44]++([32]++(s++(Lib.joinTail [44,32] l++[41]))):=by simp[Lib.joinTail]
  rw[e];exact ⟨(Zc1 44 (by decide)).app (Ztq.app (ZfI (h s Yae) i1 i2)),λtail=>ZbZ 44 _ (by decide)⟩
theorem Zul (l:List Str) (h:∀s∈l,Zan s):Zc0 (Lib.join l [44,32]++[41]) (ZiB l):=by
 cases l with
 | nil=>exact Zc1 41 (by decide)
 | cons s l =>obtain ⟨i1,i2⟩:=ZmV l (λz hz=>h z (Yad _ hz));rw[Lib.join_cons,Yax];exact ZfI (h s Yae) i1 i2
theorem ZBd {f:Fun} (h:Zhi f=0):Zc0 (fuS f) (fuT f):=by
 obtain ⟨h1,h2,h3⟩:=Zb7 h;have hk:Zc0 (if f.isOpen=true then [111,112,101,110,32] else [102,117,110,99,32]) [opT f.isOpen]:=by
  cases f.isOpen
  ·exact Zen (s:=[102,117,110,99]) (by decide)
  ·exact Zen (s:=[111,112,101,110]) (by decide)
 exact hk.app (ZfI h1 ((Zc1 40 (by decide)).app ((Zul f.params h2).app (Ztq.app ((Zx7 12 0 f.body h3).app Zqo)))) (λ_=>ZbZ 40 _ (by decide)))
theorem ZAg {u:Barb.Unit} (h:Zbm u=0):Ze7 (unS u)=some (unT u):=by obtain ⟨h1,h2,h3,h4⟩:=ZaQ h;have hc:Zc0 (unS u) (unT u):=(Zen (s:=[117,110,105,116]) (by decide)).app (ZfI h1 (Zqo.app ((Zhk λs hs=>ZAe (h2 s hs)).app ((Zhk λa ha=>ZBv (h3 a ha)).app (Zhk λf hf=>ZBd (h4 f hf))))) (λ_=>ZbZ 10 _ (by decide)));have:=hc [];rw[YaF] at this;rw[this];show some (unT u++[])=_;rw[YaF]
theorem ZkN (rest:List Tok):∀(l:List Str),(∀s∈l,Zan s)->∀(n:Nat) (acc:List Str),acc≠[]->l.length < n->Zch n acc (Ziu l++rest)=.ok (acc++l) rest
 | [],_,n+1,acc,_,_=>by have h1:=Zbr (sgT 41) rest;simp only at h1;show Zch (n+1) acc (sgT 41 :: rest)=_;simp only[Zch,h1,YaF]
 | s :: l,h,n+1,acc,ha,hn=>by show Zch (n+1) acc (sgT 44 :: wdT s :: (Ziu l++rest))=_;have h1:ZaE [41] (sgT 44 :: wdT s :: (Ziu l++rest))=none:=ZaD (by decide);have h2:=Zcj (sgT 44) (wdT s :: (Ziu l++rest));simp only at h2;simp only[Zch,h1,if_neg ha,h2,PR.then,Zci _ (h s Yae)];rw[ZkN rest l (λy hy=>h y (Yad _ hy)) n (acc++[s]) (by simp) (by simpa using hn),Yax];rfl
theorem Zr6 (l:List Str) (h:∀s∈l,Zan s) (rest:List Tok) (n:Nat) (hn:l.length < n):Zch n [] (ZiB l++rest)=.ok l rest:=by
 obtain ⟨n,rfl⟩:∃m,n=m+1:=⟨n - 1,by omega⟩;cases l with
 | nil =>have h1:=Zbr (sgT 41) rest;simp only at h1;show Zch (n+1) [] (sgT 41 :: rest)=_;simp only[Zch,h1]
 | cons s l =>have hs:=h s Yae;show Zch (n+1) [] (wdT s :: (Ziu l++rest))=_;have h1:ZaE [41] (wdT s :: (Ziu l++rest))=none:=ZaD (Ze3 hs (.inl (by decide)));simp only[Zch,h1,if_pos,PR.then,Zci _ hs];exact ZkN rest l (λy hy=>h y (Yad _ hy)) n [s] (by simp) (by simpa using hn)
theorem ZmU:∀l:List Str,l.length < (Ziu l).length
 | []=>by simp[Ziu]
 | s :: l=>by have:=ZmU l;simp only[Ziu,List.length_cons];omega
theorem Zuk (l:List Str):l.length < (ZiB l).length:=by
 cases l with
 | nil=>simp[ZiB]
 | cons s l =>have:=ZmU l;simp only[ZiB,List.length_cons];omega
theorem Zzu {f:Fun} (h:Zhi f=0) (rest:List Tok):Zip f.isOpen (wdT f.name :: sgT 40 :: (ZiB f.params++(blT 12 f.body++rest)))=.ok f rest:=by obtain ⟨h1,h2,h3⟩:=Zb7 h;have h4:=Zcj (sgT 40) (ZiB f.params++(blT 12 f.body++rest));simp only at h4;unfold Zip;rw[Zci _ h1];simp only[PR.then,h4];rw[Zr6 f.params h2 _ _ (by have:=Zuk f.params;rw[Yab];omega)];simp only;rw[Zvf 12 f.body h3 48 (by omega)]
theorem ZmS {rest:List Tok} (hr:Zbi rest≠[118,97,114]):∀(l:List Str),(∀s∈l,Zan s)->∀(n:Nat) (acc:List Str),l.length < n->Zbh n acc (l.flatMap vaT++rest)=.ok (acc++l) rest
 | [],_,n+1,acc,_=>by show Zbh (n+1) acc rest=_;simp only[Zbh,Zc7 hr,YaF]
 | s :: l,h,n+1,acc,hn=>by have e:(s :: l).flatMap vaT++rest=wdT [118,97,114] :: wdT s :: (l.flatMap vaT++rest):=rfl;rw[e];have h1:=Zbr (wdT [118,97,114]) (wdT s :: (l.flatMap vaT++rest));simp only at h1;simp only[Zbh,h1,PR.then,Zci _ (h s Yae)];rw[ZmS hr l (λy hy=>h y (Yad _ hy)) n (acc++[s]) (by simpa using hn),Yax];rfl
theorem Zoq {rest:List Tok} (hr:Zbi rest≠[97,114,114,97,121]):∀(l:List Arr),(∀a∈l,Zkm a=0)->∀(n:Nat) (acc:List Arr),l.length < n->Zeq n acc (l.flatMap arT++rest)=.ok (acc++l) rest
 | [],_,n+1,acc,_=>by show Zeq (n+1) acc rest=_;simp only[Zeq,Zc7 hr,YaF]
 | a :: l,h,n+1,acc,hn=>by
  obtain ⟨i1,i2,i3⟩:=ZcC (h a Yae);have e:(a :: l).flatMap arT++rest=wdT [97,114,114,97,121] :: wdT a.name :: ⟨2,Lib.decDigits a.size.toNat⟩ :: (l.flatMap arT++rest):=rfl;rw[e];have h1:=Zbr (wdT [97,114,114,97,121]) (wdT a.name :: ⟨2,Lib.decDigits a.size.toNat⟩ :: (l.flatMap arT++rest));simp only at h1;have h2:Zff (⟨2,Lib.decDigits a.size.toNat⟩ :: (l.flatMap arT++rest))=.ok a.size (l.flatMap arT++rest):=by unfold Zff;rw[if_pos (show Zgl (⟨2,Lib.decDigits a.size.toNat⟩ :: (l.flatMap arT++rest))=2 from rfl)];show PR.ok (Zt9 (Lib.decDigits a.size.toNat)) (l.flatMap arT++rest)=_;rw[(Zha (n:=a.size.toNat) (by omega)).1,Yby (by omega)]
  simp only[Zeq,h1,PR.then,Zci _ i1,h2];have ih:=Zoq hr l (λy hy=>h y (Yad _ hy)) n (acc++[a]) (by simpa using hn);rw[Yax] at ih;exact ih
theorem ZnQ:∀(l:List Fun),(∀f∈l,Zhi f=0)->∀(n:Nat) (acc:List Fun),l.length < n->Zdx n acc (l.flatMap fuT)=.ok (acc++l) []
 | [],_,n+1,acc,_=>by show Zdx (n+1) acc []=_;simp only[Zdx,if_pos,YaF]
 | f :: l,h,n+1,acc,hn=>by
  have hf:=Zzu (h f Yae) (l.flatMap fuT);have e:(f :: l).flatMap fuT=opT f.isOpen :: (wdT f.name :: sgT 40 :: (ZiB f.params++(blT 12 f.body++l.flatMap fuT))):=by rw[Ybb];simp[fuT]
  rw[e];have ih:=ZnQ l (λy hy=>h y (Yad _ hy)) n (acc++[f]) (by simpa using hn);rw[Yax] at ih;simp only[Zdx,if_neg (List.cons_ne_nil _ _)];cases ho:f.isOpen with
  | true =>rw[ho] at hf;have h1:=Zbr (wdT [111,112,101,110]) (wdT f.name :: sgT 40 :: (ZiB f.params++(blT 12 f.body++l.flatMap fuT)));simp only at h1;have e2:opT true=wdT [111,112,101,110]:=rfl;rw[e2];simp only[h1,hf,PR.then];exact ih
  | false =>rw[ho] at hf;have e2:opT false=wdT [102,117,110,99]:=rfl;rw[e2];have h1:ZaE [111,112,101,110] (wdT [102,117,110,99] :: (wdT f.name :: sgT 40 :: (ZiB f.params++(blT 12 f.body++l.flatMap fuT))))=none:=ZaD (by decide);have h2:=Zcj (wdT [102,117,110,99]) (wdT f.name :: sgT 40 :: (ZiB f.params++(blT 12 f.body++l.flatMap fuT)));simp only at h2;simp only[h1,h2,hf,PR.then];exact ih
theorem ZqO (l:List Fun) {g:Str} (h1:g≠[]) (h2:g≠[111,112,101,110]) (h3:g≠[102,117,110,99]):Zbi (l.flatMap fuT)≠g:=by
 cases l with
 | nil=>exact λe=>h1 e.symm
 | cons f l =>
  show (opT f.isOpen).text≠g;cases f.isOpen
  ·exact λe=>h3 e.symm
  ·exact λe=>h2 e.symm
theorem Zxl (l:List Arr) (r:List Tok) (hr:Zbi r≠[118,97,114]):Zbi (l.flatMap arT++r)≠[118,97,114]:=by
 cases l with
 | nil=>exact hr
 | cons a l=>exact (by decide:([97,114,114,97,121]:Str)≠[118,97,114])
theorem Zyj {u:Barb.Unit} (h:Zbm u=0):Zex (unT u)=.ok u []:=by
 obtain ⟨h1,h2,h3,h4⟩:=ZaQ h;have e:unT u=wdT [117,110,105,116] :: wdT u.name :: (u.vars.flatMap vaT++(u.arrays.flatMap arT++u.funcs.flatMap fuT)):=rfl;rw[e];have k1:=Zcj (wdT [117,110,105,116]) (wdT u.name :: (u.vars.flatMap vaT++(u.arrays.flatMap arT++u.funcs.flatMap fuT)));simp only at k1;have f1:=ZqO u.funcs (g:=[118,97,114]) (by decide) (by decide) (by decide);have f2:=ZqO u.funcs (g:=[97,114,114,97,121]) (by decide) (by decide) (by decide);unfold Zex;simp only[k1,PR.then,Zci _ h1];rw[ZmS (Zxl u.arrays _ f1) u.vars h2 _ [] (by
  have:=Zhj (tk:=vaT) (l:=u.vars) λs _=>List.cons_ne_nil _ _;rw[Yab];omega)]
 simp only;rw[Zoq f2 u.arrays h3 _ [] (by
  have:=Zhj (tk:=arT) (l:=u.arrays) λs _=>List.cons_ne_nil _ _;rw[Yab];omega)]
 simp only;rw[ZnQ u.funcs h4 _ [] (by
  have:=Zhj (tk:=fuT) (l:=u.funcs) λs _=>List.cons_ne_nil _ _;omega)]
 rfl
theorem Zni {u:Barb.Unit} (h:Zbm u=0):Zix (unS u)=if 3000 < (unS u).length then (u0,1) else (u,0):=by
 have hc:=ZAg h;by_cases hl:3000 < (unS u).length
 ·rw[if_pos hl];have e:Zle (unS u)=1:=by unfold Zle;rw[if_pos hl]
  rw[Znj (by rw[e];decide),e]
 ·rw[if_neg hl];have e:Zle (unS u)=0:=by unfold Zle;rw[if_neg hl,hc]
  have e2:ZmM (unS u)=unT u:=by unfold ZmM;rw[if_neg hl,hc];rfl
  exact Zqa e (by rw[e2];exact Zyj h) h
end ZN
