import Derived.Test.YtpjjkiidjofflaaGreatDoorRG7
import Derived.Test.YtpjjkiidjofflaaGreatDoorRG4
import Derived.Test.YtpjjkiidjofflaaGreatDoorRG6
import Derived.Test.YtpjjkiidjofflaaGreatDoorRG3
import Derived.Test.YtpjjkiidjofflaaGreatDoorRG2
import Derived.Test.YtpjjkiidjofflaaGreatDoorRG5
import Derived.Test.YtpjjkiidjofflaaGreatDoorRG8
namespace Go.Proofs.YtpjjkiidjofflaaGreatDoor
open Go Go.Dm Go.Eng Go.RowKit Barb
structure BuiltOk (p:List Barb.Unit) (r:Raw):Prop where
 good:Za8 p=0
 few:fewP p
 len:p.length<=3
 data:Zf6 p (ZcK p r)=ZaJ (ZcK p r)
 words:((Zf6 p (ZcK p r)).length:Int)=Zaj p
 word:∀x∈Zf6 p (ZcK p r),ZfP x
 dlen:(Zf6 p (ZcK p r)).length<=190
 wlen:Zaj p<=18
theorem builtOk (l:List Raw) (r:Raw):BuiltOk (ZbQ l) r:=by have hP:=Zgs l;have hgood:=prog_good hP;obtain ⟨d1,d2,d3⟩:=built_of hgood r;exact ⟨hgood,prog_few hP,by rw[Zh5 hP];exact hP.m.2,d1,by rw[d1];exact d2,by rw[d1];exact d3,dataL_len _ _,by have h1:=(Zim hP.shape).2;have h2:=hP.m.2;have h3:=Zh5 hP;omega⟩
theorem built_any (l:List Raw) (hI:∀r∈l,r.I) (hl:l.length*32<=140737488351232) (r:Raw) (hr:r.I) :
  CT Tryz.prog gl 5 [.g (.sl 4 (l.map Raw.g)),.agg r.d] (Is (.tuple [.g (.sl 4 ((ZbQ l).map Unit.g)),.agg (imgD (Zb9 (ZbQ l))),.g (.sl 2 ((ZcK (ZbQ l) r).map Cells.g)),.g (.sl 1 ((Zf6 (ZbQ l) (ZcK (ZbQ l) r)).map Zat)),.pb (Ze0 (ZbQ l)=0)])):=by
 obtain ⟨hgood,hfew,_,_,_,_,hdl,_⟩:=builtOk l r;have hpi:=progE_I hgood hfew;have hPr:=Program_isT l hl hI;generalize ZbQ l=p at *;have hC:=Cells_isT p (progE_PC hgood) r hr;have hc0:=Zf8 hgood r;obtain ⟨_,hcl,hcc⟩:=Ze9 hc0;have h5:=(ZaX hgood).1;have hD:=Data_any p hpi (ZcK p r) (cells_I hgood hcl hcc) (by omega);rw[hc0] at hD;have hL:=ZiS p hpi hfew;generalize ZcK p r=cs at *;generalize Zf6 p cs=d at *;generalize Zb9 p=m at *;generalize Ze0 p=e at *;refine enter hT hF hM Tryz.func5 rfl 41 rfl (by kernel_rfl) [.tmp 4,.cell 5 28,.tmp 6,.tmp 7,.tmp 8] rfl [.g (.sl 4 (l.map Raw.g)),.agg r.d] rfl _ ?_;refine Zae (.inl rfl) hPr ?_;refine Zae (.inl rfl) hC ?_;refine Zae (.inl rfl) hL ?_;refine Zae (.inl rfl) hD ?_;refine ⟨none,rfl,?_⟩;refine ⟨λg1=>?_,λg1=>?_⟩
 ·exact ⟨rfl,ZbN (.inr (.inr ⟨lk rfl,lk rfl,lk rfl,lk rfl,lkP ⟨λ_=>g1,λ_=>rfl⟩,trivial⟩))⟩
 ·exact ⟨rfl,ZbN (.inr (.inr ⟨lk rfl,lk rfl,lk rfl,lk rfl,lkBP ⟨λh=>absurd h (by decide),λh=>absurd h g1⟩,trivial⟩))⟩
end Go.Proofs.YtpjjkiidjofflaaGreatDoor
namespace Barb
open Go Go.Dm Go.Eng Go.Proofs.YtpjjkiidjofflaaGreatDoor
end Barb
namespace Go.Proofs.YtpjjkiidjofflaaGreatDoor
open Go Go.Dm Go.Eng Go.RowKit Barb
theorem EqualN_any (l:List Int) (hl:l.length<=9223372036854775807):CT Tryz.prog gl 11 [.g (.sl 1 (l.map Zat)),.g (.sl 1 (l.map Zat))] (Is (.g (.bool true))):=by
 have ll:(l.map Zat).length=l.length:=by simp
 refine enter hT hF hM Tryz.func11 rfl 26 rfl (by kernel_rfl) [.tmp 4] rfl [.g (.sl 1 (l.map Zat)),.g (.sl 1 (l.map Zat))] rfl _ ?_;refine ⟨λh=>absurd rfl h,λ_=>?_⟩;refine ZaM (ι:=Nat) (λi=>[(13,.g (.int (i:Int)))]) (λ_=>[]) (λi=>i<=l.length) (λi=>l.length - i)
  ⟨0,[],⟨rfl,.inl rfl,.inr ⟨lk rfl,trivial⟩,rfl⟩,Nat.zero_le _⟩ ?_
 intro Rd hRd i hi;refine ⟨λh1=>?_,λh1=>⟨rfl,ZbN (.inl rfl)⟩⟩;have h2:i < l.length:=by omega
 refine ⟨none,rfl,i,_,rfl,gm h2,i,_,rfl,gm h2,?_⟩;refine ⟨λh=>absurd rfl h,λ_=>⟨_,I64.wrap (by unfold I64;omega),?_⟩⟩;exact hRd _ _ _ ⟨i+1,[],⟨rfl,.inl rfl,.inr ⟨lk rfl,trivial⟩,rfl⟩,h2,by omega⟩
def Cells.d (c:Cells):List D:=[.g (.sl 1 (c.vars.map Zat)),.g (.sl 1 (c.arrays.map Zhb))]
end Go.Proofs.YtpjjkiidjofflaaGreatDoor
namespace Barb
open Go Go.Dm Go.Eng
noncomputable def ZhH (g:GC) (s:Str) (i:Nat):List Instr :=
 [⟨3,0,0,0⟩,⟨1,(Zaz g s).2,0,0⟩,⟨8,7,0,0⟩,⟨10,((i+5:Nat):Int),0,0⟩,⟨9,((i+6:Nat):Int),0,0⟩,⟨15,0,0,0⟩,⟨1,(Zaz g s).1,0,0⟩,⟨8,1,0,0⟩]
noncomputable def Zjj (g:GC) (of s:Str) (n:Nat):Instr :=
 if of=[] then ⟨11,ZbA g.u s,n,0⟩
 else ⟨12,Za5 g.p of,ZgI (g.p.getD (Za5 g.p of).toNat ⟨[],[],[],[]⟩) (ZbA (g.p.getD (Za5 g.p of).toNat ⟨[],[],[],[]⟩) s),n⟩
noncomputable def ccRead (g:GC) (s:Str):List Instr:=if 0<=Zbh g.f s then [⟨4,Zbh g.f s,0,0⟩] else [⟨1,(Zaz g s).1,0,0⟩,⟨6,0,0,0⟩]
noncomputable def ZhG (g:GC) (k n:Int) (of s:Str) (m i:Nat):List Instr :=
 if k=1 then [⟨1,n,0,0⟩] else if k=2 then ccRead g s else if k=3 then ZhH g s i++[⟨6,0,0,0⟩] else if k=4 then [Zjj g of s m] else [⟨8,n,0,0⟩]
mutual
noncomputable def ccE (g:GC):Expr->Nat->List Instr
 | .mk k n of s args,i=>ccEs g args i++ZhG g k n of s args.length (i+(ccEs g args i).length)
noncomputable def ccEs (g:GC):List Expr->Nat->List Instr
 | [],_=>[]
 | x :: l,i=>ccE g x i++ccEs g l (i+(ccE g x i).length)
end
noncomputable def ccSet (g:GC) (s:Str) (x:Expr) (i:Nat):List Instr :=
 if 0<=Zbh g.f s then ccE g x i++[⟨5,Zbh g.f s,0,0⟩] else ⟨1,(Zaz g s).1,0,0⟩ :: (ccE g x (i+1)++[⟨7,0,0,0⟩])
noncomputable def ccPut2 (g:GC) (s:Str) (x y:Expr) (i:Nat):List Instr :=
 ccE g x i++(ccE g y (i+(ccE g x i).length)++(⟨5,g.f.params.length,0,0⟩ :: (ZhH g s (i+(ccE g x i).length+(ccE g y (i+(ccE g x i).length)).length+1)++[⟨4,g.f.params.length,0,0⟩,⟨7,0,0,0⟩])))
mutual
noncomputable def ccS (g:GC):Stmt->Nat->List Instr
 | .mk k s xs b e,i =>
  if k=1 then ccSet g s (xs.getD 0 noX) i
  else if k=2 then ccPut2 g s (xs.getD 0 noX) (xs.getD 1 noX) i
  else if k=3\/k=4 then
   let cx:=ccE g (xs.getD 0 noX) i
   let cb:=Zfa g b (i+cx.length+1)
   let no:=i+cx.length+1+cb.length+1
   let ce:=if k=3 then Zfa g e no else []
   cx++(⟨10,(no:Int),0,0⟩ :: (cb++(⟨9,((if k=4 then i else no+ce.length:Nat):Int),0,0⟩ :: ce)))
  else if k=5 then ccE g (xs.getD 0 noX) i++[⟨13,0,0,0⟩]
  else ccE g (xs.getD 0 noX) i++[⟨14,0,0,0⟩]
noncomputable def Zfa (g:GC):List Stmt->Nat->List Instr
 | [],_=>[]
 | x :: l,i=>ccS g x i++Zfa g l (i+(ccS g x i).length)
end
theorem Zh3 (l r:List Instr) (x:Instr) (a:Int):setA (l++x :: r) l.length a=l++{ x with a:=a } :: r:=by
 unfold setA
 induction l with
 | nil=>rfl
 | cons y l ih=>rw[List.cons_append,List.length_cons,List.modify_succ_cons,ih];rfl
theorem Zbg (w:GW) (op a b c more:Int):(w.put op a b c more).code=w.code++[⟨op,a,b,c⟩]:=rfl
theorem ZiB (w:GW) (i:Nat) (a:Int):(w.setA i a).code=setA w.code i a:=rfl
theorem elem_code (g:GC) (s:Str) (w:GW):(Ze6 g s w).code=w.code++ZhH g s w.code.length:=by
 unfold Ze6 ZhH;simp only[Zbg,ZiB,GW.at_];have e:(w.code++[(⟨3,0,0,0⟩:Instr)]++[(⟨1,(Zaz g s).2,0,0⟩:Instr)]++[(⟨8,7,0,0⟩:Instr)]).length=w.code.length+3:=by simp
 have:=Zh3 (w.code++[(⟨3,0,0,0⟩:Instr)]++[⟨1,(Zaz g s).2,0,0⟩]++[⟨8,7,0,0⟩]) [⟨9,((w.code.length+3:Nat):Int)+3,0,0⟩,⟨15,0,0,0⟩] ⟨10,0,0,0⟩ (((w.code.length+3:Nat):Int)+2);rw[e] at this ⊢;simp only[List.append_assoc,List.cons_append,List.nil_append] at this ⊢;rw[this];simp only[List.append_assoc,List.cons_append,List.nil_append];have e2:(((w.code.length+3:Nat):Int)+2)=((w.code.length+5:Nat):Int):=by omega
 have e3:(((w.code.length+3:Nat):Int)+3)=((w.code.length+6:Nat):Int):=by omega
 rw[e2,e3]
theorem call_code (g:GC) (of s:Str) (n:Nat) (w:GW):(Zhp g of s n w).code=w.code++[Zjj g of s n]:=by
 unfold Zhp Zjj
 split<;>rfl
theorem read_code (g:GC) (s:Str) (w:GW):(readG g s w).code=w.code++ccRead g s:=by
 unfold readG ccRead
 split
 ·rfl
 ·simp[Zbg]
theorem last_code (g:GC) (k n:Int) (of s:Str) (m:Nat) (w:GW):(ZfE g k n of s m w).code=w.code++ZhG g k n of s m w.code.length:=by
 unfold ZfE ZhG
 split
 ·rfl
 ·split
  ·exact read_code g s w
  ·split
   ·rw[Zbg,elem_code,List.append_assoc]
   ·split
    ·exact call_code g of s m w
    ·rfl
mutual
theorem ZdD (g:GC):∀(x:Expr) (w:GW),(Zba g x w).code=w.code++ccE g x w.code.length
 | .mk k n of s args,w=>by rw[Zba,last_code,exprs_code g args w,ccE,List.append_assoc,List.length_append]
theorem exprs_code (g:GC):∀(l:List Expr) (w:GW),(ZaD g l w).code=w.code++ccEs g l w.code.length
 | [],w=>by rw[ZaD,ccEs,List.append_nil]
 | x :: l,w=>by rw[ZaD,exprs_code g l,ZdD g x w,ccEs,List.append_assoc,List.length_append]
end
theorem set_code (g:GC) (s:Str) (x:Expr) (w:GW):(setG g s x w).code=w.code++ccSet g s x w.code.length:=by
 unfold setG ccSet
 split
 ·rw[Zbg,ZdD,List.append_assoc]
 ·rw[Zbg,ZdD,Zbg,List.length_append];simp
theorem put2_code (g:GC) (s:Str) (x y:Expr) (w:GW):(ZhK g s x y w).code=w.code++ccPut2 g s x y w.code.length:=by unfold ZhK ccPut2;simp only[Zbg,elem_code,ZdD,List.length_append,List.length_cons,List.length_nil,List.append_assoc,List.cons_append,List.nil_append,Nat.add_assoc,Nat.zero_add]
mutual
theorem stmt_code (g:GC):∀(x:Stmt) (w:GW),(ZfB g x w).code=w.code++ccS g x w.code.length
 | .mk k s xs b e,w=>by
  rw[ZfB,ccS]
  by_cases h1:k=1
  ·rw[if_pos h1,if_pos h1];exact set_code _ _ _ _
  rw[if_neg h1,if_neg h1]
  by_cases h2:k=2
  ·rw[if_pos h2,if_pos h2];exact put2_code _ _ _ _ _
  rw[if_neg h2,if_neg h2]
  by_cases h34:k=3\/k=4
  ·rw[if_pos h34,if_pos h34];dsimp only;have c1:=ZdD g (xs.getD 0 noX) w;generalize Zba g (xs.getD 0 noX) w=w1 at *;generalize ccE g (xs.getD 0 noX) w.code.length=cx at *;have c2:=Zfk g b (w1.put 10 0 0 0 (-1));have l2:(w1.put 10 0 0 0 (-1)).code.length=w.code.length+cx.length+1:=by rw[Zbg,c1];simp;omega
   rw[l2] at c2;generalize stmtsG g b (w1.put 10 0 0 0 (-1))=w2 at *;generalize Zfa g b (w.code.length+cx.length+1)=cb at *;rw[Zbg,c1] at c2;have l3:(w2.put 9 (if k=4 then w.at_ else 0) 0 0 0).at_=((w.code.length+cx.length+1+cb.length+1:Nat):Int):=by unfold GW.at_;rw[Zbg,c2];simp;omega
   have c4:((w2.put 9 (if k=4 then w.at_ else 0) 0 0 0).setA w1.code.length (w2.put 9 (if k=4 then w.at_ else 0) 0 0 0).at_).code=w.code++(cx++(⟨10,((w.code.length+cx.length+1+cb.length+1:Nat):Int),0,0⟩ :: (cb++[⟨9,if k=4 then w.at_ else 0,0,0⟩]))):=by rw[ZiB,l3,Zbg,c2,c1];have:=Zh3 (w.code++cx) (cb++[⟨9,if k=4 then w.at_ else 0,0,0⟩]) ⟨10,0,0,0⟩ ((w.code.length+cx.length+1+cb.length+1:Nat):Int);simp only[List.append_assoc,List.cons_append,List.nil_append] at this ⊢;rw[this]
   generalize ((w2.put 9 (if k=4 then w.at_ else 0) 0 0 0).setA w1.code.length (w2.put 9 (if k=4 then w.at_ else 0) 0 0 0).at_)=w4 at *
   by_cases h3:k=3
   ·rw[if_pos h3,if_pos h3];have h4:¬k=4:=by omega
    rw[if_neg h4] at c4 ⊢;have l4:w4.code.length=w.code.length+cx.length+1+cb.length+1:=by rw[c4];simp;try omega
    have c5:=Zfk g e w4;rw[l4] at c5;have l5:(stmtsG g e w4).at_=((w.code.length+cx.length+1+cb.length+1+(Zfa g e (w.code.length+cx.length+1+cb.length+1)).length:Nat):Int):=by unfold GW.at_;rw[c5,List.length_append,l4]
    rw[ZiB,l5,c5,c4];generalize Zfa g e (w.code.length+cx.length+1+cb.length+1)=ce;have l2':w2.code.length=(w.code++(cx++(⟨10,((w.code.length+cx.length+1+cb.length+1:Nat):Int),0,0⟩ :: cb))).length:=by rw[c2];simp
    rw[l2'];have:=Zh3 (w.code++(cx++(⟨10,((w.code.length+cx.length+1+cb.length+1:Nat):Int),0,0⟩ :: cb))) ce ⟨9,0,0,0⟩ ((w.code.length+cx.length+1+cb.length+1+ce.length:Nat):Int);simp only[List.append_assoc,List.cons_append,List.nil_append] at this ⊢;rw[this]
   ·have h4:k=4:=by omega
    rw[if_neg h3,if_neg h3,c4,if_pos h4,if_pos h4];rfl
  rw[if_neg h34,if_neg h34]
  by_cases h5:k=5
  ·rw[if_pos h5,if_pos h5,Zbg,ZdD,List.append_assoc]
  ·rw[if_neg h5,if_neg h5,Zbg,ZdD,List.append_assoc]
theorem Zfk (g:GC):∀(l:List Stmt) (w:GW),(stmtsG g l w).code=w.code++Zfa g l w.code.length
 | [],w=>by rw[stmtsG,Zfa,List.append_nil]
 | x :: l,w=>by rw[stmtsG,Zfk g l,stmt_code g x w,Zfa,List.append_assoc,List.length_append]
end
def c11:List Instr->Nat->List Int
 | [],_=>[]
 | x :: l,i=>if x.op=11 then (i:Int) :: c11 l (i+1) else c11 l (i+1)
theorem c11_app:∀(a b:List Instr) (i:Nat),c11 (a++b) i=c11 a i++c11 b (i+a.length)
 | [],b,i=>by simp[c11]
 | x :: a,b,i=>by
  simp only[List.cons_append,c11,c11_app a b (i+1),List.length_cons];rw[show i+1+a.length=i+(a.length+1) from by omega]
  split<;>simp
theorem c11_setA:∀(l:List Instr) (k:Nat) (a:Int) (i:Nat),c11 (setA l k a) i=c11 l i
 | [],_,_,_=>by simp[setA]
 | x :: l,0,a,i=>rfl
 | x :: l,k+1,a,i=>by show (if x.op=11 then (i:Int) :: c11 (setA l k a) (i+1) else c11 (setA l k a) (i+1))=_;rw[c11_setA l k a (i+1)];rfl
def Cal (w:GW):Prop:=w.calls=c11 w.code 0
theorem Cal.put {w:GW} (h:Cal w) {op:Int} (ho:op≠11) (a b c more:Int):Cal (w.put op a b c more):=by unfold Cal;rw[Zd6,Zbg,c11_app,h];simp[c11,ho]
theorem Cal.setA {w:GW} (h:Cal w) (i:Nat) (a:Int):Cal (w.setA i a):=by show w.calls=c11 (Barb.setA w.code i a) 0;rw[c11_setA];exact h
theorem Cal.elem (g:GC) (s:Str) {w:GW} (h:Cal w):Cal (Ze6 g s w):=by unfold Ze6;exact ((((((((h.put (by decide) _ _ _ _).put (by decide) _ _ _ _).put (by decide) _ _ _ _).put (by decide) _ _ _ _).put (by decide) _ _ _ _).put (by decide) _ _ _ _).setA _ _).put (by decide) _ _ _ _).put (by decide) _ _ _ _
theorem Cal.call (g:GC) (of s:Str) (n:Nat) {w:GW} (h:Cal w):Cal (Zhp g of s n w):=by
 unfold Zhp
 split
 ·unfold Cal;rw[Zd6,Zbg,c11_app];show w.calls++[w.at_]=c11 w.code 0++_;rw[h];simp[c11,GW.at_]
 ·exact h.put (by decide) _ _ _ _
theorem Cal.last (g:GC) (k n:Int) (of s:Str) (m:Nat) {w:GW} (h:Cal w):Cal (ZfE g k n of s m w):=by
 unfold ZfE
 split
 ·exact h.put (by decide) _ _ _ _
 ·split
  ·unfold readG
   split
   ·exact h.put (by decide) _ _ _ _
   ·exact (h.put (by decide) _ _ _ _).put (by decide) _ _ _ _
  ·split
   ·exact (h.elem g s).put (by decide) _ _ _ _
   ·split
    ·exact h.call g of s m
    ·exact h.put (by decide) _ _ _ _
mutual
theorem Cal.expr (g:GC):∀(x:Expr) {w:GW},Cal w->Cal (Zba g x w)
 | .mk k n of s args,w,h=>by rw[Zba];exact (Cal.exprs g args h).last _ _ _ _ _ _
theorem Cal.exprs (g:GC):∀(l:List Expr) {w:GW},Cal w->Cal (ZaD g l w)
 | [],w,h=>by rw[ZaD];exact h
 | x :: l,w,h=>by rw[ZaD];exact Cal.exprs g l (Cal.expr g x h)
end
mutual
theorem Cal.stmt (g:GC):∀(x:Stmt) {w:GW},Cal w->Cal (ZfB g x w)
 | .mk k s xs b e,w,h=>by
  rw[ZfB]
  split
  ·unfold setG
   split
   ·exact (Cal.expr g _ h).put (by decide) _ _ _ _
   ·exact (Cal.expr g _ (h.put (by decide) _ _ _ _)).put (by decide) _ _ _ _
  ·split
   ·unfold ZhK;exact ((((Cal.expr g _ (Cal.expr g _ h)).put (by decide) _ _ _ _).elem g s).put (by decide) _ _ _ _).put (by decide) _ _ _ _
   ·split
    ·dsimp only;have h4:=((Cal.stmts g b ((Cal.expr g (xs.getD 0 noX) h).put (op:=10) (by decide) 0 0 0 (-1))).put (op:=9) (by decide) (if k=4 then w.at_ else 0) 0 0 0).setA (Zba g (xs.getD 0 noX) w).code.length ((stmtsG g b ((Zba g (xs.getD 0 noX) w).put 10 0 0 0 (-1))).put 9 (if k=4 then w.at_ else 0) 0 0 0).at_
     split
     ·exact (Cal.stmts g e h4).setA _ _
     ·exact h4
    ·split
     ·exact (Cal.expr g _ h).put (by decide) _ _ _ _
     ·exact (Cal.expr g _ h).put (by decide) _ _ _ _
theorem Cal.stmts (g:GC):∀(l:List Stmt) {w:GW},Cal w->Cal (stmtsG g l w)
 | [],w,h=>by rw[stmtsG];exact h
 | x :: l,w,h=>by rw[stmtsG];exact Cal.stmts g l (Cal.stmt g x h)
end
theorem Cal.funs (p:List Unit) (u:Unit) (base:Int):∀(l:List Fun) {w:GW},Cal w->Cal (Zbx p u base l w)
 | [],w,h=>by rw[Zbx];exact h
 | f :: l,w,h=>by rw[Zbx];refine Cal.funs p u base l ?_;unfold funG;exact ((Cal.stmts _ f.body (show Cal { w with deep:=0 } from h)).put (by decide) _ _ _ _).put (by decide) _ _ _ _
def pt (ats:List Int) (x:Instr):Instr:=if x.op=11 then { x with a:=ats.getD x.a.toNat 0 } else x
theorem Zg2 (ats:List Int):∀(l pre:List Instr),Zb8 ats (c11 l pre.length) (pre++l)=pre++l.map (pt ats)
 | [],pre=>by simp[c11,Zb8]
 | x :: l,pre=>by
  have step:∀y:Instr,pre++y :: l=(pre++[y])++l:=λy=>by simp
  have len:∀y:Instr,(pre++[y]).length=pre.length+1:=λy=>by simp
  rw[c11]
  split
  ·rename_i h;rw[Zb8,Int.toNat_natCast,show (pre++x :: l).getD pre.length ⟨0,0,0,0⟩=x by simp,Zh3,step];have:=Zg2 ats l (pre++[{ x with a:=ats.getD x.a.toNat 0 }]);rw[len] at this;rw[this];simp[pt,h]
  ·rename_i h;have:=Zg2 ats l (pre++[x]);rw[len] at this;rw[step,this];simp[pt,h]
noncomputable def ccF (p:List Unit) (u:Unit) (base:Int) (f:Fun) (i:Nat):List Instr:=Zfa ⟨p,u,base,f⟩ f.body i++[⟨1,0,0,0⟩,⟨13,0,0,0⟩]
noncomputable def ccFs (p:List Unit) (u:Unit) (base:Int):List Fun->Nat->List Instr
 | [],_=>[]
 | f :: l,i=>ccF p u base f i++ccFs p u base l (i+(ccF p u base f i).length)
theorem fun_code (p:List Unit) (u:Unit) (base:Int) (f:Fun) (w:GW):(funG p u base f w).code=w.code++ccF p u base f w.code.length:=by unfold funG ccF;rw[Zbg,Zbg,Zfk];simp
theorem funs_code (p:List Unit) (u:Unit) (base:Int):∀(l:List Fun) (w:GW),(Zbx p u base l w).code=w.code++ccFs p u base l w.code.length
 | [],w=>by rw[Zbx,ccFs,List.append_nil]
 | f :: l,w=>by rw[Zbx,funs_code p u base l,fun_code,ccFs,List.append_assoc,List.length_append]
theorem unit_code (p:List Unit) (u:Unit) (base:Int):ZdE p u base=(ccFs p u base u.funcs 0).map (pt (Zfz p u base u.funcs ⟨[],[],0,0⟩)):=by
 unfold ZdE;have h1:Cal (ZcM p u base):=Cal.funs p u base u.funcs (show Cal ⟨[],[],0,0⟩ from rfl);have h2:(ZcM p u base).code=ccFs p u base u.funcs 0:=by
  have:=funs_code p u base u.funcs ⟨[],[],0,0⟩
  simpa [ZcM] using this
 rw[h1,h2];have:=Zg2 (Zfz p u base u.funcs ⟨[],[],0,0⟩) (ccFs p u base u.funcs 0) []
 simpa using this
def At (C:List Instr) (ats:List Int) (i:Nat) (L:List Instr):Prop:=∀j (h:j < L.length),C[i+j]?=some (pt ats L[j])
theorem At.app {C:List Instr} {ats:List Int} {i:Nat} {a b:List Instr} (h:At C ats i (a++b)):At C ats i a/\At C ats (i+a.length) b:=by
 refine ⟨λj hj=>?_,λj hj=>?_⟩
 ·have:=h j (by simp;omega);rw[this,List.getElem_append_left hj]
 ·have:=h (a.length+j) (by simp;omega);rw[Nat.add_assoc,this,List.getElem_append_right (by omega)];simp
theorem At.cons {C:List Instr} {ats:List Int} {i:Nat} {x:Instr} {b:List Instr} (h:At C ats i (x :: b)):C[i]?=some (pt ats x)/\At C ats (i+1) b:=by have h1:=At.app (a:=[x]) (b:=b) h;exact ⟨h1.1 0 (by simp),h1.2⟩
theorem At.one {C:List Instr} {ats:List Int} {i:Nat} {x:Instr} (h:At C ats i [x]):C[i]?=some (pt ats x):=h.cons.1
theorem atsG_at (p:List Unit) (u:Unit) (base:Int):∀(l:List Fun) (w:GW) (j:Nat) (hj:j < l.length),∃i:Nat,(Zfz p u base l w)[j]?=some (i:Int)/\w.code.length<=i/\∃a b,ccFs p u base l w.code.length=a++(ccF p u base l[j] i++b)/\w.code.length+a.length=i
 | f :: l,w,0,_=>⟨w.code.length,by rw[Zfz];rfl,Nat.le_refl _,[],ccFs p u base l (w.code.length+(ccF p u base f w.code.length).length),by rw[ccFs];rfl,rfl⟩
 | f :: l,w,j+1,hj=>by
  obtain ⟨i,h1,h2,a,b,h3,h4⟩:=atsG_at p u base l (funG p u base f w) j (by simpa using hj);have e:=fun_code p u base f w;have el:(funG p u base f w).code.length=w.code.length+(ccF p u base f w.code.length).length:=by rw[e,List.length_append]
  rw[el] at h2 h3 h4;refine ⟨i,by rw[Zfz,List.getElem?_cons_succ];exact h1,by omega,ccF p u base f w.code.length++a,b,?_,?_⟩
  ·rw[ccFs,h3,List.append_assoc];rfl
  ·rw[List.length_append];omega
theorem fun_at (p:List Unit) (u:Unit) (base:Int) (j:Nat) (hj:j < u.funcs.length):∃i:Nat,(Zfz p u base u.funcs ⟨[],[],0,0⟩)[j]?=some (i:Int)/\At (ZdE p u base) (Zfz p u base u.funcs ⟨[],[],0,0⟩) i (ccF p u base u.funcs[j] i):=by
 obtain ⟨i,h1,_,a,b,h3,h4⟩:=atsG_at p u base u.funcs ⟨[],[],0,0⟩ j hj;refine ⟨i,h1,λk hk=>?_⟩;have ha:a.length=i:=by simpa using h4
 rw[unit_code];rw[show ccFs p u base u.funcs 0=a++(ccF p u base u.funcs[j] i++b) from h3];rw[List.getElem?_map,List.getElem?_append_right (by omega),List.getElem?_append_left (by omega)];rw[show i+k - a.length=k from by omega,List.getElem?_eq_getElem hk];rfl
end Barb
namespace Barb
open Go Go.Dm Go.Eng
mutual
def hE:Expr->Nat
 | .mk k _ _ _ args=>max (hEs args) (if k=3 then 3 else 1)
def hEs:List Expr->Nat
 | []=>0
 | x :: l=>max (hE x) (1+hEs l)
end
theorem put_most (w:GW) (op a b c more:Int):w.most<=(w.put op a b c more).most/\(w.put op a b c more).deep<=(w.put op a b c more).most:=by
 unfold GW.put;dsimp only
 split<;>omega
structure Hi (w w':GW) (d h:Int):Prop where
 most:w.most<=w'.most
 go:0<=w.deep->w.deep<=w.most->w'.most<=40->w'.deep=w.deep+d/\w.deep+h<=w'.most/\w'.deep<=w'.most
theorem Hi.put (w:GW) (op a b c:Int) {more:Int} (h1:-8<=more/\more<=1):Hi w (w.put op a b c more) more more:=by
 obtain ⟨m1,m2⟩:=put_most w op a b c more;refine ⟨m1,λh0 h4 hm=>?_⟩;have e:(w.put op a b c more).deep=w.deep+more:=by unfold GW.put;exact I64.wrap (by unfold I64;omega)
 exact ⟨e,by omega,by omega⟩
theorem Hi.setA (w:GW) (i:Nat) (a:Int):Hi w (w.setA i a) 0 0:=⟨Int.le_refl _,λ_ h _=>⟨by show w.deep=_;omega,by show w.deep+0<=w.most;omega,h⟩⟩
theorem Hi.trans {a b c:GW} {d1 d2 h1 h2:Int} (h:Hi a b d1 h1) (k:Hi b c d2 h2) (hd:0<=d1):Hi a c (d1+d2) (max h1 (d1+h2)):=by refine ⟨Int.le_trans h.most k.most,λh0 h4 hm=>?_⟩;have hm2:=k.most;obtain ⟨e1,e2,e3⟩:=h.go h0 h4 (by omega);obtain ⟨f1,f2,f3⟩:=k.go (by omega) e3 hm;exact ⟨by omega,by omega,f3⟩
theorem Hi.mono {a b:GW} {d d' h h':Int} (k:Hi a b d h) (hd:d=d') (hh:h'<=h):Hi a b d' h':=⟨k.most,λh0 h4 hm=>by
 obtain ⟨e1,e2,e3⟩:=k.go h0 h4 hm;exact ⟨by omega,by omega,e3⟩⟩
theorem Hi.elem (g:GC) (s:Str) (w:GW):Hi w (Ze6 g s w) 0 2:=by unfold Ze6;refine (((((((((Hi.put w 3 0 0 0 (more:=1) (by omega)).trans (.put _ 1 _ 0 0 (more:=1) (by omega)) (by omega)).trans (.put _ 8 7 0 0 (more:=-1) (by omega)) (by omega)).trans (.put _ 10 0 0 0 (more:=-1) (by omega)) (by omega)).trans (.put _ 9 _ 0 0 (more:=0) (by omega)) (by omega)).trans (.put _ 15 0 0 0 (more:=0) (by omega)) (by omega)).trans (.setA _ _ _) (by omega)).trans (.put _ 1 _ 0 0 (more:=1) (by omega)) (by omega)).trans (.put _ 8 1 0 0 (more:=-1) (by omega)) (by omega)).mono (by omega) (by omega)
theorem Hi.last (g:GC) (k n:Int) (of s:Str) (m:Nat) (hm:m<=4) (h1:k=1\/k=2->m=0) (h3:k=3->m=1) (h5:k≠1->k≠2->k≠3->k≠4->m=2) (w:GW):Hi w (ZfE g k n of s m w) (1 - m) ((if k=3 then 3 else 1) - m):=by
 unfold ZfE
 by_cases k1:k=1
 ·rw[if_pos k1];have:=h1 (.inl k1);exact (Hi.put w 1 n 0 0 (more:=1) (by omega)).mono (by omega) (by split<;>omega)
 rw[if_neg k1]
 by_cases k2:k=2
 ·rw[if_pos k2];have:=h1 (.inr k2);unfold readG
  split
  ·exact (Hi.put w 4 _ 0 0 (more:=1) (by omega)).mono (by omega) (by split<;>omega)
  ·exact ((Hi.put w 1 _ 0 0 (more:=1) (by omega)).trans (.put _ 6 0 0 0 (more:=0) (by omega)) (by omega)).mono (by omega) (by split<;>omega)
 rw[if_neg k2]
 by_cases k3:k=3
 ·rw[if_pos k3];have:=h3 k3;exact ((Hi.elem g s w).trans (.put _ 6 0 0 0 (more:=0) (by omega)) (by omega)).mono (by omega) (by rw[if_pos k3];omega)
 rw[if_neg k3,if_neg k3]
 by_cases k4:k=4
 ·rw[if_pos k4];unfold Zhp
  split
  ·have e:=Hi.put { w with calls:=w.calls++[w.at_] } 11 (ZbA g.u s) m 0 (more:=1 - m) (by omega);exact ⟨e.most,e.go⟩
  ·exact Hi.put w 12 _ _ _ (more:=1 - m) (by omega)
 rw[if_neg k4];have:=h5 k1 k2 k3 k4;exact (Hi.put w 8 n 0 0 (more:=-1) (by omega)).mono (by omega) (by omega)
theorem ok_count {k n:Int} {of s:Str} {m:Nat} (hk:1<=k/\k<=5) (h:Zbj k n of s m):(k=1\/k=2->m=0)/\(k=3->m=1)/\(k≠1->k≠2->k≠3->k≠4->m=2):=by unfold Zbj at h;omega
theorem Hi.expr (g:GC):∀(n:Nat) (x:Expr),ZaH n x=0->∀w,Hi w (Zba g x w) 1 (hE x)
 | 0,x,h,_=>by cases x;simp[ZaH] at h
 | n+1,.mk k v of s args,h,w=>by
  obtain ⟨a1,a2,a3,_,a5⟩:=Zcz h;obtain ⟨c1,c2,c3⟩:=ok_count a1 a3;have hl:∀(l:List Expr),(∀y∈l,ZaH n y=0)->∀w,Hi w (ZaD g l w) l.length (hEs l):=by
   intro l
   induction l with
   | nil=>intro _ w;rw[ZaD];exact ⟨Int.le_refl _,λh0 h4 hm=>⟨by simp,by simp[hEs];omega,h4⟩⟩
   | cons y l il =>intro hy w;rw[ZaD,hEs];exact ((Hi.expr g n y (hy y List.mem_cons_self) w).trans (il (λz hz=>hy z (List.mem_cons_of_mem _ hz)) _) (by omega)).mono (by simp;omega) (by push_cast;omega)
  rw[Zba,hE];exact ((hl args a5 w).trans (Hi.last g k v of s args.length a2 c1 c2 c3 _) (by omega)).mono (by omega) (by push_cast;split<;>omega)
mutual
noncomputable def fitS (f:Fun):Stmt->Prop
 | .mk k s xs b e =>
  if k=1 then (if 0<=Zbh f s then 0 else 1)+hE (xs.getD 0 noX)<=40
  else if k=2 then hE (xs.getD 0 noX)<=40/\1+hE (xs.getD 1 noX)<=40
  else if k=3\/k=4 then hE (xs.getD 0 noX)<=40/\ZgE f b/\(k=3->ZgE f e)
  else hE (xs.getD 0 noX)<=40
noncomputable def ZgE (f:Fun):List Stmt->Prop
 | []=>True
 | x :: l=>fitS f x/\ZgE f l
end
structure Hs (w w':GW) (P:Prop):Prop where
 most:w.most<=w'.most
 go:w.deep=0->0<=w.most->w'.most<=40->w'.deep=0/\P
theorem Hi.s {w w':GW} {h:Int} {P:Prop} (k:Hi w w' 0 h) (hP:h<=40->P):Hs w w' P:=⟨k.most,λh0 h1 hm=>by
 obtain ⟨e1,e2,_⟩:=k.go (by omega) (by omega) hm;exact ⟨by omega,hP (by omega)⟩⟩
theorem Hs.trans {a b c:GW} {P Q:Prop} (h:Hs a b P) (k:Hs b c Q):Hs a c (P/\Q):=⟨Int.le_trans h.most k.most,λh0 h1 hm=>by
 have h2:=h.most;have h3:=k.most;obtain ⟨e1,e2⟩:=h.go h0 h1 (by omega);obtain ⟨f1,f2⟩:=k.go e1 (by omega) hm;exact ⟨f1,e2,f2⟩⟩
theorem Hs.mono {a b:GW} {P Q:Prop} (h:Hs a b P) (hP:P->Q):Hs a b Q:=⟨h.most,λh0 h1 hm=>by
 obtain ⟨e1,e2⟩:=h.go h0 h1 hm;exact ⟨e1,hP e2⟩⟩
theorem xs_at {xs:List Expr} {n i:Nat} (h:∀y∈xs,ZaH n y=0) (hi:i < xs.length):ZaH n (xs.getD i noX)=0:=by rw[show xs.getD i noX=xs[i] by simp[hi]];exact h _ (List.getElem_mem hi)
theorem Hs.stmts (g:GC):∀(n:Nat) (l:List Stmt),Zan n l=0->∀w,Hs w (stmtsG g l w) (ZgE g.f l)
 | 0,l,h=>by rw[Zan] at h;exact absurd h (by decide)
 | n+1,l,h=>by
  rw[Zan] at h;have hall:=Zai h;clear h
  induction l with
  | nil=>intro w;rw[stmtsG,ZgE];exact ⟨Int.le_refl _,λh0 _ _=>⟨h0,trivial⟩⟩
  | cons x l il =>
   intro w;have hl:=il (λy hy=>hall y (List.mem_cons_of_mem _ hy));have hx:=hall x List.mem_cons_self;rw[stmtsG,ZgE];refine Hs.trans ?_ (hl _);obtain ⟨hk,hok,hxs,hb,he⟩:=ZbU hx
   cases x with
   | mk k s xs b e =>
    simp only[Stmt.k,Stmt.s,Stmt.xs,Stmt.b,Stmt.e] at hk hok hxs hb he;have hlen:0 < xs.length/\(k=2->xs.length=2):=by unfold Zdd at hok;omega
    have E0:=Hi.expr g 12 (xs.getD 0 noX) (xs_at hxs hlen.1);rw[ZfB,fitS]
    by_cases h1:k=1
    ·rw[if_pos h1,if_pos h1];unfold setG
     by_cases hp:0<=Zbh g.f s
     ·rw[if_pos hp,if_pos hp];exact (((E0 w).trans (.put _ 5 _ 0 0 (more:=-1) (by omega)) (by omega)).mono (d':=0) (h':=hE (xs.getD 0 noX)) (by omega) (by omega)).s (λh=>by omega)
     ·rw[if_neg hp,if_neg hp];exact ((((Hi.put w 1 _ 0 0 (more:=1) (by omega)).trans (E0 _) (by omega)).trans (.put _ 7 0 0 0 (more:=-2) (by omega)) (by omega)).mono (d':=0) (h':=1+hE (xs.getD 0 noX)) (by omega) (by omega)).s (λh=>by omega)
    rw[if_neg h1,if_neg h1]
    by_cases h2:k=2
    ·rw[if_pos h2,if_pos h2];have E1:=Hi.expr g 12 (xs.getD 1 noX) (xs_at hxs (by have:=hlen.2 h2;omega));unfold ZhK;exact ((((((((E0 w).trans (E1 _) (by omega)).trans (.put _ 5 _ 0 0 (more:=-1) (by omega)) (by omega)).trans (.elem g s _) (by omega)).trans (.put _ 4 _ 0 0 (more:=1) (by omega)) (by omega)).trans (.put _ 7 0 0 0 (more:=-2) (by omega)) (by omega))).mono (d':=0) (h':=max (hE (xs.getD 0 noX)) (1+hE (xs.getD 1 noX))) (by omega) (by omega)).s (λh=>by omega)
    rw[if_neg h2,if_neg h2]
    by_cases h34:k=3\/k=4
    ·rw[if_pos h34,if_pos h34];dsimp only;have A:=((((E0 w).trans (.put _ 10 0 0 0 (more:=-1) (by omega)) (by omega)).mono (d':=0) (h':=hE (xs.getD 0 noX)) (by omega) (by omega)).s (P:=hE (xs.getD 0 noX)<=40) (λh=>by omega)).trans (Hs.stmts g n b hb _);have B:=(A.trans ((Hi.put (stmtsG g b ((Zba g (xs.getD 0 noX) w).put 10 0 0 0 (-1))) 9 (if k=4 then w.at_ else 0) 0 0 (more:=0) (by omega)).s (P:=True) (λ_=>trivial))).trans ((Hi.setA _ (Zba g (xs.getD 0 noX) w).code.length ((stmtsG g b ((Zba g (xs.getD 0 noX) w).put 10 0 0 0 (-1))).put 9 (if k=4 then w.at_ else 0) 0 0 0).at_).s (P:=True) (λ_=>trivial))
     by_cases h3:k=3
     ·rw[if_pos h3];refine Hs.mono (Hs.trans (B.trans (Hs.stmts g n e he _)) (Hi.s (P:=True) (Hi.setA _ _ _) (λ_=>trivial))) (λh=>⟨h.1.1.1.1.1,h.1.1.1.1.2,λ_=>h.1.2⟩)
     ·rw[if_neg h3];exact B.mono (λh=>⟨h.1.1.1,h.1.1.2,λc=>absurd c h3⟩)
    rw[if_neg h34,if_neg h34]
    by_cases h5:k=5
    ·rw[if_pos h5];exact (((E0 w).trans (.put _ 13 0 0 0 (more:=-1) (by omega)) (by omega)).mono (d':=0) (h':=hE (xs.getD 0 noX)) (by omega) (by omega)).s (λh=>by omega)
    ·rw[if_neg h5];exact (((E0 w).trans (.put _ 14 0 0 0 (more:=-1) (by omega)) (by omega)).mono (d':=0) (h':=hE (xs.getD 0 noX)) (by omega) (by omega)).s (λh=>by omega)
theorem unit_fit (p:List Unit) (u:Unit) (base:Int) (hm:(ZcM p u base).most<=40) (hE:∀f∈u.funcs,Zan 12 f.body=0):∀f∈u.funcs,ZgE f f.body:=by
 unfold ZcM at hm;have key:∀(l:List Fun) (w:GW),(∀f∈l,Zan 12 f.body=0)->0<=w.most->w.most<=(Zbx p u base l w).most/\((Zbx p u base l w).most<=40->∀f∈l,ZgE f f.body):=by
  intro l
  induction l with
  | nil=>intro w _ _;rw[Zbx];exact ⟨Int.le_refl _,λ_ f hf=>by simp at hf⟩
  | cons f l il =>
   intro w hl h0;have S:=Hs.stmts ⟨p,u,base,f⟩ 12 f.body (hl f List.mem_cons_self) { w with deep:=0 };have e:funG p u base f w=((stmtsG ⟨p,u,base,f⟩ f.body { w with deep:=0 }).put 1 0 0 0 1).put 13 0 0 0 (-1):=rfl;have m1:w.most<=(stmtsG ⟨p,u,base,f⟩ f.body { w with deep:=0 }).most:=S.most;have m2:=(put_most (stmtsG ⟨p,u,base,f⟩ f.body { w with deep:=0 }) 1 0 0 0 1).1;have m3:=(put_most ((stmtsG ⟨p,u,base,f⟩ f.body { w with deep:=0 }).put 1 0 0 0 1) 13 0 0 0 (-1)).1;rw[<- e] at m3;obtain ⟨k1,k2⟩:=il (funG p u base f w) (λg hg=>hl g (List.mem_cons_of_mem _ hg)) (by omega);rw[Zbx];refine ⟨by omega,λhm g hg=>?_⟩
   rcases List.mem_cons.1 hg with rfl | hg
   ·exact (S.go rfl h0 (by omega)).2
   ·exact k2 hm g hg
 exact (key u.funcs ⟨[],[],0,0⟩ hE (by show (0:Int)<=0;omega)).2 hm
end Barb
namespace Barb
open Go Go.Dm Go.Eng Go.Proofs.YtpjjkiidjofflaaGreatDoor
theorem ZiQ {α β:Type} (f:α->List β):∀(l:List α) (k:Nat) (h:k < l.length),l.flatMap f=(l.take k).flatMap f++(f l[k]++(l.drop (k+1)).flatMap f)
 | x :: l,0,_=>by simp
 | x :: l,k+1,h=>by have:=ZiQ f l k (by simpa using h);simp only[List.flatMap_cons,List.take_succ_cons,List.getElem_cons_succ,List.drop_succ_cons,List.append_assoc];rw[this]
theorem map_set {α β:Type} (f:α->List β) (y:α):∀(l:List α) (k:Nat),k < l.length->(l.set k y).flatMap f=(l.take k).flatMap f++(f y++(l.drop (k+1)).flatMap f)
 | x :: l,0,_=>by simp
 | x :: l,k+1,h=>by have:=map_set f y l k (by simpa using h);simp only[List.set_cons_succ,List.flatMap_cons,List.take_succ_cons,List.drop_succ_cons,List.append_assoc];rw[this]
theorem mid_get {α:Type} (a b c:List α) (j:Nat) (h:j < b.length) (d:α):(a++(b++c)).getD (a.length+j) d=b.getD j d:=by rw[List.getD_eq_getElem?_getD,List.getD_eq_getElem?_getD,List.getElem?_append_right (by omega),List.getElem?_append_left (by omega)];rw[show a.length+j - a.length=j from by omega]
theorem mid_set {α:Type} (a b c:List α) (j:Nat) (h:j < b.length) (d:α):(a++(b++c)).set (a.length+j) d=a++(b.set j d++c):=by rw[List.set_append_right _ _ (by omega),List.set_append_left _ _ (by omega)];rw[show a.length+j - a.length=j from by omega]
theorem flat_get {cs:List Cells} {u:Nat} (hu:u < cs.length) {j:Nat} (hj:j < (Zby cs[u]).length):(ZaJ cs).getD ((ZaJ (cs.take u)).length+j) 0=(Zby cs[u]).getD j 0:=by unfold ZaJ at *;rw[ZiQ Zby cs u hu];exact mid_get _ _ _ _ hj _
theorem flat_set {cs:List Cells} {u:Nat} (hu:u < cs.length) {j:Nat} (hj:j < (Zby cs[u]).length) {c:Cells} {n:Int} (hc:Zby c=(Zby cs[u]).set j n):ZaJ (cs.set u c)=(ZaJ cs).set ((ZaJ (cs.take u)).length+j) n:=by unfold ZaJ at *;rw[ZiQ Zby cs u hu,map_set Zby c cs u hu,mid_set _ _ _ _ hj,hc]
theorem var_get (c:Cells) {i:Nat} (h:i < c.vars.length):(Zby c).getD i 0=c.vars.getD i 0:=by unfold Zby;rw[List.getD_eq_getElem?_getD,List.getD_eq_getElem?_getD,List.getElem?_append_left h]
theorem var_set (c:Cells) {i:Nat} (h:i < c.vars.length) (n:Int):Zby (c.setV i n)=(Zby c).set i n:=by unfold Zby Cells.setV;rw[List.set_append_left _ _ h]
def ZhI (c:Cells) (k:Nat):Nat:=c.vars.length+(c.arrays.take k).flatten.length
theorem ZdB {α:Type} (l:List (List α)):l.flatten=l.flatMap id:=by simp[List.flatMap_id]
theorem arr_get (c:Cells) {k i:Nat} (hk:k < c.arrays.length) (hi:i < (c.arrays.getD k []).length):(Zby c).getD (ZhI c k+i) 0=(c.arrays.getD k []).getD i 0:=by
 have e:c.arrays.getD k []=c.arrays[k]:=by simp[hk]
 rw[e] at hi ⊢;unfold Zby ZhI;rw[ZdB,ZdB,ZiQ id c.arrays k hk,<- List.append_assoc,Nat.add_assoc];have:=mid_get (c.vars++(c.arrays.take k).flatMap id) (id c.arrays[k]) ((c.arrays.drop (k+1)).flatMap id) i hi 0;rw[List.length_append,Nat.add_assoc] at this;exact this
theorem arr_set (c:Cells) {k i:Nat} (hk:k < c.arrays.length) (hi:i < (c.arrays.getD k []).length) (n:Int):Zby (c.setA k i n)=(Zby c).set (ZhI c k+i) n:=by
 have e:c.arrays.getD k []=c.arrays[k]:=by simp[hk]
 unfold Cells.setA;rw[e] at hi ⊢;unfold Zby ZhI;rw[ZdB,ZdB,ZdB,ZiQ id c.arrays k hk,map_set id _ c.arrays k hk,<- List.append_assoc,<- List.append_assoc,Nat.add_assoc];have:=mid_set (c.vars++(c.arrays.take k).flatMap id) (id c.arrays[k]) ((c.arrays.drop (k+1)).flatMap id) i hi n;rw[List.length_append,Nat.add_assoc] at this;simp only[List.append_assoc,id] at this ⊢;exact this.symm
theorem arrs_len {u:Unit} {c:Cells} (h:Zb4 u c):∀k,k<=u.arrays.length->((c.arrays.take k).flatten.length:Int)=sizes (u.arrays.take k)
 | 0,_=>by simp[sizes]
 | k+1,hk=>by
  have hk1:k < u.arrays.length:=hk;have hk2:k < c.arrays.length:=by rw[h.1.2];exact hk1
  have h1:=arrs_len h k (by omega);have h2:=(h.2 k hk2 hk1).1;rw[Zav hk2,List.flatten_append,List.length_append,ZgV hk1];simp only[List.flatten_cons,List.flatten_nil,List.append_nil];omega
theorem unit_len {u:Unit} {c:Cells} (h:Zb4 u c):((Zby c).length:Int)=Zao u:=by have h1:=arrs_len h u.arrays.length (Nat.le_refl _);rw[List.take_length,show c.arrays.take u.arrays.length=c.arrays by rw[<- h.1.2,List.take_length]] at h1;have h2:=h.1.1.1;unfold Zby Zao;rw[List.length_append];push_cast;omega
theorem base_len {p:List Unit} {cs:List Cells} (hl:cs.length=p.length) (hc:ZcC p cs):∀k,k<=p.length->((ZaJ (cs.take k)).length:Int)=Zah p k
 | 0,_=>by simp[ZaJ,Zah,Zaj]
 | k+1,hk=>by
  have hk1:k < p.length:=hk;have hk2:k < cs.length:=by omega
  have h1:=base_len hl hc k (by omega);have h2:=unit_len (hc k hk2 hk1);unfold ZaJ Zah Zaj at *;rw[Zav hk2,Zav hk1,List.flatMap_append,List.length_append,List.map_append,List.sum_append];simp only[List.flatMap_cons,List.flatMap_nil,List.append_nil,List.map_cons,List.map_nil,List.sum_cons,List.sum_nil];push_cast;omega
theorem addr_var {g:GC} {name:Str} {i:Nat} (h:vIdx g.u name=(i:Int)) (hb:0<=g.base/\g.base<=1000) (hi:i<=1000):(Zaz g name).1=g.base+i:=by have e:ZjO g.u name=(i:Int):=h;unfold Zaz;rw[if_pos (by rw[e];omega),e];exact I64.wrap (by unfold I64;omega)
theorem addrA_at (name:Str):∀(l:List Arr) (at_:Int) (k:Nat) (hk:k < l.length),l[k].name=name->(∀j (hj:j < l.length),j < k->l[j].name≠name)->(∀a∈l,1<=a.size/\a.size<=10)->0<=at_->at_+10*l.length<=100000->Zff name l at_=(at_+sizes (l.take k),l[k].size)
 | a :: l,at_,0,_,h,_,_,_,_=>by unfold Zff;rw[if_pos (show a.name=name from h)];simp[sizes]
 | a :: l,at_,k+1,hk,h,hn,hs,h0,h1=>by
  unfold Zff;rw[if_neg (show ¬a.name=name from hn 0 (by simp) (by omega))];have hs0:=hs a List.mem_cons_self;simp only[List.length_cons] at h1;have ew:IntKind.i64.wrap (at_+a.size)=at_+a.size:=I64.wrap (by unfold I64;omega);rw[ew,addrA_at name l (at_+a.size) k (by simpa using hk) (by simpa using h) (λj hj hjk=>by have:=hn (j+1) (by simpa using hj) (by omega);simpa using this) (λb hb=>hs b (List.mem_cons_of_mem _ hb)) (by omega) (by push_cast at h1;omega)];simp only[List.take_succ_cons,sizes,List.map_cons,List.sum_cons,List.getElem_cons_succ]
  congr 1
  omega
theorem no_var {u:Unit} (hd:¬dupP (u.vars++u.arrays.map Arr.name)) {name:Str} (ha:Zij u name):name ∉ u.vars:=by
 intro hv;obtain ⟨a,hm,hn⟩:=ha;obtain ⟨k,hk,rfl⟩:=List.getElem_of_mem hm;refine hd ⟨u.vars.length+k,by simp;omega,?_⟩;rw[List.getElem_append_right (by omega)];simp only[Nat.add_sub_cancel_left,List.getElem_map];rw[hn];exact List.mem_take_iff_getElem.2 (by
  obtain ⟨j,hj,e⟩:=List.getElem_of_mem hv;exact ⟨j,by simp;omega,by rw[List.getElem_append_left hj];exact e⟩)
theorem addr_arr {g:GC} (hd:¬dupP (g.u.vars++g.u.arrays.map Arr.name)) {name:Str} (ha:Zij g.u name) {k:Nat} (hk:k < g.u.arrays.length) (h:aIdx g.u name=(k:Int)) (hs:∀a∈g.u.arrays,1<=a.size/\a.size<=10) (h3:g.u.arrays.length<=3) (hv:g.u.vars.length<=8) (hb:0<=g.base/\g.base<=1000) :
  Zaz g name=(g.base+g.u.vars.length+sizes (g.u.arrays.take k),g.u.arrays[k].size):=by
 have hnv:=no_var hd ha;unfold Zaz;have e1:ZjO g.u name=-1:=ZfM (λx hx e=>hnv (e▸hx));rw[if_neg (by rw[e1];decide)];rw[show IntKind.i64.wrap (g.base+g.u.vars.length)=g.base+g.u.vars.length from I64.wrap (by unfold I64;omega)];unfold aIdx at h
 rcases Zbr (λa:Arr=>a.name=name) g.u.arrays with ⟨h1,_⟩ | ⟨i,hi,h1,h2,h4⟩
 ·rw[h1] at h;omega
 ·have:i=k:=by omega
  subst this;exact addrA_at name g.u.arrays _ i hi h2 (λj hj hji=>h4 j hj hji) hs (by omega) (by omega)
end Barb
namespace Barb
open Go Go.Dm Go.Eng Go.Proofs.YtpjjkiidjofflaaGreatDoor
def Runs (m:Zal):Nat->MO->List PF->MO->List PF->Prop
 | 0,o,fs,o',fs'=>o'=o/\fs'=fs
 | n+1,o,fs,o',fs'=>∃pre t o1 fs1,fs=pre++[t]/\Barb.stepS m o pre t=.go o1 fs1/\Runs m n o1 fs1 o' fs'
def ZcL (m:Zal) (o:MO) (fs:List PF) (o':MO) (fs':List PF):Prop:=∃n,Runs m n o fs o' fs'
theorem Runs.trans {m:Zal}:∀{n k:Nat} {o o1 o2:MO} {fs fs1 fs2:List PF},Runs m n o fs o1 fs1->Runs m k o1 fs1 o2 fs2->Runs m (n+k) o fs o2 fs2
 | 0,k,_,_,_,_,_,_,h,h2=>by obtain ⟨rfl,rfl⟩:=h;rw[Nat.zero_add];exact h2
 | n+1,k,_,_,_,_,_,_,h,h2=>by obtain ⟨pre,t,o1,fs1,e1,e2,e3⟩:=h;rw[show n+1+k=n+k+1 from by omega];exact ⟨pre,t,o1,fs1,e1,e2,Runs.trans e3 h2⟩
theorem ZcL.refl (m:Zal) (o:MO) (fs:List PF):ZcL m o fs o fs:=⟨0,rfl,rfl⟩
theorem ZcL.trans {m:Zal} {o o1 o2:MO} {fs fs1 fs2:List PF} (h:ZcL m o fs o1 fs1) (k:ZcL m o1 fs1 o2 fs2):ZcL m o fs o2 fs2:=by obtain ⟨n,h⟩:=h;obtain ⟨j,k⟩:=k;exact ⟨n+j,h.trans k⟩
theorem ZcL.step {m:Zal} {o o1:MO} {pre fs1:List PF} {t:PF} (h:Barb.stepS m o pre t=.go o1 fs1):ZcL m o (pre++[t]) o1 fs1:=⟨1,pre,t,o1,fs1,rfl,h,rfl,rfl⟩
def Stops (m:Zal) (o:MO) (fs:List PF) (e:Int) (o':MO):Prop:=∃pre t,fs=pre++[t]/\Barb.stepS m o pre t=.stop e 0 o'
def Ends (m:Zal) (o:MO) (fs:List PF) (e:Int) (o':MO):Prop:=∃o1 fs1,ZcL m o fs o1 fs1/\Stops m o1 fs1 e o'
theorem ZcL.ends {m:Zal} {o o1 o2:MO} {fs fs1:List PF} {e:Int} (h:ZcL m o fs o1 fs1) (k:Ends m o1 fs1 e o2):Ends m o fs e o2:=by obtain ⟨o3,fs3,k1,k2⟩:=k;exact ⟨o3,fs3,h.trans k1,k2⟩
theorem Ends.now {m:Zal} {o o':MO} {pre:List PF} {t:PF} {e:Int} (h:Barb.stepS m o pre t=.stop e 0 o'):Ends m o (pre++[t]) e o':=⟨o,_,ZcL.refl _ _ _,pre,t,rfl,h⟩
structure Img (p:List Unit) (m:Zal):Prop where
 good:Za8 p=0
 len:p.length<=m.length
 code:∀u (h:u < p.length),(m.getD u ZaY).code=ZdE p p[u] (Zah p u)
 lo:∀u,u < p.length->(m.getD u ZaY).lo=Zah p u
 hi:∀u,u < p.length->(m.getD u ZaY).hi=Zah p (u+1)
 ents:∀u (h:u < p.length),(m.getD u ZaY).entries=ZcH p[u].funcs (Zfz p p[u] (Zah p u) p[u].funcs ⟨[],[],0,0⟩)
 most:∀u (h:u < p.length),(ZcM p p[u] (Zah p u)).most<=40
structure Bh where
 ws:List Int
 ns:List Nt
def Cov (C:List Nt) (n:Nat) (l:List Nt):Prop:=∃l',l=C++l'/\∀x∈l',x.by_ < (n:Int)
theorem Cov.same (C:List Nt) (n:Nat):Cov C n C:=⟨[],(List.append_nil _).symm,λ_ h=>absurd h List.not_mem_nil⟩
theorem Cov.more {C:List Nt} {n:Nat} {l:List Nt} (h:Cov C n l) {x:Nt} (hx:x.by_ < (n:Int)):Cov C n (l++[x]):=by
 obtain ⟨l',rfl,h2⟩:=h;refine ⟨l'++[x],List.append_assoc _ _ _,λy hy=>?_⟩
 rcases List.mem_append.1 hy with h | h
 ·exact h2 y h
 ·rw[List.mem_singleton.1 h];exact hx
theorem Cov.le {C:List Nt} {n:Nat} {l:List Nt} (h:Cov C n l):C.length<=l.length:=by obtain ⟨l',rfl,_⟩:=h;rw[List.length_append];omega
theorem mod_app {α:Type} (f:α->α) (b:List α):∀(a:List α) (k:Nat),a.length<=k->(a++b).modify k f=a++b.modify (k - a.length) f
 | [],k,_=>by simp
 | x :: a,0,h=>by simp at h
 | x :: a,k+1,h=>by have ih:=mod_app f b a k (by simpa using h);simp only[List.cons_append,List.modify_succ_cons,List.length_cons,Nat.add_sub_add_right];rw[ih]
theorem mem_mod {α:Type} (f:α->α):∀(l:List α) (k:Nat) (x:α),x∈l.modify k f->x∈l\/∃y∈l,x=f y
 | [],k,x,h=>by simp at h
 | y :: l,0,x,h=>by
  rw[List.modify_zero_cons] at h
  rcases List.mem_cons.1 h with rfl | h
  ·exact .inr ⟨y,List.mem_cons_self,rfl⟩
  ·exact .inl (List.mem_cons_of_mem _ h)
 | y :: l,k+1,x,h=>by
  rw[List.modify_succ_cons] at h
  rcases List.mem_cons.1 h with rfl | h
  ·exact .inl List.mem_cons_self
  ·rcases mem_mod f l k x h with h | ⟨z,hz,e⟩
   ·exact .inl (List.mem_cons_of_mem _ h)
   ·exact .inr ⟨z,List.mem_cons_of_mem _ hz,e⟩
theorem Cov.note {C:List Nt} {n:Nat} {o:MO} (h:Cov C n o.calls) {k:Int} (hk:k < 0\/C.length<=k.toNat) (v:Int):Cov C n (Zb2 o k v).calls:=by
 unfold Zb2
 split
 ·have hk2:C.length<=k.toNat:=by omega
  obtain ⟨l',e,h2⟩:=h;refine ⟨l'.modify (k.toNat - C.length) (·.fin v),?_,λx hx=>?_⟩
  ·show o.calls.modify _ _=_;rw[e,mod_app _ _ _ _ hk2]
  ·rcases mem_mod _ _ _ _ hx with h | ⟨y,hy,e⟩
   ·exact h2 x h
   ·rw[e];exact h2 y hy
 ·exact h
structure Dat (X:Bh) (o:MO) (s:ES):Prop where
 told:o.told=s.told
 data:o.data=ZaJ s.cells++X.ws
 calls:Cov X.ns s.cells.length o.calls
abbrev gcO (p:List Unit) (c:EC):GC:=⟨p,uAt p c.u,Zah p c.u,c.f⟩
noncomputable abbrev atO (p:List Unit) (u:Nat):List Int:=Zfz p (uAt p u) (Zah p u) (uAt p u).funcs ⟨[],[],0,0⟩
noncomputable abbrev cdO (p:List Unit) (u:Nat):List Instr:=ZdE p (uAt p u) (Zah p u)
abbrev fr (u i:Nat) (locs ws:List Int) (nt:Int):PF:=⟨(u:Int),(i:Int),locs,ws,nt⟩
def Loc (locs ps:List Int):Prop:=locs.length=8/\ps.length<=4/\∀j,j < ps.length->locs.getD j 0=ps.getD j 0
section
variable {p:List Unit} {m:Zal} (hm:Img p m)
include hm
theorem ZeQ {u i:Nat} (hu:u < p.length) {x:Instr} (h:(cdO p u)[i]?=some x) (o:MO) (pre:List PF) (locs ws:List Int) (nt:Int) :
  Barb.stepS m o pre (fr u i locs ws nt)=doS m (m.getD u ZaY) x o pre (fr u (i+1) locs ws nt):=by
 have hc:=hm.code u hu;have e:cdO p u=ZdE p p[u] (Zah p u):=by unfold cdO;rw[ZcX hu]
 rw[e] at h;have hl:i < (ZdE p p[u] (Zah p u)).length:=(List.getElem?_eq_some_iff.1 h).1;have h1:¬(fr u i locs ws nt).at_ >= ((m.getD (fr u i locs ws nt).part.toNat ZaY).code.length:Int):=by show ¬(i:Int) >= ((m.getD ((u:Int)).toNat ZaY).code.length:Int);rw[Int.toNat_natCast,hc];omega
 rw[step_in h1];have h2:(m.getD (fr u i locs ws nt).part.toNat ZaY)=m.getD u ZaY:=rfl;rw[h2,hc];have h3:(ZdE p p[u] (Zah p u)).getD (fr u i locs ws nt).at_.toNat Zg6=x:=by show (ZdE p p[u] (Zah p u)).getD ((i:Int)).toNat Zg6=x;rw[Int.toNat_natCast,List.getD_eq_getElem?_getD,h];rfl
 rw[h3];rfl
variable {u i:Nat} (hu:u < p.length) {o:MO} {pre:List PF} {locs ws w:List Int} {nt:Int}
include hu
theorem goPush {a:Int} (h:(cdO p u)[i]?=some ⟨1,a,0,0⟩) (hw:ws.length < 40):ZcL m o (pre++[fr u i locs ws nt]) o (pre++[fr u (i+1) locs (ws++[a]) nt]):=by refine ZcL.step ?_;rw[ZeQ hm hu h,doS_1 rfl];unfold Zd7;rw[if_neg (show ¬ws.length=40 by omega)];rfl
theorem goGet {a:Nat} (h:(cdO p u)[i]?=some ⟨4,(a:Int),0,0⟩) (hw:ws.length < 40):ZcL m o (pre++[fr u i locs ws nt]) o (pre++[fr u (i+1) locs (ws++[locs.getD a 0]) nt]):=by refine ZcL.step ?_;rw[ZeQ hm hu h,doS_4 rfl];unfold Zd7;rw[if_neg (show ¬ws.length=40 by omega)];rfl
theorem goDup {x:Int} (h:(cdO p u)[i]?=some ⟨3,0,0,0⟩) (hw:w.length+1 < 40):ZcL m o (pre++[fr u i locs (w++[x]) nt]) o (pre++[fr u (i+1) locs (w++[x]++[x]) nt]):=by refine ZcL.step ?_;rw[ZeQ hm hu h,doS_3 (k:=w.length) (x:=x) rfl (by simp) (by simp)];rw[if_neg (show ¬(w++[x]).length=40 by simp;omega)];rfl
theorem goPut {x:Int} {a:Nat} (h:(cdO p u)[i]?=some ⟨5,(a:Int),0,0⟩):ZcL m o (pre++[fr u i locs (w++[x]) nt]) o (pre++[fr u (i+1) (locs.set a x) w nt]):=by refine ZcL.step ?_;rw[ZeQ hm hu h,doS_5 (k:=w.length) (x:=x) rfl (by simp) (by simp)];simp[PF.ww]
theorem goLoad {x:Int} (h:(cdO p u)[i]?=some ⟨6,0,0,0⟩) (hx:Zah p u<=x/\x < Zah p (u+1)):ZcL m o (pre++[fr u i locs (w++[x]) nt]) o (pre++[fr u (i+1) locs (w++[o.data.getD x.toNat 0]) nt]):=by refine ZcL.step ?_;rw[ZeQ hm hu h,doS_6 (k:=w.length) (x:=x) rfl (by simp) (by simp),if_pos (show ZfY (m.getD u ZaY) x by unfold ZfY;rw[hm.lo u hu,hm.hi u hu];exact hx)];simp[PF.ww]
theorem goStore {x y:Int} (h:(cdO p u)[i]?=some ⟨7,0,0,0⟩) (hx:Zah p u<=x/\x < Zah p (u+1)):ZcL m o (pre++[fr u i locs (w++[x,y]) nt]) { o with data:=o.data.set x.toNat y } (pre++[fr u (i+1) locs w nt]):=by refine ZcL.step ?_;rw[ZeQ hm hu h,doS_7 (k:=w.length) (x:=x) (y:=y) rfl (by simp) (by simp),if_pos (show ZfY (m.getD u ZaY) x by unfold ZfY;rw[hm.lo u hu,hm.hi u hu];exact hx)];simp[PF.ww]
theorem goDo {x y a:Int} (h:(cdO p u)[i]?=some ⟨8,a,0,0⟩):ZcL m o (pre++[fr u i locs (w++[x,y]) nt]) o (pre++[fr u (i+1) locs (w++[doI a x y]) nt]):=by refine ZcL.step ?_;rw[ZeQ hm hu h,doS_8 (k:=w.length) (x:=x) (y:=y) rfl (by simp) (by simp)];simp[PF.ww]
theorem goJump {j:Nat} (h:(cdO p u)[i]?=some ⟨9,(j:Int),0,0⟩):ZcL m o (pre++[fr u i locs ws nt]) o (pre++[fr u j locs ws nt]):=by refine ZcL.step ?_;rw[ZeQ hm hu h,doS_9 rfl]
theorem goJz0 {j:Nat} (h:(cdO p u)[i]?=some ⟨10,(j:Int),0,0⟩):ZcL m o (pre++[fr u i locs (w++[0]) nt]) o (pre++[fr u j locs w nt]):=by refine ZcL.step ?_;rw[ZeQ hm hu h,doS_10 (k:=w.length) (x:=0) rfl (by simp) (by simp)];simp[PF.ww]
theorem goJz1 {j:Nat} {x:Int} (hx:x≠0) (h:(cdO p u)[i]?=some ⟨10,(j:Int),0,0⟩):ZcL m o (pre++[fr u i locs (w++[x]) nt]) o (pre++[fr u (i+1) locs w nt]):=by refine ZcL.step ?_;rw[ZeQ hm hu h,doS_10 (k:=w.length) (x:=x) rfl (by simp) (by simp),if_neg hx];simp[PF.ww]
theorem goTell {x:Int} (h:(cdO p u)[i]?=some ⟨14,0,0,0⟩) (ht:o.told.length≠500):ZcL m o (pre++[fr u i locs (w++[x]) nt]) { o with told:=o.told++[x] } (pre++[fr u (i+1) locs w nt]):=by refine ZcL.step ?_;rw[ZeQ hm hu h,doS_14 (k:=w.length) (x:=x) rfl (by simp) (by simp),if_neg ht];simp[PF.ww]
theorem endTell {x:Int} (h:(cdO p u)[i]?=some ⟨14,0,0,0⟩) (ht:o.told.length=500):Ends m o (pre++[fr u i locs (w++[x]) nt]) 6 o:=by refine Ends.now ?_;rw[ZeQ hm hu h,doS_14 (k:=w.length) (x:=x) rfl (by simp) (by simp),if_pos ht]
theorem endTrap (h:(cdO p u)[i]?=some ⟨15,0,0,0⟩):Ends m o (pre++[fr u i locs ws nt]) 2 o:=by refine Ends.now ?_;rw[ZeQ hm hu h,doS_15 rfl]
theorem goRet {x:Int} {t:PF} (h:(cdO p u)[i]?=some ⟨13,0,0,0⟩) (ht:t.ws.length < 40):∃o',ZcL m o (pre++[t]++[fr u i locs [x] nt]) o' (pre++[t.ww (t.ws++[x])])/\o'.told=o.told/\o'.data=o.data/\o'=Zb2 o nt x:=by
 refine ⟨Zb2 o nt x,ZcL.step ?_,?_,?_,rfl⟩
 ·rw[ZeQ hm hu h,doS_13 (k:=0) (x:=x) rfl rfl rfl];simp only[List.getLast?_append,List.getLast?_singleton,Option.some_or,List.dropLast_concat];unfold Zd7;rw[if_neg (show ¬t.ws.length=40 by omega)]
 ·unfold Zb2;split<;>rfl
 ·unfold Zb2;split<;>rfl
theorem goElem {g:GC} {s:Str} {v:Int} (hA:At (cdO p u) (atO p u) i (ZhH g s i)) (hw:w.length+3<=40) (hv:0<=v/\v<=65535) (ha:0<=(Zaz g s).1/\(Zaz g s).1<=10000) (hz:0<=(Zaz g s).2/\(Zaz g s).2<=10000) :
  ((Zaz g s).2<=v->Ends m o (pre++[fr u i locs (w++[v]) nt]) 2 o)/\(v < (Zaz g s).2->ZcL m o (pre++[fr u i locs (w++[v]) nt]) o (pre++[fr u (i+8) locs (w++[(Zaz g s).1+v]) nt])):=by
 unfold ZhH at hA;obtain ⟨a0,hA⟩:=hA.cons;obtain ⟨a1,hA⟩:=hA.cons;obtain ⟨a2,hA⟩:=hA.cons;obtain ⟨a3,hA⟩:=hA.cons;obtain ⟨a4,hA⟩:=hA.cons;obtain ⟨a5,hA⟩:=hA.cons;obtain ⟨a6,hA⟩:=hA.cons;have a7:=hA.one;simp only[Nat.add_assoc,Nat.reduceAdd] at a1 a2 a3 a4 a5 a6 a7;have s1:ZcL m o (pre++[fr u i locs (w++[v]) nt]) o (pre++[fr u (i+3) locs (w++[v]++[doI 7 v (Zaz g s).2]) nt]):=by
  refine (goDup hm hu a0 (by omega)).trans ((goPush hm hu (ws:=w++[v]++[v]) a1 (by simp;omega)).trans ?_);have:=goDo hm hu (o:=o) (pre:=pre) (locs:=locs) (nt:=nt) (w:=w++[v]) (x:=v) (y:=(Zaz g s).2) a2
  simpa using this
 refine ⟨λhle=>?_,λhlt=>?_⟩
 ·have e:doI 7 v (Zaz g s).2=0:=by unfold doI;rw[if_neg (by omega),if_pos (by omega)];show ((did 7 v.toNat (Zaz g s).2.toNat:Nat):Int)=0;simp only[did];rw[if_neg (by omega)];rfl
  rw[e] at s1;exact (s1.trans (goJz0 hm hu (j:=i+5) a3)).ends (endTrap hm hu a5)
 ·have e:doI 7 v (Zaz g s).2=1:=by unfold doI;rw[if_neg (by omega),if_pos (by omega)];show ((did 7 v.toNat (Zaz g s).2.toNat:Nat):Int)=1;simp only[did];rw[if_pos (by omega)];rfl
  have e2:doI 1 v (Zaz g s).1=(Zaz g s).1+v:=by unfold doI;rw[if_neg (by omega),if_pos (by omega)];show ((did 1 v.toNat (Zaz g s).1.toNat:Nat):Int)=_;simp only[did];omega
  rw[e] at s1;refine (s1.trans (goJz1 hm hu (j:=i+5) (by decide) a3)).trans ((goJump hm hu (j:=i+6) a4).trans ((goPush hm hu (ws:=w++[v]) a6 (by simp;omega)).trans ?_));have:=goDo hm hu (o:=o) (pre:=pre) (locs:=locs) (nt:=nt) (w:=w) (x:=v) (y:=(Zaz g s).1) a7;rw[e2] at this
  simpa using this
end
section
variable {p:List Unit} {s:ES} {o:MO} {X:Bh} (hs:SI p s) (D:Dat X o s) {u:Nat} (hu:u < p.length)
include hs hu
theorem base_nat:Zah p u=(((ZaJ (s.cells.take u)).length:Nat):Int):=(base_len hs.len hs.ok u (by omega)).symm
theorem cell_len:((Zby (cAt s u)).length:Int)=Zao (uAt p u):=unit_len (hs.cell hu)
theorem cAt_at:cAt s u=s.cells[u]'(by rw[hs.len];exact hu):=cAt_eq (by rw[hs.len];exact hu)
include D
theorem dat_get {j:Nat} (hj:j < (Zby (cAt s u)).length):o.data.getD (Zah p u+(j:Int)).toNat 0=(Zby (cAt s u)).getD j 0:=by
 have hl:u < s.cells.length:=by rw[hs.len];exact hu
 rw[cAt_at hs hu] at hj ⊢;have h1:=flat_get hl hj;rw[base_nat hs hu,D.data,show (((ZaJ (s.cells.take u)).length:Nat)+(j:Int):Int).toNat=(ZaJ (s.cells.take u)).length+j from by omega,<- h1];have hlen:(ZaJ (s.cells.take u)).length+j < (ZaJ s.cells).length:=by unfold ZaJ;rw[ZiQ Zby s.cells u hl,List.length_append,List.length_append];omega
 rw[List.getD_eq_getElem?_getD,List.getD_eq_getElem?_getD,List.getElem?_append_left hlen]
theorem dat_set {j:Nat} (hj:j < (Zby (cAt s u)).length) {c:Cells} {n:Int} (hc:Zby c=(Zby (cAt s u)).set j n):Dat X { o with data:=o.data.set (Zah p u+(j:Int)).toNat n } { s with cells:=s.cells.set u c }:=by
 have hl:u < s.cells.length:=by rw[hs.len];exact hu
 refine ⟨D.told,?_,by show Cov X.ns (s.cells.set u c).length o.calls;rw[List.length_set];exact D.calls⟩;show o.data.set _ n=ZaJ (s.cells.set u c)++X.ws;rw[cAt_at hs hu] at hj hc;have hlen:(ZaJ (s.cells.take u)).length+j < (ZaJ s.cells).length:=by unfold ZaJ;rw[ZiQ Zby s.cells u hl,List.length_append,List.length_append];omega
 rw[flat_set hl hj hc,base_nat hs hu,D.data,show (((ZaJ (s.cells.take u)).length:Nat)+(j:Int):Int).toNat=(ZaJ (s.cells.take u)).length+j from by omega,List.set_append_left _ _ hlen]
end
structure Adr (p:List Unit) (u:Nat):Prop where
 base:0<=Zah p u/\Zah p u<=1000
 next:Zah p (u+1)=Zah p u+Zao (uAt p u)
 vars:(uAt p u).vars.length<=8
 arrs:(uAt p u).arrays.length<=3
 size:∀a∈(uAt p u).arrays,1<=a.size/\a.size<=10
 own:¬dupP ((uAt p u).vars++(uAt p u).arrays.map Arr.name)
theorem adr_of {p:List Unit} (hg:Za8 p=0) {u:Nat} (hu:u < p.length):Adr p u:=by
 have hP:=PI.of hg;obtain ⟨_,hU,hw,hS⟩:=ZaX hg;have hm:=Zc6 hu;obtain ⟨_,u1,u2,_,_,u6,_⟩:=Zaq (hU _ hm);have hnn:∀v∈p,0<=Zao v:=λv hv=>(ZbK (hU v hv)).1;have hsum:∀l:List Unit,(∀v∈l,0<=Zao v)->0<=Zaj l:=by
  intro l
  induction l with
  | nil=>intro _;simp[Zaj]
  | cons v l ih =>intro h;have h1:=h v List.mem_cons_self;have h2:=ih (λw hw=>h w (List.mem_cons_of_mem _ hw));unfold Zaj at h2 ⊢;simp only[List.map_cons,List.sum_cons];omega
 have hb:Zah p u+Zaj (p.drop u)=Zaj p:=by unfold Zah Zaj;rw[<- List.sum_append,<- List.map_append,List.take_append_drop]
 have h1:=hsum (p.take u) (λv hv=>hnn v (List.mem_of_mem_take hv));have h2:=hsum (p.drop u) (λv hv=>hnn v (List.mem_of_mem_drop hv));refine ⟨⟨h1,by omega⟩,by rw[ZeF hu,ZcX hu],u1,u2,λa ha=>(ZdR (u6 a ha)).2,λhd=>?_⟩;have:=hS _ hm;unfold ZfR at this;rw[if_pos (.inl hd)] at this;omega
theorem sizes_part {l:List Arr} (h:∀a∈l,1<=a.size/\a.size<=10) {k:Nat} (hk:k < l.length):0<=sizes (l.take k)/\sizes (l.take k)+l[k].size<=sizes l/\sizes l<=10*l.length:=by
 have h1:=(Zen (λa ha=>h a (List.mem_of_mem_take (i:=k) ha))).1;have h2:=ZgV hk;have h3:sizes l=sizes (l.take (k+1))+sizes (l.drop (k+1)):=by unfold sizes;rw[<- List.sum_append,<- List.map_append,List.take_append_drop]
 have h4:=(Zen (λa ha=>h a (List.mem_of_mem_drop (i:=k+1) ha))).1;have h5:=(Zen h).2;omega
end Barb
namespace Barb
open Go Go.Dm Go.Eng Go.Proofs.YtpjjkiidjofflaaGreatDoor
def ZjJ (m:Zal) (X:Bh) (o:MO) (fs:List PF) (fs':Int->List PF):RR Int->Prop
 | .ok v s'=>∃o',ZcL m o fs o' (fs' v)/\Dat X o' s'
 | .stop e s'=>e=3\/∃o',Ends m o fs e o'/\Dat X o' s'
def QsE (p:List Unit) (m:Zal) (X:Bh) (g:Nat):Prop:=∀(c:EC) (ps:List Int) (x:Expr) (s:ES),CI p c->SI p s->wds ps->XI p c x->∀(o:MO) (pre:List PF) (i:Nat) (locs ws:List Int) (nt:Int),pre.length=c.deep->At (cdO p c.u) (atO p c.u) i (ccE (gcO p c) x i)->Loc locs ps->ps.length=c.f.params.length->ws.length+hE x<=40->Dat X o s ->
 ZjJ m X o (pre++[fr c.u i locs ws nt]) (λv=>pre++[fr c.u (i+(ccE (gcO p c) x i).length) locs (ws++[v]) nt]) (evE p g c ps x s)
def OutC (p:List Unit) (m:Zal) (X:Bh) (u:Nat) (o:MO) (fs pre:List PF) (nt:Int):RR Int->Prop
 | .ok v s'=>∃o' j locs',ZcL m o fs o' (pre++[fr u j locs' [v] nt])/\(cdO p u)[j]?=some ⟨13,0,0,0⟩/\Dat X o' s'
 | .stop e s'=>e=3\/∃o',Ends m o fs e o'/\Dat X o' s'
def QsC (p:List Unit) (m:Zal) (X:Bh) (g:Nat):Prop:=∀(u k:Nat) (args:List Int) (deep:Nat) (s:ES),u < p.length->k < (uAt p u).funcs.length->args.length=((uAt p u).funcs.getD k noF).params.length->wds args->SI p s->deep<=19->∀(o:MO) (pre:List PF) (nt:Int) (i:Nat),pre.length=deep->(atO p u)[k]?=some (i:Int)->Dat X o s ->
 OutC p m X u o (pre++[fr u i (p8 args) [] nt]) pre nt (ZbX p (evS p g) u k args deep s)
theorem ZjJ.lead {m:Zal} {X:Bh} {o o1:MO} {fs fs1:List PF} {fs':Int->List PF} {r:RR Int} (h:ZcL m o fs o1 fs1) (k:ZjJ m X o1 fs1 fs' r):ZjJ m X o fs fs' r:=by
 cases r with
 | ok v s'=>obtain ⟨o',k1,k2⟩:=k;exact ⟨o',h.trans k1,k2⟩
 | stop e s' =>
  rcases k with k | ⟨o',k1,k2⟩
  ·exact .inl k
  ·exact .inr ⟨o',h.ends k1,k2⟩
theorem XI.open_ {p:List Unit} {c:EC} {x:Expr} (h:XI p c x) (hk:x.k=4) (ho:x.of≠[]):∃(j:Nat) (hj:j < p.length) (i:Nat) (hi:i < p[j].funcs.length),Za5 p x.of=(j:Int)/\ZbA p[j] x.s=(i:Int)/\p[j].funcs[i].params.length=x.args.length/\p[j].funcs[i].isOpen=true:=by have h1:=h.inv.2.2.2.2.1;unfold Za0 at h1;rw[if_neg (by omega),if_pos hk] at h1;obtain ⟨j,hj,e1,e2⟩:=ZeD h1 ho;obtain ⟨i,hi,f1,f2,f3,_⟩:=Zcj e2;exact ⟨j,hj,i,hi,e1,f1,f2,f3 ho⟩
theorem ents_at:∀(l:List Fun) (a:List Int) (k:Nat) (hk:k < l.length) (ha:k < a.length),l[k].isOpen=true->(ZcH l a)[(ZcQ (l.take k)).toNat]?=some ⟨a[k],l[k].params.length⟩
 | f :: l,x :: a,0,_,_,h=>by have h:f.isOpen=true:=h;simp[ZcH,h,ZcQ]
 | f :: l,x :: a,k+1,hk,ha,h=>by
  have ih:=ents_at l a k (by simpa using hk) (by simpa using ha) (by simpa using h);have h0:=(Zh7 (l.take k)).1;have e:ZcQ ((f :: l).take (k+1))=ZcQ (l.take k)+if f.isOpen then 1 else 0:=by
   unfold ZcQ;rw[List.take_succ_cons,List.filter_cons]
   split<;>simp
  rw[e];unfold ZcH
  split
  ·rename_i hf;rw[show (ZcQ (l.take k)+1).toNat=(ZcQ (l.take k)).toNat+1 by omega,List.getElem?_cons_succ]
   simpa using ih
  ·rename_i hf;rw[Int.add_zero]
   simpa using ih
theorem pt_id (ats:List Int) {x:Instr} (h:x.op≠11):pt ats x=x:=by unfold pt;rw[if_neg h]
section
variable {p:List Unit} {m:Zal} (hm:Img p m) {X:Bh} {g:Nat} (hE:QsE p m X g) (hC:QsC p m X g)
def OutL (m:Zal) (X:Bh) (o:MO) (fs:List PF) (fs':List Int->List PF):RR (List Int)->Prop
 | .ok v s'=>∃o',ZcL m o fs o' (fs' v)/\Dat X o' s'
 | .stop e s'=>e=3\/∃o',Ends m o fs e o'/\Dat X o' s'
include hm hE in
theorem qsL {c:EC} {ps:List Int} (hc:CI p c) (hps:wds ps) (hpl:ps.length=c.f.params.length) (nt:Int) (pre:List PF) (hpre:pre.length=c.deep) {locs:List Int} (hL:Loc locs ps):∀(l:List Expr) (s:ES),SI p s->(∀y∈l,XI p c y)->∀(o:MO) (i:Nat) (ws:List Int),At (cdO p c.u) (atO p c.u) i (ccEs (gcO p c) l i)->ws.length+hEs l<=40->Dat X o s ->
  OutL m X o (pre++[fr c.u i locs ws nt]) (λv=>pre++[fr c.u (i+(ccEs (gcO p c) l i).length) locs (ws++v) nt]) (Zc1 (evE p g c ps) l s)
 | [],s,hs,_,o,i,ws,hA,hh,D=>by
  refine ⟨o,?_,D⟩;rw[ccEs]
  simpa using ZcL.refl m o (pre++[fr c.u i locs ws nt])
 | x :: l,s,hs,hx,o,i,ws,hA,hh,D=>by
  rw[ccEs] at hA;obtain ⟨A1,A2⟩:=hA.app;rw[hEs] at hh;have h1:=hE c ps x s hc hs hps (hx x List.mem_cons_self) o pre i locs ws nt hpre A1 hL hpl (by omega) D;have hI:=(ZdG (PI.of hm.good) g).1 c ps x s hc hs hps (hx x List.mem_cons_self)
  change RI p s wd (evE p g c ps x s) at hI
  show OutL m X o _ _ ((evE p g c ps x s).bind λn s=>(Zc1 (evE p g c ps) l s).bind λns s=>.ok (n :: ns) s)
  cases hr:evE p g c ps x s with
  | stop e s1 =>rw[hr] at h1;exact h1
  | ok n s1 =>
   rw[hr] at h1 hI;obtain ⟨o1,G1,D1⟩:=h1;have h2:=qsL hc hps hpl nt pre hpre hL l s1 hI.1 (λy hy=>hx y (List.mem_cons_of_mem _ hy)) o1 _ (ws++[n]) A2 (by simp;omega) D1;show OutL m X o _ _ ((Zc1 (evE p g c ps) l s1).bind λns s=>.ok (n :: ns) s)
   cases hr2:Zc1 (evE p g c ps) l s1 with
   | stop e s2 =>
    rw[hr2] at h2
    rcases h2 with h2 | ⟨o2,E2,D2⟩
    ·exact .inl h2
    ·exact .inr ⟨o2,G1.ends E2,D2⟩
   | ok ns s2 =>
    rw[hr2] at h2;obtain ⟨o2,G2,D2⟩:=h2;refine ⟨o2,?_,D2⟩;have G:=G1.trans G2;rw[ccEs,List.length_append]
    simpa [Nat.add_assoc] using G
theorem Loc.get {locs ps:List Int} (h:Loc locs ps) {j:Nat} (hj:j < ps.length):locs.getD j 0=ps.getD j 0:=h.2.2 j hj
include hm in
theorem words_at {c:EC} (hc:CI p c) {s:ES} (hs:SI p s) {o:MO} (D:Dat X o s) {i:Nat} (hi:i < (uAt p c.u).vars.length) {name:Str} (hv:vIdx (uAt p c.u) name=(i:Int)):(Zaz (gcO p c) name).1=Zah p c.u+(i:Int)/\(Zah p c.u<=Zah p c.u+(i:Int)/\Zah p c.u+(i:Int) < Zah p (c.u+1))/\o.data.getD (Zah p c.u+(i:Int)).toNat 0=(cAt s c.u).vars.getD i 0/\∀n,Dat X { o with data:=o.data.set (Zah p c.u+(i:Int)).toNat n } (s.setV c.u i n):=by
 have A:=adr_of hm.good hc.u;have hcell:=hs.cell hc.u;have hv2:i < (cAt s c.u).vars.length:=by have:=hcell.1.1.1;omega
 have hcl:=cell_len hs hc.u;have hfl:(Zby (cAt s c.u)).length=(cAt s c.u).vars.length+(cAt s c.u).arrays.flatten.length:=by unfold Zby;rw[List.length_append]
 have hj:i < (Zby (cAt s c.u)).length:=by omega
 refine ⟨addr_var hv A.base (by have:=A.vars;omega),⟨by omega,by rw[A.next];omega⟩,?_,λn=>?_⟩
 ·rw[dat_get hs D hc.u hj,var_get _ hv2]
 ·exact dat_set hs D hc.u hj (var_set _ hv2 n)
include hm in
theorem arrs_at {c:EC} (hc:CI p c) {s:ES} (hs:SI p s) {o:MO} (D:Dat X o s) {name:Str} (ha:Zij (uAt p c.u) name):∃k,k < (uAt p c.u).arrays.length/\aIdx (uAt p c.u) name=(k:Int)/\(0<=(Zaz (gcO p c) name).1/\(Zaz (gcO p c) name).1<=10000)/\(Zaz (gcO p c) name).2=(((cAt s c.u).arrays.getD k []).length:Int)/\(0<=(Zaz (gcO p c) name).2/\(Zaz (gcO p c) name).2<=10000) /\
  ∀v:Nat,v < ((cAt s c.u).arrays.getD k []).length->(Zah p c.u<=(Zaz (gcO p c) name).1+(v:Int)/\(Zaz (gcO p c) name).1+(v:Int) < Zah p (c.u+1))/\o.data.getD ((Zaz (gcO p c) name).1+(v:Int)).toNat 0=((cAt s c.u).arrays.getD k []).getD v 0/\∀n,Dat X { o with data:=o.data.set ((Zaz (gcO p c) name).1+(v:Int)).toNat n } (s.setA c.u k v n):=by
 have A:=adr_of hm.good hc.u;have hcell:=hs.cell hc.u;obtain ⟨k,hk,hak⟩:=arr_at ha;have hk2:k < (cAt s c.u).arrays.length:=by rw[hcell.1.2];exact hk
 have e:(cAt s c.u).arrays.getD k []=(cAt s c.u).arrays[k]:=by simp[hk2]
 have hsz:=(hcell.2 k hk2 hk).1;rw[<- e] at hsz;have hss:=sizes_part A.size hk;have hs10:=A.size _ (List.getElem_mem hk);have haddr:=addr_arr (g:=gcO p c) A.own ha hk hak A.size A.arrs A.vars A.base;have hb:=A.base;have hvl:=A.vars;have hal:=A.arrs;have e1:(Zaz (gcO p c) name).1=Zah p c.u+((uAt p c.u).vars.length:Int)+sizes ((uAt p c.u).arrays.take k):=by rw[haddr]
 have e2:(Zaz (gcO p c) name).2=(uAt p c.u).arrays[k].size:=by rw[haddr]
 have hoff:((ZhI (cAt s c.u) k:Nat):Int)=((uAt p c.u).vars.length:Int)+sizes ((uAt p c.u).arrays.take k):=by have h1:=arrs_len hcell k (by omega);have h2:=hcell.1.1.1;unfold ZhI;push_cast;omega
 have hcl:=cell_len hs hc.u;have huw:Zao (uAt p c.u)=((uAt p c.u).vars.length:Int)+sizes (uAt p c.u).arrays:=rfl;refine ⟨k,hk,hak,⟨by omega,by omega⟩,by omega,⟨by omega,by omega⟩,λv hv=>?_⟩;have hj:ZhI (cAt s c.u) k+v < (Zby (cAt s c.u)).length:=by omega
 have ea:(Zaz (gcO p c) name).1+(v:Int)=Zah p c.u+((ZhI (cAt s c.u) k+v:Nat):Int):=by push_cast;omega
 refine ⟨⟨by omega,by rw[A.next];omega⟩,?_,λn=>?_⟩
 ·rw[ea,dat_get hs D hc.u hj,arr_get _ hk2 hv]
 ·rw[ea];exact dat_set hs D hc.u hj (arr_set _ hk2 hv n)
end
section
variable {p:List Unit} {m:Zal} (hm:Img p m) {X:Bh} {g:Nat} (hE:QsE p m X g) (hC:QsC p m X g)
theorem At.map {C:List Instr} {ats:List Int} {i:Nat} {x:Instr} (h:At C ats i [x]) (ho:x.op≠11):C[i]?=some x:=by rw[h.one,pt_id ats ho]
theorem ccE_eq (g:GC) (x:Expr) (i:Nat):ccE g x i=ccEs g x.args i++ZhG g x.k x.n x.of x.s x.args.length (i+(ccEs g x.args i).length):=by cases x;rw[ccE];rfl
theorem hE_eq (x:Expr):Barb.hE x=max (hEs x.args) (if x.k=3 then 3 else 1):=by cases x;rw[Barb.hE];rfl
include hm hC in
theorem qsAsk {c:EC} (hc:CI p c) {x:Expr} (hx:XI p c x) (hk:x.k=4) {s:ES} (hs:SI p s) {ns:List Int} (hnl:ns.length=x.args.length) (hnw:wds ns) {o:MO} (D:Dat X o s) {pre:List PF} (hpre:pre.length=c.deep) {locs ws:List Int} {nt:Int} {j:Nat} (hA:At (cdO p c.u) (atO p c.u) j [Zjj (gcO p c) x.of x.s x.args.length]) (hw:ws.length < 40) :
  ZjJ m X o (pre++[fr c.u j locs (ws++ns) nt]) (λv=>pre++[fr c.u (j+1) locs (ws++[v]) nt]) (ZbX p (evS p g) (toU p c x.of) (ZbA (uAt p (toU p c x.of)) x.s).toNat ns (c.deep+1) s):=by
 obtain ⟨t1,fi,t2,t3,t4,_⟩:=hx.ask hc hk;rw[t2,Int.toNat_natCast];have hcd:=hc.deep;have key:∀(u':Nat) (o1:MO) (nt':Int) (i':Nat),(nt' < 0\/X.ns.length<=nt'.toNat)->u'=toU p c x.of->(atO p u')[fi]?=some (i':Int)->Dat X o1 s->ZcL m o (pre++[fr c.u j locs (ws++ns) nt]) o1 (pre++[fr c.u (j+1) locs ws nt]++[fr u' i' (p8 ns) [] nt'])->c.deep+1<=19 ->
   ZjJ m X o (pre++[fr c.u j locs (ws++ns) nt]) (λv=>pre++[fr c.u (j+1) locs (ws++[v]) nt]) (ZbX p (evS p g) (toU p c x.of) fi ns (c.deep+1) s):=by
  intro u' o1 nt' i' hnt hu' hat D1 G1 hd;subst hu';have h:=hC (toU p c x.of) fi ns (c.deep+1) s t1 t3 (hnl.trans t4.symm) hnw hs hd o1 (pre++[fr c.u (j+1) locs ws nt]) nt' i' (by simp[hpre]) hat D1
  cases hr:ZbX p (evS p g) (toU p c x.of) fi ns (c.deep+1) s with
  | ok v s' =>rw[hr] at h;obtain ⟨o2,j2,locs2,G2,hret,D2⟩:=h;obtain ⟨o3,G3,e1,e2,e3⟩:=goRet hm t1 (o:=o2) (pre:=pre) (t:=fr c.u (j+1) locs ws nt) (locs:=locs2) (nt:=nt') (x:=v) hret hw;exact ⟨o3,(G1.trans G2).trans G3,⟨e1.trans D2.told,e2.trans D2.data,by rw[e3];exact D2.calls.note hnt v⟩⟩
  | stop e s' =>
   rw[hr] at h
   rcases h with h | ⟨o2,E2,D2⟩
   ·exact .inl h
   ·exact .inr ⟨o2,G1.ends E2,D2⟩
 have stop5:∀o1,20<=c.deep+1->Ends m o (pre++[fr c.u j locs (ws++ns) nt]) 5 o1->Dat X o1 s->ZjJ m X o (pre++[fr c.u j locs (ws++ns) nt]) (λv=>pre++[fr c.u (j+1) locs (ws++[v]) nt]) (ZbX p (evS p g) (toU p c x.of) fi ns (c.deep+1) s):=by intro o1 hd h5 D1;unfold ZbX;rw[if_pos hd];exact .inr ⟨o1,h5,D1⟩
 have hlen:(fr c.u (j+1) locs (ws++ns) nt).ws.length=ws.length+x.args.length:=by show (ws++ns).length=_;rw[List.length_append,hnl]
 have hdrop:(fr c.u (j+1) locs (ws++ns) nt).ws.drop ws.length=ns:=by show (ws++ns).drop ws.length=ns;simp
 have htake:(fr c.u (j+1) locs (ws++ns) nt).ww ((fr c.u (j+1) locs (ws++ns) nt).ws.take ws.length)=fr c.u (j+1) locs ws nt:=by show (⟨_,_,_,(ws++ns).take ws.length,_⟩:PF)=_;simp
 by_cases ho:x.of=[]
 ·have hu0:toU p c x.of=c.u:=by unfold toU;rw[if_pos ho]
  have h1:=hA.one;unfold Zjj at h1;rw[if_pos ho] at h1;obtain ⟨i',hi',_⟩:=fun_at p (uAt p c.u) (Zah p c.u) fi (by rw[<- hu0];exact t3);rw[hu0] at t2;have hpt:pt (atO p c.u) ⟨11,ZbA (gcO p c).u x.s,(x.args.length:Int),0⟩=⟨11,(i':Int),(x.args.length:Int),0⟩:=by unfold pt;rw[if_pos rfl];show (⟨11,(atO p c.u).getD (ZbA (uAt p c.u) x.s).toNat 0,_,_⟩:Instr)=_;rw[t2,Int.toNat_natCast,List.getD_eq_getElem?_getD,hi'];rfl
  rw[hpt] at h1;have hst:=ZeQ hm hc.u h1 o pre locs (ws++ns) nt;rw[doS_11 (q:=x.args.length) (k:=ws.length) rfl rfl hlen,hdrop,htake] at hst
  by_cases hd:pre.length+1=20
  ·rw[if_pos hd] at hst;exact stop5 o (by omega) (Ends.now hst) D
  ·rw[if_neg hd] at hst;exact key c.u o (-1) i' (.inl (by decide)) hu0.symm hi' D (ZcL.step hst) (by omega)
 ·obtain ⟨ju,hju,fi2,hfi2,e1,e2,e3,e4⟩:=hx.open_ hk ho;have hu1:toU p c x.of=ju:=by unfold toU;rw[if_neg ho,e1,Int.toNat_natCast]
  have hfi:fi=fi2:=by rw[hu1,ZcX hju] at t2;omega
  subst hfi;have h1:=hA.map (by unfold Zjj;rw[if_neg ho];show (12:Int)≠11;decide);unfold Zjj at h1;rw[if_neg ho] at h1;have hg:(gcO p c).p.getD (Za5 (gcO p c).p x.of).toNat ⟨[],[],[],[]⟩=p[ju]:=by show p.getD (Za5 p x.of).toNat _=_;rw[e1,Int.toNat_natCast];simp[hju]
  rw[hg,e2,show Za5 (gcO p c).p x.of=(ju:Int) from e1] at h1;have hent:ZgI p[ju] (fi:Int)=ZcQ (p[ju].funcs.take fi):=by unfold ZgI;rw[Int.toNat_natCast]
  rw[hent] at h1;obtain ⟨i',hi',_⟩:=fun_at p (uAt p ju) (Zah p ju) fi (by rw[ZcX hju];exact hfi2);have hal:fi < (atO p ju).length:=(List.getElem?_eq_some_iff.1 hi').1;have hai:(atO p ju)[fi]=(i':Int):=(List.getElem?_eq_some_iff.1 hi').2;have hen:=ents_at p[ju].funcs (atO p ju) fi hfi2 hal e4;have h0:=(Zh7 (p[ju].funcs.take fi)).1;have hme:(m.getD ju ZaY).entries=ZcH p[ju].funcs (atO p ju):=by rw[hm.ents ju hju];unfold atO;rw[ZcX hju]
  have hge:(m.getD (ju:Int).toNat ZaY).entries.getD (ZcQ (p[ju].funcs.take fi)).toNat Zcs=⟨(i':Int),(x.args.length:Int)⟩:=by rw[Int.toNat_natCast,hme,List.getD_eq_getElem?_getD,hen,hai,e3];rfl
  have hst:=ZeQ hm hc.u h1 o pre locs (ws++ns) nt;have hel:(ZcQ (p[ju].funcs.take fi)).toNat < (m.getD ju ZaY).entries.length:=by rw[hme];exact (List.getElem?_eq_some_iff.1 hen).1
  have hbad:¬Zc9 m ⟨12,(ju:Int),ZcQ (p[ju].funcs.take fi),(x.args.length:Int)⟩:=by
   unfold Zc9;have hml:=hm.len
   rintro (h | h | h)
   ·have:((ju:Nat):Int) >= ((m.length:Nat):Int):=h;omega
   ·have:ZcQ (p[ju].funcs.take fi) >= (((m.getD (ju:Int).toNat ZaY).entries.length:Nat):Int):=h;rw[Int.toNat_natCast] at this;omega
   ·exact h (by show ((m.getD (ju:Int).toNat ZaY).entries.getD (ZcQ (p[ju].funcs.take fi)).toNat Zcs).params=_;rw[hge])
  rw[doS_12 (q:=x.args.length) (k:=ws.length) rfl rfl hlen,if_neg hbad,hdrop,htake] at hst;have hat:((m.getD (ju:Int).toNat ZaY).entries.getD (ZcQ (p[ju].funcs.take fi)).toNat Zcs).at_=(i':Int):=by rw[hge]
  by_cases h100:o.calls.length < 100
  ·rw[if_pos h100] at hst
   by_cases hd:pre.length+1=20
   ·rw[if_pos hd] at hst;exact stop5 _ (by omega) (Ends.now hst) ⟨D.told,D.data,D.calls.more (by show (c.u:Int) < _;rw[hs.len];have:=hc.u;omega)⟩
   ·rw[if_neg hd] at hst;refine key ju { o with calls:=o.calls++[⟨(c.u:Int),(ju:Int),ZcQ (p[ju].funcs.take fi),ns,((pre.length+1:Nat):Int),false,0⟩] } (o.calls.length:Int) i' (.inr (by rw[Int.toNat_natCast];exact D.calls.le)) hu1.symm hi' ⟨D.told,D.data,D.calls.more (by show (c.u:Int) < _;rw[hs.len];have:=hc.u;omega)⟩ (ZcL.step (hst.trans ?_)) (by omega);show R.go _ (_++[⟨_,((m.getD (ju:Int).toNat ZaY).entries.getD (ZcQ (p[ju].funcs.take fi)).toNat Zcs).at_,_,_,_⟩])=_;rw[hat]
  ·rw[if_neg h100] at hst
   by_cases hd:pre.length+1=20
   ·rw[if_pos hd] at hst;exact stop5 o (by omega) (Ends.now hst) D
   ·rw[if_neg hd] at hst;refine key ju o (-1) i' (.inl (by decide)) hu1.symm hi' D (ZcL.step (hst.trans ?_)) (by omega);show R.go _ (_++[⟨_,((m.getD (ju:Int).toNat ZaY).entries.getD (ZcQ (p[ju].funcs.take fi)).toNat Zcs).at_,_,_,_⟩])=_;rw[hat]
include hm hE hC in
theorem qsE:QsE p m X (g+1):=by
 intro c ps x s hc hs hps hx o pre i locs ws nt hpre hA hL hpl hh D;have hP:=PI.of hm.good
 by_cases h0:s.fuel=0
 ·rw[Zi9 p _ c ps x s h0];exact .inl rfl
 rw[exprF_eq p g c ps x s h0];have hs1:SI p { s with fuel:=s.fuel - 1 }:=hs.fuel _;have D1:Dat X o { s with fuel:=s.fuel - 1 }:=⟨D.told,D.data,D.calls⟩;revert hs1 D1;generalize ({ s with fuel:=s.fuel - 1 }:ES)=s1;intro hs1 D1;have hinv:=hx.inv;have A:=adr_of hm.good hc.u;rw[ccE_eq] at hA;rw[hE_eq] at hh;have hw1:ws.length+1<=40:=by
  have h13:(1:Nat)<=(if x.k=3 then 3 else 1):=by split<;>omega
  omega
 obtain ⟨A1,A2⟩:=hA.app;have elen:i+(ccE (gcO p c) x i).length=i+(ccEs (gcO p c) x.args i).length+(ZhG (gcO p c) x.k x.n x.of x.s x.args.length (i+(ccEs (gcO p c) x.args i).length)).length:=by rw[ccE_eq,List.length_append];omega
 rw[elen];obtain ⟨cn1,cn3,cn5⟩:=ok_count hinv.1 hinv.2.2.1;have nil_of:x.args.length=0->ccEs (gcO p c) x.args i=[]:=λh=>by rw[List.eq_nil_of_length_eq_zero h,ccEs]
 by_cases k1:x.k=1
 ·rw[if_pos k1];rw[nil_of (cn1 (.inl k1))] at A2 ⊢;unfold ZhG at A2 ⊢;rw[if_pos k1] at A2 ⊢;exact ⟨o,goPush hm hc.u (A2.map (by show (1:Int)≠11;decide)) (by omega),D1⟩
 rw[if_neg k1]
 by_cases k2:x.k=2
 ·rw[if_pos k2];rw[nil_of (cn1 (.inr k2))] at A2 ⊢;unfold ZhG at A2 ⊢;rw[if_neg k1,if_pos k2] at A2 ⊢;unfold ccRead at A2 ⊢;unfold getV
  rcases Zgi (hx.var k2) with ⟨q,hq,hpi⟩ | ⟨hpi,q,hq,hvi⟩
  ·have hpi2:Zbh (gcO p c).f x.s=(q:Int):=hpi;rw[if_pos (show 0<=Zbh (gcO p c).f x.s by omega),hpi2] at A2;rw[if_pos (show 0<=Zbh (gcO p c).f x.s by omega),if_pos (show 0<=pIdx c.f x.s by omega),hpi,Int.toNat_natCast];have G:=goGet hm hc.u (o:=o) (pre:=pre) (locs:=locs) (ws:=ws) (nt:=nt) (a:=q) (A2.map (by show (4:Int)≠11;decide)) (by omega);rw[hL.get (by rw[hpl];exact hq)] at G;exact ⟨o,G,D1⟩
  ·have hpi2:¬0<=Zbh (gcO p c).f x.s:=hpi;rw[if_neg hpi2] at A2 ⊢;rw[if_neg hpi,hvi,Int.toNat_natCast];obtain ⟨w1,w2,w3,_⟩:=words_at hm hc hs1 D1 hq hvi;obtain ⟨B1,B2⟩:=A2.cons;rw[pt_id _ (by show (1:Int)≠11;decide),w1] at B1;have G1:=goPush hm hc.u (o:=o) (pre:=pre) (locs:=locs) (ws:=ws) (nt:=nt) B1 (by omega);have G2:=goLoad hm hc.u (o:=o) (pre:=pre) (locs:=locs) (w:=ws) (nt:=nt) (B2.map (by show (6:Int)≠11;decide)) w2;rw[w3] at G2;exact ⟨o,G1.trans G2,D1⟩
 rw[if_neg k2];have hargs:=hinv.2.2.2.2.2;have hl:=qsL hm hE hc hps hpl nt pre hpre hL x.args s1 hs1 hargs o i ws A1 (by omega) D1;have hlI:=listF_I (p:=p) (e:=evE p g c ps) x.args (λy hy s hs=>(ZdG hP g).1 c ps y s hc hs hps (hargs y hy)) s1 hs1
 cases hr:Zc1 (evE p g c ps) x.args s1 with
 | stop e s2 =>rw[hr] at hl;exact hl
 | ok ns s2 =>
  rw[hr] at hl hlI;obtain ⟨o2,G2,D2⟩:=hl;obtain ⟨hs2,_,hnl,hnw⟩:=hlI;show ZjJ m X o _ _ (Zg9 p (evS p g) c x ns s2);refine ZjJ.lead G2 ?_;generalize i+(ccEs (gcO p c) x.args i).length=j at *;unfold Zg9;unfold ZhG at A2 ⊢;rw[if_neg k1,if_neg k2] at A2 ⊢
  by_cases k3:x.k=3
  ·rw[if_pos k3] at A2 ⊢;rw[if_pos k3];obtain ⟨v,hv⟩:∃v,ns=[v]:=by
    match ns,(hnl.trans (cn3 k3)) with
    | [v],_=>exact ⟨v,rfl⟩
   subst hv;obtain ⟨B1,B2⟩:=A2.app;obtain ⟨k,hk,hak,ha1,ha2,ha3,hget⟩:=arrs_at hm hc hs2 D2 (hx.arr k3);have hvw:wd v:=hnw v List.mem_cons_self;rw[if_pos k3] at hh;obtain ⟨E1,E2⟩:=goElem hm hc.u (o:=o2) (pre:=pre) (locs:=locs) (nt:=nt) (w:=ws) (v:=v) B1 (by omega) hvw ha1 ha3;unfold getA;have ear:Zgb p c s2 x.s=(cAt s2 c.u).arrays.getD k []:=by unfold Zgb;rw[hak];rfl
   show ZjJ m X o2 _ _ (if ((Zgb p c s2 x.s).length:Int)<=v then _ else _);rw[ear]
   by_cases hle:(((cAt s2 c.u).arrays.getD k []).length:Int)<=v
   ·rw[if_pos hle];exact .inr ⟨o2,E1 (by omega),D2⟩
   ·rw[if_neg hle];have hvn:v.toNat < ((cAt s2 c.u).arrays.getD k []).length:=by have:=hvw.1;omega
    obtain ⟨g1,g2,_⟩:=hget v.toNat hvn;have hvt:((v.toNat:Nat):Int)=v:=by have:=hvw.1;omega
    rw[hvt] at g1 g2;have G3:=E2 (by omega);have G4:=goLoad hm hc.u (o:=o2) (pre:=pre) (locs:=locs) (w:=ws) (nt:=nt) (B2.map (by show (6:Int)≠11;decide)) g1;rw[g2] at G4;refine ⟨o2,?_,D2⟩;have G5:=G3.trans G4;rw[List.length_append]
    simpa [ZhH,Nat.add_assoc] using G5
  rw[if_neg k3] at A2 ⊢;rw[if_neg k3]
  by_cases k4:x.k=4
  ·rw[if_pos k4] at A2 ⊢;rw[if_neg (show ¬x.k=5 by omega)];exact qsAsk hm hC hc hx k4 hs2 hnl hnw D2 hpre A2 (by omega)
  rw[if_neg k4] at A2 ⊢;have k5:x.k=5:=by have:=hinv.1;omega
  rw[if_pos k5];obtain ⟨a,b,hab⟩:∃a b,ns=[a,b]:=by
   match ns,(hnl.trans (cn5 k1 k2 k3 k4)) with
   | [a,b],_=>exact ⟨a,b,rfl⟩
  subst hab;exact ⟨o2,goDo hm hc.u (w:=ws) (A2.map (by show (8:Int)≠11;decide)),D2⟩
end
end Barb
namespace Barb
open Go Go.Dm Go.Eng Go.Proofs.YtpjjkiidjofflaaGreatDoor
def OutS (p:List Unit) (m:Zal) (X:Bh) (c:EC) (val:Int) (o:MO) (fs pre:List PF) (nt:Int) (to:Nat):RR EL->Prop
 | .ok el' s'=>∃o' locs',Dat X o' s'/\Loc locs' el'.ps/\((el'.back=false/\el'.val=val/\ZcL m o fs o' (pre++[fr c.u to locs' [] nt]))\/(el'.back=true/\∃j,(cdO p c.u)[j]?=some ⟨13,0,0,0⟩/\ZcL m o fs o' (pre++[fr c.u j locs' [el'.val] nt])))
 | .stop e s'=>e=3\/∃o',Ends m o fs e o'/\Dat X o' s'
theorem OutS.lead {p:List Unit} {m:Zal} {X:Bh} {c:EC} {val:Int} {o o1:MO} {fs fs1 pre:List PF} {nt:Int} {to:Nat} {r:RR EL} (h:ZcL m o fs o1 fs1) (k:OutS p m X c val o1 fs1 pre nt to r):OutS p m X c val o fs pre nt to r:=by
 cases r with
 | ok el' s' =>
  obtain ⟨o',locs',k1,k2,k3⟩:=k;refine ⟨o',locs',k1,k2,?_⟩
  rcases k3 with ⟨a,b,d⟩ | ⟨a,j,b,d⟩
  ·exact .inl ⟨a,b,h.trans d⟩
  ·exact .inr ⟨a,j,b,h.trans d⟩
 | stop e s' =>
  rcases k with k | ⟨o',k1,k2⟩
  ·exact .inl k
  ·exact .inr ⟨o',h.ends k1,k2⟩
theorem ZjJ.then {p:List Unit} {m:Zal} {X:Bh} {c:EC} {val:Int} {o:MO} {fs pre:List PF} {fs':Int->List PF} {nt:Int} {to:Nat} {r:RR Int} {k:Int->ES->RR EL} (h:ZjJ m X o fs fs' r) (hk:∀v s' o',r=.ok v s'->ZcL m o fs o' (fs' v)->Dat X o' s'->OutS p m X c val o fs pre nt to (k v s')):OutS p m X c val o fs pre nt to (r.bind k):=by
 cases r with
 | ok v s'=>obtain ⟨o',h1,h2⟩:=h;exact hk v s' o' rfl h1 h2
 | stop e s'=>exact h
def QsS (p:List Unit) (m:Zal) (X:Bh) (g:Nat):Prop:=∀(c:EC) (x:Stmt) (el:EL) (s:ES),CI p c->SI p s->ELI c el->el.back=false->StI p c x->fitS c.f x->∀(o:MO) (pre:List PF) (i:Nat) (locs:List Int) (nt:Int),pre.length=c.deep->At (cdO p c.u) (atO p c.u) i (ccS (gcO p c) x i)->Loc locs el.ps->Dat X o s ->
 OutS p m X c el.val o (pre++[fr c.u i locs [] nt]) pre nt (i+(ccS (gcO p c) x i).length) (evS p g c x el s)
def QsB (p:List Unit) (m:Zal) (X:Bh) (g:Nat):Prop:=∀(c:EC) (l:List Stmt) (el:EL) (s:ES),CI p c->SI p s->ELI c el->el.back=false->(∀x∈l,StI p c x)->ZgE c.f l->∀(o:MO) (pre:List PF) (i:Nat) (locs:List Int) (nt:Int),pre.length=c.deep->At (cdO p c.u) (atO p c.u) i (Zfa (gcO p c) l i)->Loc locs el.ps->Dat X o s ->
 OutS p m X c el.val o (pre++[fr c.u i locs [] nt]) pre nt (i+(Zfa (gcO p c) l i).length) (Za9 (evS p g c) l el s)
theorem body_back (e:Stmt->EL->ES->RR EL):∀(l:List Stmt) (el:EL) (s:ES),el.back=true->Za9 e l el s=.ok el s
 | [],_,_,_=>rfl
 | _ :: _,el,s,h=>by unfold Za9;rw[if_pos h]
theorem Loc.set {locs ps:List Int} (h:Loc locs ps) {j:Nat} (hj:j < ps.length) (n:Int):Loc (locs.set j n) (ps.set j n):=by
 refine ⟨by rw[List.length_set];exact h.1,by rw[List.length_set];exact h.2.1,λq hq=>?_⟩;rw[List.length_set] at hq;have h8:=h.1;have h4:=h.2.1;rw[List.getD_eq_getElem?_getD,List.getD_eq_getElem?_getD,List.getElem?_set,List.getElem?_set]
 by_cases e:j=q
 ·rw[if_pos e,if_pos e,if_pos (by omega),if_pos (by omega)]
 ·rw[if_neg e,if_neg e,<- List.getD_eq_getElem?_getD,<- List.getD_eq_getElem?_getD];exact h.2.2 q hq
theorem Loc.behind {locs ps:List Int} (h:Loc locs ps) {j:Nat} (hj:ps.length<=j) (n:Int):Loc (locs.set j n) ps:=by refine ⟨by rw[List.length_set];exact h.1,h.2.1,λq hq=>?_⟩;rw[List.getD_eq_getElem?_getD,List.getElem?_set,if_neg (by omega),<- List.getD_eq_getElem?_getD];exact h.2.2 q hq
section
variable {p:List Unit} {m:Zal} (hm:Img p m) {X:Bh} {g:Nat}
include hm in
theorem qsB (hS:QsS p m X g):QsB p m X g:=by
 intro c l
 induction l with
 | nil =>intro el s hc hs he hb _ _ o pre i locs nt _ _ hL D;refine ⟨o,locs,D,hL,.inl ⟨hb,rfl,?_⟩⟩;rw[Zfa];exact ZcL.refl _ _ _
 | cons x l ih =>
  intro el s hc hs he hb hx hf o pre i locs nt hpre hA hL D;rw[Zfa] at hA;obtain ⟨A1,A2⟩:=hA.app;rw[ZgE] at hf;have h1:=hS c x el s hc hs he hb (hx x List.mem_cons_self) hf.1 o pre i locs nt hpre A1 hL D;have hI:=(ZdG (PI.of hm.good) g).2 c x el s hc hs he (hx x List.mem_cons_self)
  change RI p s (ELI c) (evS p g c x el s) at hI
  have e:Za9 (evS p g c) (x :: l) el s=(evS p g c x el s).bind (Za9 (evS p g c) l):=by show (if el.back=true then _ else _)=_;rw[if_neg (by rw[hb];decide)]
  rw[e]
  cases hr:evS p g c x el s with
  | stop e s1=>rw[hr] at h1;exact h1
  | ok el1 s1 =>
   rw[hr] at h1 hI;obtain ⟨o1,locs1,D1,L1,h1⟩:=h1;show OutS p m X c el.val o _ pre nt _ (Za9 (evS p g c) l el1 s1)
   rcases h1 with ⟨b1,v1,G1⟩ | ⟨b1,j,hj,G1⟩
   ·have h2:=ih el1 s1 hc hI.1 hI.2.2 b1 (λy hy=>hx y (List.mem_cons_of_mem _ hy)) hf.2 o1 pre _ locs1 nt hpre A2 L1 D1;rw[v1] at h2;have e2:i+(Zfa (gcO p c) (x :: l) i).length=i+(ccS (gcO p c) x i).length+(Zfa (gcO p c) l (i+(ccS (gcO p c) x i).length)).length:=by rw[Zfa,List.length_append];omega
    rw[e2];exact OutS.lead G1 h2
   ·rw[body_back _ _ _ _ b1];exact ⟨o1,locs1,D1,L1,.inr ⟨b1,j,hj,G1⟩⟩
include hm in
theorem qsC (hB:QsB p m X g):QsC p m X g:=by
 intro u k args deep s hu hk ha hw hs hd o pre nt i hpre hat D;have hP:=PI.of hm.good;have hfm:=fn_mem hk;obtain ⟨i',hi',hA⟩:=fun_at p (uAt p u) (Zah p u) k hk;have hii:i'=i:=by have h2:(some (i':Int))=some (i:Int):=hi'.symm.trans hat;injection h2 with h3;omega
 subst hii;have hfe:(uAt p u).funcs[k]=(uAt p u).funcs.getD k noF:=by simp[hk]
 rw[hfe] at hA;unfold ZbX;rw[if_neg (by omega)];generalize hf:(uAt p u).funcs.getD k noF=f at *;have hc:CI p ⟨u,f,deep⟩:=⟨hu,hfm,hd⟩;have he:ELI ⟨u,f,deep⟩ ⟨args,false,0⟩:=⟨ha,hw,(show wd 0 from ⟨by decide,by decide⟩)⟩;have hps4:args.length<=4:=by have h1:f.params.length<=4:=(ZbE ((Zaq (hP.unit _ (Zc6 hu))).2.2.2.2.2.2 _ hfm)).2.1;rw[ha];exact h1
 have hL:Loc (p8 args) args:=by
  refine ⟨rfl,hps4,λj hj=>?_⟩
  match args,hps4 with
  | [],_=>simp at hj
  | [a],_=>match j,hj with | 0,_=>rfl
  | [a,b],_=>match j,hj with | 0,_=>rfl | 1,_=>rfl
  | [a,b,d],_=>match j,hj with | 0,_=>rfl | 1,_=>rfl | 2,_=>rfl
  | [a,b,d,e],_=>match j,hj with | 0,_=>rfl | 1,_=>rfl | 2,_=>rfl | 3,_=>rfl
 have hfit:ZgE f f.body:=by have h1:=hm.most u hu;rw[<- ZcX hu] at h1;exact unit_fit p (uAt p u) (Zah p u) h1 (λh hh=>(ZbE ((Zaq (hP.unit _ (Zc6 hu))).2.2.2.2.2.2 _ hh)).2.2.2) f hfm
 unfold ccF at hA;obtain ⟨A1,A2⟩:=hA.app;have h:=hB ⟨u,f,deep⟩ f.body ⟨args,false,0⟩ s hc hs he rfl (hP.body hc).all hfit o pre i' (p8 args) nt hpre A1 hL D
 cases hr:Za9 (evS p g ⟨u,f,deep⟩) f.body ⟨args,false,0⟩ s with
 | stop e s1=>rw[hr] at h;exact h
 | ok el1 s1 =>
  rw[hr] at h;obtain ⟨o1,locs1,D1,L1,h1⟩:=h;show OutC p m X u o _ pre nt (.ok el1.val s1)
  rcases h1 with ⟨b1,v1,G1⟩ | ⟨b1,j,hj,G1⟩
  ·obtain ⟨B1,B2⟩:=A2.cons;rw[pt_id _ (by show (1:Int)≠11;decide)] at B1;have G2:=goPush hm hu (o:=o1) (pre:=pre) (locs:=locs1) (ws:=[]) (nt:=nt) B1 (by decide);have v0:el1.val=0:=v1;rw[v0];exact ⟨o1,_,locs1,G1.trans G2,B2.map (by show (13:Int)≠11;decide),D1⟩
  ·exact ⟨o1,j,locs1,G1,hj,D1⟩
theorem ccS_eq (g:GC) (x:Stmt) (i:Nat):ccS g x i=(if x.k=1 then ccSet g x.s (x.xs.getD 0 noX) i
  else if x.k=2 then ccPut2 g x.s (x.xs.getD 0 noX) (x.xs.getD 1 noX) i
  else if x.k=3\/x.k=4 then
   let cx:=ccE g (x.xs.getD 0 noX) i
   let cb:=Zfa g x.b (i+cx.length+1)
   let no:=i+cx.length+1+cb.length+1
   let ce:=if x.k=3 then Zfa g x.e no else []
   cx++(⟨10,(no:Int),0,0⟩ :: (cb++(⟨9,((if x.k=4 then i else no+ce.length:Nat):Int),0,0⟩ :: ce)))
  else if x.k=5 then ccE g (x.xs.getD 0 noX) i++[⟨13,0,0,0⟩]
  else ccE g (x.xs.getD 0 noX) i++[⟨14,0,0,0⟩]):=by cases x;rw[ccS];rfl
theorem fitS_eq (f:Fun) (x:Stmt):fitS f x↔(if x.k=1 then (if 0<=Zbh f x.s then 0 else 1)+hE (x.xs.getD 0 noX)<=40
  else if x.k=2 then hE (x.xs.getD 0 noX)<=40/\1+hE (x.xs.getD 1 noX)<=40
  else if x.k=3\/x.k=4 then hE (x.xs.getD 0 noX)<=40/\ZgE f x.b/\(x.k=3->ZgE f x.e)
  else hE (x.xs.getD 0 noX)<=40):=by cases x;rw[fitS];rfl
include hm in
theorem qsW (hE:QsE p m X g) (hB:QsB p m X g) {c:EC} (hc:CI p c) {x:Stmt} (hx:StI p c x) (hfb:ZgE c.f x.b) (hfx:Barb.hE (x.xs.getD 0 noX)<=40) {pre:List PF} (hpre:pre.length=c.deep) {nt:Int} {i jz:Nat} (ejz:jz=i+(ccE (gcO p c) (x.xs.getD 0 noX) i).length) (A1:At (cdO p c.u) (atO p c.u) i (ccE (gcO p c) (x.xs.getD 0 noX) i)) {no:Nat} (eno:no=jz+1+(Zfa (gcO p c) x.b (jz+1)).length+1)
  (Bz:(cdO p c.u)[jz]?=some ⟨10,(no:Int),0,0⟩) (A2:At (cdO p c.u) (atO p c.u) (jz+1) (Zfa (gcO p c) x.b (jz+1))) (Bj:(cdO p c.u)[jz+1+(Zfa (gcO p c) x.b (jz+1)).length]?=some ⟨9,(i:Int),0,0⟩) :
  ∀(k:Nat) (n:Int) (el:EL) (s:ES) (o:MO) (locs:List Int),SI p s->ELI c el->el.back=false->Loc locs el.ps->Dat X o s->OutS p m X c el.val o (pre++[fr c.u jz locs [n] nt]) pre nt no (ZcI (evE p g) (evS p g) c x k n el s)
 | 0,n,el,s,o,locs,hs,he,hb,hL,D=>.inl rfl
 | k+1,n,el,s,o,locs,hs,he,hb,hL,D=>by
  have hP:=PI.of hm.good;have hinv:=hx.inv;unfold ZcI
  by_cases hn:n=0
  ·subst hn;rw[if_pos (.inl rfl)];exact ⟨o,locs,D,hL,.inl ⟨hb,rfl,goJz0 hm hc.u (w:=[]) Bz⟩⟩
  rw[if_neg (by rintro (h | h);exact hn h;rw[hb] at h;cases h)];refine OutS.lead (goJz1 hm hc.u (w:=[]) hn Bz) ?_;have h1:=hB c x.b el s hc hs he hb hinv.2.2.2.1.all hfb o pre (jz+1) locs nt hpre A2 hL D;have hI:=Zhq (p:=p) (c:=c) x.b (λy hy el s hs he=>(ZdG hP g).2 c y el s hc hs he (hinv.2.2.2.1.all y hy)) el s hs he
  change RI p s (ELI c) (Za9 (evS p g c) x.b el s) at hI
  cases hr:Za9 (evS p g c) x.b el s with
  | stop e s1=>rw[hr] at h1;exact h1
  | ok el1 s1 =>
   rw[hr] at h1 hI;obtain ⟨o1,locs1,D1,L1,h1⟩:=h1;show OutS p m X c el.val o _ pre nt no (if el1.back=true then _ else _)
   rcases h1 with ⟨b1,v1,G1⟩ | ⟨b1,j,hj,G1⟩
   rotate_left
   ·rw[if_pos b1];exact ⟨o1,locs1,D1,L1,.inr ⟨b1,j,hj,G1⟩⟩
   rw[if_neg (by rw[b1];decide)];unfold Zef
   by_cases h0:s1.fuel=0
   ·rw[if_pos h0];exact .inl rfl
   rw[if_neg h0];have hs2:SI p { s1 with fuel:=s1.fuel - 1 }:=hI.1.fuel _;have D2:Dat X o1 { s1 with fuel:=s1.fuel - 1 }:=⟨D1.told,D1.data,D1.calls⟩;revert hs2 D2;generalize ({ s1 with fuel:=s1.fuel - 1 }:ES)=s2;intro hs2 D2;have h2:=hE c el1.ps (x.xs.getD 0 noX) s2 hc hs2 hI.2.2.2.1 hx.one.2 o1 pre i locs1 [] nt hpre A1 L1 hI.2.2.1 (by simpa using hfx) D2;have hI2:=(ZdG hP g).1 c el1.ps (x.xs.getD 0 noX) s2 hc hs2 hI.2.2.2.1 hx.one.2
   change RI p s2 wd (evE p g c el1.ps (x.xs.getD 0 noX) s2) at hI2
   refine OutS.lead (G1.trans (goJump hm hc.u Bj)) (ZjJ.then h2 (λv s3 o3 hv G3 D3=>?_));rw[hv] at hI2;have h3:=qsW hE hB hc hx hfb hfx hpre (nt:=nt) ejz A1 eno Bz A2 Bj k v el1 s3 o3 locs1 hI2.1 hI.2.2 b1 L1 D3;rw[v1] at h3;rw[<- ejz] at G3;exact OutS.lead G3 h3
include hm in
theorem qsS (hE:QsE p m X g) (hB:QsB p m X g):QsS p m X (g+1):=by
 intro c x el s hc hs he hb hx hf o pre i locs nt hpre hA hL D;have hP:=PI.of hm.good
 by_cases h0:s.fuel=0
 ·rw[Ziw p _ c x _ s h0];exact .inl rfl
 rw[stmtF_eq p g c x _ s h0];have hs1:SI p { s with fuel:=s.fuel - 1 }:=hs.fuel _;have D1:Dat X o { s with fuel:=s.fuel - 1 }:=⟨D.told,D.data,D.calls⟩;revert hs1 D1;generalize ({ s with fuel:=s.fuel - 1 }:ES)=s1;intro hs1 D1;have hinv:=hx.inv;rw[fitS_eq] at hf;have A:=adr_of hm.good hc.u;have hpl:=he.1;have hwd:=he.2.1;obtain ⟨_,hX0⟩:=hx.one;have p4:c.f.params.length<=4:=(ZbE ((Zaq (hP.unit _ (Zc6 hc.u))).2.2.2.2.2.2 _ hc.f)).2.1;have ex0:∀(o:MO) (s:ES) (i:Nat) (ws:List Int),SI p s->Dat X o s->At (cdO p c.u) (atO p c.u) i (ccE (gcO p c) (x.xs.getD 0 noX) i)->ws.length+Barb.hE (x.xs.getD 0 noX)<=40->ZjJ m X o (pre++[fr c.u i locs ws nt]) (λv=>pre++[fr c.u (i+(ccE (gcO p c) (x.xs.getD 0 noX) i).length) locs (ws++[v]) nt]) (evE p g c el.ps (x.xs.getD 0 noX) s) :=
  λo s i ws hs D hA hh=>hE c el.ps (x.xs.getD 0 noX) s hc hs hwd hX0 o pre i locs ws nt hpre hA hL hpl hh D
 have hI0:∀(s:ES),SI p s->RI p s wd (evE p g c el.ps (x.xs.getD 0 noX) s):=λs hs=>(ZdG hP g).1 c el.ps (x.xs.getD 0 noX) s hc hs hwd hX0;rw[ccS_eq] at hA ⊢
 by_cases k1:x.k=1
 ·rw[if_pos k1] at hA hf ⊢;simp only[if_pos k1];unfold ccSet at hA ⊢
  rcases Zgi (hx.var k1) with ⟨q,hq,hpi⟩ | ⟨hpi,q,hq,hvi⟩
  ·have hpi2:Zbh (gcO p c).f x.s=(q:Int):=hpi;rw[if_pos (show 0<=Zbh (gcO p c).f x.s by omega)] at hA ⊢;rw[if_pos (show 0<=Zbh c.f x.s from by show 0<=Zbh (gcO p c).f x.s;omega)] at hf;rw[hpi2] at hA ⊢;obtain ⟨A1,A2⟩:=hA.app;refine ZjJ.then (ex0 o s1 i [] hs1 D1 A1 (by show 0+Barb.hE (x.xs.getD 0 noX)<=40;omega)) (λn s2 o2 hn G2 D2=>?_);unfold putV;rw[if_pos (show 0<=pIdx c.f x.s by omega),hpi,Int.toNat_natCast];have G3:=goPut hm hc.u (o:=o2) (pre:=pre) (locs:=locs) (w:=[]) (nt:=nt) (x:=n) (A2.map (by show (5:Int)≠11;decide));refine ⟨o2,_,D2,hL.set (by rw[hpl];exact hq) n,.inl ⟨hb,rfl,?_⟩⟩;rw[List.length_append];exact G2.trans G3
  ·have hpi2:¬0<=Zbh (gcO p c).f x.s:=hpi;rw[if_neg hpi2] at hA ⊢;rw[if_neg (show ¬0<=Zbh c.f x.s from hpi)] at hf;obtain ⟨B1,A2⟩:=hA.cons;obtain ⟨A2,A3⟩:=A2.app;rw[pt_id _ (by show (1:Int)≠11;decide)] at B1;have G1:=goPush hm hc.u (o:=o) (pre:=pre) (locs:=locs) (ws:=[]) (nt:=nt) B1 (by decide);refine OutS.lead G1 (ZjJ.then (ex0 o s1 (i+1) [(Zaz (gcO p c) x.s).1] hs1 D1 A2 (by show 1+Barb.hE (x.xs.getD 0 noX)<=40;omega)) (λn s2 o2 hn G2 D2=>?_));have hI:=hI0 s1 hs1;rw[hn] at hI;obtain ⟨w1,w2,_,w4⟩:=words_at hm hc hI.1 D2 hq hvi;unfold putV;rw[if_neg hpi,hvi,Int.toNat_natCast];rw[w1] at G2;have G3:=goStore hm hc.u (o:=o2) (pre:=pre) (locs:=locs) (w:=[]) (nt:=nt) (x:=Zah p c.u+(q:Int)) (y:=n) (A3.map (by show (7:Int)≠11;decide)) w2;refine ⟨_,locs,w4 n,hL,.inl ⟨hb,rfl,?_⟩⟩;have G4:=G2.trans G3;rw[w1];rw[List.length_cons,List.length_append]
   simpa [Nat.add_assoc,Nat.add_comm,Nat.add_left_comm] using G4
 rw[if_neg k1] at hA hf ⊢;simp only[if_neg k1]
 by_cases k2:x.k=2
 ·rw[if_pos k2] at hA hf ⊢;simp only[if_pos k2];unfold ccPut2 at hA ⊢;obtain ⟨A1,hA⟩:=hA.app;obtain ⟨A2,hA⟩:=hA.app;obtain ⟨B3,hA⟩:=hA.cons;obtain ⟨A4,hA⟩:=hA.app;obtain ⟨B5,hA⟩:=hA.cons;have B6:=hA.map (by show (7:Int)≠11;decide);rw[pt_id _ (by show (5:Int)≠11;decide)] at B3;rw[pt_id _ (by show (4:Int)≠11;decide)] at B5;refine ZjJ.then (ex0 o s1 i [] hs1 D1 A1 (by show 0+Barb.hE (x.xs.getD 0 noX)<=40;omega)) (λn s2 o2 hn G2 D2=>?_);have hI:=hI0 s1 hs1;rw[hn] at hI;obtain ⟨_,hX1⟩:=hx.two k2;have h2:=hE c el.ps (x.xs.getD 1 noX) s2 hc hI.1 hwd hX1 o2 pre _ locs [n] nt hpre A2 hL hpl (by show 1+Barb.hE (x.xs.getD 1 noX)<=40;omega) D2;have hI2:=(ZdG hP g).1 c el.ps (x.xs.getD 1 noX) s2 hc hI.1 hwd hX1
  change RI p s2 wd (evE p g c el.ps (x.xs.getD 1 noX) s2) at hI2
  refine OutS.lead G2 (ZjJ.then h2 (λv s3 o3 hv G3 D3=>?_));rw[hv] at hI2;obtain ⟨k,hk,hak,ha1,ha2,ha3,hget⟩:=arrs_at hm hc hI2.1 D3 (hx.arr k2);have hnw:wd n:=hI.2.2;have G4:=goPut hm hc.u (o:=o3) (pre:=pre) (locs:=locs) (w:=[n]) (nt:=nt) (x:=v) B3;obtain ⟨E1,E2⟩:=goElem hm hc.u (o:=o3) (pre:=pre) (locs:=locs.set c.f.params.length v) (nt:=nt) (w:=[]) (v:=n) A4 (by decide) hnw ha1 ha3;unfold putA;have ear:Zgb p c s3 x.s=(cAt s3 c.u).arrays.getD k []:=by unfold Zgb;rw[hak];rfl
  rw[ear,hak,Int.toNat_natCast]
  by_cases hle:(((cAt s3 c.u).arrays.getD k []).length:Int)<=n
  ·rw[if_pos hle];exact .inr ⟨o3,(G3.trans G4).ends (E1 (by omega)),D3⟩
  ·rw[if_neg hle];have hvn:n.toNat < ((cAt s3 c.u).arrays.getD k []).length:=by have:=hnw.1;omega
   obtain ⟨g1,_,g3⟩:=hget n.toNat hvn;have hvt:((n.toNat:Nat):Int)=n:=by have:=hnw.1;omega
   rw[hvt] at g1 g3;have hL2:Loc (locs.set c.f.params.length v) el.ps:=hL.behind (by omega) v;have G5:=E2 (by omega);have hgl:(locs.set c.f.params.length v).getD c.f.params.length 0=v:=by have h8:=hL.1;rw[List.getD_eq_getElem?_getD,List.getElem?_set,if_pos rfl,if_pos (by omega)];rfl
   have G6:=goGet hm hc.u (o:=o3) (pre:=pre) (locs:=locs.set c.f.params.length v) (ws:=[(Zaz (gcO p c) x.s).1+n]) (nt:=nt) B5 (by show 1 < 40;decide);rw[hgl] at G6;have G7:=goStore hm hc.u (o:=o3) (pre:=pre) (locs:=locs.set c.f.params.length v) (w:=[]) (nt:=nt) (x:=(Zaz (gcO p c) x.s).1+n) (y:=v) B6 g1;refine ⟨_,_,g3 v,hL2,.inl ⟨hb,rfl,?_⟩⟩;have G:=(G3.trans G4).trans (G5.trans (G6.trans G7));simp only[List.length_append,List.length_cons,List.length_nil]
   simpa [Nat.add_assoc,ZhH] using G
 rw[if_neg k2] at hA hf ⊢;simp only[if_neg k2]
 by_cases k34:x.k=3\/x.k=4
 ·rw[if_pos k34] at hA hf ⊢;dsimp only at hA ⊢;obtain ⟨A1,hA⟩:=hA.app;obtain ⟨Bz,hA⟩:=hA.cons;obtain ⟨A2,hA⟩:=hA.app;obtain ⟨Bj,A3⟩:=hA.cons;rw[pt_id _ (by show (10:Int)≠11;decide)] at Bz;rw[pt_id _ (by show (9:Int)≠11;decide)] at Bj;refine ZjJ.then (ex0 o s1 i [] hs1 D1 A1 (by show 0+Barb.hE (x.xs.getD 0 noX)<=40;omega)) (λn s2 o2 hn G2 D2=>?_);have hI:=hI0 s1 hs1;rw[hn] at hI;refine OutS.lead G2 ?_
  by_cases k3:x.k=3
  ·simp only[if_pos k3] at hA A3 Bj ⊢;have k4:¬x.k=4:=by omega
   simp only[if_neg k4] at Bj ⊢;generalize hcx:(ccE (gcO p c) (x.xs.getD 0 noX) i).length=lx at *;generalize hcb:(Zfa (gcO p c) x.b (i+lx+1)).length=lb at *
   by_cases hn0:n=0
   ·subst hn0;rw[if_pos rfl];have G3:=goJz0 hm hc.u (o:=o2) (pre:=pre) (locs:=locs) (w:=[]) (nt:=nt) Bz;refine OutS.lead G3 ?_;have A3':At (cdO p c.u) (atO p c.u) (i+lx+1+lb+1) (Zfa (gcO p c) x.e (i+lx+1+lb+1)):=A3;have h3:=hB c x.e el s2 hc hI.1 he hb hinv.2.2.2.2.1.all (hf.2.2 k3) o2 pre _ locs nt hpre A3' hL D2;have e2:i+(ccE (gcO p c) (x.xs.getD 0 noX) i++((⟨10,((i+lx+1+lb+1:Nat):Int),0,0⟩:Instr) :: (Zfa (gcO p c) x.b (i+lx+1)++((⟨9,((i+lx+1+lb+1+(Zfa (gcO p c) x.e (i+lx+1+lb+1)).length:Nat):Int),0,0⟩:Instr) :: Zfa (gcO p c) x.e (i+lx+1+lb+1))))).length=i+lx+1+lb+1+(Zfa (gcO p c) x.e (i+lx+1+lb+1)).length:=by simp only[List.length_append,List.length_cons,hcx,hcb];omega
    rw[e2];exact h3
   ·rw[if_neg hn0];have G3:=goJz1 hm hc.u (o:=o2) (pre:=pre) (locs:=locs) (w:=[]) (nt:=nt) hn0 Bz;refine OutS.lead G3 ?_;have h3:=hB c x.b el s2 hc hI.1 he hb hinv.2.2.2.1.all hf.2.1 o2 pre _ locs nt hpre A2 hL D2
    cases hr:Za9 (evS p g c) x.b el s2 with
    | stop e s3=>rw[hr] at h3;exact h3
    | ok el3 s3 =>
     rw[hr] at h3;obtain ⟨o3,locs3,D3,L3,h3⟩:=h3;refine ⟨o3,locs3,D3,L3,?_⟩
     rcases h3 with ⟨b3,v3,G4⟩ | ⟨b3,j,hj,G4⟩
     ·refine .inl ⟨b3,v3,?_⟩;rw[hcb] at G4;have G5:=G4.trans (goJump hm hc.u Bj);have e2:i+(ccE (gcO p c) (x.xs.getD 0 noX) i++((⟨10,((i+lx+1+lb+1:Nat):Int),0,0⟩:Instr) :: (Zfa (gcO p c) x.b (i+lx+1)++((⟨9,((i+lx+1+lb+1+(Zfa (gcO p c) x.e (i+lx+1+lb+1)).length:Nat):Int),0,0⟩:Instr) :: Zfa (gcO p c) x.e (i+lx+1+lb+1))))).length=i+lx+1+lb+1+(Zfa (gcO p c) x.e (i+lx+1+lb+1)).length:=by simp only[List.length_append,List.length_cons,hcx,hcb];omega
      rw[e2];exact G5
     ·exact .inr ⟨b3,j,hj,G4⟩
  ·have k4:x.k=4:=by omega
   simp only[if_neg k3,if_pos k4] at Bj ⊢;have h3:=qsW hm hE hB hc hx hf.2.1 hf.1 hpre rfl A1 rfl Bz A2 Bj (g+1) n el s2 o2 locs hI.1 he hb hL D2 (nt:=nt);have e2:i+(ccE (gcO p c) (x.xs.getD 0 noX) i++((⟨10,((i+(ccE (gcO p c) (x.xs.getD 0 noX) i).length+1+(Zfa (gcO p c) x.b (i+(ccE (gcO p c) (x.xs.getD 0 noX) i).length+1)).length+1:Nat):Int),0,0⟩:Instr) :: (Zfa (gcO p c) x.b (i+(ccE (gcO p c) (x.xs.getD 0 noX) i).length+1)++[(⟨9,(i:Int),0,0⟩:Instr)]))).length=i+(ccE (gcO p c) (x.xs.getD 0 noX) i).length+1+(Zfa (gcO p c) x.b (i+(ccE (gcO p c) (x.xs.getD 0 noX) i).length+1)).length+1:=by simp only[List.length_append,List.length_cons,List.length_nil];omega
   rw[e2];exact h3
 rw[if_neg k34] at hA hf ⊢;have k3:¬x.k=3:=λh=>k34 (.inl h);have k4:¬x.k=4:=λh=>k34 (.inr h);simp only[if_neg k3,if_neg k4]
 by_cases k5:x.k=5
 ·rw[if_pos k5] at hA ⊢;simp only[if_pos k5];obtain ⟨A1,A2⟩:=hA.app;refine ZjJ.then (ex0 o s1 i [] hs1 D1 A1 (by show 0+Barb.hE (x.xs.getD 0 noX)<=40;omega)) (λn s2 o2 hn G2 D2=>?_);exact ⟨o2,locs,D2,hL,.inr ⟨rfl,_,A2.map (by show (13:Int)≠11;decide),G2⟩⟩
 rw[if_neg k5] at hA ⊢;simp only[if_neg k5];obtain ⟨A1,A2⟩:=hA.app;refine ZjJ.then (ex0 o s1 i [] hs1 D1 A1 (by show 0+Barb.hE (x.xs.getD 0 noX)<=40;omega)) (λn s2 o2 hn G2 D2=>?_);have B2:=A2.map (by show (14:Int)≠11;decide)
 by_cases h5:s2.told.length=500
 ·rw[if_pos h5];exact .inr ⟨o2,G2.ends (endTell hm hc.u (w:=[]) B2 (by rw[D2.told];exact h5)),D2⟩
 ·rw[if_neg h5];have G3:=goTell hm hc.u (o:=o2) (pre:=pre) (locs:=locs) (w:=[]) (nt:=nt) (x:=n) B2 (by rw[D2.told];exact h5);refine ⟨{ o2 with told:=o2.told++[n] },locs,⟨by show o2.told++[n]=s2.told++[n];rw[D2.told],D2.data,D2.calls⟩,hL,.inl ⟨hb,rfl,?_⟩⟩;rw[List.length_append];exact G2.trans G3
end
section
variable {p:List Unit} {m:Zal} (hm:Img p m) (X:Bh)
include hm
theorem qs_all:∀g,QsE p m X g/\QsS p m X g
 | 0=>⟨λ_ _ _ _ _ _ _ _ _ _ _ _ _ _ _ _ _ _ _ _=>.inl rfl,λ_ _ _ _ _ _ _ _ _ _ _ _ _ _ _ _ _ _ _=>.inl rfl⟩
 | g+1=>by obtain ⟨h1,h2⟩:=qs_all g;have h3:=qsB hm h2;exact ⟨qsE hm h1 (qsC hm h3),qsS hm h1 h3⟩
end
end Barb
namespace Barb
open Go Go.Dm Go.Eng Go.Proofs.YtpjjkiidjofflaaGreatDoor
theorem Runs.iter {m:Zal}:∀{k:Nat} {o o1:MO} {fs fs1:List PF},Runs m k o fs o1 fs1->∀n,(n<=k/\(Zex m n o fs).1=3)\/(k < n/\Zex m n o fs=Zex m (n - k) o1 fs1)
 | 0,o,o1,fs,fs1,h,n=>by
  obtain ⟨rfl,rfl⟩:=h
  by_cases hn:n=0
  ·subst hn;exact .inl ⟨Nat.le_refl _,rfl⟩
  ·exact .inr ⟨by omega,rfl⟩
 | k+1,o,o1,fs,fs1,h,n=>by
  obtain ⟨pre,t,o2,fs2,e1,e2,e3⟩:=h;subst e1
  cases n with
  | zero=>exact .inl ⟨Nat.zero_le _,rfl⟩
  | succ n =>
   have e:Zex m (n+1) o (pre++[t])=Zex m n o2 fs2:=by rw[Zha,e2]
   rw[e]
   rcases Runs.iter e3 n with ⟨h1,h2⟩ | ⟨h1,h2⟩
   ·exact .inl ⟨by omega,h2⟩
   ·refine .inr ⟨by omega,?_⟩;rw[show n+1 - (k+1)=n - k from by omega];exact h2
theorem ZcL.fin {m:Zal} {o o1 o2:MO} {fs pre:List PF} {t:PF} {c v:Int} (h:ZcL m o fs o1 (pre++[t])) (hs:Barb.stepS m o1 pre t=.stop c v o2):∀n,(Zex m n o fs).1=3\/Zex m n o fs=(c,v,o2):=by
 obtain ⟨k,hk⟩:=h;intro n
 rcases hk.iter n with ⟨_,h⟩ | ⟨hlt,h⟩
 ·exact .inl h
 ·refine .inr ?_;obtain ⟨j,hj⟩:∃j,n - k=j+1:=⟨n - k - 1,by omega⟩;rw[h,hj,Zha,hs]
theorem run_call {p:List Unit} {m:Zal} (hm:Img p m) (X:Bh) {u k:Nat} (hu:u < p.length) (hk:k < (uAt p u).funcs.length) {args:List Int} (ha:args.length=((uAt p u).funcs.getD k noF).params.length) (hw:wds args) {f:Nat} {cs:List Cells} (hs:SI p ⟨f,[],cs⟩) {i:Nat} (hi:(atO p u)[k]?=some (i:Int)) (h3:(ZbX p (evS p f) u k args 0 ⟨f,[],cs⟩).code≠3) :
  ∀n,(Zex m n ⟨[],ZaJ cs++X.ws,X.ns⟩ [fr u i (p8 args) [] (-1)]).1=3\/∃calls,Zex m n ⟨[],ZaJ cs++X.ws,X.ns⟩ [fr u i (p8 args) [] (-1)]=((ZbX p (evS p f) u k args 0 ⟨f,[],cs⟩).code,(ZbX p (evS p f) u k args 0 ⟨f,[],cs⟩).val,⟨(ZbX p (evS p f) u k args 0 ⟨f,[],cs⟩).st.told,ZaJ (ZbX p (evS p f) u k args 0 ⟨f,[],cs⟩).st.cells++X.ws,calls⟩):=by
 have h:=qsC hm (qsB hm (qs_all hm X f).2) u k args 0 ⟨f,[],cs⟩ hu hk ha hw hs (by decide) ⟨[],ZaJ cs++X.ws,X.ns⟩ [] (-1) i rfl hi ⟨rfl,rfl,Cov.same _ _⟩;revert h h3;generalize ZbX p (evS p f) u k args 0 ⟨f,[],cs⟩=r;intro h3 h n
 cases r with
 | ok v s' =>
  obtain ⟨o',j,locs',G,hret,D⟩:=h;have hst:=ZeQ hm hu hret o' [] locs' [v] (-1);rw[doS_13 (k:=0) (x:=v) rfl rfl rfl] at hst
  rcases ZcL.fin G hst n with h | h
  ·exact .inl h
  ·refine .inr ⟨o'.calls,h.trans ?_⟩;have e:Zb2 o' (-1) v=⟨s'.told,ZaJ s'.cells++X.ws,o'.calls⟩:=by unfold Zb2;rw[if_neg (by decide),<- D.told,<- D.data]
   show ((1:Int),v,Zb2 o' (-1) v)=(1,v,_);rw[e];rfl
 | stop e s' =>
  rcases h with h | ⟨o',⟨o1,fs1,G,pre,t,rfl,hst⟩,D⟩
  ·exact absurd h h3
  ·rcases ZcL.fin G hst n with h | h
   ·exact .inl h
   ·refine .inr ⟨o'.calls,h.trans ?_⟩;show (e,(0:Int),o')=(e,0,(⟨s'.told,ZaJ s'.cells++X.ws,o'.calls⟩:MO));rw[<- D.told,<- D.data]
theorem img_of {q:List Unit} (hg:Za8 q=0) (h:ZiT q=0):Img q (ZbR q q.length):=by
 have at_:∀u,u < q.length->(ZbR q q.length).getD u ZaY=lpart q u:=λu hu=>by
  have hl:u < (ZbR q q.length).length:=by rw[Zdm];exact hu
  rw[List.getD_eq_getElem?_getD,List.getElem?_eq_getElem hl,Zgy];rfl
 have gd:∀u (hu:u < q.length),q.getD u noU=q[u]:=λu hu=>by simp[hu]
 refine ⟨hg,by rw[Zdm];exact Nat.le_refl _,λu hu=>?_,λu hu=>by rw[at_ u hu];rfl,λu hu=>by rw[at_ u hu];rfl,λu hu=>?_,λu hu=>?_⟩
 ·rw[at_ u hu];show ZjA q u (Zah q u)=_;unfold ZjA;rw[if_pos (Zh9 h hu),Int.toNat_natCast,gd u hu]
 ·rw[at_ u hu];show ZcH (q.getD u noU).funcs (ZhO q u (Zah q u))=_;unfold ZhO;rw[if_pos (Zh9 h hu),Int.toNat_natCast,gd u hu]
 ·obtain ⟨b1,b2,_⟩:=base_rng hg hu;have h0:=Zh9 h hu;rw[genE_two hg hu ⟨b1,b2⟩] at h0
  by_cases hx:(ZdE q q[u] (Zah q u)).length > 1200\/(ZcM q q[u] (Zah q u)).most > 40
  ·rw[if_pos hx] at h0;omega
  ·omega
theorem idx_once {α:Type} (f:α->Str) (l:List α) (hd:¬dupP (l.map f)) {i:Nat} (hi:i < l.length):idx (λx=>f x=f l[i]) l=(i:Int):=by refine ZfN (q:=λx=>f x=f l[i]) hi (λj hj hji he=>hd ⟨i,by simpa using hi,?_⟩) rfl;rw[List.getElem_map,<- he];exact List.mem_take_iff_getElem.2 ⟨j,by simp;omega,by simp⟩
theorem unit_once {p:List Unit} (hg:Za8 p=0) {u:Nat} (hu:u < p.length):Za5 p p[u].name=(u:Int):=by
 refine idx_once Unit.name p (λhd=>?_) hu;unfold Za8 at hg
 by_cases h1:5 < p.length
 ·rw[if_pos h1] at hg;omega
 rw[if_neg h1] at hg
 by_cases h2:Zag Zb7 p≠0
 ·rw[if_pos h2] at hg;omega
 rw[if_neg h2,if_pos hd] at hg;omega
end Barb
namespace Barb
open Go Go.Dm Go.Eng Go.Proofs.YtpjjkiidjofflaaGreatDoor
theorem Sim.same {r r':RR Int} (h:Sim r r') (h3:r.code≠3):r'.code=r.code/\r'.val=r.val/\r'.st.told=r.st.told/\r'.st.cells=r.st.cells:=by
 cases r with
 | ok n s =>obtain ⟨s',hl,rfl⟩:=h;exact ⟨rfl,rfl,hl.told,hl.cells⟩
 | stop e s =>
  rcases h with h | ⟨s',hl,rfl⟩
  ·exact absurd h h3
  ·exact ⟨rfl,rfl,hl.told,hl.cells⟩
theorem cells_fold {p:List Unit} {cs:List Cells} (h:ZcC p cs):ZcC (Zaw p) cs:=λi h1 h2=>by
 have h3:i < p.length:=by rw[<- Zcx p];exact h2
 have:=h i h1 h3;have e:(Zaw p)[i]=ZbP p[i]:=by simp[Zaw]
 rw[e];exact this
theorem at_fold {p:List Unit} {k:Nat} (h:k < (Zaw p).length) (h':k < p.length):(Zaw p)[k]=ZbP p[k]:=by simp[Zaw]
theorem link_img {p:List Unit} (hg:Za8 p=0) (hN:fewP p) (h:Ze0 p=0):Img (Zaw p) (Zb9 p):=by
 obtain ⟨hq,_⟩:=Zfs hg hN;have h1:ZiT (Zaw p)=0:=by unfold Ze0 at h;rw[if_neg (λh'=>h' hg)] at h;exact h
 have e:Zb9 p=ZbR (Zaw p) (Zaw p).length:=by unfold Zb9;rw[if_pos h,Zcx]
 rw[e];exact img_of hq h1
structure EntR (p:List Unit) (m:Zal) (u e k i:Nat):Prop where
 fn:k < (uAt p u).funcs.length
 fq:k < (uAt (Zaw p) u).funcs.length
 idx:ZbA (uAt p u) (if e=0 then sf else sh)=(k:Int)
 at_:(atO (Zaw p) u)[k]?=some (i:Int)
 len:((uAt p u).funcs.getD k noF).params.length=if e=0 then 2 else 0
 ents:(m.getD u ZaY).entries.length=2
 ent:(m.getD u ZaY).entries.getD e Zcs=⟨(i:Int),((if e=0 then 2 else 0:Nat):Int)⟩
theorem raw_entry {many:Nat} {p:List Unit} (hP:Prog many p) {m:Zal} (hm:Img (Zaw p) m) {u:Nat} (hu:u < p.length) {e:Nat} (he:e < 2):∃k i,EntR p m u e k i:=by
 have huq:u < (Zaw p).length:=by rw[Zcx];exact hu
 have hen:=hm.ents u huq;rw[at_fold huq hu] at hen;have hat:=λj hj=>fun_at (Zaw p) (uAt (Zaw p) u) (Zah (Zaw p) u) j hj;have haq:uAt (Zaw p) u=ZbP p[u]:=by rw[ZdH,ZcX hu]
 have hao:Zfz (Zaw p) (ZbP p[u]) (Zah (Zaw p) u) (ZbP p[u]).funcs ⟨[],[],0,0⟩=atO (Zaw p) u:=by unfold atO;rw[haq]
 rw[hao] at hen;have hlen:(ZbP p[u]).funcs.length=p[u].funcs.length:=by show (p[u].funcs.map Zcy).length=_;rw[List.length_map]
 obtain ⟨i,l1,l2,l3,hi,hs⟩:=(hP.shape _ (List.getElem_mem hu)).ex;have h3:p[u].funcs.length=3:=by rw[hs];rfl
 obtain ⟨i0,a0,_⟩:=hat 0 (by rw[haq,hlen];omega);obtain ⟨i1,a1,_⟩:=hat 1 (by rw[haq,hlen];omega);obtain ⟨i2,a2,_⟩:=hat 2 (by rw[haq,hlen];omega);have a0:(atO (Zaw p) u)[0]?=some (i0:Int):=a0;have a1:(atO (Zaw p) u)[1]?=some (i1:Int):=a1;have a2:(atO (Zaw p) u)[2]?=some (i2:Int):=a2;have hae:uAt p u=p[u]:=ZcX hu;obtain ⟨r,hr⟩:∃r,atO (Zaw p) u=(i0:Int) :: (i1:Int) :: (i2:Int) :: r:=by
  revert a0 a1 a2;generalize atO (Zaw p) u=l;intro a0 a1 a2
  match l,a0,a1,a2 with
  | x :: y :: z :: r,a0,a1,a2 =>simp only[List.getElem?_cons_zero,List.getElem?_cons_succ,Option.some.injEq] at a0 a1 a2;exact ⟨r,by rw[a0,a1,a2]⟩
 have hen2:(m.getD u ZaY).entries=[⟨(i0:Int),2⟩,⟨(i2:Int),0⟩]:=by rw[hen,hr,hs];rfl
 have he2:e=0\/e=1:=by omega
 rcases he2 with rfl | rfl
 ·refine ⟨0,i0,by rw[hae];omega,by rw[haq,hlen];omega,?_,a0,?_,by rw[hen2];rfl,by rw[hen2];rfl⟩
  ·rw[show (if (0:Nat)=0 then sf else sh)=sf from rfl,hae,hs];unfold ZbA idx;simp only[ZbV];exact if_pos trivial
  ·rw[hae,hs];rfl
 ·refine ⟨2,i2,by rw[hae];omega,by rw[haq,hlen];omega,?_,a2,?_,by rw[hen2];rfl,by rw[hen2];rfl⟩
  ·rw[show (if (1:Nat)=0 then sf else sh)=sh from rfl,hae,hs];unfold ZbA idx;simp only[ZbV];rw[if_neg (by decide),if_neg (by decide)];exact if_pos trivial
  ·rw[hae,hs];rfl
theorem raw_run {many:Nat} {p:List Unit} (hP:Prog many p) (h:Ze0 p=0) {u:Nat} (hu:u < p.length) {e k i:Nat} (he:e < 2) (hE:EntR p (Zb9 p) u e k i) {args:List Int} (ha:args.length=if e=0 then 2 else 0) (hw:wds args) {cs:List Cells} (hl:cs.length=p.length) (hc:ZcC p cs) (f:Nat) :
  runE (Zb9 p) (ZaJ cs) u e args 100000=0/\((ZbX p (evS p f) u k args 0 ⟨f,[],cs⟩).code=3\/(runV (Zb9 p) (ZaJ cs) u e args 100000).end_=3\/∃calls,runV (Zb9 p) (ZaJ cs) u e args 100000=⟨(ZbX p (evS p f) u k args 0 ⟨f,[],cs⟩).code,(ZbX p (evS p f) u k args 0 ⟨f,[],cs⟩).val,(ZbX p (evS p f) u k args 0 ⟨f,[],cs⟩).st.told,ZaJ (ZbX p (evS p f) u k args 0 ⟨f,[],cs⟩).st.cells,calls⟩):=by
 have hg:=prog_good hP;have hN:=prog_few hP;have hI:=link_img hg hN h;obtain ⟨l1,_,l3,l4⟩:=linkI_good hg hN h;have hqg:=(Zfs hg hN).1;have huq:u < (Zaw p).length:=by rw[Zcx];exact hu
 have hent:entAt (Zb9 p) u e=⟨(i:Int),((if e=0 then 2 else 0:Nat):Int)⟩:=hE.ent;have hR:runE (Zb9 p) (ZaJ cs) u e args 100000=0:=by
  have hdE:ZjF (Zb9 p) (ZaJ cs)=0:=by unfold ZjF;rw[if_neg (λhh=>hh l1),if_neg (λhh=>hh (by rw[l3];exact Zez p cs hl hc))];exact ZjL (flatN_word hl hc)
  have hel:(Barb.partAt (Zb9 p) (u:Int)).entries.length=2:=hE.ents;unfold runE;rw[if_neg (λhh=>hh hdE),hent,hel,if_neg (by rw[l4];omega),if_neg (by rw[ha];exact λhh=>hh rfl),if_neg]
  rintro (hh | hh | ⟨n,hn,hh⟩)
  ·omega
  ·omega
  ·exact hh (hw n hn)
 refine ⟨hR,?_⟩
 by_cases h3:(ZbX p (evS p f) u k args 0 ⟨f,[],cs⟩).code=3
 ·exact .inl h3
 refine .inr ?_;have hs:SI p ⟨f,[],cs⟩:=⟨hl,hc,by simp,λn hn=>absurd hn List.not_mem_nil⟩;have hsq:SI (Zaw p) ⟨f,[],cs⟩:=⟨by rw[Zcx];exact hl,cells_fold hc,hs.told,hs.toldW⟩;have halp:args.length=((uAt p u).funcs.getD k noF).params.length:=by rw[hE.len];exact ha
 have halq:args.length=((uAt (Zaw p) u).funcs.getD k noF).params.length:=by rw[ZdH,fn_fold];exact halp
 obtain ⟨s1,s2,s3,s4⟩:=Sim.same (fold_call (PI.of hg) f hu hE.fn halp hw 0 hs) h3;have R:=run_call hI ⟨[],[]⟩ huq hE.fq halq hw hsq hE.at_ (by rw[s1];exact h3) 100000;rw[s1,s2,s3,s4] at R;simp only[List.append_nil] at R;have hrv:runV (Zb9 p) (ZaJ cs) u e args 100000=outOf (Zex (Zb9 p) 100000 ⟨[],ZaJ cs,[]⟩ [⟨(u:Int),(i:Int),p8 args,[],-1⟩]):=by unfold runV;rw[if_pos hR,hent];rfl
 rw[hrv]
 rcases R with R | ⟨calls,R⟩
 ·exact .inl R
 ·exact .inr ⟨calls,by rw[R];rfl⟩
end Barb
namespace Go.Proofs.YtpjjkiidjofflaaGreatDoor
open Go Go.Dm Go.Eng Go.RowKit Barb
theorem Zhv (n many:Int) (hn:I64 n) (hm:0 < many):CT Tryz.prog gl 6 [.g (.int n),.g (.int many)] (Is (.g (.int (Za7 n many)))):=by refine enter hT hF hM Tryz.func6 rfl 8 rfl (by kernel_rfl) [.tmp 4] rfl [.g (.int n),.g (.int many)] rfl _ ?_;exact Zae (.inl rfl) (ZaP n many hn hm) ⟨rfl,ZbH rfl⟩
theorem Open_any {many:Nat} (u:Barb.Unit) (hs:Shape many u) (e:Nat) (he:e < 2):CT Tryz.prog gl 8 [.agg u.d,.g (.int (e:Int))] (Is (.g (.str (if e=0 then sf else Barb.sh)))):=by
 obtain ⟨hl,h0,n0,h1,h2,n2⟩:u.funcs.length=3/\(∀h:0 < u.funcs.length,u.funcs[0].isOpen=true)/\(∀h:0 < u.funcs.length,u.funcs[0].name=sf)/\(∀h:1 < u.funcs.length,u.funcs[1].isOpen=false)/\(∀h:2 < u.funcs.length,u.funcs[2].isOpen=true)/\(∀h:2 < u.funcs.length,u.funcs[2].name=Barb.sh):=by obtain ⟨i,l1,l2,l3,_,rfl⟩:=hs.ex;exact ⟨rfl,λ_=>rfl,λ_=>rfl,λ_=>rfl,λ_=>rfl,λ_=>rfl⟩
 have lf:(u.funcs.map Fun.g).length=3:=by rw[List.length_map];exact hl
 refine enter hT hF hM Tryz.func8 rfl 23 rfl (by kernel_rfl) [.tmp 4] rfl [.agg u.d,.g (.int (e:Int))] rfl _ ?_;refine ZaM (ι:=Nat) (λi=>[(10,.g (.int (i:Int))),(1,.g (.int (if i=0 then (e:Int) else 0)))]) (λ_=>[]) (λi=>i < 3/\(0 < i->e=1)) (λi=>3 - i)
  ⟨0,[],⟨rfl,.inl rfl,.inr ⟨lk rfl,lk rfl,trivial⟩,rfl⟩,by decide,λh=>absurd h (by decide)⟩ ?_
 intro Rd hRd i hi;obtain ⟨hi3,hie⟩:=hi;refine ⟨λ_=>?_,λc=>absurd (show (i:Int) < ((u.funcs.map Fun.g).length:Nat) by rw[lf];omega) c⟩;refine ⟨i,_,rfl,fnG (by omega),?_⟩;have hi:i=0\/i=1\/i=2:=by omega
 rcases hi with rfl | rfl | rfl
 ·rw[h0 (by omega),n0 (by omega)];refine ⟨λc0=>?_,λc0=>?_⟩
  ·have he0:e=0:=by have:(e:Int)=0:=c0;omega
   exact ⟨rfl,retS (by rw[if_pos he0])⟩
  ·have he1:e=1:=by have:¬(e:Int)=0:=c0;omega
   refine ⟨by show I64 ((e:Int) - 1);unfold I64;omega,?_⟩;refine ⟨_,I64.wrap (by unfold I64;omega),?_⟩;exact hRd _ _ _ ⟨1,[],⟨rfl,.inl rfl,.inr ⟨lk rfl,lkI (by show (e:Int) - 1=0;omega),trivial⟩,rfl⟩,⟨by decide,λ_=>he1⟩,by decide⟩
 ·rw[h1 (by omega)];refine ⟨_,I64.wrap (by unfold I64;omega),?_⟩;exact hRd _ _ _ ⟨2,[],⟨rfl,.inl rfl,.inr ⟨lk rfl,lk rfl,trivial⟩,rfl⟩,⟨by decide,λ_=>hie (by decide)⟩,by decide⟩
 ·rw[h2 (by omega),n2 (by omega)];have he1:=hie (by decide);refine ⟨λ_=>?_,λc=>absurd rfl c⟩;exact ⟨rfl,retS (by rw[if_neg (by omega)])⟩
end Go.Proofs.YtpjjkiidjofflaaGreatDoor
