import Derived.Test.YthccmffgjchdmaaGreatDoorNWd
import Derived.Test.YthccmffgjchdmaaGreatDoorNNu
import Derived.Lib.Join
open Go Go.Proofs Go.Proofs.YthccmffgjchdmaaGreatDoor
namespace ZN
open Go Go.Dm Go.Eng Barb
def ZB8:List Str:=[[43],[45],[42],[38],[124],[94],[60],[61,61],[60,60],[62,62]]
def opS (n:Int):Str:=ZB8[n.toNat - 1]?.getD []
def exS:Nat->Barb.Expr->Str
 | 0,_=>[]
 | f+1,.mk k n of s args =>
  if k=1 then Lib.decDigits n.toNat else if k=2 then s
  else if k=3 then s++([91]++((args.map (exS f)).headD []++[93]))
  else if k=4 then (if of=[] then [] else of++[46])++(s++([40]++(Lib.join (args.map (exS f)) [44,32]++[41])))
  else [40]++((args.map (exS f)).headD []++([32]++((opS n++[32])++((args.map (exS f)).tail.headD []++[41]))))
theorem Zgb {f:Nat} {x:Barb.Expr} (h:Zaw (f+1) x=0) :
  (∃n:Nat,n<=65535/\x=.mk 1 n [] [] [])\/(∃s,Zan s/\x=.mk 2 0 [] s [])\/(∃s a,Zan s/\Zaw f a=0/\x=.mk 3 0 [] s [a]) \/
  (∃of s l,(of=[]\/Zan of)/\Zan s/\(∀y∈l,Zaw f y=0)/\x=.mk 4 0 of s l) \/
  (∃n a b,(1<=n/\n<=10)/\Zaw f a=0/\Zaw f b=0/\x=.mk 5 n [] [] [a,b]):=by
 obtain ⟨k,n,of,s,l⟩:=x;simp only[Zaw] at h;split at h
 ·cases h
 rename_i hk;split at h
 ·cases h
 split at h
 ·cases h
 rename_i aR;split at h
 ·cases h
 rename_i hb;have aR:=Yah.1 aR;have hl:=Zaf h;unfold ZbJ at aR;unfold Za0 at hb;rcases aR with ⟨rfl,rfl,rfl,h0⟩ | ⟨rfl,rfl,hi,h0,rfl⟩ | ⟨rfl,rfl,hi,h0,rfl⟩ | ⟨rfl,ho,hi,rfl⟩ | ⟨rfl,rfl,rfl,h0⟩
 ·obtain rfl:=YaP h0;have:0<=n/\n<=65535:=YaN λhc=>hb (.inl ⟨rfl,hc⟩);exact .inl ⟨n.toNat,by omega,by rw[Yby this.1]⟩
 ·obtain rfl:=YaP h0;exact .inr (.inl ⟨s,hi,rfl⟩)
 ·match l,h0 with
  | [a],_=>exact .inr (.inr (.inl ⟨s,a,hi,hl a (by simp),rfl⟩))
 ·exact .inr (.inr (.inr (.inl ⟨of,s,l,ho,hi,hl,rfl⟩)))
 ·match l,h0 with
  | [a,b],_ =>have:1<=n/\n<=10:=YaN λhc=>hb (.inr ⟨rfl,hc⟩);exact .inr (.inr (.inr (.inr ⟨n,a,b,this,hl a (by simp),hl b (by simp),rfl⟩)))
def Zds (n:Nat):Str:=List.replicate n 32
def stS (bl:Nat->List Barb.Stmt->Str) (n:Nat):Barb.Stmt->Str
 | .mk k s xs b e=>Zds n ++
  (if k=1 then s++([32,61,32]++((xs.map (exS 12)).headD []++[59,10]))
  else if k=2 then s++([91]++((xs.map (exS 12)).headD []++([93,32,61,32]++((xs.map (exS 12)).tail.headD []++[59,10]))))
  else if k=5 then [114,101,116,117,114,110,32]++((xs.map (exS 12)).headD []++[59,10])
  else if k=6 then [115,97,121,32]++((xs.map (exS 12)).headD []++[59,10])
  else if k=4 then [119,104,105,108,101,32]++((xs.map (exS 12)).headD []++([32]++(bl n b++[10])))
  else [105,102,32]++((xs.map (exS 12)).headD []++([32]++(bl n b++([32,101,108,115,101,32]++(bl n e++[10]))))))
def blS:Nat->Nat->List Barb.Stmt->Str
 | 0,_,_=>[]
 | f+1,n,l=>[123,10]++(l.flatMap (stS (blS f) (n+1))++(Zds n++[125]))
theorem ZfX {f:Nat} {x:Barb.Stmt} (h:ZbI (Zai f) x=0) :
  (∃s a,Zan s/\Zaw 12 a=0/\Zai f []=0/\x=.mk 1 s [a] [] [])\/(∃s a b,Zan s/\Zaw 12 a=0/\Zaw 12 b=0/\Zai f []=0/\x=.mk 2 s [a,b] [] []) \/
  (∃a b e,Zaw 12 a=0/\Zai f b=0/\Zai f e=0/\x=.mk 3 [] [a] b e)\/(∃a b,Zaw 12 a=0/\Zai f b=0/\Zai f []=0/\x=.mk 4 [] [a] b []) \/
  (∃a,Zaw 12 a=0/\Zai f []=0/\x=.mk 5 [] [a] [] [])\/(∃a,Zaw 12 a=0/\Zai f []=0/\x=.mk 6 [] [a] [] []):=by
 obtain ⟨k,s,xs,b,e⟩:=x;simp only[ZbI] at h;split at h
 ·cases h
 rename_i hk;split at h
 ·cases h
 rename_i aR;split at h
 ·rename_i h1;exact absurd h h1
 rename_i hx;split at h
 ·rename_i h1;exact absurd h h1
 rename_i hb;have hx:=Zaf (Yah.1 hx);have hb:=Yah.1 hb;obtain ⟨⟨o1,o2,o3,o4⟩,o5,o6⟩:=Yah.1 aR;have:k=1\/k=2\/k=3\/k=4\/k=5\/k=6:=by omega
 have one:k≠2->∃a,xs=[a]:=λhk=>by
  have:=o4 hk
  match xs,this with
  | [a],_=>exact ⟨a,rfl⟩
 have nb:k≠3->k≠4->b=[]:=λh3 h4=>YaP ((o5.resolve_right (λh=>h.elim h3 h4)));have ne:k≠3->e=[]:=λh3=>YaP (o6.resolve_right h3);rcases this with rfl | rfl | rfl | rfl | rfl | rfl
 ·obtain ⟨a,rfl⟩:=one (by decide);obtain rfl:=nb (by decide) (by decide);obtain rfl:=ne (by decide);exact .inl ⟨s,a,o1 (by decide),hx a (by simp),hb,rfl⟩
 ·obtain rfl:=nb (by decide) (by decide);obtain rfl:=ne (by decide)
  match xs,o3 rfl with
  | [a,c],_=>exact .inr (.inl ⟨s,a,c,o1 (by decide),hx a (by simp),hx c (by simp),hb,rfl⟩)
 ·obtain ⟨a,rfl⟩:=one (by decide);obtain rfl:=o2 (by decide);exact .inr (.inr (.inl ⟨a,b,e,hx a (by simp),hb,h,rfl⟩))
 ·obtain ⟨a,rfl⟩:=one (by decide);obtain rfl:=o2 (by decide);obtain rfl:=ne (by decide);exact .inr (.inr (.inr (.inl ⟨a,b,hx a (by simp),hb,h,rfl⟩)))
 ·obtain ⟨a,rfl⟩:=one (by decide);obtain rfl:=o2 (by decide);obtain rfl:=nb (by decide) (by decide);obtain rfl:=ne (by decide);exact .inr (.inr (.inr (.inr (.inl ⟨a,hx a (by simp),hb,rfl⟩))))
 ·obtain ⟨a,rfl⟩:=one (by decide);obtain rfl:=o2 (by decide);obtain rfl:=nb (by decide) (by decide);obtain rfl:=ne (by decide);exact .inr (.inr (.inr (.inr (.inr ⟨a,hx a (by simp),hb,rfl⟩))))
def vaS (s:Str):Str:=[118,97,114,32]++(s++[10])
def arS (a:Arr):Str:=[97,114,114,97,121,32]++(a.name++([32]++(Lib.decDigits a.size.toNat++[10])))
def fuS (f:Fun):Str:=(if f.isOpen=true then [111,112,101,110,32] else [102,117,110,99,32])++(f.name++([40]++((Lib.join f.params [44,32]++[41])++([32]++(blS 12 0 f.body++[10])))))
def unS (u:Barb.Unit):Str:=[117,110,105,116,32]++(u.name++([10]++(u.vars.flatMap vaS++(u.arrays.flatMap arS++u.funcs.flatMap fuS))))
theorem Zfy {s:Str} (h:ZdF s=0):Zan s:=YaN λhc=>by rw[ZlX hc] at h;cases h
theorem ZcC {a:Arr} (h:Zkm a=0):Zan a.name/\1<=a.size/\a.size<=10:=by
 unfold Zkm at h;split at h
 ·cases h
 rename_i h1;split at h
 ·cases h
 rename_i h2;exact ⟨Yah.1 h1,Yah.1 h2⟩
theorem Zb7 {f:Fun} (h:Zhi f=0):Zan f.name/\(∀s∈f.params,Zan s)/\Zai 12 f.body=0:=by
 unfold Zhi at h;split at h
 ·cases h
 rename_i h1;split at h
 ·cases h
 split at h
 ·rename_i h2;exact absurd h h2
 rename_i h2;exact ⟨Yah.1 h1,λs hs=>Zfy (Zaf (Yah.1 h2) s hs),h⟩
theorem ZaQ {u:Barb.Unit} (h:Zbm u=0):Zan u.name/\(∀s∈u.vars,Zan s)/\(∀a∈u.arrays,Zkm a=0)/\∀f∈u.funcs,Zhi f=0:=by
 unfold Zbm at h;split at h
 ·cases h
 rename_i h1;split at h
 ·cases h
 split at h
 ·rename_i h2;exact absurd h h2
 rename_i h2;split at h
 ·rename_i h3;exact absurd h h3
 rename_i h3;split at h
 ·rename_i h4;exact absurd h h4
 rename_i h4;exact ⟨Yah.1 h1,λs hs=>Zfy (Zaf (Yah.1 h2) s hs),Zaf (Yah.1 h3),Zaf (Yah.1 h4)⟩
theorem Zy8 {n:Int} (h:1<=n/\n<=10):opS n∈ZB8:=by
 have:n=1\/n=2\/n=3\/n=4\/n=5\/n=6\/n=7\/n=8\/n=9\/n=10:=by omega
 rcases this with rfl | rfl | rfl | rfl | rfl | rfl | rfl | rfl | rfl | rfl<;>decide
def bE:Nat->Nat
 | 0=>0
 | f+1=>4*bE f+40
theorem ZzT:∀f,f<=12->bE f<=223696200:=λf h=>by
 have:∀f:Fin 13,bE f.1<=223696200:=by decide
 exact this ⟨f,by omega⟩
theorem Zcw {s:Str} (h:Zan s):s.length<=8:=h.1.1.2
theorem ZpD {n:Nat} (h:n<=65535):(Lib.decDigits n).length<=6:=by
 have key:∀(k n:Nat),n < 10 ^ (k+1)->(Lib.decDigits n).length<=k+1:=by
  intro k
  induction k with
  | zero=>intro n h;rw[ZdY (by simpa using h)];simp
  | succ k ih =>
   intro n h;by_cases hn:n < 10
   ·rw[ZdY hn];simp
   ·rw[Zhr hn,Yab];have:=ih (n / 10) (by rw[Nat.pow_succ] at h;omega);simp;omega
 exact key 5 n (by simp;omega)
theorem ZAM {n:Int} (h:1<=n/\n<=10):(opS n).length<=2:=by
 have:∀g∈ZB8,g.length<=2:=by decide
 exact this _ (Zy8 h)
theorem ZxW {f:Nat} {x:Barb.Expr} (h:Zaw (f+1) x=0):x.args.length<=4:=by
 rw[Zga] at h;split at h
 ·cases h
 ·split at h
  ·cases h
  ·omega
theorem Zmc (s:Str) (l:List Str):Lib.joinTail [44,32] (s :: l)=[44,32]++(s++Lib.joinTail [44,32] l):=by simp[Lib.joinTail]
theorem Zil {b:Nat}:∀(l:List Str),(∀s∈l,s.length<=b)->(Lib.joinTail [44,32] l).length<=l.length*(b+2)
 | [],_=>by simp[Lib.joinTail]
 | s :: l,h=>by have h1:=Zil l (λz hz=>h z (Yad _ hz));have h2:=h s Yae;rw[Zmc];simp only[Yab,List.length_cons,List.length_nil,Ybj];omega
theorem ZiZ {b:Nat} (l:List Str) (h:∀s∈l,s.length<=b):(Lib.join l [44,32]).length<=l.length*(b+2):=by
 cases l with
 | nil=>simp[Lib.join]
 | cons s l =>rw[Lib.join_cons,Yab];have h1:=Zil (b:=b) l (λz hz=>h z (Yad _ hz));have h2:=h s Yae;rw[List.length_cons,Ybj];omega
theorem Zj2:∀(f:Nat) (x:Barb.Expr),Zaw f x=0->(exS f x).length<=bE f
 | 0,_,h=>by cases h
 | f+1,x,h=>by
  have hf:=ZxW h;show _<=4*bE f+40;rcases Zgb h with ⟨n,hn,rfl⟩ | ⟨s,hs,rfl⟩ | ⟨s,a,hs,ha,rfl⟩ | ⟨of,s,l,ho,hs,hl,rfl⟩ | ⟨n,a,b,hn,ha,hb,rfl⟩
  ·have:=ZpD hn;show (Lib.decDigits n).length<=_;omega
  ·have:=Zcw hs;show s.length<=_;omega
  ·have h1:=Zcw hs;have h2:=Zj2 f a ha;show (s++([91]++(exS f a++[93]))).length<=_;simp only[Yab,List.length_cons,List.length_nil];omega
  ·have h1:=Zcw hs;have h0:of.length<=8:=ho.elim (λe=>by rw[e];simp) Zcw;have hf:l.length<=4:=hf;have h2:=ZiZ (b:=bE f) (l.map (exS f)) (λs hs=>by obtain ⟨y,hy,rfl⟩:=YaU.1 hs;exact Zj2 f y (hl y hy));rw[Yaa] at h2;have h3:l.length*(bE f+2)<=4*(bE f+2):=YaJ _ hf;show ((if of=[] then [] else of++[46])++(s++([40]++(Lib.join (l.map (exS f)) [44,32]++[41])))).length<=_;have h4:(if of=[] then [] else of++[46]).length<=9:=by split<;>simp<;>omega
   simp only[Yab,List.length_cons,List.length_nil] at h4 ⊢;omega
  ·have h1:=ZAM hn;have h2:=Zj2 f a ha;have h3:=Zj2 f b hb;show ([40]++(exS f a++([32]++((opS n++[32])++(exS f b++[41]))))).length<=_;simp only[Yab,List.length_cons,List.length_nil];omega
theorem Zug:∀(n:Nat) (l:List Barb.Stmt),0<=Zah n l
 | 0,_=>YbC _
 | n+1,l=>by
  have h:∀l:List Barb.Stmt,0<=(l.map (Zfd (Zah n))).sum:=λl=>by
   induction l with
   | nil=>simp
   | cons x l ih =>obtain ⟨k,s,xs,b,e⟩:=x;have h1:=Zug n b;have h2:=Zug n e;simp only[Yan,List.sum_cons,Zfd];omega
  have:=h l;simp only[Zah];omega
theorem Zja (n:Nat):(Zds n).length=n:=YbO
theorem ZAp {f n:Nat} (hn:n<=13) (ih:∀l,Zai f l=0->((blS f n l).length:Int)<=20+Zah f l*500000000) {x:Barb.Stmt} (h:ZbI (Zai f) x=0):((stS (blS f) n x).length:Int)<=(1+Zfd (Zah f) x)*500000000:=by
 have b0:=Zja n;have he:=fun (a:Barb.Expr) (ha:Zaw 12 a=0)=>YaC (Zj2 12 a ha) (ZzT 12 (Yas _));have h0:=Zug f [];rcases ZfX h with ⟨s,a,hs,ha,_,rfl⟩ | ⟨s,a,b,hs,ha,hb,_,rfl⟩ | ⟨a,b,e,ha,hb,bp,rfl⟩ | ⟨a,b,ha,hb,_,rfl⟩ | ⟨a,ha,_,rfl⟩ | ⟨a,ha,_,rfl⟩
 ·have h1:=Zcw hs;have h2:=he a ha;show ((Zds n++(s++([32,61,32]++(exS 12 a++[59,10])))).length:Int)<=(1+(Zah f []+Zah f []))*500000000;simp only[Yab,List.length_cons,List.length_nil];omega
 ·have h1:=Zcw hs;have h2:=he a ha;have h3:=he b hb;show ((Zds n++(s++([91]++(exS 12 a++([93,32,61,32]++(exS 12 b++[59,10])))))).length:Int)<=(1+(Zah f []+Zah f []))*500000000;simp only[Yab,List.length_cons,List.length_nil];omega
 ·have h2:=he a ha;have h3:=ih b hb;have h4:=ih e bp;show ((Zds n++([105,102,32]++(exS 12 a++([32]++(blS f n b++([32,101,108,115,101,32]++(blS f n e++[10]))))))).length:Int)<=(1+(Zah f b+Zah f e))*500000000;simp only[Yab,List.length_cons,List.length_nil];omega
 ·have h2:=he a ha;have h3:=ih b hb;show ((Zds n++([119,104,105,108,101,32]++(exS 12 a++([32]++(blS f n b++[10]))))).length:Int)<=(1+(Zah f b+Zah f []))*500000000;simp only[Yab,List.length_cons,List.length_nil];omega
 ·have h2:=he a ha;show ((Zds n++([114,101,116,117,114,110,32]++(exS 12 a++[59,10]))).length:Int)<=(1+(Zah f []+Zah f []))*500000000;simp only[Yab,List.length_cons,List.length_nil];omega
 ·have h2:=he a ha;show ((Zds n++([115,97,121,32]++(exS 12 a++[59,10]))).length:Int)<=(1+(Zah f []+Zah f []))*500000000;simp only[Yab,List.length_cons,List.length_nil];omega
theorem Zx6:∀(f n:Nat) (l:List Barb.Stmt),n+f<=13->Zai f l=0->((blS f n l).length:Int)<=20+Zah f l*500000000
 | 0,_,_,_,h=>by cases h
 | f+1,n,l,hn,h=>by
  have key:∀l:List Barb.Stmt,(∀x∈l,ZbI (Zai f) x=0)->((l.flatMap (stS (blS f) (n+1))).length:Int)<=(l.length+(l.map (Zfd (Zah f))).sum)*500000000:=by
   intro l
   induction l with
   | nil=>intro _;simp
   | cons x l ih =>intro hl;have h1:=ih (λy hy=>hl y (Yad _ hy));have h2:=ZAp (n:=n+1) (by omega) (λl hl=>Zx6 f (n+1) l (by omega) hl) (hl x Yae);rw[Ybb,Yab,List.length_cons,Yan,List.sum_cons];omega
  have h1:=key l (Zaf h);have b0:=Zja n;show (([123,10]++(l.flatMap (stS (blS f) (n+1))++(Zds n++[125]))).length:Int)<=20+(l.length+(l.map (Zfd (Zah f))).sum)*500000000;simp only[Yab,List.length_cons,List.length_nil];omega
end ZN
