import Derived.Test.YtpjjkiidjofflaaGreatDoorRG1
import Derived.Test.YtpjjkiidjofflaaGreatDoorRDjk
import Derived.Test.YtpjjkiidjofflaaGreatDoorRDgl
import Derived.Test.YtpjjkiidjofflaaGreatDoorRG2
namespace Barb
open Go Go.Dm Go.Eng Go.Proofs.YtpjjkiidjofflaaGreatDoor
def gX (x:Expr):List GV:=[.int x.k,.int x.n,.str x.of,.str x.s,.sl 5 (x.args.map Expr.g)]
theorem gX_eq (x:Expr):gX x=x.g:=(Expr.g_eq x).symm
theorem dJ {a b:Int} (h:a=b):D.g (.int a)=D.g (.int b):=by rw[h]
theorem at_getD' {α:Type} {l:List α} {k:Nat} (h:k < l.length) (z:α):l.getD k z=l[k]:=by simp[h]
theorem gX1 (a:Expr):[gX a]=[a].map Expr.g:=by simp[gX_eq]
theorem gX2 (a b:Expr):[gX a,gX b]=[a,b].map Expr.g:=by simp[gX_eq]
theorem retE0 {h:Zad} {x:Expr} {k n:Int} {of s:Str} (e:x=.mk k n of s []):Zbv (Is (.agg x.d)) h (.agg [.g (.int k),.g (.int n),.g (.str of),.g (.str s),.nils]):=by subst e;exact ZbN (.inr (.inr ⟨lk rfl,lk rfl,lk rfl,lk rfl,ZhM,trivial⟩))
theorem retER {h:Zad} {x:Expr} {k n:Int} {of s:Str} {args:List Expr} {i:Nat} {xs:List (List GV)} {t:TypeId} (e:x=.mk k n of s args) (hi:h[i]?=some (.row xs t 5)) (hx:xs=args.map Expr.g):Zbv (Is (.agg x.d)) h (.agg [.g (.int k),.g (.int n),.g (.str of),.g (.str s),.row i]):=by subst e;subst hx;refine ZbN (.inl ?_);simp only[conv,List.map_cons,List.map_nil,kp,hi];rfl
theorem ZhJ {h:Zad} {x:Expr} {k n:Int} {of s:Str} {args:List Expr} {xs:List (List GV)} (e:x=.mk k n of s args) (hx:xs=args.map Expr.g):Zbv (Is (.agg x.d)) h (.agg [.g (.int k),.g (.int n),.g (.str of),.g (.str s),.g (.sl 5 xs)]):=by subst e;subst hx;exact ZbN (.inl rfl)
end Barb
namespace Go.Proofs.YtpjjkiidjofflaaGreatDoor
open Go Go.Dm Go.Eng Go.RowKit Barb
theorem Zbl {h:Zad} {i:Nat} {xs:List (List GV)} {e:TypeId} {sz:Nat} {y:GV} (hi:h[i]?=some (.row xs e sz)) (hy:GV.sl sz xs=y):Sees h (.row i) y:=by unfold Sees;simp only[hi];exact hy
end Go.Proofs.YtpjjkiidjofflaaGreatDoor
namespace Barb
open Go Go.Dm Go.Eng
abbrev sx:Str:=[120]
abbrev sy:Str:=[121]
abbrev sp:Str:=[112]
abbrev sq:Str:=[113]
abbrev sf:Str:=[102]
abbrev sg:Str:=[103]
abbrev sh:Str:=[104]
abbrev sarr:Str:=[97,114,114]
abbrev Zb6:List Str:=[[111,110,101],[116,119,111],[116,114,105]]
abbrev Zgg (n:Int):Expr:=.mk 1 n [] [] []
abbrev varX (s:Str):Expr:=.mk 2 0 [] s []
def numP (r:Raw):Expr:=Zgg (if Za7 r.b 7=0 then [65535,256,40000,16].getD (Za7 r.c 4).toNat 0 else Za7 r.a 6)
def Zch (params:List Str):List Str:=[sx,sy]++params
def pickP (l:List Str) (n:Int):Str:=l.getD (Za7 n l.length).toNat []
def unitP (n many:Int):Str:=Zb6.getD (Za7 n many).toNat []
def ZdY (params:List Str) (many:Int):Nat->List Raw->Int->Expr
 | 0,_,_=>Zgg 3
 | _+1,[],_=>Zgg 3
 | f+1,r :: rest,depth =>
  let a:=ZdY params many f (rest.take (rest.length / 2)) (depth+1)
  let b:=ZdY params many f (rest.drop (rest.length / 2)) (depth+1)
  let k:=if depth > 4 then Za7 r.kind 9 else Za7 r.kind 20
  if k < 4 then numP r
  else if k < 9 then varX (pickP (Zch params) r.a)
  else if k < 15 then .mk 5 (1+Za7 r.a 10) [] [] [a,b]
  else if k < 17 then .mk 3 0 [] sarr [a]
  else if k=17 then .mk 4 0 [] sg [a]
  else if k=18 then .mk 4 0 (unitP r.a many) sf [a,b]
  else .mk 4 0 (unitP r.a many) sh []
def upP:Expr:=.mk 5 1 [] [] [varX sy,Zgg 1]
def Zjl (r:Raw):Expr:=.mk 5 7 [] [] [varX sy,Zgg (Za7 r.b 6)]
def Zel (params:List Str) (many depth:Int) (rec:List Raw->Int->List Stmt) (r:Raw) (part:List Raw):List Stmt :=
 let x:=ZdY params many part.length part 1
 let k:=Za7 r.kind 12
 if k < 2 then [.mk 2 sarr [numP r,x] [] []]
 else if k=2 then [.mk 6 [] [x] [] []]
 else if k=3 then [.mk 5 [] [x] [] []]
 else if k < 6/\depth < 3 then [.mk 3 [] [x] (rec (part.take (part.length / 2)) (depth+1)) (rec (part.drop (part.length / 2)) (depth+1))]
 else if k=6/\depth < 2 then [.mk 1 sy [Zgg 0] [] [],.mk 4 [] [Zjl r] (rec part (depth+2)++[.mk 1 sy [upP] [] []]) []]
 else [.mk 1 (pickP (Zch params) r.a) [x] [] []]
def Zep (params:List Str) (many depth:Int) (rec:List Raw->Int->List Stmt):Nat->List Raw->List Stmt
 | 0,_=>[]
 | _+1,[]=>[]
 | n+1,r :: l=>Zel params many depth rec r (l.take 6)++Zep params many depth rec n (l.drop 6)
def ZaZ (params:List Str) (many:Int):Nat->List Raw->Int->List Stmt
 | 0,_,_=>[]
 | f+1,l,depth=>Zep params many depth (ZaZ params many f) 4 l
def Zcd (params:List Str) (many:Int) (l:List Raw):List Stmt:=ZaZ params many (l.length+1) l 1
def ZeV (l:List Raw) (many i:Nat):List Raw:=(l.take ((i+1)*l.length / many)).drop (i*l.length / many)
def Zhx (l:List Raw) (many i:Nat):Unit :=
 let part:=ZeV l many i
 let third:=part.length / 3
 ⟨Zb6.getD i [],[sx,sy],[⟨sarr,2+i⟩],[⟨sf,true,[sp,sq],Zcd [sp,sq] many (part.take third)⟩,⟨sg,false,[sp],Zcd [sp] many ((part.take (2*third)).drop third)⟩,⟨sh,true,[],Zcd [] many (part.drop (2*third))⟩]⟩
def manyP (l:List Raw):Nat:=(1+Za7 l.length 3).toNat
def ZbQ (l:List Raw):List Unit:=(List.range (manyP l)).map (Zhx l (manyP l))
end Barb
namespace Barb
open Go Go.Dm Go.Eng Go.Proofs.YtpjjkiidjofflaaGreatDoor
abbrev Raw.d (r:Raw):List D:=[.g (.int r.kind),.g (.int r.a),.g (.int r.b),.g (.int r.c)]
end Barb
namespace Go.Proofs.YtpjjkiidjofflaaGreatDoor
open Go Go.Dm Go.Eng Go.RowKit Barb
theorem number_any (r:Raw) (hr:r.I):CT Tryz.prog gl 57 [.agg r.d] (Is (.agg (numP r).d)):=by
 obtain ⟨_,ha,hb,hc⟩:=hr;have e:numP r=numP r:=rfl
 conv at e=>rhs;unfold numP
 refine enter hT hF hM Tryz.func57 rfl 19 rfl (by kernel_rfl) [.cell 2 132] rfl [.agg r.d] rfl _ ?_;refine Zae (.inl rfl) (ZaP r.a 6 ha (by decide)) ?_;refine Zae (.inl rfl) (ZaP r.b 7 hb (by decide)) ?_;refine ⟨λh=>?_,λh=>?_⟩
 ·rw[if_pos h] at e;refine ⟨[[.int 65535],[.int 256],[.int 40000],[.int 16]],rfl,rfl,⟨rfl,rfl,rfl,rfl,trivial⟩,?_⟩;obtain ⟨k,hk,hl⟩:=Zbp r.c (many:=4) (by decide);refine Zae (.inl rfl) (ZaP r.c 4 hc (by decide)) ?_;rw[show (4:Int)=((4:Nat):Int) from rfl,hk] at e;have hg:([[GV.int 65535],[.int 256],[.int 40000],[.int 16]]:List (List GV))[k]?=some [.int ([65535,256,40000,16].getD k 0)]:=by
   match k,hl with
   | 0,_=>rfl
   | 1,_=>rfl
   | 2,_=>rfl
   | 3,_=>rfl
  refine ⟨k,dJ hk,hl,_,hg,?_⟩;exact ⟨rfl,retE0 e⟩
 ·rw[if_neg h] at e;exact ⟨rfl,retE0 e⟩
set_option maxRecDepth 20000 in
set_option maxHeartbeats 2000000 in
theorem Expr_any (params:List Str) (hp:params.length<=1000) (many:Nat) (hm:1<=many/\many<=3):∀(f:Nat),f<=4398046511104->∀(l:List Raw),l.length<=f->(∀r∈l,r.I)->∀depth:Int,0<=depth/\depth<=5 ->
  CT Tryz.prog gl 56 [.g (.sl 4 (l.map Raw.g)),.g (.sl 1 (params.map ZbG)),.g (.int many),.g (.int depth)] (Is (.agg (ZdY params many f l depth).d)):=by
 intro f
 induction f with
 | zero =>intro _ l hl _ depth hd;have hl0:l=[]:=List.length_eq_zero_iff.1 (by omega);subst hl0;refine enter hT hF hM Tryz.func56 rfl 135 rfl (by kernel_rfl) [.cell 8 132] rfl [.g (.sl 4 (List.map Raw.g [])),.g (.sl 1 (params.map ZbG)),.g (.int many),.g (.int depth)] rfl _ ?_;exact ⟨λ_=>⟨rfl,retE0 rfl⟩,λh=>absurd rfl h⟩
 | succ f ih =>
  intro hf l hl hI depth hd
  match l,hl,hI with
  | [],_,_ =>refine enter hT hF hM Tryz.func56 rfl 135 rfl (by kernel_rfl) [.cell 8 132] rfl [.g (.sl 4 (List.map Raw.g [])),.g (.sl 1 (params.map ZbG)),.g (.int many),.g (.int depth)] rfl _ ?_;exact ⟨λ_=>⟨rfl,retE0 rfl⟩,λh=>absurd rfl h⟩
  | r :: rest,hl,hI =>
   obtain ⟨rk,ra,rb,rc⟩:=hI r List.mem_cons_self;have hrest:rest.length<=f:=by simpa using hl
   have hlr:(rest.map Raw.g).length=rest.length:=List.length_map _;have hIr:∀x∈rest,x.I:=λx hx=>hI x (List.mem_cons_of_mem _ hx);have iha:=ih (by omega) (rest.take (rest.length / 2)) (by rw[List.length_take];omega) (λx hx=>hIr x (List.mem_of_mem_take hx)) (depth+1);have ihb:=ih (by omega) (rest.drop (rest.length / 2)) (by rw[List.length_drop];omega) (λx hx=>hIr x (List.mem_of_mem_drop hx)) (depth+1);have e:ZdY params many (f+1) (r :: rest) depth=ZdY params many (f+1) (r :: rest) depth:=rfl
   conv at e=>rhs;unfold ZdY
   dsimp only at e;generalize ZdY params many f (rest.take (rest.length / 2)) (depth+1)=xa at iha e;generalize ZdY params many f (rest.drop (rest.length / 2)) (depth+1)=xb at ihb e;rw[List.map_take] at iha;rw[List.map_drop] at ihb;generalize ZdY params many (f+1) (r :: rest) depth=out at e;have nm:=number_any r ⟨rk,ra,rb,rc⟩;have hv:([sx,sy]++params).length=params.length+2:=by simp
   refine enter hT hF hM Tryz.func56 rfl 135 rfl (by kernel_rfl) [.cell 8 132] rfl [.g (.sl 4 (List.map Raw.g (r :: rest))),.g (.sl 1 (params.map ZbG)),.g (.int many),.g (.int depth)] rfl _ ?_;have h2:((rest.length:Int).tdiv 2)=((rest.length / 2:Nat):Int):=by rw[Int.tdiv_eq_ediv_of_nonneg (by omega)];omega
   have h2':(((rest.map Raw.g).length:Int).tdiv 2)=((rest.length / 2:Nat):Int):=by rw[hlr];exact h2
   refine ⟨λh=>absurd h (by simp;omega),λ_=>?_⟩;refine stepS ⟨0,_,rfl,rfl,Hold.mk ?_⟩;refine stepS ⟨1,rfl,by simp,Hold.mk ?_⟩;refine stepS ⟨by decide,(by show I64 (((rest.map Raw.g).length:Int).tdiv 2);rw[h2'];unfold I64;omega),rest.length / 2,dJ h2',(by show _<=(rest.map Raw.g).length;omega),Hold.mk ?_⟩;refine stepS ⟨by decide,(by show I64 (((rest.map Raw.g).length:Int).tdiv 2);rw[h2'];unfold I64;omega),rest.length / 2,dJ h2',(by show _<=(rest.map Raw.g).length;omega),Hold.mk ?_⟩;refine stepS (Zae (.inl rfl) (ZaP r.kind 20 rk (by decide)) (Hold.mk ?_));refine seqJ (ι:=Int) (λk=>[(1,.g (.sl 1 (params.map ZbG))),(2,.g (.int many)),(3,.g (.int depth)),(8,.ptr 0 0),(9,.ptr 1 0),(11,.g (.sl 4 ((rest.map Raw.g).take (rest.length / 2)))),(12,.g (.sl 4 ((rest.map Raw.g).drop (rest.length / 2)))),(13,.g (.int k))])
    (λ_=>[.blk [.g (.int 0),.g (.int 0),.g (.str []),.g (.str []),.nils] 132,.blk r.d 24]) (λk=>k=if depth > 4 then Za7 r.kind 9 else Za7 r.kind 20) (λe0 k hk=>?_) (λRj hRj=>?_)
   rotate_left
   ·refine ⟨λh4=>Zae (.inl rfl) (ZaP r.kind 9 rk (by decide)) (hRj (Za7 r.kind 9) _ ⟨rfl,rfl,rfl,rfl,rfl,rfl,rfl,rfl,trivial⟩ (if_pos h4).symm),λh4=>hRj (Za7 r.kind 20) _ ⟨rfl,rfl,rfl,rfl,rfl,rfl,rfl,rfl,trivial⟩ (if_neg h4).symm⟩
   rw[<- hk] at e;have k9:¬k < 9->depth+1<=5:=λh9=>by
    have:=Zcf r.kind (many:=9) (by decide)
    by_cases h4:depth > 4
    ·rw[if_pos h4] at hk;omega
    ·omega
   clear hk;have mch:(1:Int)<=many/\(many:Int)<=3:=by omega
   obtain ⟨ku,hku,hkl⟩:=Zbp r.a (many:=many) (by omega);have hun:unitP r.a many=Zb6.getD ku []:=by unfold unitP;rw[hku];rfl
   refine ⟨λg4=>?_,λg4=>?_⟩
   ·rw[if_pos g4] at e;exact Zae (.inl rfl) nm ⟨rfl,ZbN (.inl (by rw[e];rfl))⟩
   rw[if_neg g4] at e;refine ⟨λg9=>?_,λg9=>?_⟩
   ·rw[if_pos g9] at e;obtain ⟨kv,hkv,hkvl⟩:=Zbp r.a (many:=(Zch params).length) (by simp[Zch]);have hVl:(([[GV.str sx],[.str sy]]++params.map ZbG).length:Int)=((Zch params).length:Int):=by simp[Zch]
    refine ⟨[[.str sx],[.str sy]],rfl,rfl,⟨rfl,rfl,trivial⟩,?_⟩;refine ⟨⟨by simp[maxLen];omega,by simp;omega⟩,?_⟩;refine Zae (.inl rfl) (ZaP r.a _ ra (by rw[hVl];simp[Zch];omega)) ?_;refine ⟨kv,dJ (by rw[hVl];exact hkv),(by show kv < ((Zch params).map ZbG).length;rw[List.length_map];exact hkvl),?_⟩;refine ⟨_,(show ((Zch params).map ZbG)[kv]?=some [.str (Zch params)[kv]] from gm hkvl),?_⟩;refine ⟨rfl,retE0 (e.trans ?_)⟩;unfold pickP;rw[hkv];exact congrArg varX (at_getD' hkvl [])
   rw[if_neg g9] at e;have hd5:=k9 g9;have iha':=iha ⟨by omega,hd5⟩;have ihb':=ihb ⟨by omega,hd5⟩;have hdw:IntKind.i64.wrap (depth+1)=depth+1:=I64.wrap (by unfold I64;omega);refine ⟨λg15=>?_,λg15=>?_⟩
   ·rw[if_pos g15] at e;have:=Zcf r.a (many:=10) (by decide);refine Zae (.inl rfl) (ZaP r.a 10 ra (by decide)) ⟨_,I64.wrap (by unfold I64;omega),_,hdw,Zae (.inl rfl) iha' ⟨_,hdw,Zae (.inl rfl) ihb' ?_⟩⟩;refine ⟨[gX xa,gX xb],rfl,rfl,⟨rfl,rfl,rfl,rfl,rfl,rfl,rfl,rfl,rfl,rfl,trivial⟩,?_⟩;exact ⟨rfl,retER e rfl (by simp only[gX_eq];rfl)⟩
   rw[if_neg g15] at e;refine ⟨λg17=>?_,λg17=>?_⟩
   ·rw[if_pos g17] at e;refine ⟨_,hdw,Zae (.inl rfl) iha' ?_⟩;refine ⟨[gX xa],rfl,rfl,⟨rfl,rfl,rfl,rfl,rfl,trivial⟩,?_⟩;exact ⟨rfl,retER e rfl (by simp only[gX_eq];rfl)⟩
   rw[if_neg g17] at e;refine ⟨λgg=>?_,λgg=>?_⟩
   ·rw[if_pos gg] at e;refine ⟨_,hdw,Zae (.inl rfl) iha' ?_⟩;refine ⟨[gX xa],rfl,rfl,⟨rfl,rfl,rfl,rfl,rfl,trivial⟩,?_⟩;exact ⟨rfl,retER e rfl (by simp only[gX_eq];rfl)⟩
   rw[if_neg gg] at e;refine ⟨λgf=>?_,λgf=>?_⟩
   ·rw[if_pos gf,hun] at e
    rcases (show ku=0\/ku=1\/ku=2 by omega) with rfl | rfl | rfl
    all_goals
     refine ⟨some 2000,rfl,?_⟩;refine ⟨_,_,.inl rfl,ZaP r.a many ra (by omega),rfl,?_⟩;refine ⟨_,dJ hku,(by decide),?_⟩;refine ⟨_,hdw,_,_,.inl rfl,iha',rfl,?_⟩;refine ⟨_,hdw,_,_,.inl rfl,ihb',rfl,?_⟩;refine ⟨[gX xa,gX xb],rfl,rfl,⟨rfl,rfl,rfl,rfl,rfl,rfl,rfl,rfl,rfl,rfl,trivial⟩,⟨_,rfl⟩,?_⟩;exact ⟨rfl,retER e rfl (gX2 _ _)⟩
   ·rw[if_neg gf,hun] at e
    rcases (show ku=0\/ku=1\/ku=2 by omega) with rfl | rfl | rfl
    all_goals
     refine Zae (.inl rfl) (ZaP r.a many ra (by omega)) ?_;refine ⟨_,dJ hku,(by decide),?_⟩;exact ⟨rfl,retE0 e⟩
end Go.Proofs.YtpjjkiidjofflaaGreatDoor
namespace Barb
open Go Go.Dm Go.Eng Go.Proofs.YtpjjkiidjofflaaGreatDoor
theorem st_g (k:Int) (s:Str) (xs:List Expr) (b e:List Stmt):Stmt.g (.mk k s xs b e)=[.int k,.str s,.sl 5 (xs.map Expr.g),.sl 5 (b.map Stmt.g),.sl 5 (e.map Stmt.g)]:=Stmt.g_eq _
theorem ZdV {l:List Stmt} {k:Int} {s:Str} {xs:List Expr} {b e:List Stmt} {X:List (List GV)} (hX:X=xs.map Expr.g):l.map Stmt.g++[[.int k,.str s,.sl 5 X,.sl 5 (b.map Stmt.g),.sl 5 (e.map Stmt.g)]]=(l++[Stmt.mk k s xs b e]).map Stmt.g:=by subst hX;rw[List.map_append,List.map_singleton,st_g]
theorem stmtP_len {params:List Str} {many depth:Int} {rec:List Raw->Int->List Barb.Stmt} (r:Raw) (part:List Raw):(Zel params many depth rec r part).length<=2:=by
 unfold Zel;simp only
 split
 ·simp
 ·split
  ·simp
  ·split
   ·simp
   ·split
    ·simp
    ·split<;>simp
theorem rowsP_len {params:List Str} {many depth:Int} {rec:List Raw->Int->List Barb.Stmt}:∀(k:Nat) (l:List Raw),(Zep params many depth rec k l).length<=2*k
 | 0,_=>Nat.le_refl _
 | _+1,[]=>Nat.zero_le _
 | k+1,r :: l=>by have h1:=stmtP_len (params:=params) (many:=many) (depth:=depth) (rec:=rec) r (l.take 6);have h2:=rowsP_len (params:=params) (many:=many) (depth:=depth) (rec:=rec) k (l.drop 6);simp only[Zep,List.length_append];omega
theorem stmtsP_len {params:List Str} {many depth:Int} (f:Nat) {l:List Raw} (_:l.length<=6):(ZaZ params many f l depth).length<=8:=by
 cases f with
 | zero=>simp[ZaZ]
 | succ f=>exact rowsP_len 4 l
theorem up_g:([[.int 5,.int 1,.str [],.str [],.sl 5 [gX (varX sy),gX (Zgg 1)]]]:List (List GV))=[upP].map Expr.g:=rfl
theorem below_g (r:Raw):([[.int 5,.int 7,.str [],.str [],.sl 5 [gX (varX sy),gX (Zgg (Za7 r.b 6))]]]:List (List GV))=[Zjl r].map Expr.g:=rfl
theorem while_g {out sc:List Barb.Stmt} {r:Raw}:(out.map Stmt.g++[[.int 1,.str sy,.sl 5 [gX (Zgg 0)],.sl 5 [],.sl 5 []]])++[[.int 4,.str [],.sl 5 [[.int 5,.int 7,.str [],.str [],.sl 5 [gX (varX sy),gX (Zgg (Za7 r.b 6))]]],.sl 5 (sc.map Stmt.g++[[.int 1,.str sy,.sl 5 [[.int 5,.int 1,.str [],.str [],.sl 5 [gX (varX sy),gX (Zgg 1)]]],.sl 5 [],.sl 5 []]]),.sl 5 []]] =
  (out++[Stmt.mk 1 sy [Zgg 0] [] [],Stmt.mk 4 [] [Zjl r] (sc++[.mk 1 sy [upP] [] []]) []]).map Stmt.g:=by have e1:=ZdV (l:=out) (k:=1) (s:=sy) (xs:=[Zgg 0]) (b:=[]) (e:=[]) (X:=[gX (Zgg 0)]) (gX1 _);have e2:=ZdV (l:=sc) (k:=1) (s:=sy) (xs:=[upP]) (b:=[]) (e:=[]) up_g;have e3:=ZdV (l:=out++[Stmt.mk 1 sy [Zgg 0] [] []]) (k:=4) (s:=[]) (xs:=[Zjl r]) (b:=sc++[.mk 1 sy [upP] [] []]) (e:=[]) (below_g r);simp only[List.map_nil] at e1 e2 e3;rw[e1,e2,e3,List.append_assoc];rfl
structure SL where
 n:Nat
 out:List Stmt
 rest:List Raw
end Barb
namespace Go.Proofs.YtpjjkiidjofflaaGreatDoor
open Go Go.Dm Go.Eng Go.RowKit Barb
set_option maxRecDepth 20000 in
set_option maxHeartbeats 8000000 in
theorem Stmts_Q (params:List Str) (hp:params.length<=1000) (many:Nat) (hm:1<=many/\many<=3):∀(f:Nat),f<=4398046511104->∀(l:List Raw),l.length<=f->(∀r∈l,r.I)->∀depth:Int,1<=depth/\depth<=4 ->
  ∀Q:Out->Prop,(∀(h:Zad) (i:Nat),h[i]?=some (.row ((ZaZ params many (f+1) l depth).map Stmt.g) 135 5)->Zbv Q h (.row i)) ->
  CT Tryz.prog gl 36 [.g (.sl 4 (l.map Raw.g)),.g (.sl 1 (params.map ZbG)),.g (.int many),.g (.int depth)] Q:=by
 intro f
 induction f with
 | zero =>
  intro _ l hl _ depth _ Q hQ;have hl0:l=[]:=List.length_eq_zero_iff.1 (by omega);subst hl0;refine enter hT hF hM Tryz.func36 rfl 157 rfl (by kernel_rfl) [.tmp 8] rfl [.g (.sl 4 (List.map Raw.g [])),.g (.sl 1 (params.map ZbG)),.g (.int many),.g (.int depth)] rfl _ ?_;refine ZaM (ι:=PUnit) (λ_=>[(0,.g (.sl 4 (List.map Raw.g []))),(9,.row 0),(10,.g (.int 0))]) (λ_=>[.row [] 135 5]) (λ_=>True) (λ_=>0)
   ⟨⟨⟩,[.nil 135 5],⟨rfl,.inl rfl,.inr ⟨lk rfl,.inr rfl,lk rfl,trivial⟩,rfl⟩,trivial⟩ ?_
  intro Rd hRd _ _;exact ⟨λh=>absurd h (by decide),λ_=>⟨rfl,hQ _ _ rfl⟩⟩
 | succ f ih =>
  intro hf l hl hI depth hd Q hQ;refine enterJ [24] hT hF hM Tryz.func36 rfl 157 rfl (by kernel_rfl) [.tmp 8] rfl [.g (.sl 4 (l.map Raw.g)),.g (.sl 1 (params.map ZbG)),.g (.int many),.g (.int depth)] rfl _ ?_;refine ZaM (ι:=SL) (λi=>[(0,.g (.sl 4 (i.rest.map Raw.g))),(9,.row 0),(10,.g (.int (i.n:Int)))]) (λi=>[.row (i.out.map Stmt.g) 135 5])
   (λi=>i.n<=4/\i.out.length<=8*i.n/\i.rest.length<=l.length/\(∀r∈i.rest,r.I)/\i.out++Zep params many depth (ZaZ params many (f+1)) (4 - i.n) i.rest=ZaZ params many (f+1+1) l depth) (λi=>i.rest.length)
   ⟨⟨0,[],l⟩,[.nil 135 5],⟨rfl,.inl rfl,.inr ⟨lk rfl,.inr rfl,lk rfl,trivial⟩,rfl⟩,Nat.zero_le _,Nat.zero_le _,Nat.le_refl _,hI,rfl⟩ ?_
  rintro Rd hRd ⟨n,out,rest⟩ ⟨hn,hol,hrl,hri,hfin⟩
  dsimp only at hn hol hrl hri hfin;have fin:Zep params many depth (ZaZ params many (f+1)) (4 - n) rest=[]->out=ZaZ params many (f+1+1) l depth:=λh=>by rw[h,List.append_nil] at hfin;exact hfin
  refine ⟨λhlt=>⟨λh4=>?_,λh4=>⟨rfl,hQ _ _ (by rw[<- fin (by rw[show 4 - n=0 by have:¬(n:Int) < 4:=h4;omega];rfl)];rfl)⟩⟩,λhge=>⟨rfl,hQ _ _ (by rw[<- fin (by rw[show rest=[] from List.length_eq_zero_iff.1 (by have h0:¬(0:Int) < ((rest.map Raw.g).length:Nat):=hge;rw[List.length_map] at h0;omega)];cases 4 - n<;>rfl)];rfl)⟩⟩;have h4':n < 4:=by have:(n:Int) < 4:=h4;omega
  match rest,hrl,hri,hfin,hlt with
  | [],_,_,_,hlt=>exact absurd hlt (Int.lt_irrefl 0)
  | r :: tl,hrl,hri,hfin,hlt =>
  obtain ⟨rk,ra,rb,rc⟩:=hri r List.mem_cons_self;have hIt:∀x∈tl,x.I:=λx hx=>hri x (List.mem_cons_of_mem _ hx);have hrl':tl.length+1<=l.length:=hrl;obtain ⟨hh,hhe⟩:∃hh:Nat,hh=min (tl.length+1) 7:=⟨_,rfl⟩;have lr:((r :: tl).map Raw.g).length=tl.length+1:=by simp
  have hmin:D.g (.int (if (7:Int) < (((r :: tl).map Raw.g).length:Nat) then (7:Int) else (((r :: tl).map Raw.g).length:Nat)))=D.g (.int (hh:Int)):=dJ (by rw[lr];split<;>omega);have hpart:(((r :: tl).map Raw.g).take hh).drop 1=(tl.take 6).map Raw.g:=by
   rw[hhe,<- List.map_take,<- List.map_drop]
   congr 1
   obtain ⟨m,hm'⟩:∃m,min (tl.length+1) 7=m+1:=⟨min tl.length 6,by omega⟩;rw[hm',List.take_succ_cons,List.drop_succ_cons,List.drop_zero]
   by_cases h6:tl.length<=6
   ·rw[List.take_of_length_le (by omega),List.take_of_length_le h6]
   ·rw[show m=6 by omega]
  have hrest:((r :: tl).map Raw.g).drop hh=(tl.drop 6).map Raw.g:=by
   rw[hhe,<- List.map_drop]
   congr 1
   obtain ⟨m,hm'⟩:∃m,min (tl.length+1) 7=m+1:=⟨min tl.length 6,by omega⟩;rw[hm',List.drop_succ_cons]
   by_cases h6:tl.length<=6
   ·rw[List.drop_eq_nil_iff.2 (by omega),List.drop_eq_nil_iff.2 h6]
   ·rw[show m=6 by omega]
  have hlp:(tl.take 6).length<=6/\(tl.take 6).length<=f:=by rw[List.length_take];omega
  have hIp:∀x∈tl.take 6,x.I:=λx hx=>hIt x (List.mem_of_mem_take hx);generalize hpt:tl.take 6=part at hpart hlp hIp;have hx:CT Tryz.prog gl 56 [.g (.sl 4 ((((r :: tl).map Raw.g).take hh).drop 1)),.g (.sl 1 (params.map ZbG)),.g (.int many),.g (.int 1)] (Is (.agg (ZdY params many part.length part 1).d)):=by rw[hpart];exact Expr_any params hp many hm part.length (by omega) part (Nat.le_refl _) hIp 1 (by omega)
  have hst:Zel params many depth (ZaZ params many (f+1)) r part=Zel params many depth (ZaZ params many (f+1)) r part:=rfl
  conv at hst=>rhs;unfold Zel
  dsimp only at hst;generalize ZdY params many part.length part 1=x at hx hst;have hnext:Zep params many depth (ZaZ params many (f+1)) (4 - n) (r :: tl)=Zel params many depth (ZaZ params many (f+1)) r part++Zep params many depth (ZaZ params many (f+1)) (4 - (n+1)) (tl.drop 6):=by rw[show 4 - n=(4 - (n+1))+1 by omega,<- hpt];rfl
  rw[hnext,<- List.append_assoc] at hfin;generalize Zel params many depth (ZaZ params many (f+1)) r part=here at hst hfin;obtain ⟨kv,hkv,hkvl⟩:=Zbp r.a (many:=(Zch params).length) (by simp[Zch]);have hVl:(([[GV.str sx],[.str sy]]++params.map ZbG).length:Int)=((Zch params).length:Int):=by simp[Zch]
  have hvar:pickP (Zch params) r.a=(Zch params)[kv]:=by unfold pickP;rw[hkv];exact at_getD' hkvl []
  rw[hvar] at hst;generalize hvn:(Zch params)[kv]=vn at hst;have hget:([[GV.str sx],[.str sy]]++params.map ZbG)[kv]?=some [.str vn]:=by rw[<- hvn];exact (show ((Zch params).map ZbG)[kv]?=some [.str (Zch params)[kv]] from gm hkvl)
  have next:∀(here':List Barb.Stmt),here=here'->here'.length<=8->(n+1<=4/\(out++here').length<=8*(n+1)/\(tl.drop 6).length<=l.length/\(∀r∈tl.drop 6,r.I)/\(out++here')++Zep params many depth (ZaZ params many (f+1)) (4 - (n+1)) (tl.drop 6)=ZaZ params many (f+1+1) l depth):=λhere' he h8=>by subst he;exact ⟨by omega,by rw[List.length_append];omega,by rw[List.length_drop];omega,λx hx=>hIt x (List.mem_of_mem_drop hx),hfin⟩
  have less:(tl.drop 6).length < (r :: tl).length:=by rw[List.length_drop,List.length_cons];omega
  refine brSkip ?_;refine stepJ (by rfl) ?_;refine stepJ (by rfl) ⟨0,_,rfl,rfl,Hold.mk ?_⟩;refine stepJ (by rfl) ⟨1,hh,rfl,hmin,by omega,(by show hh<=((r :: tl).map Raw.g).length;omega),Hold.mk ?_⟩;refine stepJ (by rfl) ⟨hh,hmin,(by show hh<=((r :: tl).map Raw.g).length;omega),Hold.mk ?_⟩;refine stepJ (by rfl) ⟨[[.str sx],[.str sy]],rfl,rfl,⟨rfl,rfl,trivial⟩,⟨by simp[maxLen];omega,by simp;omega⟩,Hold.mk ?_⟩;refine stepJ (by rfl) (Zae (.inl rfl) hx (Hold.mk ?_));refine joinJ (by rfl) (ι:=PUnit) (λ_=>[(0,.g (.sl 4 (((r :: tl).map Raw.g).drop hh))),(1,.g (.sl 1 (params.map ZbG))),(2,.g (.int many)),(3,.g (.int depth)),(9,.row 0),(10,.g (.int (n:Int))),(11,.ptr 1 0),(12,.g (.sl 4 ((((r :: tl).map Raw.g).take hh).drop 1))),(14,.ptr 4 0),(15,.ptr 6 0)])
   (λ_=>[.row (out.map Stmt.g) 135 5,.blk r.d 24,.dead,.row ([[GV.str sx],[.str sy]]++params.map ZbG) 9 1,.blk x.d 132,.row [gX x] 132 5,.blk [.g (.int 1),.g (.str vn),.row 5,.nils,.nils] 135]) (λ_=>True) (λe0 _ _=>?_) (λRj hRj=>?_)
  rotate_left
  ·refine ⟨some 9994,[12],rfl,?_⟩;refine ⟨_,_,.inl rfl,ZaP r.a _ ra (by rw[hVl];simp[Zch];omega),rfl,?_⟩;refine ⟨kv,dJ (by rw[hVl];exact hkv),(by show kv < ((Zch params).map ZbG).length;rw[List.length_map];exact hkvl),?_⟩;refine ⟨_,hget,?_⟩;refine ⟨[gX x],rfl,rfl,⟨rfl,rfl,rfl,rfl,rfl,trivial⟩,⟨_,rfl⟩,?_⟩;exact hRj ⟨⟩ _ ⟨rfl,rfl,rfl,rfl,rfl,rfl,rfl,rfl,rfl,rfl,trivial⟩ trivial
  refine Zae (.inl rfl) (ZaP r.kind 12 rk (by decide)) ?_;have k12:=Zcf r.kind (many:=12) (by decide);generalize Za7 r.kind 12=k at hst k12;have num:=number_any r ⟨rk,ra,rb,rc⟩;have hPl:((((r :: tl).map Raw.g).take hh).drop 1).length=part.length:=by rw[hpart,List.length_map]
  have hP2:(((((r :: tl).map Raw.g).take hh).drop 1).length:Int).tdiv 2=((part.length / 2:Nat):Int):=by rw[hPl,Int.tdiv_eq_ediv_of_nonneg (by omega)];omega
  refine ⟨λg2=>?_,λg2=>?_⟩
  ·rw[if_pos g2] at hst;refine ⟨none,rfl,?_⟩;refine ⟨_,_,.inl rfl,num,rfl,?_⟩;refine ⟨[gX (numP r),gX x],rfl,rfl,⟨rfl,rfl,rfl,rfl,rfl,rfl,rfl,rfl,rfl,rfl,trivial⟩,?_⟩;refine ⟨[[.int 2,.str sarr,.sl 5 [gX (numP r),gX x],.sl 5 [],.sl 5 []]],rfl,rfl,⟨rfl,rfl,Zbl rfl rfl,⟨5,rfl⟩,⟨5,rfl⟩,trivial⟩,?_⟩;refine ⟨⟨by simp[maxLen];omega,by simp;omega⟩,?_⟩;exact Hold.mk ⟨_,I64.wrap (by unfold I64;omega),hRd _ _ _ ⟨⟨n+1,out++[.mk 2 sarr [numP r,x] [] []],tl.drop 6⟩,[.old 9],⟨rfl,.inr ⟨⟨ZdV (b:=[]) (e:=[]) (gX2 _ _),rfl,rfl⟩,trivial⟩,.inr ⟨lk (congrArg (λz=>D.g (.sl 4 z)) hrest),lk rfl,lkI (by push_cast;rfl),trivial⟩,rfl⟩,next _ hst (by simp),less⟩⟩
  rw[if_neg g2] at hst;refine ⟨λg3=>?_,λg3=>?_⟩
  ·rw[if_pos g3] at hst;refine ⟨[gX x],rfl,rfl,⟨rfl,rfl,rfl,rfl,rfl,trivial⟩,?_⟩;refine ⟨[[.int 6,.str [],.sl 5 [gX x],.sl 5 [],.sl 5 []]],rfl,rfl,⟨rfl,rfl,Zbl rfl rfl,⟨5,rfl⟩,⟨5,rfl⟩,trivial⟩,?_⟩;refine ⟨⟨by simp[maxLen];omega,by simp;omega⟩,?_⟩;exact Hold.mk ⟨_,I64.wrap (by unfold I64;omega),hRd _ _ _ ⟨⟨n+1,out++[.mk 6 [] [x] [] []],tl.drop 6⟩,[.old 9],⟨rfl,.inr ⟨⟨ZdV (b:=[]) (e:=[]) (gX1 _),rfl,rfl⟩,trivial⟩,.inr ⟨lk (congrArg (λz=>D.g (.sl 4 z)) hrest),lk rfl,lkI (by push_cast;rfl),trivial⟩,rfl⟩,next _ hst (by simp),less⟩⟩
  rw[if_neg g3] at hst;refine ⟨λg4=>?_,λg4=>?_⟩
  ·rw[if_pos g4] at hst;refine ⟨[gX x],rfl,rfl,⟨rfl,rfl,rfl,rfl,rfl,trivial⟩,?_⟩;refine ⟨[[.int 5,.str [],.sl 5 [gX x],.sl 5 [],.sl 5 []]],rfl,rfl,⟨rfl,rfl,Zbl rfl rfl,⟨5,rfl⟩,⟨5,rfl⟩,trivial⟩,?_⟩;refine ⟨⟨by simp[maxLen];omega,by simp;omega⟩,?_⟩;exact Hold.mk ⟨_,I64.wrap (by unfold I64;omega),hRd _ _ _ ⟨⟨n+1,out++[.mk 5 [] [x] [] []],tl.drop 6⟩,[.old 9],⟨rfl,.inr ⟨⟨ZdV (b:=[]) (e:=[]) (gX1 _),rfl,rfl⟩,trivial⟩,.inr ⟨lk (congrArg (λz=>D.g (.sl 4 z)) hrest),lk rfl,lkI (by push_cast;rfl),trivial⟩,rfl⟩,next _ hst (by simp),less⟩⟩
  rw[if_neg g4] at hst;refine ⟨λg6=>⟨λg7=>?_,λg7=>?_⟩,λg6=>?_⟩
  ·rw[if_pos ⟨g6,g7⟩] at hst;have hs1:CT Tryz.prog gl 36 [.g (.sl 4 (((((r :: tl).map Raw.g).take hh).drop 1).take (part.length / 2))),.g (.sl 1 (params.map ZbG)),.g (.int many),.g (.int (depth+1))] (Is (.g (.sl 5 ((ZaZ params many (f+1) (part.take (part.length / 2)) (depth+1)).map Stmt.g)))):=by rw[hpart,<- List.map_take];exact ih (by omega) _ (by rw[List.length_take];omega) (λx hx=>hIp x (List.mem_of_mem_take hx)) (depth+1) (by omega) _ (λh i hi=>ZbN (.inl (by simp only[conv,kp,hi])))
   have hs2:CT Tryz.prog gl 36 [.g (.sl 4 (((((r :: tl).map Raw.g).take hh).drop 1).drop (part.length / 2))),.g (.sl 1 (params.map ZbG)),.g (.int many),.g (.int (depth+1))] (Is (.g (.sl 5 ((ZaZ params many (f+1) (part.drop (part.length / 2)) (depth+1)).map Stmt.g)))):=by rw[hpart,<- List.map_drop];exact ih (by omega) _ (by rw[List.length_drop];omega) (λx hx=>hIp x (List.mem_of_mem_drop hx)) (depth+1) (by omega) _ (λh i hi=>ZbN (.inl (by simp only[conv,kp,hi])))
   generalize ZaZ params many (f+1) (part.take (part.length / 2)) (depth+1)=sa at hs1 hst;generalize ZaZ params many (f+1) (part.drop (part.length / 2)) (depth+1)=sb at hs2 hst;have hdw:IntKind.i64.wrap (depth+1)=depth+1:=I64.wrap (by unfold I64;omega);have hI2:I64 ((((((r :: tl).map Raw.g).take hh).drop 1).length:Int).tdiv 2):=by rw[hP2];unfold I64;omega
   refine ⟨some 2000,rfl,?_⟩;refine ⟨[gX x],rfl,rfl,⟨rfl,rfl,rfl,rfl,rfl,trivial⟩,⟨_,rfl⟩,?_⟩;refine ⟨by decide,hI2,part.length / 2,dJ hP2,by omega,?_⟩;refine ⟨_,hdw,_,_,.inl rfl,hs1,rfl,?_⟩;refine ⟨by decide,hI2,part.length / 2,dJ hP2,by omega,?_⟩;refine ⟨_,hdw,_,_,.inl rfl,hs2,rfl,?_⟩;refine ⟨[[.int 3,.str [],.sl 5 [gX x],.sl 5 (sa.map Stmt.g),.sl 5 (sb.map Stmt.g)]],rfl,rfl,⟨rfl,rfl,Zbl rfl rfl,rfl,rfl,trivial⟩,?_⟩;refine ⟨⟨by simp[maxLen];omega,by simp;omega⟩,?_⟩;exact Hold.mk ⟨_,I64.wrap (by unfold I64;omega),hRd _ _ _ ⟨⟨n+1,out++[.mk 3 [] [x] sa sb],tl.drop 6⟩,[.old 9],⟨rfl,.inr ⟨⟨ZdV (b:=sa) (e:=sb) (gX1 _),rfl,rfl⟩,trivial⟩,.inr ⟨lk (congrArg (λz=>D.g (.sl 4 z)) hrest),lk rfl,lkI (by push_cast;rfl),trivial⟩,rfl⟩,next _ hst (by simp),less⟩⟩
  ·rw[if_neg (λh=>g7 h.2),if_neg (λh=>by omega)] at hst;refine ⟨λh=>absurd h (by omega),λ_=>?_⟩;refine ⟨[[.int 1,.str vn,.sl 5 [gX x],.sl 5 [],.sl 5 []]],rfl,rfl,⟨rfl,rfl,Zbl rfl rfl,⟨5,rfl⟩,⟨5,rfl⟩,trivial⟩,?_⟩;refine ⟨⟨by simp[maxLen];omega,by simp;omega⟩,?_⟩;exact Hold.mk ⟨_,I64.wrap (by unfold I64;omega),hRd _ _ _ ⟨⟨n+1,out++[.mk 1 vn [x] [] []],tl.drop 6⟩,[.old 8],⟨rfl,.inr ⟨⟨ZdV (b:=[]) (e:=[]) (gX1 _),rfl,rfl⟩,trivial⟩,.inr ⟨lk (congrArg (λz=>D.g (.sl 4 z)) hrest),lk rfl,lkI (by push_cast;rfl),trivial⟩,rfl⟩,next _ hst (by simp),less⟩⟩
  rw[if_neg (λh=>g6 h.1)] at hst;refine ⟨λg8=>⟨λg9=>?_,λg9=>?_⟩,λg8=>?_⟩
  ·rw[if_pos ⟨g8,g9⟩] at hst;have hs3:CT Tryz.prog gl 36 [.g (.sl 4 ((((r :: tl).map Raw.g).take hh).drop 1)),.g (.sl 1 (params.map ZbG)),.g (.int many),.g (.int (depth+2))] (λo=>o=.ret (.row 0) [.row ((ZaZ params many (f+1) part (depth+2)).map Stmt.g) 135 5]):=by rw[hpart];exact ih (by omega) _ hlp.2 hIp (depth+2) (by omega) _ (λh i hi=>retRow hi rfl rfl)
   have hsl:(ZaZ params many (f+1) part (depth+2)).length<=8:=stmtsP_len (f+1) hlp.1;generalize ZaZ params many (f+1) part (depth+2)=sc at hs3 hst hsl;have lsc:(sc.map Stmt.g).length=sc.length:=List.length_map _;have hdw:IntKind.i64.wrap (depth+2)=depth+2:=I64.wrap (by unfold I64;omega);have hb6:=ZaP r.b 6 rb (by decide);refine ⟨[[.int 1,.int 0,.str [],.str [],.sl 5 []]],rfl,rfl,⟨rfl,rfl,rfl,rfl,⟨5,rfl⟩,trivial⟩,?_⟩;refine ⟨[[.int 1,.str sy,.sl 5 [gX (Zgg 0)],.sl 5 [],.sl 5 []]],rfl,rfl,⟨rfl,rfl,Zbl rfl rfl,⟨5,rfl⟩,⟨5,rfl⟩,trivial⟩,?_⟩;refine ⟨⟨by simp[maxLen];omega,by simp;omega⟩,?_⟩;refine ⟨[gX (varX sy),gX (Zgg 1)],rfl,rfl,⟨rfl,rfl,rfl,rfl,⟨5,rfl⟩,rfl,rfl,rfl,rfl,⟨5,rfl⟩,trivial⟩,?_⟩;refine Zae (.inl rfl) hb6 ?_;refine ⟨[gX (varX sy),gX (Zgg (Za7 r.b 6))],rfl,rfl,⟨rfl,rfl,rfl,rfl,⟨5,rfl⟩,rfl,rfl,rfl,rfl,⟨5,rfl⟩,trivial⟩,?_⟩;refine ZcY [.old 9,.old 6,.old 11,.old 13] [(9,.row 0),(15,.ptr 1 0),(17,.ptr 2 0),(18,.ptr 3 0)]
    [.row (out.map Stmt.g++[[.int 1,.str sy,.sl 5 [gX (Zgg 0)],.sl 5 [],.sl 5 []]]) 135 5,.blk [.g (.int 1),.g (.str vn),.g (.sl 5 [gX x]),.nils,.nils] 135,
     .blk [.g (.int 5),.g (.int 1),.g (.str []),.g (.str []),.g (.sl 5 [gX (varX sy),gX (Zgg 1)])] 132,.blk [.g (.int 5),.g (.int 7),.g (.str []),.g (.str []),.g (.sl 5 [gX (varX sy),gX (Zgg (Za7 r.b 6))])] 132]
    ?_ ?_
   ·exact ⟨rfl,.inl rfl,.inl rfl,rfl⟩
   refine ⟨some 4500,rfl,?_⟩;refine ⟨_,hdw,_,_,_,.inl rfl,hs3,rfl,?_⟩;refine ⟨[[.int 5,.int 1,.str [],.str [],.sl 5 [gX (varX sy),gX (Zgg 1)]]],rfl,rfl,⟨rfl,rfl,rfl,rfl,rfl,trivial⟩,?_⟩;refine ⟨[[.int 1,.str sy,.sl 5 [[.int 5,.int 1,.str [],.str [],.sl 5 [gX (varX sy),gX (Zgg 1)]]],.sl 5 [],.sl 5 []]],rfl,rfl,⟨rfl,rfl,rfl,⟨5,rfl⟩,⟨5,rfl⟩,trivial⟩,?_⟩;refine ⟨⟨by simp[maxLen];omega,by simp;omega⟩,?_⟩;refine ⟨[[.int 5,.int 7,.str [],.str [],.sl 5 [gX (varX sy),gX (Zgg (Za7 r.b 6))]]],rfl,rfl,⟨rfl,rfl,rfl,rfl,rfl,trivial⟩,?_⟩;refine ⟨[[.int 4,.str [],.sl 5 [[.int 5,.int 7,.str [],.str [],.sl 5 [gX (varX sy),gX (Zgg (Za7 r.b 6))]]],.sl 5 (sc.map Stmt.g++[[.int 1,.str sy,.sl 5 [[.int 5,.int 1,.str [],.str [],.sl 5 [gX (varX sy),gX (Zgg 1)]]],.sl 5 [],.sl 5 []]]),.sl 5 []]],rfl,rfl,⟨rfl,rfl,Zbl rfl rfl,Zbl rfl rfl,⟨5,rfl⟩,trivial⟩,?_⟩;refine ⟨⟨by simp[maxLen];omega,by simp;omega⟩,?_⟩;exact Hold.mk ⟨_,I64.wrap (by unfold I64;omega),hRd _ _ _ ⟨⟨n+1,out++[.mk 1 sy [Zgg 0] [] [],.mk 4 [] [Zjl r] (sc++[.mk 1 sy [upP] [] []]) []],tl.drop 6⟩,[.old 8],⟨rfl,.inr ⟨⟨while_g,rfl,rfl⟩,trivial⟩,.inr ⟨lk (congrArg (λz=>D.g (.sl 4 z)) hrest),lk rfl,lkI (by push_cast;rfl),trivial⟩,rfl⟩,next _ hst (by simp),less⟩⟩
  ·rw[if_neg (λh=>g9 h.2)] at hst;refine ⟨[[.int 1,.str vn,.sl 5 [gX x],.sl 5 [],.sl 5 []]],rfl,rfl,⟨rfl,rfl,Zbl rfl rfl,⟨5,rfl⟩,⟨5,rfl⟩,trivial⟩,?_⟩;refine ⟨⟨by simp[maxLen];omega,by simp;omega⟩,?_⟩;exact Hold.mk ⟨_,I64.wrap (by unfold I64;omega),hRd _ _ _ ⟨⟨n+1,out++[.mk 1 vn [x] [] []],tl.drop 6⟩,[.old 8],⟨rfl,.inr ⟨⟨ZdV (b:=[]) (e:=[]) (gX1 _),rfl,rfl⟩,trivial⟩,.inr ⟨lk (congrArg (λz=>D.g (.sl 4 z)) hrest),lk rfl,lkI (by push_cast;rfl),trivial⟩,rfl⟩,next _ hst (by simp),less⟩⟩
  ·rw[if_neg (λh=>g8 h.1)] at hst;refine ⟨[[.int 1,.str vn,.sl 5 [gX x],.sl 5 [],.sl 5 []]],rfl,rfl,⟨rfl,rfl,Zbl rfl rfl,⟨5,rfl⟩,⟨5,rfl⟩,trivial⟩,?_⟩;refine ⟨⟨by simp[maxLen];omega,by simp;omega⟩,?_⟩;exact Hold.mk ⟨_,I64.wrap (by unfold I64;omega),hRd _ _ _ ⟨⟨n+1,out++[.mk 1 vn [x] [] []],tl.drop 6⟩,[.old 8],⟨rfl,.inr ⟨⟨ZdV (b:=[]) (e:=[]) (gX1 _),rfl,rfl⟩,trivial⟩,.inr ⟨lk (congrArg (λz=>D.g (.sl 4 z)) hrest),lk rfl,lkI (by push_cast;rfl),trivial⟩,rfl⟩,next _ hst (by simp),less⟩⟩
end Go.Proofs.YtpjjkiidjofflaaGreatDoor
namespace Go.Proofs.YtpjjkiidjofflaaGreatDoor
open Go Go.Dm Go.Eng Go.RowKit Barb
theorem Stmts_is (params:List Str) (hp:params.length<=1000) (many:Nat) (hm:1<=many/\many<=3) (l:List Raw) (hl:l.length<=4398046511103) (hI:∀r∈l,r.I) :
  CT Tryz.prog gl 36 [.g (.sl 4 (l.map Raw.g)),.g (.sl 1 (params.map ZbG)),.g (.int many),.g (.int 1)] (Is (.g (.sl 5 ((Zcd params many l).map Stmt.g)))) :=
 Stmts_Q params hp many hm l.length (by omega) l (Nat.le_refl _) hI 1 (by omega) _ (λh i hi=>ZbN (.inl (by simp only[conv,kp,hi];rfl)))
theorem unit_g (u:Barb.Unit):u.g=[.str u.name,.sl 1 (u.vars.map ZbG),.sl 2 (u.arrays.map Arr.g),.sl 4 (u.funcs.map Fun.g)]:=rfl
set_option maxRecDepth 20000 in
set_option maxHeartbeats 8000000 in
theorem Program_Q (l:List Raw) (hl:l.length*32<=140737488351232) (hI:∀r∈l,r.I) (Q:Out->Prop) (hQ:∀(h:Zad) (i:Nat),h[i]?=some (.row ((ZbQ l).map Unit.g) 44 4)->Zbv Q h (.row i)) :
  CT Tryz.prog gl 14 [.g (.sl 4 (l.map Raw.g))] Q:=by
 have ll:(l.map Raw.g).length=l.length:=List.length_map _;obtain ⟨k3,hk3,hk3l⟩:=Zbp l.length (many:=3) (by decide);obtain ⟨M,hMe⟩:∃M,M=manyP l:=⟨_,rfl⟩;have hMk:(M:Int)=1+Za7 l.length 3:=by rw[hMe];unfold manyP;rw[show (3:Int)=((3:Nat):Int) from rfl,hk3];omega
 have hm:1<=M/\M<=3:=by rw[show (3:Int)=((3:Nat):Int) from rfl,hk3] at hMk;omega
 have hpk:CT Tryz.prog gl 17 [.g (.int ((l.map Raw.g).length:Nat)),.g (.int 3)] (Is (.g (.int (Za7 l.length 3)))):=by rw[ll];exact ZaP l.length 3 (by unfold I64;omega) (by decide)
 have hw:IntKind.i64.wrap (1+Za7 l.length 3)=(M:Int):=by rw[<- hMk];exact I64.wrap (by unfold I64;omega)
 refine enter hT hF hM Tryz.func14 rfl 74 rfl (by kernel_rfl) [.tmp 2] rfl [.g (.sl 4 (l.map Raw.g))] rfl _ ?_;refine Zae (.inl rfl) hpk ⟨_,hw,?_⟩;refine ZaM (ι:=Nat) (λi=>[(0,.g (.sl 4 (l.map Raw.g))),(3,.g (.int (M:Int))),(4,.row 0),(12,.g (.int (M:Int))),(13,.g (.int (i:Int)))]) (λi=>[.row (((List.range i).map (Zhx l M)).map Unit.g) 44 4]) (λi=>i<=M) (λi=>M - i)
  ⟨0,[.nil 44 4],⟨rfl,.inl rfl,.inr ⟨lk rfl,lk rfl,.inr rfl,lk rfl,lk rfl,trivial⟩,rfl⟩,Nat.zero_le _⟩ ?_
 intro Rd hRd i hi;refine ⟨λhlt=>?_,λhge=>?_⟩
 rotate_left
 ·have hiM:i=M:=by omega
  exact ⟨rfl,hQ _ _ (by rw[hiM,hMe];rfl)⟩
 have hiM:i < M:=by omega
 have hmul:∀a:Nat,a<=4->a*l.length<=4*l.length:=λa ha=>Nat.mul_le_mul_right _ ha;have h1:=hmul i (by omega);have h2:=hmul (i+1) (by omega);have c1:((i:Int)*((l.map Raw.g).length:Nat))=((i*l.length:Nat):Int):=by rw[ll];push_cast;rfl
 have c2:(((i:Int)+1)*((l.map Raw.g).length:Nat))=(((i+1)*l.length:Nat):Int):=by rw[ll];push_cast;rfl
 obtain ⟨lo,hlo⟩:∃lo,lo=i*l.length / M:=⟨_,rfl⟩;obtain ⟨hi',hhi⟩:∃hi',hi'=(i+1)*l.length / M:=⟨_,rfl⟩;have d1:((i:Int)*((l.map Raw.g).length:Nat)).tdiv M=(lo:Int):=by rw[c1,Int.tdiv_eq_ediv_of_nonneg (by omega),hlo];rfl
 have d2:(((i:Int)+1)*((l.map Raw.g).length:Nat)).tdiv M=(hi':Int):=by rw[c2,Int.tdiv_eq_ediv_of_nonneg (by omega),hhi];rfl
 have hle:lo<=hi':=by rw[hlo,hhi];exact Nat.div_le_div_right (Nat.mul_le_mul_right _ (by omega))
 have hhl:hi'<=l.length:=by rw[hhi];have:(i+1)*l.length<=M*l.length:=Nat.mul_le_mul_right _ hiM;exact Nat.le_trans (Nat.div_le_div_right this) (by rw[Nat.mul_div_cancel_left _ (by omega)];exact Nat.le_refl _)
 have hwi:IntKind.i64.wrap ((i:Int)+1)=(i:Int)+1:=I64.wrap (by unfold I64;omega);have hpart:((l.map Raw.g).take hi').drop lo=(ZeV l M i).map Raw.g:=by unfold ZeV;rw[List.map_drop,List.map_take,<- hlo,<- hhi]
 refine ⟨none,rfl,?_⟩;refine ⟨by rw[c1];unfold I64;omega,by omega,by rw[d1];unfold I64;omega,?_⟩;refine ⟨_,hwi,by rw[c2];unfold I64;omega,by omega,by rw[d2];unfold I64;omega,?_⟩;refine ⟨lo,hi',dJ d1,dJ d2,hle,by rw[ll];exact hhl,?_⟩;have hpl:(((l.map Raw.g).take hi').drop lo).length=(ZeV l M i).length:=by rw[hpart,List.length_map]
 have hpln:(ZeV l M i).length<=l.length:=by unfold ZeV;rw[List.length_drop,List.length_take];omega
 have hIp:∀r∈ZeV l M i,r.I:=λr hr=>hI r (List.mem_of_mem_take (List.mem_of_mem_drop hr));obtain ⟨th,hth⟩:∃th,th=(ZeV l M i).length / 3:=⟨_,rfl⟩;have d3:((((l.map Raw.g).take hi').drop lo).length:Int).tdiv 3=(th:Int):=by rw[hpl,Int.tdiv_eq_ediv_of_nonneg (by omega),hth];rfl
 have s1:CT Tryz.prog gl 36 [.g (.sl 4 ((((l.map Raw.g).take hi').drop lo).take th)),.g (.sl 1 [[.str sp],[.str sq]]),.g (.int M),.g (.int 1)] (Is (.g (.sl 5 ((Zcd [sp,sq] M ((ZeV l M i).take th)).map Stmt.g)))):=by rw[hpart,<- List.map_take];exact Stmts_is [sp,sq] (by simp) M hm _ (by rw[List.length_take];omega) (λr hr=>hIp r (List.mem_of_mem_take hr))
 have s2:CT Tryz.prog gl 36 [.g (.sl 4 (((((l.map Raw.g).take hi').drop lo).take (2*th)).drop th)),.g (.sl 1 [[.str sp]]),.g (.int M),.g (.int 1)] (Is (.g (.sl 5 ((Zcd [sp] M (((ZeV l M i).take (2*th)).drop th)).map Stmt.g)))):=by rw[hpart,<- List.map_take,<- List.map_drop];exact Stmts_is [sp] (by simp) M hm _ (by rw[List.length_drop,List.length_take];omega) (λr hr=>hIp r (List.mem_of_mem_take (List.mem_of_mem_drop hr)))
 have s3:CT Tryz.prog gl 36 [.g (.sl 4 ((((l.map Raw.g).take hi').drop lo).drop (2*th))),.g (.sl 1 []),.g (.int M),.g (.int 1)] (Is (.g (.sl 5 ((Zcd [] M ((ZeV l M i).drop (2*th))).map Stmt.g)))):=by rw[hpart,<- List.map_drop];exact Stmts_is [] (by simp) M hm _ (by rw[List.length_drop];omega) (λr hr=>hIp r (List.mem_of_mem_drop hr))
 have hun:Zhx l M i=⟨Zb6.getD i [],[sx,sy],[⟨sarr,2+i⟩],[⟨sf,true,[sp,sq],Zcd [sp,sq] M ((ZeV l M i).take th)⟩,⟨sg,false,[sp],Zcd [sp] M (((ZeV l M i).take (2*th)).drop th)⟩,⟨sh,true,[],Zcd [] M ((ZeV l M i).drop (2*th))⟩]⟩:=by rw[hth];rfl
 generalize Zcd [sp,sq] M ((ZeV l M i).take th)=b1 at s1 hun;generalize Zcd [sp] M (((ZeV l M i).take (2*th)).drop th)=b2 at s2 hun;generalize Zcd [] M ((ZeV l M i).drop (2*th))=b3 at s3 hun;have hw2:IntKind.i64.wrap (2+(i:Int))=2+(i:Int):=I64.wrap (by unfold I64;omega);have hth3:th<=(((l.map Raw.g).take hi').drop lo).length:=by omega
 have hth2:2*th<=(((l.map Raw.g).take hi').drop lo).length:=by omega
 have hm2:(2:Int)*(th:Int)=((2*th:Nat):Int):=by push_cast;rfl
 have lout:(((List.range i).map (Zhx l M)).map Unit.g).length=i:=by simp
 have hrow:((List.range i).map (Zhx l M)).map Unit.g++[(Zhx l M i).g]=((List.range (i+1)).map (Zhx l M)).map Unit.g:=by rw[List.range_succ];simp
 have hug:(Zhx l M i).g=[.str (Zb6.getD i []),.sl 1 [[.str sx],[.str sy]],.sl 2 [[.str sarr,.int (2+(i:Int))]],.sl 4 [[.str sf,.bool true,.sl 1 [[.str sp],[.str sq]],.sl 5 (b1.map Stmt.g)],[.str sg,.bool false,.sl 1 [[.str sp]],.sl 5 (b2.map Stmt.g)],[.str sh,.bool true,.sl 1 [],.sl 5 (b3.map Stmt.g)]]]:=by rw[hun,unit_g];simp only[List.map_cons,List.map_nil,Fun.g,Stmt.gs_map];rfl
 refine ⟨by decide,by rw[d3];unfold I64;omega,?_⟩;have i3:i=0\/i=1\/i=2:=by omega
 rcases i3 with rfl | rfl | rfl
 all_goals
  refine ⟨some 2500,rfl,?_⟩;refine ⟨_,rfl,(by decide),?_⟩;refine ⟨[[.str sx],[.str sy]],rfl,rfl,⟨rfl,rfl,trivial⟩,?_⟩;refine ⟨_,hw2,?_⟩;refine ⟨[[.str sarr,.int _]],rfl,rfl,⟨rfl,rfl,trivial⟩,?_⟩;refine ⟨[[.str sp],[.str sq]],rfl,rfl,⟨rfl,rfl,trivial⟩,?_⟩;refine ⟨th,dJ d3,hth3,?_⟩;refine ⟨[[.str sp],[.str sq]],rfl,rfl,⟨rfl,rfl,trivial⟩,?_⟩;refine ⟨_,_,.inl rfl,s1,rfl,?_⟩;refine ⟨[[.str sp]],rfl,rfl,⟨rfl,trivial⟩,?_⟩;refine ⟨(by rw[d3];unfold I64;omega),?_⟩;refine ⟨th,2*th,dJ d3,dJ (by rw[d3];exact hm2),by omega,hth2,?_⟩;refine ⟨[[.str sp]],rfl,rfl,⟨rfl,trivial⟩,?_⟩;refine ⟨_,_,.inl rfl,s2,rfl,?_⟩;refine ⟨(by rw[d3];unfold I64;omega),?_⟩;refine ⟨2*th,dJ (by rw[d3];exact hm2),hth2,?_⟩;refine ⟨_,_,(show Zes [D.g (.sl 4 ((((l.map Raw.g).take hi').drop lo).drop (2*th))),.nils,.g (.int (M:Int)),.g (.int 1)] [D.g (.sl 4 ((((l.map Raw.g).take hi').drop lo).drop (2*th))),.g (.sl 1 []),.g (.int (M:Int)),.g (.int 1)] from .inr ⟨lk rfl,ZhM,lk rfl,lk rfl,trivial⟩),s3,rfl,?_⟩;refine ⟨[[.str sf,.bool true,.sl 1 [[.str sp],[.str sq]],.sl 5 (b1.map Stmt.g)],[.str sg,.bool false,.sl 1 [[.str sp]],.sl 5 (b2.map Stmt.g)],[.str sh,.bool true,.sl 1 [],.sl 5 (b3.map Stmt.g)]],rfl,rfl,⟨rfl,rfl,rfl,rfl,rfl,rfl,rfl,rfl,rfl,rfl,⟨1,rfl⟩,rfl,trivial⟩,?_⟩;refine ⟨[[.str _,.sl 1 [[.str sx],[.str sy]],.sl 2 [[.str sarr,.int _]],.sl 4 [[.str sf,.bool true,.sl 1 [[.str sp],[.str sq]],.sl 5 (b1.map Stmt.g)],[.str sg,.bool false,.sl 1 [[.str sp]],.sl 5 (b2.map Stmt.g)],[.str sh,.bool true,.sl 1 [],.sl 5 (b3.map Stmt.g)]]]],rfl,rfl,⟨rfl,rfl,rfl,rfl,trivial⟩,?_⟩;refine ⟨⟨by rw[lout];simp[maxLen],by rw[lout];simp⟩,?_⟩;refine ⟨_,hwi,?_⟩;refine hRd _ _ _ ⟨_,[.old 1],⟨rfl,.inr ⟨⟨?_,rfl,rfl⟩,trivial⟩,.inr ⟨lk rfl,lk rfl,lk rfl,lk rfl,lkI (by omega),trivial⟩,rfl⟩,hiM,by show M - (_+1) < M - _;omega⟩;exact (congrArg (λz=>_++[z]) hug.symm).trans hrow
end Go.Proofs.YtpjjkiidjofflaaGreatDoor
namespace Barb
open Go Go.Dm Go.Eng
theorem Zdh {s:Str} (h1:1<=s.length) (h8:s.length<=8) (hc:∀c∈s,97<=c.toNat/\c.toNat<=122) (hk:s ∉ keys):Zas s :=
 ⟨⟨⟨h1,h8⟩,λ_ hj=>.inl (hc _ (List.getElem_mem hj))⟩,hk⟩
theorem id_x:Zas sx:=Zdh (by decide) (by decide) (by decide) (by decide)
theorem id_y:Zas sy:=Zdh (by decide) (by decide) (by decide) (by decide)
theorem id_p:Zas sp:=Zdh (by decide) (by decide) (by decide) (by decide)
theorem id_q:Zas sq:=Zdh (by decide) (by decide) (by decide) (by decide)
theorem id_f:Zas sf:=Zdh (by decide) (by decide) (by decide) (by decide)
theorem id_g:Zas sg:=Zdh (by decide) (by decide) (by decide) (by decide)
theorem id_h:Zas sh:=Zdh (by decide) (by decide) (by decide) (by decide)
theorem id_arr:Zas sarr:=Zdh (by decide) (by decide) (by decide) (by decide)
theorem id_units:∀s∈Zb6,Zas s:=by
 intro s hs;simp only[Zb6,List.mem_cons,List.not_mem_nil,or_false] at hs
 rcases hs with rfl | rfl | rfl<;>exact Zdh (by decide) (by decide) (by decide) (by decide)
theorem at_getD {α:Type} {l:List α} {k:Nat} (h:k < l.length) (z:α):l.getD k z=l[k]:=by simp[h]
theorem Zh6 {l:List Str} (h:l≠[]) (n:Int):pickP l n∈l:=by unfold pickP;obtain ⟨k,hk,hl⟩:=Zbp n (many:=l.length) (List.length_pos_iff.2 h);rw[hk];show l.getD k []∈l;rw[at_getD hl];exact List.getElem_mem hl
theorem unit_mem {many:Int} (h1:1<=many) (h3:many<=3) (n:Int):unitP n many∈Zb6.take many.toNat:=by
 obtain ⟨m,rfl⟩:∃m:Nat,many=(m:Int):=⟨many.toNat,by omega⟩;unfold unitP;obtain ⟨k,hk,hl⟩:=Zbp n (many:=m) (by omega);rw[hk];show Zb6.getD k []∈Zb6.take m;have h:k < (Zb6.take m).length:=by rw[List.length_take];show k < min m 3;omega
 have:Zb6.getD k []=(Zb6.take m)[k]:=by rw[List.getElem_take];exact at_getD (by show k < 3;omega) []
 rw[this];exact List.getElem_mem h
structure PX (params:List Str) (many:Int):Prop where
 lo:1<=many
 hi:many<=3
 ids:∀s∈params,Zas s
theorem vars_id {params:List Str} {many:Int} (h:PX params many):∀s∈Zch params,Zas s:=by
 intro s hs;simp only[Zch,List.cons_append,List.nil_append,List.mem_cons] at hs
 rcases hs with rfl | rfl | hs
 ·exact id_x
 ·exact id_y
 ·exact h.ids s hs
theorem unit_id {many:Int} (h1:1<=many) (h3:many<=3) (n:Int):Zas (unitP n many):=id_units _ (List.mem_of_mem_take (unit_mem h1 h3 n))
theorem Zeu {n:Int} (h0:0<=n) (h1:n<=65535) (f:Nat):ZaH (f+1) (Zgg n)=0:=by unfold ZaH;rw[if_neg (by omega),if_neg (by simp),if_neg (λh=>h (.inl ⟨rfl,rfl,rfl,rfl⟩)),if_neg (by unfold ZaN;omega)];rfl
theorem leaf_var {s:Str} (h:Zas s) (f:Nat):ZaH (f+1) (varX s)=0:=by unfold ZaH;rw[if_neg (by omega),if_neg (by simp),if_neg (λh'=>h' (.inr (.inl ⟨rfl,rfl,h,rfl,rfl⟩))),if_neg (by unfold ZaN;omega)];rfl
theorem num_rng (r:Raw):∃n,numP r=Zgg n/\0<=n/\n<=65535:=by
 unfold numP;refine ⟨_,rfl,?_⟩
 split
 ·obtain ⟨k,hk,hl⟩:=Zbp r.c (many:=4) (by decide);rw[show (4:Int)=((4:Nat):Int) from rfl,hk]
  match k,hl with
  | 0,_=>decide
  | 1,_=>decide
  | 2,_=>decide
  | 3,_=>decide
 ·have:=Zcf r.a (many:=6) (by decide);omega
theorem ZhE {α:Type} {f:α->Int} {a b:α} (ha:f a=0) (hb:f b=0):Zag f [a,b]=0:=by simp[Zag,ha,hb]
theorem ZbB {α:Type} {f:α->Int} {a:α} (ha:f a=0):Zag f [a]=0:=by simp[Zag,ha]
theorem Zhi {params:List Str} {many:Int} (hp:PX params many):∀(f:Nat) (l:List Raw) (depth:Int) (n:Nat),1<=n->1<=depth->6<=depth+n->ZaH n (ZdY params many f l depth)=0
 | 0,l,depth,n+1,_,_,_=>Zeu (by omega) (by omega) n
 | f+1,[],depth,n+1,_,_,_=>Zeu (by omega) (by omega) n
 | f+1,r :: rest,depth,n+1,_,hd,hn=>by
  have ka:=Zcf r.kind (many:=9) (by decide);have kb:=Zcf r.kind (many:=20) (by decide);have ra:=Zcf r.a (many:=10) (by decide);unfold ZdY;simp only;generalize hk:(if depth > 4 then Za7 r.kind 9 else Za7 r.kind 20)=k;have hk9:¬k < 9->¬depth > 4:=λh h4=>by rw[if_pos h4] at hk;omega
  split
  ·obtain ⟨v,e,v0,v1⟩:=num_rng r;rw[e];exact Zeu v0 v1 n
  ·split
   ·exact leaf_var (vars_id hp _ (Zh6 (by simp[Zch]) _)) n
   ·rename_i h4 h9;have hd4:=hk9 h9;have ia:=Zhi hp f (rest.take (rest.length / 2)) (depth+1) n (by omega) (by omega) (by omega);have ib:=Zhi hp f (rest.drop (rest.length / 2)) (depth+1) n (by omega) (by omega) (by omega)
    split
    ·unfold ZaH;rw[if_neg (by omega),if_neg (by simp),if_neg (λh'=>h' (.inr (.inr (.inr (.inr ⟨rfl,rfl,rfl,rfl⟩))))),if_neg (by unfold ZaN;omega)];exact ZhE ia ib
    ·split
     ·unfold ZaH;rw[if_neg (by omega),if_neg (by simp),if_neg (λh'=>h' (.inr (.inr (.inl ⟨rfl,rfl,id_arr,rfl,rfl⟩)))),if_neg (by unfold ZaN;omega)];exact ZbB ia
     ·split
      ·unfold ZaH;rw[if_neg (by omega),if_neg (by simp),if_neg (λh'=>h' (.inr (.inr (.inr (.inl ⟨rfl,.inl rfl,id_g,rfl⟩))))),if_neg (by unfold ZaN;omega)];exact ZbB ia
      ·split
       ·unfold ZaH;rw[if_neg (by omega),if_neg (by simp),if_neg (λh'=>h' (.inr (.inr (.inr (.inl ⟨rfl,.inr (unit_id hp.lo hp.hi _),id_f,rfl⟩))))),if_neg (by unfold ZaN;omega)];exact ZhE ia ib
       ·unfold ZaH;rw[if_neg (by omega),if_neg (by simp),if_neg (λh'=>h' (.inr (.inr (.inr (.inl ⟨rfl,.inr (unit_id hp.lo hp.hi _),id_h,rfl⟩))))),if_neg (by unfold ZaN;omega)];rfl
theorem expr12 {params:List Str} {many:Int} (hp:PX params many) (f:Nat) (l:List Raw):ZaH 12 (ZdY params many f l 1)=0:=Zhi hp f l 1 12 (by decide) (by decide) (by decide)
theorem num12 (r:Raw):ZaH 12 (numP r)=0:=by obtain ⟨v,e,v0,v1⟩:=num_rng r;rw[e];exact Zeu v0 v1 11
theorem stE {f:List Stmt->Int} {k:Int} {s:Str} {xs:List Expr} {b e:List Stmt} (h1:1<=k/\k<=6) (h2:Zdd k s xs.length b.length e.length) (h3:Zag (ZaH 12) xs=0) (h4:f b=0) (h5:f e=0):ZcJ f (.mk k s xs b e)=0:=by unfold ZcJ;simp only;rw[if_neg (λh=>h h1),if_neg (λh=>h h2),if_neg (λh=>h h3),if_neg (λh=>h h4)];exact h5
theorem Zgn (n:Nat):Zan (n+1) []=0:=rfl
theorem Zhh {α:Type} {f:α->Int} {a b:List α} (ha:Zag f a=0) (hb:Zag f b=0):Zag f (a++b)=0 :=
 Zam (λx hx=>by
  rcases List.mem_append.1 hx with h | h
  ·exact (Zai ha) x h
  ·exact (Zai hb) x h)
theorem set_form {s:Str} {x:Expr} (hs:Zas s) (hx:ZaH 12 x=0) (n:Nat):ZcJ (Zan (n+1)) (.mk 1 s [x] [] [])=0 :=
 stE (by omega) ⟨⟨λ_=>hs,λh=>absurd h (by omega),λh=>absurd h (by omega),λ_=>rfl⟩,.inl rfl,.inl rfl⟩ (ZbB hx) (Zgn n) (Zgn n)
theorem up12:ZaH 12 upP=0:=by unfold upP ZaH;rw[if_neg (by omega),if_neg (by simp),if_neg (λh'=>h' (.inr (.inr (.inr (.inr ⟨rfl,rfl,rfl,rfl⟩))))),if_neg (by unfold ZaN;omega)];exact ZhE (leaf_var id_y 10) (Zeu (by omega) (by omega) 10)
theorem below12 (r:Raw):ZaH 12 (Zjl r)=0:=by have:=Zcf r.b (many:=6) (by decide);unfold Zjl ZaH;rw[if_neg (by omega),if_neg (by simp),if_neg (λh'=>h' (.inr (.inr (.inr (.inr ⟨rfl,rfl,rfl,rfl⟩))))),if_neg (by unfold ZaN;omega)];exact ZhE (leaf_var id_y 10) (Zeu (by omega) (by omega) 10)
theorem stmtP_form {params:List Str} {many:Int} (hp:PX params many) {depth:Int} {n:Nat} {rec:List Raw->Int->List Stmt} (r:Raw) (part:List Raw) (h3:depth < 3->∀l,Zan (n+2) (rec l (depth+1))=0) (h2:depth < 2->∀l,Zan (n+2) (rec l (depth+2))=0) :
  Zag (ZcJ (Zan (n+2))) (Zel params many depth rec r part)=0:=by
 have kb:=Zcf r.kind (many:=12) (by decide);have hx:=expr12 hp part.length part;unfold Zel;simp only;generalize Za7 r.kind 12=k at kb
 split
 ·exact ZbB (stE (by omega) ⟨⟨λ_=>id_arr,λh=>absurd h (by omega),λ_=>rfl,λh=>absurd rfl h⟩,.inl rfl,.inl rfl⟩ (ZhE (num12 r) hx) (Zgn (n+1)) (Zgn (n+1)))
 ·split
  ·exact ZbB (stE (by omega) ⟨⟨λh=>absurd h (by omega),λ_=>rfl,λh=>absurd h (by omega),λ_=>rfl⟩,.inl rfl,.inl rfl⟩ (ZbB hx) (Zgn (n+1)) (Zgn (n+1)))
  ·split
   ·exact ZbB (stE (by omega) ⟨⟨λh=>absurd h (by omega),λ_=>rfl,λh=>absurd h (by omega),λ_=>rfl⟩,.inl rfl,.inl rfl⟩ (ZbB hx) (Zgn (n+1)) (Zgn (n+1)))
   ·split
    ·rename_i hd;exact ZbB (stE (by omega) ⟨⟨λh=>absurd h (by omega),λ_=>rfl,λh=>absurd h (by omega),λ_=>rfl⟩,.inr (.inl rfl),.inr rfl⟩ (ZbB hx) (h3 hd.2 _) (h3 hd.2 _))
    ·split
     ·rename_i hd;refine ZhE (set_form id_y (Zeu (by omega) (by omega) 11) (n+1)) (stE (by omega) ⟨⟨λh=>absurd h (by omega),λ_=>rfl,λh=>absurd h (by omega),λ_=>rfl⟩,.inr (.inr rfl),.inl rfl⟩ (ZbB (below12 r)) ?_ (Zgn (n+1)));have:=h2 hd.2 part;exact Zhh this (ZbB (set_form id_y up12 n))
     ·exact ZbB (set_form (vars_id hp _ (Zh6 (by simp[Zch]) _)) hx (n+1))
theorem ZiG {params:List Str} {many depth:Int} {rec:List Raw->Int->List Stmt} {g:Stmt->Int} (h:∀r part,Zag g (Zel params many depth rec r part)=0):∀(k:Nat) (l:List Raw),Zag g (Zep params many depth rec k l)=0
 | 0,_=>rfl
 | _+1,[]=>rfl
 | k+1,r :: _=>Zhh (h r _) (ZiG h k _)
theorem ZfV {params:List Str} {many:Int} (hp:PX params many):∀(f:Nat) (l:List Raw) (depth:Int) (n:Nat),3<=n->1<=depth->7<=depth+n->Zan n (ZaZ params many f l depth)=0
 | 0,_,_,n+3,_,_,_=>rfl
 | f+1,l,depth,n+3,_,h1,h7=>by unfold ZaZ Zan;exact ZiG (λr part=>stmtP_form hp r part (λh3 l=>ZfV hp f l (depth+1) (n+2) (by omega) (by omega) (by omega)) (λh2 l=>ZfV hp f l (depth+2) (n+2) (by omega) (by omega) (by omega))) 4 l
theorem many_app (n:Nat) (a b:List Stmt):Zak (n+1) (a++b)=Zak (n+1) a+Zak (n+1) b:=by simp only[Zak,List.length_append,List.map_append,List.sum_append];omega
theorem Zh8 (n:Nat) (k:Int) (s:Str) (xs:List Expr) (b e:List Stmt):Zak (n+1) [.mk k s xs b e]=1+(Zak n b+Zak n e):=by simp[Zak,Zix]
theorem Zer (n:Nat):Zak n []=0:=by cases n<;>simp[Zak]
theorem ZeZ (n:Nat) (k:Int) (s:Str) (xs:List Expr):Zak n [.mk k s xs [] []]<=1:=by
 cases n with
 | zero=>simp[Zak]
 | succ n=>rw[Zh8,Zer];omega
theorem rows_few {params:List Str} {many depth:Int} {rec:List Raw->Int->List Stmt} (r:Raw) {l:List Raw} (h:l.length<=6) (k:Nat):Zep params many depth rec (k+1) (r :: l)=Zel params many depth rec r (l.take 6):=by
 have:l.drop 6=[]:=List.drop_eq_nil_iff.2 h;unfold Zep;rw[this]
 cases k<;>simp[Zep]
theorem ZgS {params:List Str} {many depth:Int} {rec:List Raw->Int->List Stmt} (r:Raw) (part:List Raw) (n:Nat) (c b:Int) (h3:depth < 3->Zak n (rec (part.take (part.length / 2)) (depth+1))+Zak n (rec (part.drop (part.length / 2)) (depth+1))<=c) (h2:depth < 2->Zak n (rec part (depth+2))<=b) (hc:0<=c) (hb:depth < 2->b+3<=c+1) :
  Zak (n+1) (Zel params many depth rec r part)<=c+1:=by
 unfold Zel;simp only
 split
 ·have:=ZeZ (n+1) 2 sarr [numP r,ZdY params many part.length part 1];omega
 ·split
  ·have:=ZeZ (n+1) 6 [] [ZdY params many part.length part 1];omega
  ·split
   ·have:=ZeZ (n+1) 5 [] [ZdY params many part.length part 1];omega
   ·split
    ·rename_i hd;rw[Zh8];have:=h3 hd.2;omega
    ·split
     ·rename_i hd;rw[show ∀a b:Stmt,[a,b]=[a]++[b] from λ_ _=>rfl,many_app,Zh8 (e:=[]),Zh8,Zer];have h4:=h2 hd.2;have h5:=hb hd.2;have h6:Zak n (rec part (depth+2)++[.mk 1 sy [upP] [] []])<=b+1:=by
       cases n with
       | zero=>simp only[Zak] at h4 ⊢;omega
       | succ n =>rw[many_app];have:=ZeZ (n+1) 1 sy [upP];omega
      omega
     ·have:=ZeZ (n+1) 1 (pickP (Zch params) r.a) [ZdY params many part.length part 1];omega
theorem rows_many {params:List Str} {many depth:Int} {rec:List Raw->Int->List Stmt} (n:Nat) {c:Int} (hc:0<=c) (hs:∀r part,part.length<=6->Zak (n+1) (Zel params many depth rec r part)<=c):∀(k:Nat) (l:List Raw),Zak (n+1) (Zep params many depth rec k l)<=k*c
 | 0,_=>by unfold Zep;rw[Zer];simp
 | k+1,[]=>by unfold Zep;rw[Zer];exact Int.mul_nonneg (by omega) hc
 | k+1,r :: l=>by unfold Zep;rw[many_app];have h1:=hs r (l.take 6) (by rw[List.length_take];omega);have h2:=rows_many n hc hs k (l.drop 6);rw[show ((k+1:Nat):Int)*c=k*c+c from by push_cast;rw[Int.add_mul,Int.one_mul]];omega
theorem stmtsP_few {params:List Str} {many depth:Int} {f:Nat} (n:Nat) {l:List Raw} (h:l.length<=6) (c:Int) (hc:0<=c) (hs:∀r part,part.length<=6->Zak (n+1) (Zel params many depth (ZaZ params many f) r part)<=c):Zak (n+1) (ZaZ params many (f+1) l depth)<=c:=by
 unfold ZaZ
 match l,h with
 | [],_=>unfold Zep;rw[Zer];exact hc
 | r :: l,h=>rw[rows_few r (by simp at h;omega)];exact hs r _ (by rw[List.length_take];omega)
theorem many_3 (params:List Str) (many:Int) (f n:Nat) (l:List Raw) {depth:Int} (hd:3<=depth) (h:l.length<=6):Zak n (ZaZ params many f l depth)<=1:=by
 match n,f with
 | 0,_=>simp[Zak]
 | n+1,0=>unfold ZaZ;rw[Zer];omega
 | n+1,f+1=>exact stmtsP_few n h 1 (by omega) (λr part _=>ZgS r part n 0 0 (λh=>absurd h (by omega)) (λh=>absurd h (by omega)) (by omega) (λh=>absurd h (by omega)))
theorem many_2 (params:List Str) (many:Int) (f n:Nat) (l:List Raw) (h:l.length<=6):Zak n (ZaZ params many f l 2)<=3:=by
 match n,f with
 | 0,_=>simp[Zak]
 | n+1,0=>unfold ZaZ;rw[Zer];omega
 | n+1,f+1 =>refine stmtsP_few n h 3 (by omega) (λr part hp=>ZgS r part n 2 0 (λ_=>?_) (λh=>absurd h (by omega)) (by omega) (λh=>absurd h (by omega)));have h1:=many_3 params many f n (part.take (part.length / 2)) (depth:=2+1) (by omega) (by rw[List.length_take];omega);have h2:=many_3 params many f n (part.drop (part.length / 2)) (depth:=2+1) (by omega) (by rw[List.length_drop];omega);omega
theorem Zeg (params:List Str) (many:Int) (l:List Raw):Zak 12 (Zcd params many l)<=28:=by
 unfold Zcd ZaZ;refine rows_many 11 (c:=7) (by omega) (λr part hp=>ZgS r part 11 6 1 (λ_=>?_) (λ_=>?_) (by omega) (λ_=>by omega)) 4 l
 ·have h1:=many_2 params many l.length 11 (part.take (part.length / 2)) (by rw[List.length_take];omega);have h2:=many_2 params many l.length 11 (part.drop (part.length / 2)) (by rw[List.length_drop];omega);have e:(1:Int)+1=2:=rfl;rw[e];omega
 ·exact many_3 params many l.length 11 part (by omega) hp
theorem Zjk {params:List Str} {many:Int} (hp:PX params many) (l:List Raw):Zan 12 (Zcd params many l)=0:=ZfV hp _ l 1 12 (by omega) (by omega) (by omega)
structure Shape (many:Nat) (u:Unit):Prop where
 ex:∃(i:Nat) (l1 l2 l3:List Raw),i < 3/\u=⟨Zb6.getD i [],[sx,sy],[⟨sarr,2+i⟩],[⟨sf,true,[sp,sq],Zcd [sp,sq] many l1⟩,⟨sg,false,[sp],Zcd [sp] many l2⟩,⟨sh,true,[],Zcd [] many l3⟩]⟩
theorem px2 {many:Nat} (h:1<=many/\many<=3):PX [sp,sq] many:=⟨by omega,by omega,λs hs=>by
 simp only[List.mem_cons,List.not_mem_nil,or_false] at hs
 rcases hs with rfl | rfl
 ·exact id_p
 ·exact id_q⟩
theorem px1 {many:Nat} (h:1<=many/\many<=3):PX [sp] many:=⟨by omega,by omega,λs hs=>by
 simp only[List.mem_cons,List.not_mem_nil,or_false] at hs;subst hs;exact id_p⟩
theorem px0 {many:Nat} (h:1<=many/\many<=3):PX [] many:=⟨by omega,by omega,λs hs=>by simp at hs⟩
theorem shape_form {many:Nat} (hm:1<=many/\many<=3) {u:Unit} (h:Shape many u):Zb7 u=0:=by
 obtain ⟨i,l1,l2,l3,hi,rfl⟩:=h.ex;have hu:Zas (Zb6.getD i []):=id_units _ (by rw[at_getD (show i < Zb6.length from hi)];exact List.getElem_mem _);have f1:funE ⟨sf,true,[sp,sq],Zcd [sp,sq] many l1⟩=0:=Zie id_f (by simp) (px2 hm).ids (Zjk (px2 hm) l1);have f2:funE ⟨sg,false,[sp],Zcd [sp] many l2⟩=0:=Zie id_g (by simp) (px1 hm).ids (Zjk (px1 hm) l2);have f3:funE ⟨sh,true,[],Zcd [] many l3⟩=0:=Zie id_h (by simp) (px0 hm).ids (Zjk (px0 hm) l3);have m1:=Zeg [sp,sq] many l1;have m2:=Zeg [sp] many l2;have m3:=Zeg [] many l3;have n1:=Zbc 12 (Zcd [sp,sq] many l1);have n2:=Zbc 12 (Zcd [sp] many l2);have n3:=Zbc 12 (Zcd [] many l3);have hN:Zc0 [⟨sf,true,[sp,sq],Zcd [sp,sq] many l1⟩,⟨sg,false,[sp],Zcd [sp] many l2⟩,⟨sh,true,[],Zcd [] many l3⟩]=Zak 12 (Zcd [sp,sq] many l1)+(Zak 12 (Zcd [sp] many l2)+Zak 12 (Zcd [] many l3)):=by simp[Zc0]
 unfold Zb7;simp only;rw[if_neg (λh=>h hu),if_neg (by simp),if_neg,if_neg,if_neg,if_neg]
 ·rw[hN,I64.wrap (by unfold I64;omega)];omega
 ·simp[Zag,f1,f2,f3]
 ·have:arrE ⟨sarr,2+i⟩=0:=by unfold arrE;rw[if_neg (λh=>h id_arr),if_neg (by show ¬¬(1<=(2+(i:Int))/\2+(i:Int)<=10);omega)]
  simp[Zag,this]
 ·have hx:Zdx sx=0:=by unfold Zdx;rw[if_pos id_x]
  have hy:Zdx sy=0:=by unfold Zdx;rw[if_pos id_y]
  simp[Zag,hx,hy]
structure Sees2 (params:List Str) (many:Int) (p:List Unit) (u:Unit) (f:Fun):Prop where
 vars:∀s∈Zch params,Zis u f s
 arr:Zij u sarr
 g:ZaW p u [] sg 1=0
 f:∀s∈Zb6.take many.toNat,ZaW p u s sf 2=0
 h:∀s∈Zb6.take many.toNat,ZaW p u s sh 0=0
 lo:1<=many
 hi:many<=3
section
variable {params:List Str} {many:Int} {p:List Unit} {u:Unit} {fn:Fun}
theorem Zja {k n:Int} {of s:Str} (h:Za0 p u fn k of s 0=0):Zbz p u fn (.mk k n of s [])=0:=by simp only[Zbz,List.length_nil,h,ZdO];rfl
theorem exprS_one {k n:Int} {of s:Str} {a:Expr} (h:Za0 p u fn k of s 1=0) (ha:Zbz p u fn a=0):Zbz p u fn (.mk k n of s [a])=0:=by simp only[Zbz,List.length_cons,List.length_nil,Nat.zero_add,h,ZdO,ha];rfl
theorem ZgG {k n:Int} {of s:Str} {a b:Expr} (h:Za0 p u fn k of s 2=0) (ha:Zbz p u fn a=0) (hb:Zbz p u fn b=0):Zbz p u fn (.mk k n of s [a,b])=0:=by simp only[Zbz,List.length_cons,List.length_nil,Nat.zero_add,Nat.reduceAdd,h,ZdO,ha,hb];rfl
theorem s1_no {k:Int} {of s:Str} {m:Nat} (h2:k≠2) (h3:k≠3) (h4:k≠4):Za0 p u fn k of s m=0:=by unfold Za0;rw[if_neg (by omega),if_neg h4]
theorem s1_var {of s:Str} {m:Nat} (h:Zis u fn s):Za0 p u fn 2 of s m=0:=by unfold Za0;rw[if_neg (λh'=>by rcases h' with h' | h';exact h'.2 h;exact absurd h'.1 (by omega)),if_neg (by omega)]
theorem s1_arr {of s:Str} {m:Nat} (h:Zij u s):Za0 p u fn 3 of s m=0:=by unfold Za0;rw[if_neg (λh'=>by rcases h' with h' | h';exact absurd h'.1 (by omega);exact h'.2 h),if_neg (by omega)]
theorem s1_ask {of s:Str} {m:Nat} (h:ZaW p u of s m=0):Za0 p u fn 4 of s m=0:=by unfold Za0;rw[if_neg (by omega),if_pos rfl];exact h
theorem numS (n:Int):Zbz p u fn (Zgg n)=0:=Zja (s1_no (by omega) (by omega) (by omega))
theorem varS {s:Str} (h:Zis u fn s):Zbz p u fn (varX s)=0:=Zja (s1_var h)
theorem Zf5 (hs:Sees2 params many p u fn):∀(f:Nat) (l:List Raw) (depth:Int),Zbz p u fn (ZdY params many f l depth)=0
 | 0,_,_=>numS 3
 | _+1,[],_=>numS 3
 | f+1,r :: rest,depth=>by
  have ia:=Zf5 hs f (rest.take (rest.length / 2)) (depth+1);have ib:=Zf5 hs f (rest.drop (rest.length / 2)) (depth+1);unfold ZdY;simp only;generalize (if depth > 4 then Za7 r.kind 9 else Za7 r.kind 20)=k
  split
  ·exact numS _
  ·split
   ·exact varS (hs.vars _ (Zh6 (by simp[Zch]) _))
   ·split
    ·exact ZgG (s1_no (by omega) (by omega) (by omega)) ia ib
    ·split
     ·exact exprS_one (s1_arr hs.arr) ia
     ·split
      ·exact exprS_one (s1_ask hs.g) ia
      ·split
       ·exact ZgG (s1_ask (hs.f _ (unit_mem hs.lo hs.hi _))) ia ib
       ·exact Zja (s1_ask (hs.h _ (unit_mem hs.lo hs.hi _)))
theorem stS {k:Int} {s:Str} {xs:List Expr} {b e:List Stmt} (h1:k=1->Zis u fn s) (h2:k=2->Zij u s) (hx:Zag (Zbz p u fn) xs=0) (hb:Zag (ZdF p u fn) b=0) (he:Zag (ZdF p u fn) e=0):ZdF p u fn (.mk k s xs b e)=0:=by simp only[ZdF];rw[if_neg (λh=>by rcases h with h | h;exact h.2 (h1 h.1);exact h.2 (h2 h.1)),ZbC,ZaO,ZaO,if_neg (λh=>h hx),if_neg (λh=>h hb)];exact he
theorem stmtP_sense (hs:Sees2 params many p u fn) {depth:Int} {rec:List Raw->Int->List Stmt} (hr:∀l d,Zag (ZdF p u fn) (rec l d)=0) (r:Raw) (part:List Raw):Zag (ZdF p u fn) (Zel params many depth rec r part)=0:=by
 have hx:=Zf5 hs part.length part 1;have hy:Zis u fn sy:=hs.vars _ (by simp[Zch]);have n0:Zag (ZdF p u fn) []=0:=rfl;unfold Zel;simp only;generalize Za7 r.kind 12=k
 split
 ·exact ZbB (stS (λh=>absurd h (by omega)) (λ_=>hs.arr) (ZhE (numS _) hx) n0 n0)
 ·split
  ·exact ZbB (stS (λh=>absurd h (by omega)) (λh=>absurd h (by omega)) (ZbB hx) n0 n0)
  ·split
   ·exact ZbB (stS (λh=>absurd h (by omega)) (λh=>absurd h (by omega)) (ZbB hx) n0 n0)
   ·split
    ·exact ZbB (stS (λh=>absurd h (by omega)) (λh=>absurd h (by omega)) (ZbB hx) (hr _ _) (hr _ _))
    ·split
     ·refine ZhE (stS (λ_=>hy) (λh=>absurd h (by omega)) (ZbB (numS 0)) n0 n0) (stS (λh=>absurd h (by omega)) (λh=>absurd h (by omega)) (ZbB ?_) ?_ n0)
      ·exact ZgG (s1_no (by omega) (by omega) (by omega)) (varS hy) (numS _)
      ·exact Zhh (hr _ _) (ZbB (stS (λ_=>hy) (λh=>absurd h (by omega)) (ZbB (ZgG (s1_no (by omega) (by omega) (by omega)) (varS hy) (numS _))) n0 n0))
     ·exact ZbB (stS (λ_=>hs.vars _ (Zh6 (by simp[Zch]) _)) (λh=>absurd h (by omega)) (ZbB hx) n0 n0)
theorem rows_sense {depth:Int} {rec:List Raw->Int->List Stmt} {g:Stmt->Int} (h:∀r part,Zag g (Zel params many depth rec r part)=0):∀(k:Nat) (l:List Raw),Zag g (Zep params many depth rec k l)=0:=ZiG h
theorem Zhy (hs:Sees2 params many p u fn):∀(f:Nat) (l:List Raw) (depth:Int),Zag (ZdF p u fn) (ZaZ params many f l depth)=0
 | 0,_,_=>rfl
 | f+1,l,depth=>by unfold ZaZ;exact rows_sense (λr part=>stmtP_sense hs (λl d=>Zhy hs f l d) r part) 4 l
end
structure Prog (many:Nat) (p:List Unit):Prop where
 m:1<=many/\many<=3
 shape:∀u∈p,Shape many u
 names:p.map Unit.name=Zb6.take many
theorem shape_arr {many:Nat} {u:Unit} (h:Shape many u):Zij u sarr:=by obtain ⟨i,l1,l2,l3,hi,rfl⟩:=h.ex;exact ⟨_,List.mem_singleton.2 rfl,rfl⟩
theorem shape_vars {many:Nat} {u:Unit} (h:Shape many u):u.vars=[sx,sy]:=by obtain ⟨i,l1,l2,l3,hi,rfl⟩:=h.ex;rfl
theorem shape_g {many:Nat} {u:Unit} (h:Shape many u) (p:List Unit):ZaW p u [] sg 1=0:=by obtain ⟨i,l1,l2,l3,hi,rfl⟩:=h.ex;unfold ZaW;rw[if_pos rfl];rfl
theorem shape_f {many:Nat} {u:Unit} (h:Shape many u) (of:Str):calledIn u of sf 2=0:=by obtain ⟨i,l1,l2,l3,hi,rfl⟩:=h.ex;unfold calledIn;show (if of≠[]/\true=false then (5:Int) else if (2:Nat)≠2 then 7 else 0)=0;rw[if_neg (by simp),if_neg (by simp)]
theorem shape_h {many:Nat} {u:Unit} (h:Shape many u) (of:Str):calledIn u of sh 0=0:=by obtain ⟨i,l1,l2,l3,hi,rfl⟩:=h.ex;unfold calledIn;show (if of≠[]/\true=false then (5:Int) else if (0:Nat)≠0 then 7 else 0)=0;rw[if_neg (by simp),if_neg (by simp)]
theorem ZiJ {many:Nat} {p:List Unit} (hp:Prog many p) {s:Str} (hs:s∈Zb6.take many) (u:Unit) (x:Str) (m:Nat) (h:∀v,Shape many v->calledIn v s x m=0):ZaW p u s x m=0:=by
 have hne:s≠[]:=λe=>by have:=id_units s (List.mem_of_mem_take hs);rw[e] at this;exact absurd this.1.1.1 (by decide)
 unfold ZaW;rw[if_neg hne]
 split
 ·rename_i hn;rw[<- hp.names] at hs;obtain ⟨v,hv,e⟩:=List.mem_map.1 hs;have:=List.find?_eq_none.1 hn v hv;exact absurd (decide_eq_true e) this
 ·rename_i v hv;exact h v (hp.shape v (List.mem_of_find?_eq_some hv))
theorem prog_sees {many:Nat} {p:List Unit} (hp:Prog many p) {u:Unit} (hu:u∈p) {f:Fun}:Sees2 f.params many p u f:=by
 have h:=hp.shape u hu;refine ⟨λs hs=>?_,shape_arr h,shape_g h p,λs hs=>ZiJ hp hs u _ _ (λv hv=>shape_f hv s),λs hs=>ZiJ hp hs u _ _ (λv hv=>shape_h hv s),by have:=hp.m;omega,by have:=hp.m;omega⟩;unfold Zis;rw[shape_vars h];simp only[Zch,List.cons_append,List.nil_append,List.mem_cons] at hs ⊢
 rcases hs with hs | hs | hs
 ·exact .inr (.inl hs)
 ·exact .inr (.inr (.inl hs))
 ·exact .inl hs
theorem dup_no {l:List Str} (h:l.Nodup):¬dupP l:=by
 rintro ⟨j,hj,hm⟩
 obtain ⟨i,hi,e⟩:=List.getElem_of_mem hm;rw[List.length_take] at hi;rw[List.getElem_take] at e;have:=(List.getElem_inj h).1 e;omega
theorem prog_unitS {many:Nat} {p:List Unit} (hp:Prog many p) {u:Unit} (hu:u∈p):ZfR p u=0:=by
 have hfun:∀f∈u.funcs,funS p u f=0:=by
  intro f hf;have hs:=prog_sees hp hu (f:=f);have key:∀(params:List Str) (l:List Raw),f.params=params->f.body=Zcd params many l->params.Nodup->funS p u f=0:=λparams l e1 e2 hd=>by unfold funS;rw[e1,if_neg (dup_no hd),ZaO,e2];rw[e1] at hs;exact Zhy hs _ l 1
  obtain ⟨i,l1,l2,l3,hi,rfl⟩:=(hp.shape u hu).ex;simp only[List.mem_cons,List.not_mem_nil,or_false] at hf
  rcases hf with rfl | rfl | rfl
  ·exact key [sp,sq] l1 rfl rfl (by decide)
  ·exact key [sp] l2 rfl rfl (by decide)
  ·exact key [] l3 rfl rfl (by decide)
 unfold ZfR;rw[if_neg,Zam hfun];obtain ⟨i,l1,l2,l3,hi,rfl⟩:=(hp.shape u hu).ex
 rintro (h | h)
 ·exact dup_no (l:=[sx,sy,sarr]) (by decide) h
 ·exact dup_no (l:=[sf,sg,sh]) (by decide) h
theorem shape_words {many:Nat} {u:Unit} (h:Shape many u):0<=Zao u/\Zao u<=6:=by obtain ⟨i,l1,l2,l3,hi,rfl⟩:=h.ex;simp only[Zao,sizes,List.map_cons,List.map_nil,List.sum_cons,List.sum_nil,List.length_cons,List.length_nil];omega
theorem Zim {many:Nat}:∀{p:List Unit},(∀u∈p,Shape many u)->0<=Zaj p/\Zaj p<=6*p.length
 | [],_=>by simp[Zaj]
 | u :: p,h=>by have h1:=shape_words (h u List.mem_cons_self);have h2:=Zim (p:=p) (λv hv=>h v (List.mem_cons_of_mem _ hv));simp only[Zaj,List.map_cons,List.sum_cons,List.length_cons] at h2 ⊢;omega
theorem Zh5 {many:Nat} {p:List Unit} (hp:Prog many p):p.length=many:=by have:=congrArg List.length hp.names;rw[List.length_map,List.length_take] at this;have h3:=hp.m;have h:Zb6.length=3:=rfl;omega
theorem prog_good {many:Nat} {p:List Unit} (hp:Prog many p):Za8 p=0:=by
 have hl:=Zh5 hp;have hm:=hp.m;have hw:=Zim hp.shape;have hu:Zag Zb7 p=0:=Zam (λu hu=>shape_form hm (hp.shape u hu));unfold Za8;rw[if_neg (by omega),if_neg (λh=>h hu),if_neg,if_neg (by omega)]
 ·exact Zam (λu hu=>prog_unitS hp hu)
 ·rw[hp.names];refine dup_no ?_;obtain ⟨h1,h3⟩:=hm;have:many=1\/many=2\/many=3:=by omega
  rcases this with rfl | rfl | rfl<;>decide
theorem Zgs (l:List Raw):Prog (manyP l) (ZbQ l):=by
 obtain ⟨k,hk,hl⟩:=Zbp l.length (many:=3) (by decide);have hm:manyP l=1+k:=by unfold manyP;rw[show (3:Int)=((3:Nat):Int) from rfl,hk];omega
 refine ⟨by omega,λu hu=>?_,?_⟩
 ·unfold ZbQ at hu;obtain ⟨i,hi,rfl⟩:=List.mem_map.1 hu;rw[List.mem_range] at hi;exact ⟨i,_,_,_,by omega,rfl⟩
 ·unfold ZbQ;rw[hm];have:k=0\/k=1\/k=2:=by omega
  rcases this with rfl | rfl | rfl<;>rfl
theorem shape_few {many:Nat} {u:Unit} (h:Shape many u):Zc0 u.funcs<=300:=by obtain ⟨i,l1,l2,l3,_,rfl⟩:=h.ex;have m1:=Zeg [sp,sq] many l1;have m2:=Zeg [sp] many l2;have m3:=Zeg [] many l3;simp only[Zc0,List.map_cons,List.map_nil,List.sum_cons,List.sum_nil];omega
theorem prog_few {many:Nat} {p:List Unit} (h:Prog many p):fewP p:=λu hu=>shape_few (h.shape u hu)
end Barb
