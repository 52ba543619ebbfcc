import Derived.Test.YtpjjkiidjofflaaGreatDoorWG1
import Derived.Test.YtpjjkiidjofflaaGreatDoorWDjk
import Derived.Test.YtpjjkiidjofflaaGreatDoorWDgk
import Derived.Test.YtpjjkiidjofflaaGreatDoorWG2
open Go Go.Proofs Go.Proofs.YtpjjkiidjofflaaGreatDoor
namespace Barb
open Go Go.Dm Go.Eng ZN
def gX (x:Expr):List GV:=[.int x.k,.int x.n,.str x.of,.str x.s,.sl 5 (x.args.map Expr.g)]
theorem ZlW (x:Expr):gX x=x.g:=(Expr.g_eq x).symm
theorem dJ {a b:Int} (h:a=b):D.g (.int a)=D.g (.int b):=by rw[h]
theorem Zq7 {α:Type} {l:List α} {k:Nat} (h:k < l.length) (z:α):l.getD k z=l[k]:=by simp[h]
theorem gX1 (a:Expr):[gX a]=[a].map Expr.g:=by simp[ZlW]
theorem gX2 (a b:Expr):[gX a,gX b]=[a,b].map Expr.g:=by simp[ZlW]
theorem ZoN {h:Zad} {x:Expr} {k n:Int} {of s:Str} (e:x=.mk k n of s []):Zbk (Is (.agg x.d)) h (.agg [.g (.int k),.g (.int n),.g (.str of),.g (.str s),.nils]):=by subst e;exact Zbl (.inr (.inr ⟨lk rfl,lk rfl,lk rfl,lk rfl,Zg0,trivial⟩))
theorem Ztk {h:Zad} {x:Expr} {k n:Int} {of s:Str} {args:List Expr} {i:Nat} {xs:List (List GV)} {t:TypeId} (e:x=.mk k n of s args) (hi:h[i]?=some (.row xs t 5)) (hx:xs=args.map Expr.g):Zbk (Is (.agg x.d)) h (.agg [.g (.int k),.g (.int n),.g (.str of),.g (.str s),.row i]):=by subst e;subst hx;refine Zbl (.inl ?_);simp only[conv,Yar,YaS,kp,hi];rfl
theorem Zih {h:Zad} {x:Expr} {k n:Int} {of s:Str} {args:List Expr} {xs:List (List GV)} (e:x=.mk k n of s args) (hx:xs=args.map Expr.g):Zbk (Is (.agg x.d)) h (.agg [.g (.int k),.g (.int n),.g (.str of),.g (.str s),.g (.sl 5 xs)]):=by subst e;subst hx;exact Zbl (.inl rfl)
end Barb
namespace ZN
open Go Go.Dm Go.Eng Go.RowKit Barb
theorem Zbr {h:Zad} {i:Nat} {xs:List (List GV)} {e:TypeId} {sz:Nat} {y:GV} (hi:h[i]?=some (.row xs e sz)) (hy:GV.sl sz xs=y):Zu7 h (.row i) y:=by unfold Zu7;simp only[hi];exact hy
end ZN
namespace Barb
open Go Go.Dm Go.Eng
abbrev sx:Str:=[120]
abbrev sy:Str:=[121]
abbrev sp:Str:=[112]
abbrev sq:Str:=[113]
abbrev sf:Str:=[102]
abbrev sg:Str:=[103]
abbrev sh:Str:=[104]
abbrev Zom:Str:=[97,114,114]
abbrev Zcf:List Str:=[[111,110,101],[116,119,111],[116,114,105]]
abbrev ZgE (n:Int):Expr:=.mk 1 n [] [] []
abbrev Zlh (s:Str):Expr:=.mk 2 0 [] s []
def ZrE (r:Raw):Expr:=ZgE (if Zar r.b 7=0 then [65535,256,40000,16].getD (Zar r.c 4).toNat 0 else Zar r.a 6)
def Zco (params:List Str):List Str:=[sx,sy]++params
def Zm7 (l:List Str) (n:Int):Str:=l.getD (Zar n l.length).toNat []
def Zor (n many:Int):Str:=Zcf.getD (Zar n many).toNat []
def Zed (params:List Str) (many:Int):Nat->List Raw->Int->Expr
 | 0,_,_=>ZgE 3
 | _+1,[],_=>ZgE 3
 | f+1,r :: rest,depth =>
  let a:=Zed params many f (rest.take (rest.length / 2)) (depth+1)
  let b:=Zed params many f (rest.drop (rest.length / 2)) (depth+1)
  let k:=if depth > 4 then Zar r.kind 9 else Zar r.kind 20
  if k < 4 then ZrE r
  else if k < 9 then Zlh (Zm7 (Zco params) r.a)
  else if k < 15 then .mk 5 (1+Zar r.a 10) [] [] [a,b]
  else if k < 17 then .mk 3 0 [] Zom [a]
  else if k=17 then .mk 4 0 [] sg [a]
  else if k=18 then .mk 4 0 (Zor r.a many) sf [a,b]
  else .mk 4 0 (Zor r.a many) sh []
def upP:Expr:=.mk 5 1 [] [] [Zlh sy,ZgE 1]
def ZjZ (r:Raw):Expr:=.mk 5 7 [] [] [Zlh sy,ZgE (Zar r.b 6)]
def ZeA (params:List Str) (many depth:Int) (rec:List Raw->Int->List Stmt) (r:Raw) (part:List Raw):List Stmt :=
 let x:=Zed params many part.length part 1
 let k:=Zar r.kind 12
 if k < 2 then [.mk 2 Zom [ZrE r,x] [] []]
 else if k=2 then [.mk 6 [] [x] [] []]
 else if k=3 then [.mk 5 [] [x] [] []]
 else if k < 6/\depth < 3 then [.mk 3 [] [x] (rec (part.take (part.length / 2)) (depth+1)) (rec (part.drop (part.length / 2)) (depth+1))]
 else if k=6/\depth < 2 then [.mk 1 sy [ZgE 0] [] [],.mk 4 [] [ZjZ r] (rec part (depth+2)++[.mk 1 sy [upP] [] []]) []]
 else [.mk 1 (Zm7 (Zco params) r.a) [x] [] []]
def ZeE (params:List Str) (many depth:Int) (rec:List Raw->Int->List Stmt):Nat->List Raw->List Stmt
 | 0,_=>[]
 | _+1,[]=>[]
 | n+1,r :: l=>ZeA params many depth rec r (l.take 6)++ZeE params many depth rec n (l.drop 6)
def Za2 (params:List Str) (many:Int):Nat->List Raw->Int->List Stmt
 | 0,_,_=>[]
 | f+1,l,depth=>ZeE params many depth (Za2 params many f) 4 l
def Zcl (params:List Str) (many:Int) (l:List Raw):List Stmt:=Za2 params many (l.length+1) l 1
def Zfb (l:List Raw) (many i:Nat):List Raw:=(l.take ((i+1)*l.length / many)).drop (i*l.length / many)
def Zh3 (l:List Raw) (many i:Nat):Unit :=
 let part:=Zfb l many i
 let third:=part.length / 3
 ⟨Zcf.getD i [],[sx,sy],[⟨Zom,2+i⟩],[⟨sf,true,[sp,sq],Zcl [sp,sq] many (part.take third)⟩,⟨sg,false,[sp],Zcl [sp] many ((part.take (2*third)).drop third)⟩,⟨sh,true,[],Zcl [] many (part.drop (2*third))⟩]⟩
def Zo2 (l:List Raw):Nat:=(1+Zar l.length 3).toNat
def Zb0 (l:List Raw):List Unit:=(List.range (Zo2 l)).map (Zh3 l (Zo2 l))
end Barb
namespace Barb
open Go Go.Dm Go.Eng ZN
abbrev Raw.d (r:Raw):List D:=[.g (.int r.kind),.g (.int r.a),.g (.int r.b),.g (.int r.c)]
end Barb
namespace ZN
open Go Go.Dm Go.Eng Go.RowKit Barb
theorem ZkF (r:Raw) (hr:r.I):CT Tryz.prog gl 57 [.agg r.d] (Is (.agg (ZrE r).d)):=by
 obtain ⟨_,ha,hb,hc⟩:=hr;have e:ZrE r=ZrE r:=rfl
 conv at e=>rhs;unfold ZrE
 refine enter hT hF hM Tryz.func57 rfl 19 rfl (by kernel_rfl) [.cell 2 132] rfl [.agg r.d] rfl _ ?_;refine Zae (.inl rfl) (ZaT r.a 6 ha (by decide)) ?_;refine Zae (.inl rfl) (ZaT r.b 7 hb (by decide)) ?_;refine ⟨λh=>?_,λh=>?_⟩
 ·rw[if_pos h] at e;refine ⟨[[.int 65535],[.int 256],[.int 40000],[.int 16]],rfl,rfl,⟨rfl,rfl,rfl,rfl,trivial⟩,?_⟩;obtain ⟨k,hk,hl⟩:=ZbR r.c (many:=4) (by decide);refine Zae (.inl rfl) (ZaT r.c 4 hc (by decide)) ?_;rw[show (4:Int)=((4:Nat):Int) from rfl,hk] at e;have hg:([[GV.int 65535],[.int 256],[.int 40000],[.int 16]]:List (List GV))[k]?=some [.int ([65535,256,40000,16].getD k 0)]:=by
   match k,hl with
   | 0,_=>rfl
   | 1,_=>rfl
   | 2,_=>rfl
   | 3,_=>rfl
  refine ⟨k,dJ hk,hl,_,hg,?_⟩;exact ⟨rfl,ZoN e⟩
 ·rw[if_neg h] at e;exact ⟨rfl,ZoN e⟩
set_option maxRecDepth 20000 in
set_option maxHeartbeats 2000000 in
theorem Zxd (params:List Str) (hp:params.length<=1000) (many:Nat) (hm:1<=many/\many<=3):∀(f:Nat),f<=4398046511104->∀(l:List Raw),l.length<=f->(∀r∈l,r.I)->∀depth:Int,0<=depth/\depth<=5 ->
  CT Tryz.prog gl 56 [.g (.sl 4 (l.map Raw.g)),.g (.sl 1 (params.map ZbP)),.g (.int many),.g (.int depth)] (Is (.agg (Zed params many f l depth).d)):=by
 intro f
 induction f with
 | zero =>intro _ l hl _ depth hd;have hl0:l=[]:=Ybm.1 (by omega);subst hl0;refine enter hT hF hM Tryz.func56 rfl 135 rfl (by kernel_rfl) [.cell 8 132] rfl [.g (.sl 4 (List.map Raw.g [])),.g (.sl 1 (params.map ZbP)),.g (.int many),.g (.int depth)] rfl _ ?_;exact ⟨λ_=>⟨rfl,ZoN rfl⟩,λh=>absurd rfl h⟩
 | succ f ih =>
  intro hf l hl hI depth hd
  match l,hl,hI with
  | [],_,_ =>refine enter hT hF hM Tryz.func56 rfl 135 rfl (by kernel_rfl) [.cell 8 132] rfl [.g (.sl 4 (List.map Raw.g [])),.g (.sl 1 (params.map ZbP)),.g (.int many),.g (.int depth)] rfl _ ?_;exact ⟨λ_=>⟨rfl,ZoN rfl⟩,λh=>absurd rfl h⟩
  | r :: rest,hl,hI =>
   obtain ⟨rk,ra,rb,rc⟩:=hI r Yac;have hrest:rest.length<=f:=by simpa using hl
   have hlr:(rest.map Raw.g).length=rest.length:=Yab _;have hIr:∀x∈rest,x.I:=λx hx=>hI x (Yad _ hx);have iha:=ih (by omega) (rest.take (rest.length / 2)) (by rw[Yan];omega) (λx hx=>hIr x (YaH hx)) (depth+1);have ihb:=ih (by omega) (rest.drop (rest.length / 2)) (by rw[Ya6];omega) (λx hx=>hIr x (YaU hx)) (depth+1);have e:Zed params many (f+1) (r :: rest) depth=Zed params many (f+1) (r :: rest) depth:=rfl
   conv at e=>rhs;unfold Zed
   dsimp only at e;generalize Zed params many f (rest.take (rest.length / 2)) (depth+1)=xa at iha e;generalize Zed params many f (rest.drop (rest.length / 2)) (depth+1)=xb at ihb e;rw[YbE] at iha;rw[YbF] at ihb;generalize Zed params many (f+1) (r :: rest) depth=out at e;have nm:=ZkF r ⟨rk,ra,rb,rc⟩;have hv:([sx,sy]++params).length=params.length+2:=by simp
   refine enter hT hF hM Tryz.func56 rfl 135 rfl (by kernel_rfl) [.cell 8 132] rfl [.g (.sl 4 (List.map Raw.g (r :: rest))),.g (.sl 1 (params.map ZbP)),.g (.int many),.g (.int depth)] rfl _ ?_;have h2:((rest.length:Int).tdiv 2)=((rest.length / 2:Nat):Int):=by rw[YbC (by omega)];omega
   have h2':(((rest.map Raw.g).length:Int).tdiv 2)=((rest.length / 2:Nat):Int):=by rw[hlr];exact h2
   refine ⟨λh=>absurd h (by simp;omega),λ_=>?_⟩;refine stepS ⟨0,_,rfl,rfl,Hold.mk ?_⟩;refine stepS ⟨1,rfl,by simp,Hold.mk ?_⟩;refine stepS ⟨by decide,(by show I64 (((rest.map Raw.g).length:Int).tdiv 2);rw[h2'];unfold I64;omega),rest.length / 2,dJ h2',(by show _<=(rest.map Raw.g).length;omega),Hold.mk ?_⟩;refine stepS ⟨by decide,(by show I64 (((rest.map Raw.g).length:Int).tdiv 2);rw[h2'];unfold I64;omega),rest.length / 2,dJ h2',(by show _<=(rest.map Raw.g).length;omega),Hold.mk ?_⟩;refine stepS (Zae (.inl rfl) (ZaT r.kind 20 rk (by decide)) (Hold.mk ?_));refine Zrt (ι:=Int) (λk=>[(1,.g (.sl 1 (params.map ZbP))),(2,.g (.int many)),(3,.g (.int depth)),(8,.ptr 0 0),(9,.ptr 1 0),(11,.g (.sl 4 ((rest.map Raw.g).take (rest.length / 2)))),(12,.g (.sl 4 ((rest.map Raw.g).drop (rest.length / 2)))),(13,.g (.int k))])
    (λ_=>[.blk [.g (.int 0),.g (.int 0),.g (.str []),.g (.str []),.nils] 132,.blk r.d 24]) (λk=>k=if depth > 4 then Zar r.kind 9 else Zar r.kind 20) (λe0 k hk=>?_) (λRj hRj=>?_)
   rotate_left
   ·refine ⟨λh4=>Zae (.inl rfl) (ZaT r.kind 9 rk (by decide)) (hRj (Zar r.kind 9) _ ⟨rfl,rfl,rfl,rfl,rfl,rfl,rfl,rfl,trivial⟩ (if_pos h4).symm),λh4=>hRj (Zar r.kind 20) _ ⟨rfl,rfl,rfl,rfl,rfl,rfl,rfl,rfl,trivial⟩ (if_neg h4).symm⟩
   rw[<- hk] at e;have k9:¬k < 9->depth+1<=5:=λh9=>by
    have:=Zcn r.kind (many:=9) (by decide);by_cases h4:depth > 4
    ·rw[if_pos h4] at hk;omega
    ·omega
   clear hk;have mch:(1:Int)<=many/\(many:Int)<=3:=by omega
   obtain ⟨ku,hku,hkl⟩:=ZbR r.a (many:=many) (by omega);have hun:Zor r.a many=Zcf.getD ku []:=by unfold Zor;rw[hku];rfl
   refine ⟨λg4=>?_,λg4=>?_⟩
   ·rw[if_pos g4] at e;exact Zae (.inl rfl) nm ⟨rfl,Zbl (.inl (by rw[e];rfl))⟩
   rw[if_neg g4] at e;refine ⟨λg9=>?_,λg9=>?_⟩
   ·rw[if_pos g9] at e;obtain ⟨kv,hkv,hkvl⟩:=ZbR r.a (many:=(Zco params).length) (by simp[Zco]);have hVl:(([[GV.str sx],[.str sy]]++params.map ZbP).length:Int)=((Zco params).length:Int):=by simp[Zco]
    refine ⟨[[.str sx],[.str sy]],rfl,rfl,⟨rfl,rfl,trivial⟩,?_⟩;refine ⟨⟨by simp[maxLen];omega,by simp;omega⟩,?_⟩;refine Zae (.inl rfl) (ZaT r.a _ ra (by rw[hVl];simp[Zco];omega)) ?_;refine ⟨kv,dJ (by rw[hVl];exact hkv),(by show kv < ((Zco params).map ZbP).length;rw[Yab];exact hkvl),?_⟩;refine ⟨_,(show ((Zco params).map ZbP)[kv]?=some [.str (Zco params)[kv]] from gm hkvl),?_⟩;refine ⟨rfl,ZoN (e.trans ?_)⟩;unfold Zm7;rw[hkv];exact congrArg Zlh (Zq7 hkvl [])
   rw[if_neg g9] at e;have hd5:=k9 g9;have iha':=iha ⟨by omega,hd5⟩;have ihb':=ihb ⟨by omega,hd5⟩;have hdw:IntKind.i64.wrap (depth+1)=depth+1:=I64.wrap (by unfold I64;omega);refine ⟨λg15=>?_,λg15=>?_⟩
   ·rw[if_pos g15] at e;have:=Zcn r.a (many:=10) (by decide);refine Zae (.inl rfl) (ZaT r.a 10 ra (by decide)) ⟨_,I64.wrap (by unfold I64;omega),_,hdw,Zae (.inl rfl) iha' ⟨_,hdw,Zae (.inl rfl) ihb' ?_⟩⟩;refine ⟨[gX xa,gX xb],rfl,rfl,⟨rfl,rfl,rfl,rfl,rfl,rfl,rfl,rfl,rfl,rfl,trivial⟩,?_⟩;exact ⟨rfl,Ztk e rfl (by simp only[ZlW];rfl)⟩
   rw[if_neg g15] at e;refine ⟨λg17=>?_,λg17=>?_⟩
   ·rw[if_pos g17] at e;refine ⟨_,hdw,Zae (.inl rfl) iha' ?_⟩;refine ⟨[gX xa],rfl,rfl,⟨rfl,rfl,rfl,rfl,rfl,trivial⟩,?_⟩;exact ⟨rfl,Ztk e rfl (by simp only[ZlW];rfl)⟩
   rw[if_neg g17] at e;refine ⟨λgg=>?_,λgg=>?_⟩
   ·rw[if_pos gg] at e;refine ⟨_,hdw,Zae (.inl rfl) iha' ?_⟩;refine ⟨[gX xa],rfl,rfl,⟨rfl,rfl,rfl,rfl,rfl,trivial⟩,?_⟩;exact ⟨rfl,Ztk e rfl (by simp only[ZlW];rfl)⟩
   rw[if_neg gg] at e;refine ⟨λgf=>?_,λgf=>?_⟩
   ·rw[if_pos gf,hun] at e;rcases (show ku=0\/ku=1\/ku=2 by omega) with rfl | rfl | rfl
    all_goals
     refine ⟨some 2000,rfl,?_⟩;refine ⟨_,_,.inl rfl,ZaT r.a many ra (by omega),rfl,?_⟩;refine ⟨_,dJ hku,(by decide),?_⟩;refine ⟨_,hdw,_,_,.inl rfl,iha',rfl,?_⟩;refine ⟨_,hdw,_,_,.inl rfl,ihb',rfl,?_⟩;refine ⟨[gX xa,gX xb],rfl,rfl,⟨rfl,rfl,rfl,rfl,rfl,rfl,rfl,rfl,rfl,rfl,trivial⟩,⟨_,rfl⟩,?_⟩;exact ⟨rfl,Ztk e rfl (gX2 _ _)⟩
   ·rw[if_neg gf,hun] at e;rcases (show ku=0\/ku=1\/ku=2 by omega) with rfl | rfl | rfl
    all_goals
     refine Zae (.inl rfl) (ZaT r.a many ra (by omega)) ?_;refine ⟨_,dJ hku,(by decide),?_⟩;exact ⟨rfl,ZoN e⟩
end ZN
namespace Barb
open Go Go.Dm Go.Eng ZN
theorem ZCO (k:Int) (s:Str) (xs:List Expr) (b e:List Stmt):Stmt.g (.mk k s xs b e)=[.int k,.str s,.sl 5 (xs.map Expr.g),.sl 5 (b.map Stmt.g),.sl 5 (e.map Stmt.g)]:=Stmt.g_eq _
theorem Zea {l:List Stmt} {k:Int} {s:Str} {xs:List Expr} {b e:List Stmt} {X:List (List GV)} (hX:X=xs.map Expr.g):l.map Stmt.g++[[.int k,.str s,.sl 5 X,.sl 5 (b.map Stmt.g),.sl 5 (e.map Stmt.g)]]=(l++[Stmt.mk k s xs b e]).map Stmt.g:=by subst hX;rw[Yai,List.map_singleton,ZCO]
theorem ZsY {params:List Str} {many depth:Int} {rec:List Raw->Int->List Barb.Stmt} (r:Raw) (part:List Raw):(ZeA params many depth rec r part).length<=2:=by
 unfold ZeA;simp only;split
 ·simp
 ·split
  ·simp
  ·split
   ·simp
   ·split
    ·simp
    ·split<;>simp
theorem ZmV {params:List Str} {many depth:Int} {rec:List Raw->Int->List Barb.Stmt}:∀(k:Nat) (l:List Raw),(ZeE params many depth rec k l).length<=2*k
 | 0,_=>Yax _
 | _+1,[]=>Yau _
 | k+1,r :: l=>by have h1:=ZsY (params:=params) (many:=many) (depth:=depth) (rec:=rec) r (l.take 6);have h2:=ZmV (params:=params) (many:=many) (depth:=depth) (rec:=rec) k (l.drop 6);simp only[ZeE,Yae];omega
theorem Zrm {params:List Str} {many depth:Int} (f:Nat) {l:List Raw} (_:l.length<=6):(Za2 params many f l depth).length<=8:=by
 cases f with
 | zero=>simp[Za2]
 | succ f=>exact ZmV 4 l
theorem ZCM:([[.int 5,.int 1,.str [],.str [],.sl 5 [gX (Zlh sy),gX (ZgE 1)]]]:List (List GV))=[upP].map Expr.g:=rfl
theorem Zzx (r:Raw):([[.int 5,.int 7,.str [],.str [],.sl 5 [gX (Zlh sy),gX (ZgE (Zar r.b 6))]]]:List (List GV))=[ZjZ r].map Expr.g:=rfl
theorem ZxQ {out sc:List Barb.Stmt} {r:Raw}:(out.map Stmt.g++[[.int 1,.str sy,.sl 5 [gX (ZgE 0)],.sl 5 [],.sl 5 []]])++[[.int 4,.str [],.sl 5 [[.int 5,.int 7,.str [],.str [],.sl 5 [gX (Zlh sy),gX (ZgE (Zar r.b 6))]]],.sl 5 (sc.map Stmt.g++[[.int 1,.str sy,.sl 5 [[.int 5,.int 1,.str [],.str [],.sl 5 [gX (Zlh sy),gX (ZgE 1)]]],.sl 5 [],.sl 5 []]]),.sl 5 []]] =
  (out++[Stmt.mk 1 sy [ZgE 0] [] [],Stmt.mk 4 [] [ZjZ r] (sc++[.mk 1 sy [upP] [] []]) []]).map Stmt.g:=by have e1:=Zea (l:=out) (k:=1) (s:=sy) (xs:=[ZgE 0]) (b:=[]) (e:=[]) (X:=[gX (ZgE 0)]) (gX1 _);have e2:=Zea (l:=sc) (k:=1) (s:=sy) (xs:=[upP]) (b:=[]) (e:=[]) ZCM;have e3:=Zea (l:=out++[Stmt.mk 1 sy [ZgE 0] [] []]) (k:=4) (s:=[]) (xs:=[ZjZ r]) (b:=sc++[.mk 1 sy [upP] [] []]) (e:=[]) (Zzx r);simp only[YaS] at e1 e2 e3;rw[e1,e2,e3,Yas];rfl
structure SL where
 n:Nat
 out:List Stmt
 rest:List Raw
end Barb
namespace ZN
open Go Go.Dm Go.Eng Go.RowKit Barb
set_option maxRecDepth 20000 in
set_option maxHeartbeats 8000000 in
theorem ZzI (params:List Str) (hp:params.length<=1000) (many:Nat) (hm:1<=many/\many<=3):∀(f:Nat),f<=4398046511104->∀(l:List Raw),l.length<=f->(∀r∈l,r.I)->∀depth:Int,1<=depth/\depth<=4 ->
  ∀Q:Out->Prop,(∀(h:Zad) (i:Nat),h[i]?=some (.row ((Za2 params many (f+1) l depth).map Stmt.g) 135 5)->Zbk Q h (.row i)) ->
  CT Tryz.prog gl 36 [.g (.sl 4 (l.map Raw.g)),.g (.sl 1 (params.map ZbP)),.g (.int many),.g (.int depth)] Q:=by
 intro f
 induction f with
 | zero =>
  intro _ l hl _ depth _ Q hQ;have hl0:l=[]:=Ybm.1 (by omega);subst hl0;refine enter hT hF hM Tryz.func36 rfl 157 rfl (by kernel_rfl) [.tmp 8] rfl [.g (.sl 4 (List.map Raw.g [])),.g (.sl 1 (params.map ZbP)),.g (.int many),.g (.int depth)] rfl _ ?_;refine ZaL (ι:=PUnit) (λ_=>[(0,.g (.sl 4 (List.map Raw.g []))),(9,.row 0),(10,.g (.int 0))]) (λ_=>[.row [] 135 5]) (λ_=>True) (λ_=>0)
   ⟨⟨⟩,[.nil 135 5],⟨rfl,.inl rfl,.inr ⟨lk rfl,.inr rfl,lk rfl,trivial⟩,rfl⟩,trivial⟩ ?_
  intro Rd hRd _ _;exact ⟨λh=>absurd h (by decide),λ_=>⟨rfl,hQ _ _ rfl⟩⟩
 | succ f ih =>
  intro hf l hl hI depth hd Q hQ;refine ZqM [24] hT hF hM Tryz.func36 rfl 157 rfl (by kernel_rfl) [.tmp 8] rfl [.g (.sl 4 (l.map Raw.g)),.g (.sl 1 (params.map ZbP)),.g (.int many),.g (.int depth)] rfl _ ?_;refine ZaL (ι:=SL) (λi=>[(0,.g (.sl 4 (i.rest.map Raw.g))),(9,.row 0),(10,.g (.int (i.n:Int)))]) (λi=>[.row (i.out.map Stmt.g) 135 5])
   (λi=>i.n<=4/\i.out.length<=8*i.n/\i.rest.length<=l.length/\(∀r∈i.rest,r.I)/\i.out++ZeE params many depth (Za2 params many (f+1)) (4 - i.n) i.rest=Za2 params many (f+1+1) l depth) (λi=>i.rest.length)
   ⟨⟨0,[],l⟩,[.nil 135 5],⟨rfl,.inl rfl,.inr ⟨lk rfl,.inr rfl,lk rfl,trivial⟩,rfl⟩,Yau _,Yau _,Yax _,hI,rfl⟩ ?_
  rintro Rd hRd ⟨n,out,rest⟩ ⟨hn,hol,hrl,hri,hfin⟩;dsimp only at hn hol hrl hri hfin;have fin:ZeE params many depth (Za2 params many (f+1)) (4 - n) rest=[]->out=Za2 params many (f+1+1) l depth:=λh=>by rw[h,YaF] at hfin;exact hfin
  refine ⟨λhlt=>⟨λh4=>?_,λh4=>⟨rfl,hQ _ _ (by rw[<- fin (by rw[show 4 - n=0 by have:¬(n:Int) < 4:=h4;omega];rfl)];rfl)⟩⟩,λhge=>⟨rfl,hQ _ _ (by rw[<- fin (by rw[show rest=[] from Ybm.1 (by have h0:¬(0:Int) < ((rest.map Raw.g).length:Nat):=hge;rw[Yab] at h0;omega)];cases 4 - n<;>rfl)];rfl)⟩⟩;have h4':n < 4:=by have:(n:Int) < 4:=h4;omega
  match rest,hrl,hri,hfin,hlt with
  | [],_,_,_,hlt=>exact absurd hlt (Int.lt_irrefl 0)
  | r :: tl,hrl,hri,hfin,hlt =>
  obtain ⟨rk,ra,rb,rc⟩:=hri r Yac;have hIt:∀x∈tl,x.I:=λx hx=>hri x (Yad _ hx);have hrl':tl.length+1<=l.length:=hrl;obtain ⟨hh,hhe⟩:∃hh:Nat,hh=min (tl.length+1) 7:=⟨_,rfl⟩;have lr:((r :: tl).map Raw.g).length=tl.length+1:=by simp
  have hmin:D.g (.int (if (7:Int) < (((r :: tl).map Raw.g).length:Nat) then (7:Int) else (((r :: tl).map Raw.g).length:Nat)))=D.g (.int (hh:Int)):=dJ (by rw[lr];split<;>omega);have hpart:(((r :: tl).map Raw.g).take hh).drop 1=(tl.take 6).map Raw.g:=by
   rw[hhe,<- YbE,<- YbF]
   congr 1
   obtain ⟨m,hm'⟩:∃m,min (tl.length+1) 7=m+1:=⟨min tl.length 6,by omega⟩;rw[hm',List.take_succ_cons,Ybf,YcG];by_cases h6:tl.length<=6
   ·rw[YaJ (by omega),YaJ h6]
   ·rw[show m=6 by omega]
  have hrest:((r :: tl).map Raw.g).drop hh=(tl.drop 6).map Raw.g:=by
   rw[hhe,<- YbF]
   congr 1
   obtain ⟨m,hm'⟩:∃m,min (tl.length+1) 7=m+1:=⟨min tl.length 6,by omega⟩;rw[hm',Ybf];by_cases h6:tl.length<=6
   ·rw[Ycn.2 (by omega),Ycn.2 h6]
   ·rw[show m=6 by omega]
  have hlp:(tl.take 6).length<=6/\(tl.take 6).length<=f:=by rw[Yan];omega
  have hIp:∀x∈tl.take 6,x.I:=λx hx=>hIt x (YaH hx);generalize hpt:tl.take 6=part at hpart hlp hIp;have hx:CT Tryz.prog gl 56 [.g (.sl 4 ((((r :: tl).map Raw.g).take hh).drop 1)),.g (.sl 1 (params.map ZbP)),.g (.int many),.g (.int 1)] (Is (.agg (Zed params many part.length part 1).d)):=by rw[hpart];exact Zxd params hp many hm part.length (by omega) part (Yax _) hIp 1 (by omega)
  have hst:ZeA params many depth (Za2 params many (f+1)) r part=ZeA params many depth (Za2 params many (f+1)) r part:=rfl
  conv at hst=>rhs;unfold ZeA
  dsimp only at hst;generalize Zed params many part.length part 1=x at hx hst;have hnext:ZeE params many depth (Za2 params many (f+1)) (4 - n) (r :: tl)=ZeA params many depth (Za2 params many (f+1)) r part++ZeE params many depth (Za2 params many (f+1)) (4 - (n+1)) (tl.drop 6):=by rw[show 4 - n=(4 - (n+1))+1 by omega,<- hpt];rfl
  rw[hnext,<- Yas] at hfin;generalize ZeA params many depth (Za2 params many (f+1)) r part=here at hst hfin;obtain ⟨kv,hkv,hkvl⟩:=ZbR r.a (many:=(Zco params).length) (by simp[Zco]);have hVl:(([[GV.str sx],[.str sy]]++params.map ZbP).length:Int)=((Zco params).length:Int):=by simp[Zco]
  have hvar:Zm7 (Zco params) r.a=(Zco params)[kv]:=by unfold Zm7;rw[hkv];exact Zq7 hkvl []
  rw[hvar] at hst;generalize hvn:(Zco params)[kv]=vn at hst;have hget:([[GV.str sx],[.str sy]]++params.map ZbP)[kv]?=some [.str vn]:=by rw[<- hvn];exact (show ((Zco params).map ZbP)[kv]?=some [.str (Zco params)[kv]] from gm hkvl)
  have next:∀(here':List Barb.Stmt),here=here'->here'.length<=8->(n+1<=4/\(out++here').length<=8*(n+1)/\(tl.drop 6).length<=l.length/\(∀r∈tl.drop 6,r.I)/\(out++here')++ZeE params many depth (Za2 params many (f+1)) (4 - (n+1)) (tl.drop 6)=Za2 params many (f+1+1) l depth):=λhere' he h8=>by subst he;exact ⟨by omega,by rw[Yae];omega,by rw[Ya6];omega,λx hx=>hIt x (YaU hx),hfin⟩
  have less:(tl.drop 6).length < (r :: tl).length:=by rw[Ya6,List.length_cons];omega
  refine ZBn ?_;refine ZoA (by rfl) ?_;refine ZoA (by rfl) ⟨0,_,rfl,rfl,Hold.mk ?_⟩;refine ZoA (by rfl) ⟨1,hh,rfl,hmin,by omega,(by show hh<=((r :: tl).map Raw.g).length;omega),Hold.mk ?_⟩;refine ZoA (by rfl) ⟨hh,hmin,(by show hh<=((r :: tl).map Raw.g).length;omega),Hold.mk ?_⟩;refine ZoA (by rfl) ⟨[[.str sx],[.str sy]],rfl,rfl,⟨rfl,rfl,trivial⟩,⟨by simp[maxLen];omega,by simp;omega⟩,Hold.mk ?_⟩;refine ZoA (by rfl) (Zae (.inl rfl) hx (Hold.mk ?_));refine ZAK (by rfl) (ι:=PUnit) (λ_=>[(0,.g (.sl 4 (((r :: tl).map Raw.g).drop hh))),(1,.g (.sl 1 (params.map ZbP))),(2,.g (.int many)),(3,.g (.int depth)),(9,.row 0),(10,.g (.int (n:Int))),(11,.ptr 1 0),(12,.g (.sl 4 ((((r :: tl).map Raw.g).take hh).drop 1))),(14,.ptr 4 0),(15,.ptr 6 0)])
   (λ_=>[.row (out.map Stmt.g) 135 5,.blk r.d 24,.dead,.row ([[GV.str sx],[.str sy]]++params.map ZbP) 9 1,.blk x.d 132,.row [gX x] 132 5,.blk [.g (.int 1),.g (.str vn),.row 5,.nils,.nils] 135]) (λ_=>True) (λe0 _ _=>?_) (λRj hRj=>?_)
  rotate_left
  ·refine ⟨some 9994,[12],rfl,?_⟩;refine ⟨_,_,.inl rfl,ZaT r.a _ ra (by rw[hVl];simp[Zco];omega),rfl,?_⟩;refine ⟨kv,dJ (by rw[hVl];exact hkv),(by show kv < ((Zco params).map ZbP).length;rw[Yab];exact hkvl),?_⟩;refine ⟨_,hget,?_⟩;refine ⟨[gX x],rfl,rfl,⟨rfl,rfl,rfl,rfl,rfl,trivial⟩,⟨_,rfl⟩,?_⟩;exact hRj ⟨⟩ _ ⟨rfl,rfl,rfl,rfl,rfl,rfl,rfl,rfl,rfl,rfl,trivial⟩ trivial
  refine Zae (.inl rfl) (ZaT r.kind 12 rk (by decide)) ?_;have k12:=Zcn r.kind (many:=12) (by decide);generalize Zar r.kind 12=k at hst k12;have num:=ZkF r ⟨rk,ra,rb,rc⟩;have hPl:((((r :: tl).map Raw.g).take hh).drop 1).length=part.length:=by rw[hpart,Yab]
  have hP2:(((((r :: tl).map Raw.g).take hh).drop 1).length:Int).tdiv 2=((part.length / 2:Nat):Int):=by rw[hPl,YbC (by omega)];omega
  refine ⟨λg2=>?_,λg2=>?_⟩
  ·rw[if_pos g2] at hst;refine ⟨none,rfl,?_⟩;refine ⟨_,_,.inl rfl,num,rfl,?_⟩;refine ⟨[gX (ZrE r),gX x],rfl,rfl,⟨rfl,rfl,rfl,rfl,rfl,rfl,rfl,rfl,rfl,rfl,trivial⟩,?_⟩;refine ⟨[[.int 2,.str Zom,.sl 5 [gX (ZrE r),gX x],.sl 5 [],.sl 5 []]],rfl,rfl,⟨rfl,rfl,Zbr rfl rfl,⟨5,rfl⟩,⟨5,rfl⟩,trivial⟩,?_⟩;refine ⟨⟨by simp[maxLen];omega,by simp;omega⟩,?_⟩;exact Hold.mk ⟨_,I64.wrap (by unfold I64;omega),hRd _ _ _ ⟨⟨n+1,out++[.mk 2 Zom [ZrE r,x] [] []],tl.drop 6⟩,[.old 9],⟨rfl,.inr ⟨⟨Zea (b:=[]) (e:=[]) (gX2 _ _),rfl,rfl⟩,trivial⟩,.inr ⟨lk (congrArg (λz=>D.g (.sl 4 z)) hrest),lk rfl,lkI (by push_cast;rfl),trivial⟩,rfl⟩,next _ hst (by simp),less⟩⟩
  rw[if_neg g2] at hst;refine ⟨λg3=>?_,λg3=>?_⟩
  ·rw[if_pos g3] at hst;refine ⟨[gX x],rfl,rfl,⟨rfl,rfl,rfl,rfl,rfl,trivial⟩,?_⟩;refine ⟨[[.int 6,.str [],.sl 5 [gX x],.sl 5 [],.sl 5 []]],rfl,rfl,⟨rfl,rfl,Zbr rfl rfl,⟨5,rfl⟩,⟨5,rfl⟩,trivial⟩,?_⟩;refine ⟨⟨by simp[maxLen];omega,by simp;omega⟩,?_⟩;exact Hold.mk ⟨_,I64.wrap (by unfold I64;omega),hRd _ _ _ ⟨⟨n+1,out++[.mk 6 [] [x] [] []],tl.drop 6⟩,[.old 9],⟨rfl,.inr ⟨⟨Zea (b:=[]) (e:=[]) (gX1 _),rfl,rfl⟩,trivial⟩,.inr ⟨lk (congrArg (λz=>D.g (.sl 4 z)) hrest),lk rfl,lkI (by push_cast;rfl),trivial⟩,rfl⟩,next _ hst (by simp),less⟩⟩
  rw[if_neg g3] at hst;refine ⟨λg4=>?_,λg4=>?_⟩
  ·rw[if_pos g4] at hst;refine ⟨[gX x],rfl,rfl,⟨rfl,rfl,rfl,rfl,rfl,trivial⟩,?_⟩;refine ⟨[[.int 5,.str [],.sl 5 [gX x],.sl 5 [],.sl 5 []]],rfl,rfl,⟨rfl,rfl,Zbr rfl rfl,⟨5,rfl⟩,⟨5,rfl⟩,trivial⟩,?_⟩;refine ⟨⟨by simp[maxLen];omega,by simp;omega⟩,?_⟩;exact Hold.mk ⟨_,I64.wrap (by unfold I64;omega),hRd _ _ _ ⟨⟨n+1,out++[.mk 5 [] [x] [] []],tl.drop 6⟩,[.old 9],⟨rfl,.inr ⟨⟨Zea (b:=[]) (e:=[]) (gX1 _),rfl,rfl⟩,trivial⟩,.inr ⟨lk (congrArg (λz=>D.g (.sl 4 z)) hrest),lk rfl,lkI (by push_cast;rfl),trivial⟩,rfl⟩,next _ hst (by simp),less⟩⟩
  rw[if_neg g4] at hst;refine ⟨λg6=>⟨λg7=>?_,λg7=>?_⟩,λg6=>?_⟩
  ·rw[if_pos ⟨g6,g7⟩] at hst;have hs1:CT Tryz.prog gl 36 [.g (.sl 4 (((((r :: tl).map Raw.g).take hh).drop 1).take (part.length / 2))),.g (.sl 1 (params.map ZbP)),.g (.int many),.g (.int (depth+1))] (Is (.g (.sl 5 ((Za2 params many (f+1) (part.take (part.length / 2)) (depth+1)).map Stmt.g)))):=by rw[hpart,<- YbE];exact ih (by omega) _ (by rw[Yan];omega) (λx hx=>hIp x (YaH hx)) (depth+1) (by omega) _ (λh i hi=>Zbl (.inl (by simp only[conv,kp,hi])))
   have hs2:CT Tryz.prog gl 36 [.g (.sl 4 (((((r :: tl).map Raw.g).take hh).drop 1).drop (part.length / 2))),.g (.sl 1 (params.map ZbP)),.g (.int many),.g (.int (depth+1))] (Is (.g (.sl 5 ((Za2 params many (f+1) (part.drop (part.length / 2)) (depth+1)).map Stmt.g)))):=by rw[hpart,<- YbF];exact ih (by omega) _ (by rw[Ya6];omega) (λx hx=>hIp x (YaU hx)) (depth+1) (by omega) _ (λh i hi=>Zbl (.inl (by simp only[conv,kp,hi])))
   generalize Za2 params many (f+1) (part.take (part.length / 2)) (depth+1)=sa at hs1 hst;generalize Za2 params many (f+1) (part.drop (part.length / 2)) (depth+1)=sb at hs2 hst;have hdw:IntKind.i64.wrap (depth+1)=depth+1:=I64.wrap (by unfold I64;omega);have hI2:I64 ((((((r :: tl).map Raw.g).take hh).drop 1).length:Int).tdiv 2):=by rw[hP2];unfold I64;omega
   refine ⟨some 2000,rfl,?_⟩;refine ⟨[gX x],rfl,rfl,⟨rfl,rfl,rfl,rfl,rfl,trivial⟩,⟨_,rfl⟩,?_⟩;refine ⟨by decide,hI2,part.length / 2,dJ hP2,by omega,?_⟩;refine ⟨_,hdw,_,_,.inl rfl,hs1,rfl,?_⟩;refine ⟨by decide,hI2,part.length / 2,dJ hP2,by omega,?_⟩;refine ⟨_,hdw,_,_,.inl rfl,hs2,rfl,?_⟩;refine ⟨[[.int 3,.str [],.sl 5 [gX x],.sl 5 (sa.map Stmt.g),.sl 5 (sb.map Stmt.g)]],rfl,rfl,⟨rfl,rfl,Zbr rfl rfl,rfl,rfl,trivial⟩,?_⟩;refine ⟨⟨by simp[maxLen];omega,by simp;omega⟩,?_⟩;exact Hold.mk ⟨_,I64.wrap (by unfold I64;omega),hRd _ _ _ ⟨⟨n+1,out++[.mk 3 [] [x] sa sb],tl.drop 6⟩,[.old 9],⟨rfl,.inr ⟨⟨Zea (b:=sa) (e:=sb) (gX1 _),rfl,rfl⟩,trivial⟩,.inr ⟨lk (congrArg (λz=>D.g (.sl 4 z)) hrest),lk rfl,lkI (by push_cast;rfl),trivial⟩,rfl⟩,next _ hst (by simp),less⟩⟩
  ·rw[if_neg (λh=>g7 h.2),if_neg (λh=>by omega)] at hst;refine ⟨λh=>absurd h (by omega),λ_=>?_⟩;refine ⟨[[.int 1,.str vn,.sl 5 [gX x],.sl 5 [],.sl 5 []]],rfl,rfl,⟨rfl,rfl,Zbr rfl rfl,⟨5,rfl⟩,⟨5,rfl⟩,trivial⟩,?_⟩;refine ⟨⟨by simp[maxLen];omega,by simp;omega⟩,?_⟩;exact Hold.mk ⟨_,I64.wrap (by unfold I64;omega),hRd _ _ _ ⟨⟨n+1,out++[.mk 1 vn [x] [] []],tl.drop 6⟩,[.old 8],⟨rfl,.inr ⟨⟨Zea (b:=[]) (e:=[]) (gX1 _),rfl,rfl⟩,trivial⟩,.inr ⟨lk (congrArg (λz=>D.g (.sl 4 z)) hrest),lk rfl,lkI (by push_cast;rfl),trivial⟩,rfl⟩,next _ hst (by simp),less⟩⟩
  rw[if_neg (λh=>g6 h.1)] at hst;refine ⟨λg8=>⟨λg9=>?_,λg9=>?_⟩,λg8=>?_⟩
  ·rw[if_pos ⟨g8,g9⟩] at hst;have hs3:CT Tryz.prog gl 36 [.g (.sl 4 ((((r :: tl).map Raw.g).take hh).drop 1)),.g (.sl 1 (params.map ZbP)),.g (.int many),.g (.int (depth+2))] (λo=>o=.ret (.row 0) [.row ((Za2 params many (f+1) part (depth+2)).map Stmt.g) 135 5]):=by rw[hpart];exact ih (by omega) _ hlp.2 hIp (depth+2) (by omega) _ (λh i hi=>Zti hi rfl rfl)
   have hsl:(Za2 params many (f+1) part (depth+2)).length<=8:=Zrm (f+1) hlp.1;generalize Za2 params many (f+1) part (depth+2)=sc at hs3 hst hsl;have lsc:(sc.map Stmt.g).length=sc.length:=Yab _;have hdw:IntKind.i64.wrap (depth+2)=depth+2:=I64.wrap (by unfold I64;omega);have hb6:=ZaT r.b 6 rb (by decide);refine ⟨[[.int 1,.int 0,.str [],.str [],.sl 5 []]],rfl,rfl,⟨rfl,rfl,rfl,rfl,⟨5,rfl⟩,trivial⟩,?_⟩;refine ⟨[[.int 1,.str sy,.sl 5 [gX (ZgE 0)],.sl 5 [],.sl 5 []]],rfl,rfl,⟨rfl,rfl,Zbr rfl rfl,⟨5,rfl⟩,⟨5,rfl⟩,trivial⟩,?_⟩;refine ⟨⟨by simp[maxLen];omega,by simp;omega⟩,?_⟩;refine ⟨[gX (Zlh sy),gX (ZgE 1)],rfl,rfl,⟨rfl,rfl,rfl,rfl,⟨5,rfl⟩,rfl,rfl,rfl,rfl,⟨5,rfl⟩,trivial⟩,?_⟩;refine Zae (.inl rfl) hb6 ?_;refine ⟨[gX (Zlh sy),gX (ZgE (Zar r.b 6))],rfl,rfl,⟨rfl,rfl,rfl,rfl,⟨5,rfl⟩,rfl,rfl,rfl,rfl,⟨5,rfl⟩,trivial⟩,?_⟩;refine Zcu [.old 9,.old 6,.old 11,.old 13] [(9,.row 0),(15,.ptr 1 0),(17,.ptr 2 0),(18,.ptr 3 0)]
    [.row (out.map Stmt.g++[[.int 1,.str sy,.sl 5 [gX (ZgE 0)],.sl 5 [],.sl 5 []]]) 135 5,.blk [.g (.int 1),.g (.str vn),.g (.sl 5 [gX x]),.nils,.nils] 135,
     .blk [.g (.int 5),.g (.int 1),.g (.str []),.g (.str []),.g (.sl 5 [gX (Zlh sy),gX (ZgE 1)])] 132,.blk [.g (.int 5),.g (.int 7),.g (.str []),.g (.str []),.g (.sl 5 [gX (Zlh sy),gX (ZgE (Zar r.b 6))])] 132]
    ?_ ?_
   ·exact ⟨rfl,.inl rfl,.inl rfl,rfl⟩
   refine ⟨some 4500,rfl,?_⟩;refine ⟨_,hdw,_,_,_,.inl rfl,hs3,rfl,?_⟩;refine ⟨[[.int 5,.int 1,.str [],.str [],.sl 5 [gX (Zlh sy),gX (ZgE 1)]]],rfl,rfl,⟨rfl,rfl,rfl,rfl,rfl,trivial⟩,?_⟩;refine ⟨[[.int 1,.str sy,.sl 5 [[.int 5,.int 1,.str [],.str [],.sl 5 [gX (Zlh sy),gX (ZgE 1)]]],.sl 5 [],.sl 5 []]],rfl,rfl,⟨rfl,rfl,rfl,⟨5,rfl⟩,⟨5,rfl⟩,trivial⟩,?_⟩;refine ⟨⟨by simp[maxLen];omega,by simp;omega⟩,?_⟩;refine ⟨[[.int 5,.int 7,.str [],.str [],.sl 5 [gX (Zlh sy),gX (ZgE (Zar r.b 6))]]],rfl,rfl,⟨rfl,rfl,rfl,rfl,rfl,trivial⟩,?_⟩;refine ⟨[[.int 4,.str [],.sl 5 [[.int 5,.int 7,.str [],.str [],.sl 5 [gX (Zlh sy),gX (ZgE (Zar r.b 6))]]],.sl 5 (sc.map Stmt.g++[[.int 1,.str sy,.sl 5 [[.int 5,.int 1,.str [],.str [],.sl 5 [gX (Zlh sy),gX (ZgE 1)]]],.sl 5 [],.sl 5 []]]),.sl 5 []]],rfl,rfl,⟨rfl,rfl,Zbr rfl rfl,Zbr rfl rfl,⟨5,rfl⟩,trivial⟩,?_⟩;refine ⟨⟨by simp[maxLen];omega,by simp;omega⟩,?_⟩;exact Hold.mk ⟨_,I64.wrap (by unfold I64;omega),hRd _ _ _ ⟨⟨n+1,out++[.mk 1 sy [ZgE 0] [] [],.mk 4 [] [ZjZ r] (sc++[.mk 1 sy [upP] [] []]) []],tl.drop 6⟩,[.old 8],⟨rfl,.inr ⟨⟨ZxQ,rfl,rfl⟩,trivial⟩,.inr ⟨lk (congrArg (λz=>D.g (.sl 4 z)) hrest),lk rfl,lkI (by push_cast;rfl),trivial⟩,rfl⟩,next _ hst (by simp),less⟩⟩
  ·rw[if_neg (λh=>g9 h.2)] at hst;refine ⟨[[.int 1,.str vn,.sl 5 [gX x],.sl 5 [],.sl 5 []]],rfl,rfl,⟨rfl,rfl,Zbr rfl rfl,⟨5,rfl⟩,⟨5,rfl⟩,trivial⟩,?_⟩;refine ⟨⟨by simp[maxLen];omega,by simp;omega⟩,?_⟩;exact Hold.mk ⟨_,I64.wrap (by unfold I64;omega),hRd _ _ _ ⟨⟨n+1,out++[.mk 1 vn [x] [] []],tl.drop 6⟩,[.old 8],⟨rfl,.inr ⟨⟨Zea (b:=[]) (e:=[]) (gX1 _),rfl,rfl⟩,trivial⟩,.inr ⟨lk (congrArg (λz=>D.g (.sl 4 z)) hrest),lk rfl,lkI (by push_cast;rfl),trivial⟩,rfl⟩,next _ hst (by simp),less⟩⟩
  ·rw[if_neg (λh=>g8 h.1)] at hst;refine ⟨[[.int 1,.str vn,.sl 5 [gX x],.sl 5 [],.sl 5 []]],rfl,rfl,⟨rfl,rfl,Zbr rfl rfl,⟨5,rfl⟩,⟨5,rfl⟩,trivial⟩,?_⟩;refine ⟨⟨by simp[maxLen];omega,by simp;omega⟩,?_⟩;exact Hold.mk ⟨_,I64.wrap (by unfold I64;omega),hRd _ _ _ ⟨⟨n+1,out++[.mk 1 vn [x] [] []],tl.drop 6⟩,[.old 8],⟨rfl,.inr ⟨⟨Zea (b:=[]) (e:=[]) (gX1 _),rfl,rfl⟩,trivial⟩,.inr ⟨lk (congrArg (λz=>D.g (.sl 4 z)) hrest),lk rfl,lkI (by push_cast;rfl),trivial⟩,rfl⟩,next _ hst (by simp),less⟩⟩
theorem Zmk (params:List Str) (hp:params.length<=1000) (many:Nat) (hm:1<=many/\many<=3) (l:List Raw) (hl:l.length<=4398046511103) (hI:∀r∈l,r.I) :
  CT Tryz.prog gl 36 [.g (.sl 4 (l.map Raw.g)),.g (.sl 1 (params.map ZbP)),.g (.int many),.g (.int 1)] (Is (.g (.sl 5 ((Zcl params many l).map Stmt.g)))) :=
 ZzI params hp many hm l.length (by omega) l (Yax _) hI 1 (by omega) _ (λh i hi=>Zbl (.inl (by simp only[conv,kp,hi];rfl)))
theorem ZzY (u:Barb.Unit):u.g=[.str u.name,.sl 1 (u.vars.map ZbP),.sl 2 (u.arrays.map Arr.g),.sl 4 (u.funcs.map Fun.g)]:=rfl
set_option maxRecDepth 20000 in
set_option maxHeartbeats 8000000 in
theorem Zu9 (l:List Raw) (hl:l.length*32<=140737488351232) (hI:∀r∈l,r.I) (Q:Out->Prop) (hQ:∀(h:Zad) (i:Nat),h[i]?=some (.row ((Zb0 l).map Unit.g) 44 4)->Zbk Q h (.row i)) :
  CT Tryz.prog gl 14 [.g (.sl 4 (l.map Raw.g))] Q:=by
 have ll:(l.map Raw.g).length=l.length:=Yab _;obtain ⟨k3,hk3,hk3l⟩:=ZbR l.length (many:=3) (by decide);obtain ⟨M,hMe⟩:∃M,M=Zo2 l:=⟨_,rfl⟩;have hMk:(M:Int)=1+Zar l.length 3:=by rw[hMe];unfold Zo2;rw[show (3:Int)=((3:Nat):Int) from rfl,hk3];omega
 have hm:1<=M/\M<=3:=by rw[show (3:Int)=((3:Nat):Int) from rfl,hk3] at hMk;omega
 have hpk:CT Tryz.prog gl 17 [.g (.int ((l.map Raw.g).length:Nat)),.g (.int 3)] (Is (.g (.int (Zar l.length 3)))):=by rw[ll];exact ZaT l.length 3 (by unfold I64;omega) (by decide)
 have hw:IntKind.i64.wrap (1+Zar l.length 3)=(M:Int):=by rw[<- hMk];exact I64.wrap (by unfold I64;omega)
 refine enter hT hF hM Tryz.func14 rfl 74 rfl (by kernel_rfl) [.tmp 2] rfl [.g (.sl 4 (l.map Raw.g))] rfl _ ?_;refine Zae (.inl rfl) hpk ⟨_,hw,?_⟩;refine ZaL (ι:=Nat) (λi=>[(0,.g (.sl 4 (l.map Raw.g))),(3,.g (.int (M:Int))),(4,.row 0),(12,.g (.int (M:Int))),(13,.g (.int (i:Int)))]) (λi=>[.row (((List.range i).map (Zh3 l M)).map Unit.g) 44 4]) (λi=>i<=M) (λi=>M - i)
  ⟨0,[.nil 44 4],⟨rfl,.inl rfl,.inr ⟨lk rfl,lk rfl,.inr rfl,lk rfl,lk rfl,trivial⟩,rfl⟩,Yau _⟩ ?_
 intro Rd hRd i hi;refine ⟨λhlt=>?_,λhge=>?_⟩
 rotate_left
 ·have hiM:i=M:=by omega
  exact ⟨rfl,hQ _ _ (by rw[hiM,hMe];rfl)⟩
 have hiM:i < M:=by omega
 have hmul:∀a:Nat,a<=4->a*l.length<=4*l.length:=λa ha=>YaQ _ ha;have h1:=hmul i (by omega);have h2:=hmul (i+1) (by omega);have c1:((i:Int)*((l.map Raw.g).length:Nat))=((i*l.length:Nat):Int):=by rw[ll];push_cast;rfl
 have c2:(((i:Int)+1)*((l.map Raw.g).length:Nat))=(((i+1)*l.length:Nat):Int):=by rw[ll];push_cast;rfl
 obtain ⟨lo,hlo⟩:∃lo,lo=i*l.length / M:=⟨_,rfl⟩;obtain ⟨hi',hhi⟩:∃hi',hi'=(i+1)*l.length / M:=⟨_,rfl⟩;have d1:((i:Int)*((l.map Raw.g).length:Nat)).tdiv M=(lo:Int):=by rw[c1,YbC (by omega),hlo];rfl
 have d2:(((i:Int)+1)*((l.map Raw.g).length:Nat)).tdiv M=(hi':Int):=by rw[c2,YbC (by omega),hhi];rfl
 have hle:lo<=hi':=by rw[hlo,hhi];exact Nat.div_le_div_right (YaQ _ (by omega))
 have hhl:hi'<=l.length:=by rw[hhi];have:(i+1)*l.length<=M*l.length:=YaQ _ hiM;exact YaB (Nat.div_le_div_right this) (by rw[Nat.mul_div_cancel_left _ (by omega)];exact Yax _)
 have hwi:IntKind.i64.wrap ((i:Int)+1)=(i:Int)+1:=I64.wrap (by unfold I64;omega);have hpart:((l.map Raw.g).take hi').drop lo=(Zfb l M i).map Raw.g:=by unfold Zfb;rw[YbF,YbE,<- hlo,<- hhi]
 refine ⟨none,rfl,?_⟩;refine ⟨by rw[c1];unfold I64;omega,by omega,by rw[d1];unfold I64;omega,?_⟩;refine ⟨_,hwi,by rw[c2];unfold I64;omega,by omega,by rw[d2];unfold I64;omega,?_⟩;refine ⟨lo,hi',dJ d1,dJ d2,hle,by rw[ll];exact hhl,?_⟩;have hpl:(((l.map Raw.g).take hi').drop lo).length=(Zfb l M i).length:=by rw[hpart,Yab]
 have hpln:(Zfb l M i).length<=l.length:=by unfold Zfb;rw[Ya6,Yan];omega
 have hIp:∀r∈Zfb l M i,r.I:=λr hr=>hI r (YaH (YaU hr));obtain ⟨th,hth⟩:∃th,th=(Zfb l M i).length / 3:=⟨_,rfl⟩;have d3:((((l.map Raw.g).take hi').drop lo).length:Int).tdiv 3=(th:Int):=by rw[hpl,YbC (by omega),hth];rfl
 have s1:CT Tryz.prog gl 36 [.g (.sl 4 ((((l.map Raw.g).take hi').drop lo).take th)),.g (.sl 1 [[.str sp],[.str sq]]),.g (.int M),.g (.int 1)] (Is (.g (.sl 5 ((Zcl [sp,sq] M ((Zfb l M i).take th)).map Stmt.g)))):=by rw[hpart,<- YbE];exact Zmk [sp,sq] (by simp) M hm _ (by rw[Yan];omega) (λr hr=>hIp r (YaH hr))
 have s2:CT Tryz.prog gl 36 [.g (.sl 4 (((((l.map Raw.g).take hi').drop lo).take (2*th)).drop th)),.g (.sl 1 [[.str sp]]),.g (.int M),.g (.int 1)] (Is (.g (.sl 5 ((Zcl [sp] M (((Zfb l M i).take (2*th)).drop th)).map Stmt.g)))):=by rw[hpart,<- YbE,<- YbF];exact Zmk [sp] (by simp) M hm _ (by rw[Ya6,Yan];omega) (λr hr=>hIp r (YaH (YaU hr)))
 have s3:CT Tryz.prog gl 36 [.g (.sl 4 ((((l.map Raw.g).take hi').drop lo).drop (2*th))),.g (.sl 1 []),.g (.int M),.g (.int 1)] (Is (.g (.sl 5 ((Zcl [] M ((Zfb l M i).drop (2*th))).map Stmt.g)))):=by rw[hpart,<- YbF];exact Zmk [] (by simp) M hm _ (by rw[Ya6];omega) (λr hr=>hIp r (YaU hr))
 have hun:Zh3 l M i=⟨Zcf.getD i [],[sx,sy],[⟨Zom,2+i⟩],[⟨sf,true,[sp,sq],Zcl [sp,sq] M ((Zfb l M i).take th)⟩,⟨sg,false,[sp],Zcl [sp] M (((Zfb l M i).take (2*th)).drop th)⟩,⟨sh,true,[],Zcl [] M ((Zfb l M i).drop (2*th))⟩]⟩:=by rw[hth];rfl
 generalize Zcl [sp,sq] M ((Zfb l M i).take th)=b1 at s1 hun;generalize Zcl [sp] M (((Zfb l M i).take (2*th)).drop th)=b2 at s2 hun;generalize Zcl [] M ((Zfb l M i).drop (2*th))=b3 at s3 hun;have hw2:IntKind.i64.wrap (2+(i:Int))=2+(i:Int):=I64.wrap (by unfold I64;omega);have hth3:th<=(((l.map Raw.g).take hi').drop lo).length:=by omega
 have hth2:2*th<=(((l.map Raw.g).take hi').drop lo).length:=by omega
 have hm2:(2:Int)*(th:Int)=((2*th:Nat):Int):=by push_cast;rfl
 have lout:(((List.range i).map (Zh3 l M)).map Unit.g).length=i:=by simp
 have hrow:((List.range i).map (Zh3 l M)).map Unit.g++[(Zh3 l M i).g]=((List.range (i+1)).map (Zh3 l M)).map Unit.g:=by rw[Ycl];simp
 have hug:(Zh3 l M i).g=[.str (Zcf.getD i []),.sl 1 [[.str sx],[.str sy]],.sl 2 [[.str Zom,.int (2+(i:Int))]],.sl 4 [[.str sf,.bool true,.sl 1 [[.str sp],[.str sq]],.sl 5 (b1.map Stmt.g)],[.str sg,.bool false,.sl 1 [[.str sp]],.sl 5 (b2.map Stmt.g)],[.str sh,.bool true,.sl 1 [],.sl 5 (b3.map Stmt.g)]]]:=by rw[hun,ZzY];simp only[Yar,YaS,Fun.g,Stmt.gs_map];rfl
 refine ⟨by decide,by rw[d3];unfold I64;omega,?_⟩;have i3:i=0\/i=1\/i=2:=by omega
 rcases i3 with rfl | rfl | rfl
 all_goals
  refine ⟨some 2500,rfl,?_⟩;refine ⟨_,rfl,(by decide),?_⟩;refine ⟨[[.str sx],[.str sy]],rfl,rfl,⟨rfl,rfl,trivial⟩,?_⟩;refine ⟨_,hw2,?_⟩;refine ⟨[[.str Zom,.int _]],rfl,rfl,⟨rfl,rfl,trivial⟩,?_⟩;refine ⟨[[.str sp],[.str sq]],rfl,rfl,⟨rfl,rfl,trivial⟩,?_⟩;refine ⟨th,dJ d3,hth3,?_⟩;refine ⟨[[.str sp],[.str sq]],rfl,rfl,⟨rfl,rfl,trivial⟩,?_⟩;refine ⟨_,_,.inl rfl,s1,rfl,?_⟩;refine ⟨[[.str sp]],rfl,rfl,⟨rfl,trivial⟩,?_⟩;refine ⟨(by rw[d3];unfold I64;omega),?_⟩;refine ⟨th,2*th,dJ d3,dJ (by rw[d3];exact hm2),by omega,hth2,?_⟩;refine ⟨[[.str sp]],rfl,rfl,⟨rfl,trivial⟩,?_⟩;refine ⟨_,_,.inl rfl,s2,rfl,?_⟩;refine ⟨(by rw[d3];unfold I64;omega),?_⟩;refine ⟨2*th,dJ (by rw[d3];exact hm2),hth2,?_⟩;refine ⟨_,_,(show ZdX [D.g (.sl 4 ((((l.map Raw.g).take hi').drop lo).drop (2*th))),.nils,.g (.int (M:Int)),.g (.int 1)] [D.g (.sl 4 ((((l.map Raw.g).take hi').drop lo).drop (2*th))),.g (.sl 1 []),.g (.int (M:Int)),.g (.int 1)] from .inr ⟨lk rfl,Zg0,lk rfl,lk rfl,trivial⟩),s3,rfl,?_⟩;refine ⟨[[.str sf,.bool true,.sl 1 [[.str sp],[.str sq]],.sl 5 (b1.map Stmt.g)],[.str sg,.bool false,.sl 1 [[.str sp]],.sl 5 (b2.map Stmt.g)],[.str sh,.bool true,.sl 1 [],.sl 5 (b3.map Stmt.g)]],rfl,rfl,⟨rfl,rfl,rfl,rfl,rfl,rfl,rfl,rfl,rfl,rfl,⟨1,rfl⟩,rfl,trivial⟩,?_⟩;refine ⟨[[.str _,.sl 1 [[.str sx],[.str sy]],.sl 2 [[.str Zom,.int _]],.sl 4 [[.str sf,.bool true,.sl 1 [[.str sp],[.str sq]],.sl 5 (b1.map Stmt.g)],[.str sg,.bool false,.sl 1 [[.str sp]],.sl 5 (b2.map Stmt.g)],[.str sh,.bool true,.sl 1 [],.sl 5 (b3.map Stmt.g)]]]],rfl,rfl,⟨rfl,rfl,rfl,rfl,trivial⟩,?_⟩;refine ⟨⟨by rw[lout];simp[maxLen],by rw[lout];simp⟩,?_⟩;refine ⟨_,hwi,?_⟩;refine hRd _ _ _ ⟨_,[.old 1],⟨rfl,.inr ⟨⟨?_,rfl,rfl⟩,trivial⟩,.inr ⟨lk rfl,lk rfl,lk rfl,lk rfl,lkI (by omega),trivial⟩,rfl⟩,hiM,by show M - (_+1) < M - _;omega⟩;exact (congrArg (λz=>_++[z]) hug.symm).trans hrow
end ZN
namespace Barb
open Go Go.Dm Go.Eng
theorem Zdu {s:Str} (h1:1<=s.length) (h8:s.length<=8) (hc:∀c∈s,97<=c.toNat/\c.toNat<=122) (hk:s ∉ ZBD):Zaw s :=
 ⟨⟨⟨h1,h8⟩,λ_ hj=>.inl (hc _ (Yah hj))⟩,hk⟩
theorem ZCC:Zaw sx:=Zdu (by decide) (by decide) (by decide) (by decide)
theorem ZzS:Zaw sy:=Zdu (by decide) (by decide) (by decide) (by decide)
theorem ZCD:Zaw sp:=Zdu (by decide) (by decide) (by decide) (by decide)
theorem ZCS:Zaw sq:=Zdu (by decide) (by decide) (by decide) (by decide)
theorem ZCG:Zaw sf:=Zdu (by decide) (by decide) (by decide) (by decide)
theorem ZCF:Zaw sg:=Zdu (by decide) (by decide) (by decide) (by decide)
theorem ZCE:Zaw sh:=Zdu (by decide) (by decide) (by decide) (by decide)
theorem Zt8:Zaw Zom:=Zdu (by decide) (by decide) (by decide) (by decide)
theorem ZlT:∀s∈Zcf,Zaw s:=by intro s hs;simp only[Zcf,Yav,YaT,or_false] at hs;rcases hs with rfl | rfl | rfl<;>exact Zdu (by decide) (by decide) (by decide) (by decide)
theorem Zpw {α:Type} {l:List α} {k:Nat} (h:k < l.length) (z:α):l.getD k z=l[k]:=by simp[h]
theorem ZiG {l:List Str} (h:l≠[]) (n:Int):Zm7 l n∈l:=by unfold Zm7;obtain ⟨k,hk,hl⟩:=ZbR n (many:=l.length) (YbU.2 h);rw[hk];show l.getD k []∈l;rw[Zpw hl];exact Yah hl
theorem Zli {many:Int} (h1:1<=many) (h3:many<=3) (n:Int):Zor n many∈Zcf.take many.toNat:=by
 obtain ⟨m,rfl⟩:∃m:Nat,many=(m:Int):=⟨many.toNat,by omega⟩;unfold Zor;obtain ⟨k,hk,hl⟩:=ZbR n (many:=m) (by omega);rw[hk];show Zcf.getD k []∈Zcf.take m;have h:k < (Zcf.take m).length:=by rw[Yan];show k < min m 3;omega
 have:Zcf.getD k []=(Zcf.take m)[k]:=by rw[List.getElem_take];exact Zpw (by show k < 3;omega) []
 rw[this];exact Yah h
structure PX (params:List Str) (many:Int):Prop where
 lo:1<=many
 hi:many<=3
 ids:∀s∈params,Zaw s
theorem ZsJ {params:List Str} {many:Int} (h:PX params many):∀s∈Zco params,Zaw s:=by
 intro s hs;simp only[Zco,List.cons_append,List.nil_append,Yav] at hs;rcases hs with rfl | rfl | hs
 ·exact ZCC
 ·exact ZzS
 ·exact h.ids s hs
theorem ZsL {many:Int} (h1:1<=many) (h3:many<=3) (n:Int):Zaw (Zor n many):=ZlT _ (YaH (Zli h1 h3 n))
theorem ZeI {n:Int} (h0:0<=n) (h1:n<=65535) (f:Nat):ZaN (f+1) (ZgE n)=0:=by unfold ZaN;rw[if_neg (by omega),if_neg (by simp),if_neg (λh=>h (.inl ⟨rfl,rfl,rfl,rfl⟩)),if_neg (by unfold ZaR;omega)];rfl
theorem ZlM {s:Str} (h:Zaw s) (f:Nat):ZaN (f+1) (Zlh s)=0:=by unfold ZaN;rw[if_neg (by omega),if_neg (by simp),if_neg (λh'=>h' (.inr (.inl ⟨rfl,rfl,h,rfl,rfl⟩))),if_neg (by unfold ZaR;omega)];rfl
theorem ZtL (r:Raw):∃n,ZrE r=ZgE n/\0<=n/\n<=65535:=by
 unfold ZrE;refine ⟨_,rfl,?_⟩;split
 ·obtain ⟨k,hk,hl⟩:=ZbR r.c (many:=4) (by decide);rw[show (4:Int)=((4:Nat):Int) from rfl,hk]
  match k,hl with
  | 0,_=>decide
  | 1,_=>decide
  | 2,_=>decide
  | 3,_=>decide
 ·have:=Zcn r.a (many:=6) (by decide);omega
theorem Zia {α:Type} {f:α->Int} {a b:α} (ha:f a=0) (hb:f b=0):Zah f [a,b]=0:=by simp[Zah,ha,hb]
theorem ZbG {α:Type} {f:α->Int} {a:α} (ha:f a=0):Zah f [a]=0:=by simp[Zah,ha]
theorem ZhN {params:List Str} {many:Int} (hp:PX params many):∀(f:Nat) (l:List Raw) (depth:Int) (n:Nat),1<=n->1<=depth->6<=depth+n->ZaN n (Zed params many f l depth)=0
 | 0,l,depth,n+1,_,_,_=>ZeI (by omega) (by omega) n
 | f+1,[],depth,n+1,_,_,_=>ZeI (by omega) (by omega) n
 | f+1,r :: rest,depth,n+1,_,hd,hn=>by
  have ka:=Zcn r.kind (many:=9) (by decide);have kb:=Zcn r.kind (many:=20) (by decide);have ra:=Zcn r.a (many:=10) (by decide);unfold Zed;simp only;generalize hk:(if depth > 4 then Zar r.kind 9 else Zar r.kind 20)=k;have hk9:¬k < 9->¬depth > 4:=λh h4=>by rw[if_pos h4] at hk;omega
  split
  ·obtain ⟨v,e,v0,v1⟩:=ZtL r;rw[e];exact ZeI v0 v1 n
  ·split
   ·exact ZlM (ZsJ hp _ (ZiG (by simp[Zco]) _)) n
   ·rename_i h4 h9;have hd4:=hk9 h9;have ia:=ZhN hp f (rest.take (rest.length / 2)) (depth+1) n (by omega) (by omega) (by omega);have ib:=ZhN hp f (rest.drop (rest.length / 2)) (depth+1) n (by omega) (by omega) (by omega);split
    ·unfold ZaN;rw[if_neg (by omega),if_neg (by simp),if_neg (λh'=>h' (.inr (.inr (.inr (.inr ⟨rfl,rfl,rfl,rfl⟩))))),if_neg (by unfold ZaR;omega)];exact Zia ia ib
    ·split
     ·unfold ZaN;rw[if_neg (by omega),if_neg (by simp),if_neg (λh'=>h' (.inr (.inr (.inl ⟨rfl,rfl,Zt8,rfl,rfl⟩)))),if_neg (by unfold ZaR;omega)];exact ZbG ia
     ·split
      ·unfold ZaN;rw[if_neg (by omega),if_neg (by simp),if_neg (λh'=>h' (.inr (.inr (.inr (.inl ⟨rfl,.inl rfl,ZCF,rfl⟩))))),if_neg (by unfold ZaR;omega)];exact ZbG ia
      ·split
       ·unfold ZaN;rw[if_neg (by omega),if_neg (by simp),if_neg (λh'=>h' (.inr (.inr (.inr (.inl ⟨rfl,.inr (ZsL hp.lo hp.hi _),ZCG,rfl⟩))))),if_neg (by unfold ZaR;omega)];exact Zia ia ib
       ·unfold ZaN;rw[if_neg (by omega),if_neg (by simp),if_neg (λh'=>h' (.inr (.inr (.inr (.inl ⟨rfl,.inr (ZsL hp.lo hp.hi _),ZCE,rfl⟩))))),if_neg (by unfold ZaR;omega)];rfl
theorem ZA4 {params:List Str} {many:Int} (hp:PX params many) (f:Nat) (l:List Raw):ZaN 12 (Zed params many f l 1)=0:=ZhN hp f l 1 12 (by decide) (by decide) (by decide)
theorem ZB2 (r:Raw):ZaN 12 (ZrE r)=0:=by obtain ⟨v,e,v0,v1⟩:=ZtL r;rw[e];exact ZeI v0 v1 11
theorem stE {f:List Stmt->Int} {k:Int} {s:Str} {xs:List Expr} {b e:List Stmt} (h1:1<=k/\k<=6) (h2:Zdr k s xs.length b.length e.length) (h3:Zah (ZaN 12) xs=0) (h4:f b=0) (h5:f e=0):ZcZ f (.mk k s xs b e)=0:=by unfold ZcZ;simp only;rw[if_neg (λh=>h h1),if_neg (λh=>h h2),if_neg (λh=>h h3),if_neg (λh=>h h4)];exact h5
theorem ZgL (n:Nat):Zan (n+1) []=0:=rfl
theorem ZhM {α:Type} {f:α->Int} {a b:List α} (ha:Zah f a=0) (hb:Zah f b=0):Zah f (a++b)=0 :=
 Zal (λx hx=>by
  rcases Yao.1 hx with h | h
  ·exact (Zak ha) x h
  ·exact (Zak hb) x h)
theorem Zln {s:Str} {x:Expr} (hs:Zaw s) (hx:ZaN 12 x=0) (n:Nat):ZcZ (Zan (n+1)) (.mk 1 s [x] [] [])=0 :=
 stE (by omega) ⟨⟨λ_=>hs,λh=>absurd h (by omega),λh=>absurd h (by omega),λ_=>rfl⟩,.inl rfl,.inl rfl⟩ (ZbG hx) (ZgL n) (ZgL n)
theorem ZCN:ZaN 12 upP=0:=by unfold upP ZaN;rw[if_neg (by omega),if_neg (by simp),if_neg (λh'=>h' (.inr (.inr (.inr (.inr ⟨rfl,rfl,rfl,rfl⟩))))),if_neg (by unfold ZaR;omega)];exact Zia (ZlM ZzS 10) (ZeI (by omega) (by omega) 10)
theorem Zzy (r:Raw):ZaN 12 (ZjZ r)=0:=by have:=Zcn r.b (many:=6) (by decide);unfold ZjZ ZaN;rw[if_neg (by omega),if_neg (by simp),if_neg (λh'=>h' (.inr (.inr (.inr (.inr ⟨rfl,rfl,rfl,rfl⟩))))),if_neg (by unfold ZaR;omega)];exact Zia (ZlM ZzS 10) (ZeI (by omega) (by omega) 10)
theorem Zrp {params:List Str} {many:Int} (hp:PX params many) {depth:Int} {n:Nat} {rec:List Raw->Int->List Stmt} (r:Raw) (part:List Raw) (h3:depth < 3->∀l,Zan (n+2) (rec l (depth+1))=0) (h2:depth < 2->∀l,Zan (n+2) (rec l (depth+2))=0) :
  Zah (ZcZ (Zan (n+2))) (ZeA params many depth rec r part)=0:=by
 have kb:=Zcn r.kind (many:=12) (by decide);have hx:=ZA4 hp part.length part;unfold ZeA;simp only;generalize Zar r.kind 12=k at kb;split
 ·exact ZbG (stE (by omega) ⟨⟨λ_=>Zt8,λh=>absurd h (by omega),λ_=>rfl,λh=>absurd rfl h⟩,.inl rfl,.inl rfl⟩ (Zia (ZB2 r) hx) (ZgL (n+1)) (ZgL (n+1)))
 ·split
  ·exact ZbG (stE (by omega) ⟨⟨λh=>absurd h (by omega),λ_=>rfl,λh=>absurd h (by omega),λ_=>rfl⟩,.inl rfl,.inl rfl⟩ (ZbG hx) (ZgL (n+1)) (ZgL (n+1)))
  ·split
   ·exact ZbG (stE (by omega) ⟨⟨λh=>absurd h (by omega),λ_=>rfl,λh=>absurd h (by omega),λ_=>rfl⟩,.inl rfl,.inl rfl⟩ (ZbG hx) (ZgL (n+1)) (ZgL (n+1)))
   ·split
    ·rename_i hd;exact ZbG (stE (by omega) ⟨⟨λh=>absurd h (by omega),λ_=>rfl,λh=>absurd h (by omega),λ_=>rfl⟩,.inr (.inl rfl),.inr rfl⟩ (ZbG hx) (h3 hd.2 _) (h3 hd.2 _))
    ·split
     ·rename_i hd;refine Zia (Zln ZzS (ZeI (by omega) (by omega) 11) (n+1)) (stE (by omega) ⟨⟨λh=>absurd h (by omega),λ_=>rfl,λh=>absurd h (by omega),λ_=>rfl⟩,.inr (.inr rfl),.inl rfl⟩ (ZbG (Zzy r)) ?_ (ZgL (n+1)));have:=h2 hd.2 part;exact ZhM this (ZbG (Zln ZzS ZCN n))
     ·exact ZbG (Zln (ZsJ hp _ (ZiG (by simp[Zco]) _)) hx (n+1))
theorem Zjj {params:List Str} {many depth:Int} {rec:List Raw->Int->List Stmt} {g:Stmt->Int} (h:∀r part,Zah g (ZeA params many depth rec r part)=0):∀(k:Nat) (l:List Raw),Zah g (ZeE params many depth rec k l)=0
 | 0,_=>rfl
 | _+1,[]=>rfl
 | k+1,r :: _=>ZhM (h r _) (Zjj h k _)
theorem Zgg {params:List Str} {many:Int} (hp:PX params many):∀(f:Nat) (l:List Raw) (depth:Int) (n:Nat),3<=n->1<=depth->7<=depth+n->Zan n (Za2 params many f l depth)=0
 | 0,_,_,n+3,_,_,_=>rfl
 | f+1,l,depth,n+3,_,h1,h7=>by unfold Za2 Zan;exact Zjj (λr part=>Zrp hp r part (λh3 l=>Zgg hp f l (depth+1) (n+2) (by omega) (by omega) (by omega)) (λh2 l=>Zgg hp f l (depth+2) (n+2) (by omega) (by omega) (by omega))) 4 l
theorem ZlF (n:Nat) (a b:List Stmt):Zam (n+1) (a++b)=Zam (n+1) a+Zam (n+1) b:=by simp only[Zam,Yae,Yai,Ybq];omega
theorem ZiI (n:Nat) (k:Int) (s:Str) (xs:List Expr) (b e:List Stmt):Zam (n+1) [.mk k s xs b e]=1+(Zam n b+Zam n e):=by simp[Zam,Zja]
theorem ZeG (n:Nat):Zam n []=0:=by cases n<;>simp[Zam]
theorem Zff (n:Nat) (k:Int) (s:Str) (xs:List Expr):Zam n [.mk k s xs [] []]<=1:=by
 cases n with
 | zero=>simp[Zam]
 | succ n=>rw[ZiI,ZeG];omega
theorem ZvN {params:List Str} {many depth:Int} {rec:List Raw->Int->List Stmt} (r:Raw) {l:List Raw} (h:l.length<=6) (k:Nat):ZeE params many depth rec (k+1) (r :: l)=ZeA params many depth rec r (l.take 6):=by
 have:l.drop 6=[]:=Ycn.2 h;unfold ZeE;rw[this];cases k<;>simp[ZeE]
theorem Zhm {params:List Str} {many depth:Int} {rec:List Raw->Int->List Stmt} (r:Raw) (part:List Raw) (n:Nat) (c b:Int) (h3:depth < 3->Zam n (rec (part.take (part.length / 2)) (depth+1))+Zam n (rec (part.drop (part.length / 2)) (depth+1))<=c) (h2:depth < 2->Zam n (rec part (depth+2))<=b) (hc:0<=c) (hb:depth < 2->b+3<=c+1) :
  Zam (n+1) (ZeA params many depth rec r part)<=c+1:=by
 unfold ZeA;simp only;split
 ·have:=Zff (n+1) 2 Zom [ZrE r,Zed params many part.length part 1];omega
 ·split
  ·have:=Zff (n+1) 6 [] [Zed params many part.length part 1];omega
  ·split
   ·have:=Zff (n+1) 5 [] [Zed params many part.length part 1];omega
   ·split
    ·rename_i hd;rw[ZiI];have:=h3 hd.2;omega
    ·split
     ·rename_i hd;rw[show ∀a b:Stmt,[a,b]=[a]++[b] from λ_ _=>rfl,ZlF,ZiI (e:=[]),ZiI,ZeG];have h4:=h2 hd.2;have h5:=hb hd.2;have h6:Zam n (rec part (depth+2)++[.mk 1 sy [upP] [] []])<=b+1:=by
       cases n with
       | zero=>simp only[Zam] at h4 ⊢;omega
       | succ n =>rw[ZlF];have:=Zff (n+1) 1 sy [upP];omega
      omega
     ·have:=Zff (n+1) 1 (Zm7 (Zco params) r.a) [Zed params many part.length part 1];omega
theorem ZmU {params:List Str} {many depth:Int} {rec:List Raw->Int->List Stmt} (n:Nat) {c:Int} (hc:0<=c) (hs:∀r part,part.length<=6->Zam (n+1) (ZeA params many depth rec r part)<=c):∀(k:Nat) (l:List Raw),Zam (n+1) (ZeE params many depth rec k l)<=k*c
 | 0,_=>by unfold ZeE;rw[ZeG];simp
 | k+1,[]=>by unfold ZeE;rw[ZeG];exact Int.mul_nonneg (by omega) hc
 | k+1,r :: l=>by unfold ZeE;rw[ZlF];have h1:=hs r (l.take 6) (by rw[Yan];omega);have h2:=ZmU n hc hs k (l.drop 6);rw[show ((k+1:Nat):Int)*c=k*c+c from by push_cast;rw[Int.add_mul,Int.one_mul]];omega
theorem Zks {params:List Str} {many depth:Int} {f:Nat} (n:Nat) {l:List Raw} (h:l.length<=6) (c:Int) (hc:0<=c) (hs:∀r part,part.length<=6->Zam (n+1) (ZeA params many depth (Za2 params many f) r part)<=c):Zam (n+1) (Za2 params many (f+1) l depth)<=c:=by
 unfold Za2
 match l,h with
 | [],_=>unfold ZeE;rw[ZeG];exact hc
 | r :: l,h=>rw[ZvN r (by simp at h;omega)];exact hs r _ (by rw[Yan];omega)
theorem ZtS (params:List Str) (many:Int) (f n:Nat) (l:List Raw) {depth:Int} (hd:3<=depth) (h:l.length<=6):Zam n (Za2 params many f l depth)<=1:=by
 match n,f with
 | 0,_=>simp[Zam]
 | n+1,0=>unfold Za2;rw[ZeG];omega
 | n+1,f+1=>exact Zks n h 1 (by omega) (λr part _=>Zhm r part n 0 0 (λh=>absurd h (by omega)) (λh=>absurd h (by omega)) (by omega) (λh=>absurd h (by omega)))
theorem Zxw (params:List Str) (many:Int) (f n:Nat) (l:List Raw) (h:l.length<=6):Zam n (Za2 params many f l 2)<=3:=by
 match n,f with
 | 0,_=>simp[Zam]
 | n+1,0=>unfold Za2;rw[ZeG];omega
 | n+1,f+1 =>refine Zks n h 3 (by omega) (λr part hp=>Zhm r part n 2 0 (λ_=>?_) (λh=>absurd h (by omega)) (by omega) (λh=>absurd h (by omega)));have h1:=ZtS params many f n (part.take (part.length / 2)) (depth:=2+1) (by omega) (by rw[Yan];omega);have h2:=ZtS params many f n (part.drop (part.length / 2)) (depth:=2+1) (by omega) (by rw[Ya6];omega);omega
theorem Zet (params:List Str) (many:Int) (l:List Raw):Zam 12 (Zcl params many l)<=28:=by
 unfold Zcl Za2;refine ZmU 11 (c:=7) (by omega) (λr part hp=>Zhm r part 11 6 1 (λ_=>?_) (λ_=>?_) (by omega) (λ_=>by omega)) 4 l
 ·have h1:=Zxw params many l.length 11 (part.take (part.length / 2)) (by rw[Yan];omega);have h2:=Zxw params many l.length 11 (part.drop (part.length / 2)) (by rw[Ya6];omega);have e:(1:Int)+1=2:=rfl;rw[e];omega
 ·exact ZtS params many l.length 11 part (by omega) hp
theorem ZjY {params:List Str} {many:Int} (hp:PX params many) (l:List Raw):Zan 12 (Zcl params many l)=0:=Zgg hp _ l 1 12 (by omega) (by omega) (by omega)
structure Shape (many:Nat) (u:Unit):Prop where
 ex:∃(i:Nat) (l1 l2 l3:List Raw),i < 3/\u=⟨Zcf.getD i [],[sx,sy],[⟨Zom,2+i⟩],[⟨sf,true,[sp,sq],Zcl [sp,sq] many l1⟩,⟨sg,false,[sp],Zcl [sp] many l2⟩,⟨sh,true,[],Zcl [] many l3⟩]⟩
theorem px2 {many:Nat} (h:1<=many/\many<=3):PX [sp,sq] many:=⟨by omega,by omega,λs hs=>by
 simp only[Yav,YaT,or_false] at hs;rcases hs with rfl | rfl
 ·exact ZCD
 ·exact ZCS⟩
theorem px1 {many:Nat} (h:1<=many/\many<=3):PX [sp] many:=⟨by omega,by omega,λs hs=>by
 simp only[Yav,YaT,or_false] at hs;subst hs;exact ZCD⟩
theorem px0 {many:Nat} (h:1<=many/\many<=3):PX [] many:=⟨by omega,by omega,λs hs=>by simp at hs⟩
theorem Zrs {many:Nat} (hm:1<=many/\many<=3) {u:Unit} (h:Shape many u):Zcg u=0:=by
 obtain ⟨i,l1,l2,l3,hi,rfl⟩:=h.ex;have hu:Zaw (Zcf.getD i []):=ZlT _ (by rw[Zpw (show i < Zcf.length from hi)];exact Yah _);have f1:ZlX ⟨sf,true,[sp,sq],Zcl [sp,sq] many l1⟩=0:=ZiP ZCG (by simp) (px2 hm).ids (ZjY (px2 hm) l1);have f2:ZlX ⟨sg,false,[sp],Zcl [sp] many l2⟩=0:=ZiP ZCF (by simp) (px1 hm).ids (ZjY (px1 hm) l2);have f3:ZlX ⟨sh,true,[],Zcl [] many l3⟩=0:=ZiP ZCE (by simp) (px0 hm).ids (ZjY (px0 hm) l3);have m1:=Zet [sp,sq] many l1;have m2:=Zet [sp] many l2;have m3:=Zet [] many l3;have n1:=Zbh 12 (Zcl [sp,sq] many l1);have n2:=Zbh 12 (Zcl [sp] many l2);have n3:=Zbh 12 (Zcl [] many l3);have hN:Zdg [⟨sf,true,[sp,sq],Zcl [sp,sq] many l1⟩,⟨sg,false,[sp],Zcl [sp] many l2⟩,⟨sh,true,[],Zcl [] many l3⟩]=Zam 12 (Zcl [sp,sq] many l1)+(Zam 12 (Zcl [sp] many l2)+Zam 12 (Zcl [] many l3)):=by simp[Zdg]
 unfold Zcg;simp only;rw[if_neg (λh=>h hu),if_neg (by simp),if_neg,if_neg,if_neg,if_neg]
 ·rw[hN,I64.wrap (by unfold I64;omega)];omega
 ·simp[Zah,f1,f2,f3]
 ·have:Zoa ⟨Zom,2+i⟩=0:=by unfold Zoa;rw[if_neg (λh=>h Zt8),if_neg (by show ¬¬(1<=(2+(i:Int))/\2+(i:Int)<=10);omega)]
  simp[Zah,this]
 ·have hx:ZdL sx=0:=by unfold ZdL;rw[if_pos ZCC]
  have hy:ZdL sy=0:=by unfold ZdL;rw[if_pos ZzS]
  simp[Zah,hx,hy]
structure Sees2 (params:List Str) (many:Int) (p:List Unit) (u:Unit) (f:Fun):Prop where
 vars:∀s∈Zco params,Zi5 u f s
 arr:ZiU u Zom
 g:Za1 p u [] sg 1=0
 f:∀s∈Zcf.take many.toNat,Za1 p u s sf 2=0
 h:∀s∈Zcf.take many.toNat,Za1 p u s sh 0=0
 lo:1<=many
 hi:many<=3
section
variable {params:List Str} {many:Int} {p:List Unit} {u:Unit} {fn:Fun}
theorem ZjN {k n:Int} {of s:Str} (h:Za3 p u fn k of s 0=0):ZbF p u fn (.mk k n of s [])=0:=by simp only[ZbF,List.length_nil,h,Zd4];rfl
theorem ZnL {k n:Int} {of s:Str} {a:Expr} (h:Za3 p u fn k of s 1=0) (ha:ZbF p u fn a=0):ZbF p u fn (.mk k n of s [a])=0:=by simp only[ZbF,List.length_cons,List.length_nil,YaA,h,Zd4,ha];rfl
theorem Zha {k n:Int} {of s:Str} {a b:Expr} (h:Za3 p u fn k of s 2=0) (ha:ZbF p u fn a=0) (hb:ZbF p u fn b=0):ZbF p u fn (.mk k n of s [a,b])=0:=by simp only[ZbF,List.length_cons,List.length_nil,YaA,Nat.reduceAdd,h,Zd4,ha,hb];rfl
theorem ZvK {k:Int} {of s:Str} {m:Nat} (h2:k≠2) (h3:k≠3) (h4:k≠4):Za3 p u fn k of s m=0:=by unfold Za3;rw[if_neg (by omega),if_neg h4]
theorem ZAi {of s:Str} {m:Nat} (h:Zi5 u fn s):Za3 p u fn 2 of s m=0:=by unfold Za3;rw[if_neg (λh'=>by rcases h' with h' | h';exact h'.2 h;exact absurd h'.1 (by omega)),if_neg (by omega)]
theorem ZAj {of s:Str} {m:Nat} (h:ZiU u s):Za3 p u fn 3 of s m=0:=by unfold Za3;rw[if_neg (λh'=>by rcases h' with h' | h';exact absurd h'.1 (by omega);exact h'.2 h),if_neg (by omega)]
theorem Ztb {of s:Str} {m:Nat} (h:Za1 p u of s m=0):Za3 p u fn 4 of s m=0:=by unfold Za3;rw[if_neg (by omega),if_pos rfl];exact h
theorem ZyM (n:Int):ZbF p u fn (ZgE n)=0:=ZjN (ZvK (by omega) (by omega) (by omega))
theorem ZBK {s:Str} (h:Zi5 u fn s):ZbF p u fn (Zlh s)=0:=ZjN (ZAi h)
theorem Zgt (hs:Sees2 params many p u fn):∀(f:Nat) (l:List Raw) (depth:Int),ZbF p u fn (Zed params many f l depth)=0
 | 0,_,_=>ZyM 3
 | _+1,[],_=>ZyM 3
 | f+1,r :: rest,depth=>by
  have ia:=Zgt hs f (rest.take (rest.length / 2)) (depth+1);have ib:=Zgt hs f (rest.drop (rest.length / 2)) (depth+1);unfold Zed;simp only;generalize (if depth > 4 then Zar r.kind 9 else Zar r.kind 20)=k;split
  ·exact ZyM _
  ·split
   ·exact ZBK (hs.vars _ (ZiG (by simp[Zco]) _))
   ·split
    ·exact Zha (ZvK (by omega) (by omega) (by omega)) ia ib
    ·split
     ·exact ZnL (ZAj hs.arr) ia
     ·split
      ·exact ZnL (Ztb hs.g) ia
      ·split
       ·exact Zha (Ztb (hs.f _ (Zli hs.lo hs.hi _))) ia ib
       ·exact ZjN (Ztb (hs.h _ (Zli hs.lo hs.hi _)))
theorem stS {k:Int} {s:Str} {xs:List Expr} {b e:List Stmt} (h1:k=1->Zi5 u fn s) (h2:k=2->ZiU u s) (hx:Zah (ZbF p u fn) xs=0) (hb:Zah (ZdW p u fn) b=0) (he:Zah (ZdW p u fn) e=0):ZdW p u fn (.mk k s xs b e)=0:=by simp only[ZdW];rw[if_neg (λh=>by rcases h with h | h;exact h.2 (h1 h.1);exact h.2 (h2 h.1)),ZbH,ZaS,ZaS,if_neg (λh=>h hx),if_neg (λh=>h hb)];exact he
theorem Zoz (hs:Sees2 params many p u fn) {depth:Int} {rec:List Raw->Int->List Stmt} (hr:∀l d,Zah (ZdW p u fn) (rec l d)=0) (r:Raw) (part:List Raw):Zah (ZdW p u fn) (ZeA params many depth rec r part)=0:=by
 have hx:=Zgt hs part.length part 1;have hy:Zi5 u fn sy:=hs.vars _ (by simp[Zco]);have n0:Zah (ZdW p u fn) []=0:=rfl;unfold ZeA;simp only;generalize Zar r.kind 12=k;split
 ·exact ZbG (stS (λh=>absurd h (by omega)) (λ_=>hs.arr) (Zia (ZyM _) hx) n0 n0)
 ·split
  ·exact ZbG (stS (λh=>absurd h (by omega)) (λh=>absurd h (by omega)) (ZbG hx) n0 n0)
  ·split
   ·exact ZbG (stS (λh=>absurd h (by omega)) (λh=>absurd h (by omega)) (ZbG hx) n0 n0)
   ·split
    ·exact ZbG (stS (λh=>absurd h (by omega)) (λh=>absurd h (by omega)) (ZbG hx) (hr _ _) (hr _ _))
    ·split
     ·refine Zia (stS (λ_=>hy) (λh=>absurd h (by omega)) (ZbG (ZyM 0)) n0 n0) (stS (λh=>absurd h (by omega)) (λh=>absurd h (by omega)) (ZbG ?_) ?_ n0)
      ·exact Zha (ZvK (by omega) (by omega) (by omega)) (ZBK hy) (ZyM _)
      ·exact ZhM (hr _ _) (ZbG (stS (λ_=>hy) (λh=>absurd h (by omega)) (ZbG (Zha (ZvK (by omega) (by omega) (by omega)) (ZBK hy) (ZyM _))) n0 n0))
     ·exact ZbG (stS (λ_=>hs.vars _ (ZiG (by simp[Zco]) _)) (λh=>absurd h (by omega)) (ZbG hx) n0 n0)
theorem Zry {depth:Int} {rec:List Raw->Int->List Stmt} {g:Stmt->Int} (h:∀r part,Zah g (ZeA params many depth rec r part)=0):∀(k:Nat) (l:List Raw),Zah g (ZeE params many depth rec k l)=0:=Zjj h
theorem Zh4 (hs:Sees2 params many p u fn):∀(f:Nat) (l:List Raw) (depth:Int),Zah (ZdW p u fn) (Za2 params many f l depth)=0
 | 0,_,_=>rfl
 | f+1,l,depth=>by unfold Za2;exact Zry (λr part=>Zoz hs (λl d=>Zh4 hs f l d) r part) 4 l
end
structure Prog (many:Nat) (p:List Unit):Prop where
 m:1<=many/\many<=3
 shape:∀u∈p,Shape many u
 names:p.map Unit.name=Zcf.take many
theorem Zs6 {many:Nat} {u:Unit} (h:Shape many u):ZiU u Zom:=by obtain ⟨i,l1,l2,l3,hi,rfl⟩:=h.ex;exact ⟨_,Yay.2 rfl,rfl⟩
theorem Zrr {many:Nat} {u:Unit} (h:Shape many u):u.vars=[sx,sy]:=by obtain ⟨i,l1,l2,l3,hi,rfl⟩:=h.ex;rfl
theorem Zyg {many:Nat} {u:Unit} (h:Shape many u) (p:List Unit):Za1 p u [] sg 1=0:=by obtain ⟨i,l1,l2,l3,hi,rfl⟩:=h.ex;unfold Za1;rw[if_pos rfl];rfl
theorem Zyh {many:Nat} {u:Unit} (h:Shape many u) (of:Str):calledIn u of sf 2=0:=by obtain ⟨i,l1,l2,l3,hi,rfl⟩:=h.ex;unfold calledIn;show (if of≠[]/\true=false then (5:Int) else if (2:Nat)≠2 then 7 else 0)=0;rw[if_neg (by simp),if_neg (by simp)]
theorem Zyf {many:Nat} {u:Unit} (h:Shape many u) (of:Str):calledIn u of sh 0=0:=by obtain ⟨i,l1,l2,l3,hi,rfl⟩:=h.ex;unfold calledIn;show (if of≠[]/\true=false then (5:Int) else if (0:Nat)≠0 then 7 else 0)=0;rw[if_neg (by simp),if_neg (by simp)]
theorem Zjn {many:Nat} {p:List Unit} (hp:Prog many p) {s:Str} (hs:s∈Zcf.take many) (u:Unit) (x:Str) (m:Nat) (h:∀v,Shape many v->calledIn v s x m=0):Za1 p u s x m=0:=by
 have hne:s≠[]:=λe=>by have:=ZlT s (YaH hs);rw[e] at this;exact absurd this.1.1.1 (by decide)
 unfold Za1;rw[if_neg hne];split
 ·rename_i hn;rw[<- hp.names] at hs;obtain ⟨v,hv,e⟩:=YaW.1 hs;have:=List.find?_eq_none.1 hn v hv;exact absurd (decide_eq_true e) this
 ·rename_i v hv;exact h v (hp.shape v (Ycx hv))
theorem Zty {many:Nat} {p:List Unit} (hp:Prog many p) {u:Unit} (hu:u∈p) {f:Fun}:Sees2 f.params many p u f:=by
 have h:=hp.shape u hu;refine ⟨λs hs=>?_,Zs6 h,Zyg h p,λs hs=>Zjn hp hs u _ _ (λv hv=>Zyh hv s),λs hs=>Zjn hp hs u _ _ (λv hv=>Zyf hv s),by have:=hp.m;omega,by have:=hp.m;omega⟩;unfold Zi5;rw[Zrr h];simp only[Zco,List.cons_append,List.nil_append,Yav] at hs ⊢;rcases hs with hs | hs | hs
 ·exact .inr (.inl hs)
 ·exact .inr (.inr (.inl hs))
 ·exact .inl hs
theorem ZqP {l:List Str} (h:l.Nodup):¬Zk1 l:=by rintro ⟨j,hj,hm⟩;obtain ⟨i,hi,e⟩:=YaK hm;rw[Yan] at hi;rw[List.getElem_take] at e;have:=(List.getElem_inj h).1 e;omega
theorem Zrz {many:Nat} {p:List Unit} (hp:Prog many p) {u:Unit} (hu:u∈p):Zgc p u=0:=by
 have hfun:∀f∈u.funcs,Zuk p u f=0:=by
  intro f hf;have hs:=Zty hp hu (f:=f);have key:∀(params:List Str) (l:List Raw),f.params=params->f.body=Zcl params many l->params.Nodup->Zuk p u f=0:=λparams l e1 e2 hd=>by unfold Zuk;rw[e1,if_neg (ZqP hd),ZaS,e2];rw[e1] at hs;exact Zh4 hs _ l 1
  obtain ⟨i,l1,l2,l3,hi,rfl⟩:=(hp.shape u hu).ex;simp only[Yav,YaT,or_false] at hf;rcases hf with rfl | rfl | rfl
  ·exact key [sp,sq] l1 rfl rfl (by decide)
  ·exact key [sp] l2 rfl rfl (by decide)
  ·exact key [] l3 rfl rfl (by decide)
 unfold Zgc;rw[if_neg,Zal hfun];obtain ⟨i,l1,l2,l3,hi,rfl⟩:=(hp.shape u hu).ex;rintro (h | h)
 ·exact ZqP (l:=[sx,sy,Zom]) (by decide) h
 ·exact ZqP (l:=[sf,sg,sh]) (by decide) h
theorem ZoD {many:Nat} {u:Unit} (h:Shape many u):0<=Zap u/\Zap u<=6:=by obtain ⟨i,l1,l2,l3,hi,rfl⟩:=h.ex;simp only[Zap,sizes,Yar,YaS,List.sum_cons,List.sum_nil,List.length_cons,List.length_nil];omega
theorem ZiY {many:Nat}:∀{p:List Unit},(∀u∈p,Shape many u)->0<=Zai p/\Zai p<=6*p.length
 | [],_=>by simp[Zai]
 | u :: p,h=>by have h1:=ZoD (h u Yac);have h2:=ZiY (p:=p) (λv hv=>h v (Yad _ hv));simp only[Zai,Yar,List.sum_cons,List.length_cons] at h2 ⊢;omega
theorem ZgR {many:Nat} {p:List Unit} (hp:Prog many p):p.length=many:=by have:=congrArg List.length hp.names;rw[Yab,Yan] at this;have h3:=hp.m;have h:Zcf.length=3:=rfl;omega
theorem ZgS {many:Nat} {p:List Unit} (hp:Prog many p):Zbd p=0:=by
 have hl:=ZgR hp;have hm:=hp.m;have hw:=ZiY hp.shape;have hu:Zah Zcg p=0:=Zal (λu hu=>Zrs hm (hp.shape u hu));unfold Zbd;rw[if_neg (by omega),if_neg (λh=>h hu),if_neg,if_neg (by omega)]
 ·exact Zal (λu hu=>Zrz hp hu)
 ·rw[hp.names];refine ZqP ?_;obtain ⟨h1,h3⟩:=hm;have:many=1\/many=2\/many=3:=by omega
  rcases this with rfl | rfl | rfl<;>decide
theorem ZgQ (l:List Raw):Prog (Zo2 l) (Zb0 l):=by
 obtain ⟨k,hk,hl⟩:=ZbR l.length (many:=3) (by decide);have hm:Zo2 l=1+k:=by unfold Zo2;rw[show (3:Int)=((3:Nat):Int) from rfl,hk];omega
 refine ⟨by omega,λu hu=>?_,?_⟩
 ·unfold Zb0 at hu;obtain ⟨i,hi,rfl⟩:=YaW.1 hu;rw[YaZ] at hi;exact ⟨i,_,_,_,by omega,rfl⟩
 ·unfold Zb0;rw[hm];have:k=0\/k=1\/k=2:=by omega
  rcases this with rfl | rfl | rfl<;>rfl
theorem Zs5 {many:Nat} {u:Unit} (h:Shape many u):Zdg u.funcs<=300:=by obtain ⟨i,l1,l2,l3,_,rfl⟩:=h.ex;have m1:=Zet [sp,sq] many l1;have m2:=Zet [sp] many l2;have m3:=Zet [] many l3;simp only[Zdg,Yar,YaS,List.sum_cons,List.sum_nil];omega
theorem Zlw {many:Nat} {p:List Unit} (h:Prog many p):Zsu p:=λu hu=>Zs5 (h.shape u hu)
end Barb
