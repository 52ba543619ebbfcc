import Derived.Test.YthccmffgjchdmaaGreatDoorNWd
import Derived.Test.YthccmffgjchdmaaGreatDoorNFd
import Derived.Test.YthccmffgjchdmaaGreatDoorNDs
import Derived.Test.YthccmffgjchdmaaGreatDoorNNq
open Go Go.Proofs Go.Proofs.YthccmffgjchdmaaGreatDoor
namespace Barb
open Go Go.Dm Go.Eng
abbrev sx:Str:=[120]
abbrev sy:Str:=[121]
abbrev sp:Str:=[112]
abbrev sq:Str:=[113]
abbrev sf:Str:=[102]
abbrev sg:Str:=[103]
abbrev sh:Str:=[104]
abbrev ZoD:Str:=[97,114,114]
abbrev Zcr:List Str:=[[111,110,101],[116,119,111],[116,114,105]]
abbrev ZgS (n:Int):Expr:=.mk 1 n [] [] []
abbrev Zlu (s:Str):Expr:=.mk 2 0 [] s []
def Zff (r:Raw):Expr:=ZgS (if Zbs r.b 7=0 then [65535,256,40000,16].getD (Zbs r.c 4).toNat 0 else Zbs r.a 6)
def Zbh (params:List Str):List Str:=[sx,sy]++params
def Znp (l:List Str) (n:Int):Str:=l.getD (Zbs n l.length).toNat []
def Zex (n many:Int):Str:=Zcr.getD (Zbs n many).toNat []
def Zat (params:List Str) (many:Int):Nat->List Raw->Int->Expr
 | 0,_,_=>ZgS 3
 | _+1,[],_=>ZgS 3
 | f+1,r :: rest,depth =>
  let a:=Zat params many f (rest.take (rest.length / 2)) (depth+1)
  let b:=Zat params many f (rest.drop (rest.length / 2)) (depth+1)
  let k:=if depth > 4 then Zbs r.kind 9 else Zbs r.kind 20
  if k < 4 then Zff r
  else if k < 9 then Zlu (Znp (Zbh params) r.a)
  else if k < 15 then .mk 5 (1+Zbs r.a 10) [] [] [a,b]
  else if k < 17 then .mk 3 0 [] ZoD [a]
  else if k=17 then .mk 4 0 [] sg [a]
  else if k=18 then .mk 4 0 (Zex r.a many) sf [a,b]
  else .mk 4 0 (Zex r.a many) sh []
def upP:Expr:=.mk 5 1 [] [] [Zlu sy,ZgS 1]
def Zkj (r:Raw):Expr:=.mk 5 7 [] [] [Zlu sy,ZgS (Zbs r.b 6)]
def ZaX (params:List Str) (many depth:Int) (rec:List Raw->Int->List Stmt) (r:Raw) (part:List Raw):List Stmt :=
 let x:=Zat params many part.length part 1
 let k:=Zbs r.kind 12
 if k < 2 then [.mk 2 ZoD [Zff r,x] [] []]
 else if k=2 then [.mk 6 [] [x] [] []]
 else if k=3 then [.mk 5 [] [x] [] []]
 else if k < 6/\depth < 3 then [.mk 3 [] [x] (rec (part.take (part.length / 2)) (depth+1)) (rec (part.drop (part.length / 2)) (depth+1))]
 else if k=6/\depth < 2 then [.mk 1 sy [ZgS 0] [] [],.mk 4 [] [Zkj r] (rec part (depth+2)++[.mk 1 sy [upP] [] []]) []]
 else [.mk 1 (Znp (Zbh params) r.a) [x] [] []]
def ZeV (params:List Str) (many depth:Int) (rec:List Raw->Int->List Stmt):Nat->List Raw->List Stmt
 | 0,_=>[]
 | _+1,[]=>[]
 | n+1,r :: l=>ZaX params many depth rec r (l.take 6)++ZeV params many depth rec n (l.drop 6)
def Zaz (params:List Str) (many:Int):Nat->List Raw->Int->List Stmt
 | 0,_,_=>[]
 | f+1,l,depth=>ZeV params many depth (Zaz params many f) 4 l
def Zcz (params:List Str) (many:Int) (l:List Raw):List Stmt:=Zaz params many (l.length+1) l 1
def Zfv (l:List Raw) (many i:Nat):List Raw:=(l.take ((i+1)*l.length / many)).drop (i*l.length / many)
def Zif (l:List Raw) (many i:Nat):Unit :=
 let part:=Zfv l many i
 let fW:=part.length / 3
 ⟨Zcr.getD i [],[sx,sy],[⟨ZoD,2+i⟩],[⟨sf,true,[sp,sq],Zcz [sp,sq] many (part.take fW)⟩,⟨sg,false,[sp],Zcz [sp] many ((part.take (2*fW)).drop fW)⟩,⟨sh,true,[],Zcz [] many (part.drop (2*fW))⟩]⟩
def Zpj (l:List Raw):Nat:=(1+Zbs l.length 3).toNat
def Zbw (l:List Raw):List Unit:=(List.range (Zpj l)).map (Zif l (Zpj l))
end Barb
namespace Barb
open Go Go.Dm Go.Eng ZN
abbrev Raw.d (r:Raw):List D:=[.g (.int r.kind),.g (.int r.a),.g (.int r.b),.g (.int r.c)]
end Barb
namespace ZN
open Go Go.Dm Go.Eng Go.RowKit Barb
variable {L:Lv}
theorem Zqj (r:Raw) (hr:r.I):CT Tryz.prog (gl L) 62 [.agg r.d] (Is (.agg (Zff r).d)):=by
 obtain ⟨_,ha,hb,hc⟩:=hr;have e:Zff r=Zff r:=rfl
 conv at e=>rhs;unfold Zff
 refine enter hT hF hM Tryz.func62 rfl 19 rfl (by kernel_rfl) [.cell 2 146] rfl [.agg r.d] rfl _ ?_;refine Zad (.inl rfl) (Za2 r.a 6 ha (by decide)) ?_;refine Zad (.inl rfl) (Za2 r.b 7 hb (by decide)) ?_;refine ⟨λh=>?_,λh=>?_⟩
 ·rw[if_pos h] at e;refine ⟨[[.int 65535],[.int 256],[.int 40000],[.int 16]],rfl,rfl,⟨rfl,rfl,rfl,rfl,trivial⟩,?_⟩;obtain ⟨k,hk,hl⟩:=Zcc r.c (many:=4) (by decide);refine Zad (.inl rfl) (Za2 r.c 4 hc (by decide)) ?_;rw[show (4:Int)=((4:Nat):Int) from rfl,hk] at e;have hg:([[GV.int 65535],[.int 256],[.int 40000],[.int 16]]:List (List GV))[k]?=some [.int ([65535,256,40000,16].getD k 0)]:=by
   match k,hl with
   | 0,_=>rfl
   | 1,_=>rfl
   | 2,_=>rfl
   | 3,_=>rfl
  refine ⟨k,dJ hk,hl,_,hg,?_⟩;exact ⟨rfl,Zo5 e⟩
 ·rw[if_neg h] at e;exact ⟨rfl,Zo5 e⟩
set_option maxRecDepth 20000 in
set_option maxHeartbeats 2000000 in
theorem Zxq (params:List Str) (hp:params.length<=1000) (many:Nat) (hm:1<=many/\many<=3):∀(f:Nat),f<=4398046511104->∀(l:List Raw),l.length<=f->(∀r∈l,r.I)->∀depth:Int,0<=depth/\depth<=5 ->
  CT Tryz.prog (gl L) 61 [.g (.sl 4 (l.map Raw.g)),.g (.sl 1 (params.map ZaT)),.g (.int many),.g (.int depth)] (Is (.agg (Zat params many f l depth).d)):=by
 intro f
 induction f with
 | zero =>intro _ l hl _ depth hd;have bC:l=[]:=Ybl.1 (by omega);subst bC;refine enter hT hF hM Tryz.func61 rfl 135 rfl (by kernel_rfl) [.cell 8 146] rfl [.g (.sl 4 (List.map Raw.g [])),.g (.sl 1 (params.map ZaT)),.g (.int many),.g (.int depth)] rfl _ ?_;exact ⟨λ_=>⟨rfl,Zo5 rfl⟩,λh=>absurd rfl h⟩
 | succ f ih =>
  intro hf l hl hI depth hd
  match l,hl,hI with
  | [],_,_ =>refine enter hT hF hM Tryz.func61 rfl 135 rfl (by kernel_rfl) [.cell 8 146] rfl [.g (.sl 4 (List.map Raw.g [])),.g (.sl 1 (params.map ZaT)),.g (.int many),.g (.int depth)] rfl _ ?_;exact ⟨λ_=>⟨rfl,Zo5 rfl⟩,λh=>absurd rfl h⟩
  | r :: rest,hl,hI =>
   obtain ⟨rk,ra,rb,rc⟩:=hI r Yae;have cv:rest.length<=f:=by simpa using hl
   have fD:(rest.map Raw.g).length=rest.length:=Yaa _;have uj:∀x∈rest,x.I:=λx hx=>hI x (Yad _ hx);have jt:=ih (by omega) (rest.take (rest.length / 2)) (by rw[Yam];omega) (λx hx=>uj x (YaK hx)) (depth+1);have qu:=ih (by omega) (rest.drop (rest.length / 2)) (by rw[YaM];omega) (λx hx=>uj x (Ya5 hx)) (depth+1);have e:Zat params many (f+1) (r :: rest) depth=Zat params many (f+1) (r :: rest) depth:=rfl
   conv at e=>rhs;unfold Zat
   dsimp only at e;generalize Zat params many f (rest.take (rest.length / 2)) (depth+1)=xa at jt e;generalize Zat params many f (rest.drop (rest.length / 2)) (depth+1)=xb at qu e;rw[YbH] at jt;rw[YbI] at qu;generalize Zat params many (f+1) (r :: rest) depth=out at e;have nm:=(show CT Tryz.prog (gl L) _ _ _ from Zqj r ⟨rk,ra,rb,rc⟩);have hv:([sx,sy]++params).length=params.length+2:=by simp
   refine enter hT hF hM Tryz.func61 rfl 135 rfl (by kernel_rfl) [.cell 8 146] rfl [.g (.sl 4 (List.map Raw.g (r :: rest))),.g (.sl 1 (params.map ZaT)),.g (.int many),.g (.int depth)] rfl _ ?_;have h2:((rest.length:Int).tdiv 2)=((rest.length / 2:Nat):Int):=by rw[Ybu (by omega)];omega
   have db:(((rest.map Raw.g).length:Int).tdiv 2)=((rest.length / 2:Nat):Int):=by rw[fD];exact h2
   refine ⟨λh=>absurd h (by simp;omega),λ_=>?_⟩;refine stepS ⟨0,_,rfl,rfl,Hold.mk ?_⟩;refine stepS ⟨1,rfl,by simp,Hold.mk ?_⟩;refine stepS ⟨by decide,(by show I64 (((rest.map Raw.g).length:Int).tdiv 2);rw[db];unfold I64;omega),rest.length / 2,dJ db,(by show _<=(rest.map Raw.g).length;omega),Hold.mk ?_⟩;refine stepS ⟨by decide,(by show I64 (((rest.map Raw.g).length:Int).tdiv 2);rw[db];unfold I64;omega),rest.length / 2,dJ db,(by show _<=(rest.map Raw.g).length;omega),Hold.mk ?_⟩;refine stepS (Zad (.inl rfl) (Za2 r.kind 20 rk (by decide)) (Hold.mk ?_));refine ZrK (ι:=Int) (λk=>[(1,.g (.sl 1 (params.map ZaT))),(2,.g (.int many)),(3,.g (.int depth)),(8,.ptr 0 0),(9,.ptr 1 0),(11,.g (.sl 4 ((rest.map Raw.g).take (rest.length / 2)))),(12,.g (.sl 4 ((rest.map Raw.g).drop (rest.length / 2)))),(13,.g (.int k))])
    (λ_=>[.blk [.g (.int 0),.g (.int 0),.g (.str []),.g (.str []),.nils] 146,.blk r.d 24]) (λk=>k=if depth > 4 then Zbs r.kind 9 else Zbs r.kind 20) (λe0 k hk=>?_) (λRj aI=>?_)
   rotate_left
   ·refine ⟨λh4=>Zad (.inl rfl) (Za2 r.kind 9 rk (by decide)) (aI (Zbs r.kind 9) _ ⟨rfl,rfl,rfl,rfl,rfl,rfl,rfl,rfl,trivial⟩ (if_pos h4).symm),λh4=>aI (Zbs r.kind 20) _ ⟨rfl,rfl,rfl,rfl,rfl,rfl,rfl,rfl,trivial⟩ (if_neg h4).symm⟩
   rw[<- hk] at e;have k9:¬k < 9->depth+1<=5:=λh9=>by
    have:=ZcB r.kind (many:=9) (by decide);by_cases h4:depth > 4
    ·rw[if_pos h4] at hk;omega
    ·omega
   clear hk;have yb:(1:Int)<=many/\(many:Int)<=3:=by omega
   obtain ⟨ku,ry,aB⟩:=Zcc r.a (many:=many) (by omega);have gA:Zex r.a many=Zcr.getD ku []:=by unfold Zex;rw[ry];rfl
   refine ⟨λg4=>?_,λg4=>?_⟩
   ·rw[if_pos g4] at e;exact Zad (.inl rfl) nm ⟨rfl,ZbN (.inl (by rw[e];rfl))⟩
   rw[if_neg g4] at e;refine ⟨λg9=>?_,λg9=>?_⟩
   ·rw[if_pos g9] at e;obtain ⟨kv,oo,fF⟩:=Zcc r.a (many:=(Zbh params).length) (by simp[Zbh]);have pf:(([[GV.str sx],[.str sy]]++params.map ZaT).length:Int)=((Zbh params).length:Int):=by simp[Zbh]
    refine ⟨[[.str sx],[.str sy]],rfl,rfl,⟨rfl,rfl,trivial⟩,?_⟩;refine ⟨⟨by simp[maxLen];omega,by simp;omega⟩,?_⟩;refine Zad (.inl rfl) (Za2 r.a _ ra (by rw[pf];simp[Zbh];omega)) ?_;refine ⟨kv,dJ (by rw[pf];exact oo),(by show kv < ((Zbh params).map ZaT).length;rw[Yaa];exact fF),?_⟩;refine ⟨_,(show ((Zbh params).map ZaT)[kv]?=some [.str (Zbh params)[kv]] from gm fF),?_⟩;refine ⟨rfl,Zo5 (e.trans ?_)⟩;unfold Znp;rw[oo];exact congrArg Zlu (Zrl fF [])
   rw[if_neg g9] at e;have tO:=k9 g9;have jQ:=jt ⟨by omega,tO⟩;have nG:=qu ⟨by omega,tO⟩;have fM:IntKind.i64.wrap (depth+1)=depth+1:=I64.wrap (by unfold I64;omega);refine ⟨λg15=>?_,λg15=>?_⟩
   ·rw[if_pos g15] at e;have:=ZcB r.a (many:=10) (by decide);refine Zad (.inl rfl) (Za2 r.a 10 ra (by decide)) ⟨_,I64.wrap (by unfold I64;omega),_,fM,Zad (.inl rfl) jQ ⟨_,fM,Zad (.inl rfl) nG ?_⟩⟩;refine ⟨[gX xa,gX xb],rfl,rfl,⟨rfl,rfl,rfl,rfl,rfl,rfl,rfl,rfl,rfl,rfl,trivial⟩,?_⟩;exact ⟨rfl,ZtL e rfl (by simp only[Zmk];rfl)⟩
   rw[if_neg g15] at e;refine ⟨λg17=>?_,λg17=>?_⟩
   ·rw[if_pos g17] at e;refine ⟨_,fM,Zad (.inl rfl) jQ ?_⟩;refine ⟨[gX xa],rfl,rfl,⟨rfl,rfl,rfl,rfl,rfl,trivial⟩,?_⟩;exact ⟨rfl,ZtL e rfl (by simp only[Zmk];rfl)⟩
   rw[if_neg g17] at e;refine ⟨λgg=>?_,λgg=>?_⟩
   ·rw[if_pos gg] at e;refine ⟨_,fM,Zad (.inl rfl) jQ ?_⟩;refine ⟨[gX xa],rfl,rfl,⟨rfl,rfl,rfl,rfl,rfl,trivial⟩,?_⟩;exact ⟨rfl,ZtL e rfl (by simp only[Zmk];rfl)⟩
   rw[if_neg gg] at e;refine ⟨λgf=>?_,λgf=>?_⟩
   ·rw[if_pos gf,gA] at e;rcases (show ku=0\/ku=1\/ku=2 by omega) with rfl | rfl | rfl
    all_goals
     refine ⟨some 2000,rfl,?_⟩;refine ⟨_,_,.inl rfl,Za2 r.a many ra (by omega),rfl,?_⟩;refine ⟨_,dJ ry,(by decide),?_⟩;refine ⟨_,fM,_,_,.inl rfl,jQ,rfl,?_⟩;refine ⟨_,fM,_,_,.inl rfl,nG,rfl,?_⟩;refine ⟨[gX xa,gX xb],rfl,rfl,⟨rfl,rfl,rfl,rfl,rfl,rfl,rfl,rfl,rfl,rfl,trivial⟩,⟨_,rfl⟩,?_⟩;exact ⟨rfl,ZtL e rfl (gX2 _ _)⟩
   ·rw[if_neg gf,gA] at e;rcases (show ku=0\/ku=1\/ku=2 by omega) with rfl | rfl | rfl
    all_goals
     refine Zad (.inl rfl) (Za2 r.a many ra (by omega)) ?_;refine ⟨_,dJ ry,(by decide),?_⟩;exact ⟨rfl,Zo5 e⟩
end ZN
namespace Barb
open Go Go.Dm Go.Eng ZN
theorem ZCX (k:Int) (s:Str) (xs:List Expr) (b e:List Stmt):Stmt.g (.mk k s xs b e)=[.int k,.str s,.sl 5 (xs.map Expr.g),.sl 5 (b.map Stmt.g),.sl 5 (e.map Stmt.g)]:=Stmt.g_eq _
theorem Zek {l:List Stmt} {k:Int} {s:Str} {xs:List Expr} {b e:List Stmt} {X:List (List GV)} (hX:X=xs.map Expr.g):l.map Stmt.g++[[.int k,.str s,.sl 5 X,.sl 5 (b.map Stmt.g),.sl 5 (e.map Stmt.g)]]=(l++[Stmt.mk k s xs b e]).map Stmt.g:=by subst hX;rw[Yaf,List.map_singleton,ZCX]
theorem Ztl {params:List Str} {many depth:Int} {rec:List Raw->Int->List Barb.Stmt} (r:Raw) (part:List Raw):(ZaX params many depth rec r part).length<=2:=by
 unfold ZaX;simp only;split
 ·simp
 ·split
  ·simp
  ·split
   ·simp
   ·split
    ·simp
    ·split<;>simp
theorem Znd {params:List Str} {many depth:Int} {rec:List Raw->Int->List Barb.Stmt}:∀(k:Nat) (l:List Raw),(ZeV params many depth rec k l).length<=2*k
 | 0,_=>Yas _
 | _+1,[]=>Yat _
 | k+1,r :: l=>by have h1:=Ztl (params:=params) (many:=many) (depth:=depth) (rec:=rec) r (l.take 6);have h2:=Znd (params:=params) (many:=many) (depth:=depth) (rec:=rec) k (l.drop 6);simp only[ZeV,Yab];omega
theorem ZrD {params:List Str} {many depth:Int} (f:Nat) {l:List Raw} (_:l.length<=6):(Zaz params many f l depth).length<=8:=by
 cases f with
 | zero=>simp[Zaz]
 | succ f=>exact Znd 4 l
theorem ZCV:([[.int 5,.int 1,.str [],.str [],.sl 5 [gX (Zlu sy),gX (ZgS 1)]]]:List (List GV))=[upP].map Expr.g:=rfl
theorem ZzQ (r:Raw):([[.int 5,.int 7,.str [],.str [],.sl 5 [gX (Zlu sy),gX (ZgS (Zbs r.b 6))]]]:List (List GV))=[Zkj r].map Expr.g:=rfl
theorem Zyb {out sc:List Barb.Stmt} {r:Raw}:(out.map Stmt.g++[[.int 1,.str sy,.sl 5 [gX (ZgS 0)],.sl 5 [],.sl 5 []]])++[[.int 4,.str [],.sl 5 [[.int 5,.int 7,.str [],.str [],.sl 5 [gX (Zlu sy),gX (ZgS (Zbs r.b 6))]]],.sl 5 (sc.map Stmt.g++[[.int 1,.str sy,.sl 5 [[.int 5,.int 1,.str [],.str [],.sl 5 [gX (Zlu sy),gX (ZgS 1)]]],.sl 5 [],.sl 5 []]]),.sl 5 []]] =
  (out++[Stmt.mk 1 sy [ZgS 0] [] [],Stmt.mk 4 [] [Zkj r] (sc++[.mk 1 sy [upP] [] []]) []]).map Stmt.g:=by have e1:=Zek (l:=out) (k:=1) (s:=sy) (xs:=[ZgS 0]) (b:=[]) (e:=[]) (X:=[gX (ZgS 0)]) (gX1 _);have e2:=Zek (l:=sc) (k:=1) (s:=sy) (xs:=[upP]) (b:=[]) (e:=[]) ZCV;have e3:=Zek (l:=out++[Stmt.mk 1 sy [ZgS 0] [] []]) (k:=4) (s:=[]) (xs:=[Zkj r]) (b:=sc++[.mk 1 sy [upP] [] []]) (e:=[]) (ZzQ r);simp only[YaI] at e1 e2 e3;rw[e1,e2,e3,Yax];rfl
structure SL where
 n:Nat
 out:List Stmt
 rest:List Raw
end Barb
namespace ZN
open Go Go.Dm Go.Eng Go.RowKit Barb
variable {L:Lv}
set_option maxRecDepth 20000 in
set_option maxHeartbeats 8000000 in
theorem Zz1 (params:List Str) (hp:params.length<=1000) (many:Nat) (hm:1<=many/\many<=3):∀(f:Nat),f<=4398046511104->∀(l:List Raw),l.length<=f->(∀r∈l,r.I)->∀depth:Int,1<=depth/\depth<=4 ->
  ∀Q:Out->Prop,(∀(h:Zae) (i:Nat),h[i]?=some (.row ((Zaz params many (f+1) l depth).map Stmt.g) 114 5)->Zby Q h (.row i)) ->
  CT Tryz.prog (gl L) 33 [.g (.sl 4 (l.map Raw.g)),.g (.sl 1 (params.map ZaT)),.g (.int many),.g (.int depth)] Q:=by
 intro f
 induction f with
 | zero =>
  intro _ l hl _ depth _ Q hQ;have bC:l=[]:=Ybl.1 (by omega);subst bC;refine enter hT hF hM Tryz.func33 rfl 157 rfl (by kernel_rfl) [.tmp 8] rfl [.g (.sl 4 (List.map Raw.g [])),.g (.sl 1 (params.map ZaT)),.g (.int many),.g (.int depth)] rfl _ ?_;refine ZaO (ι:=PUnit) (λ_=>[(0,.g (.sl 4 (List.map Raw.g []))),(9,.row 0),(10,.g (.int 0))]) (λ_=>[.row [] 114 5]) (λ_=>True) (λ_=>0)
   ⟨⟨⟩,[.nil 114 5],⟨rfl,.inl rfl,.inr ⟨lk rfl,.inr rfl,lk rfl,trivial⟩,rfl⟩,trivial⟩ ?_
  intro Rd aj _ _;exact ⟨λh=>absurd h (by decide),λ_=>⟨rfl,hQ _ _ rfl⟩⟩
 | succ f ih =>
  intro hf l hl hI depth hd Q hQ;refine Zq5 [24] hT hF hM Tryz.func33 rfl 157 rfl (by kernel_rfl) [.tmp 8] rfl [.g (.sl 4 (l.map Raw.g)),.g (.sl 1 (params.map ZaT)),.g (.int many),.g (.int depth)] rfl _ ?_;refine ZaO (ι:=SL) (λi=>[(0,.g (.sl 4 (i.rest.map Raw.g))),(9,.row 0),(10,.g (.int (i.n:Int)))]) (λi=>[.row (i.out.map Stmt.g) 114 5])
   (λi=>i.n<=4/\i.out.length<=8*i.n/\i.rest.length<=l.length/\(∀r∈i.rest,r.I)/\i.out++ZeV params many depth (Zaz params many (f+1)) (4 - i.n) i.rest=Zaz params many (f+1+1) l depth) (λi=>i.rest.length)
   ⟨⟨0,[],l⟩,[.nil 114 5],⟨rfl,.inl rfl,.inr ⟨lk rfl,.inr rfl,lk rfl,trivial⟩,rfl⟩,Yat _,Yat _,Yas _,hI,rfl⟩ ?_
  rintro Rd aj ⟨n,out,rest⟩ ⟨hn,pI,fa,nW,cV⟩;dsimp only at hn pI fa nW cV;have fin:ZeV params many depth (Zaz params many (f+1)) (4 - n) rest=[]->out=Zaz params many (f+1+1) l depth:=λh=>by rw[h,YaF] at cV;exact cV
  refine ⟨λaG=>⟨λh4=>?_,λh4=>⟨rfl,hQ _ _ (by rw[<- fin (by rw[show 4 - n=0 by have:¬(n:Int) < 4:=h4;omega];rfl)];rfl)⟩⟩,λig=>⟨rfl,hQ _ _ (by rw[<- fin (by rw[show rest=[] from Ybl.1 (by have h0:¬(0:Int) < ((rest.map Raw.g).length:Nat):=ig;rw[Yaa] at h0;omega)];cases 4 - n<;>rfl)];rfl)⟩⟩;have yG:n < 4:=by have:(n:Int) < 4:=h4;omega
  match rest,fa,nW,cV,aG with
  | [],_,_,_,aG=>exact absurd aG (Int.lt_irrefl 0)
  | r :: tl,fa,nW,cV,aG =>
  obtain ⟨rk,ra,rb,rc⟩:=nW r Yae;have pk:∀x∈tl,x.I:=λx hx=>nW x (Yad _ hx);have jT:tl.length+1<=l.length:=fa;obtain ⟨hh,tI⟩:∃hh:Nat,hh=min (tl.length+1) 7:=⟨_,rfl⟩;have lr:((r :: tl).map Raw.g).length=tl.length+1:=by simp
  have j4:D.g (.int (if (7:Int) < (((r :: tl).map Raw.g).length:Nat) then (7:Int) else (((r :: tl).map Raw.g).length:Nat)))=D.g (.int (hh:Int)):=dJ (by rw[lr];split<;>omega);have bP:(((r :: tl).map Raw.g).take hh).drop 1=(tl.take 6).map Raw.g:=by
   rw[tI,<- YbH,<- YbI]
   congr 1
   obtain ⟨m,lR⟩:∃m,min (tl.length+1) 7=m+1:=⟨min tl.length 6,by omega⟩;rw[lR,List.take_succ_cons,Ybz,List.drop_zero];by_cases h6:tl.length<=6
   ·rw[Yay (by omega),Yay h6]
   ·rw[show m=6 by omega]
  have cv:((r :: tl).map Raw.g).drop hh=(tl.drop 6).map Raw.g:=by
   rw[tI,<- YbI]
   congr 1
   obtain ⟨m,lR⟩:∃m,min (tl.length+1) 7=m+1:=⟨min tl.length 6,by omega⟩;rw[lR,Ybz];by_cases h6:tl.length<=6
   ·rw[Yb8.2 (by omega),Yb8.2 h6]
   ·rw[show m=6 by omega]
  have kJ:(tl.take 6).length<=6/\(tl.take 6).length<=f:=by rw[Yam];omega
  have ko:∀x∈tl.take 6,x.I:=λx hx=>pk x (YaK hx);generalize pH:tl.take 6=part at bP kJ ko;have hx:CT Tryz.prog (gl L) 61 [.g (.sl 4 ((((r :: tl).map Raw.g).take hh).drop 1)),.g (.sl 1 (params.map ZaT)),.g (.int many),.g (.int 1)] (Is (.agg (Zat params many part.length part 1).d)):=by rw[bP];exact Zxq params hp many hm part.length (by omega) part (Yas _) ko 1 (by omega)
  have aZ:ZaX params many depth (Zaz params many (f+1)) r part=ZaX params many depth (Zaz params many (f+1)) r part:=rfl
  conv at aZ=>rhs;unfold ZaX
  dsimp only at aZ;generalize Zat params many part.length part 1=x at hx aZ;have aM:ZeV params many depth (Zaz params many (f+1)) (4 - n) (r :: tl)=ZaX params many depth (Zaz params many (f+1)) r part++ZeV params many depth (Zaz params many (f+1)) (4 - (n+1)) (tl.drop 6):=by rw[show 4 - n=(4 - (n+1))+1 by omega,<- pH];rfl
  rw[aM,<- Yax] at cV;generalize ZaX params many depth (Zaz params many (f+1)) r part=here at aZ cV;obtain ⟨kv,oo,fF⟩:=Zcc r.a (many:=(Zbh params).length) (by simp[Zbh]);have pf:(([[GV.str sx],[.str sy]]++params.map ZaT).length:Int)=((Zbh params).length:Int):=by simp[Zbh]
  have iF:Znp (Zbh params) r.a=(Zbh params)[kv]:=by unfold Znp;rw[oo];exact Zrl fF []
  rw[iF] at aZ;generalize vq:(Zbh params)[kv]=vn at aZ;have bT:([[GV.str sx],[.str sy]]++params.map ZaT)[kv]?=some [.str vn]:=by rw[<- vq];exact (show ((Zbh params).map ZaT)[kv]?=some [.str (Zbh params)[kv]] from gm fF)
  have next:∀(eN:List Barb.Stmt),here=eN->eN.length<=8->(n+1<=4/\(out++eN).length<=8*(n+1)/\(tl.drop 6).length<=l.length/\(∀r∈tl.drop 6,r.I)/\(out++eN)++ZeV params many depth (Zaz params many (f+1)) (4 - (n+1)) (tl.drop 6)=Zaz params many (f+1+1) l depth):=λeN he h8=>by subst he;exact ⟨by omega,by rw[Yab];omega,by rw[YaM];omega,λx hx=>pk x (Ya5 hx),cV⟩
  have less:(tl.drop 6).length < (r :: tl).length:=by rw[YaM,List.length_cons];omega
  refine ZBr ?_;refine ZoR (by rfl) ?_;refine ZoR (by rfl) ⟨0,_,rfl,rfl,Hold.mk ?_⟩;refine ZoR (by rfl) ⟨1,hh,rfl,j4,by omega,(by show hh<=((r :: tl).map Raw.g).length;omega),Hold.mk ?_⟩;refine ZoR (by rfl) ⟨hh,j4,(by show hh<=((r :: tl).map Raw.g).length;omega),Hold.mk ?_⟩;refine ZoR (by rfl) ⟨[[.str sx],[.str sy]],rfl,rfl,⟨rfl,rfl,trivial⟩,⟨by simp[maxLen];omega,by simp;omega⟩,Hold.mk ?_⟩;refine ZoR (by rfl) (Zad (.inl rfl) hx (Hold.mk ?_));refine ZAZ (by rfl) (ι:=PUnit) (λ_=>[(0,.g (.sl 4 (((r :: tl).map Raw.g).drop hh))),(1,.g (.sl 1 (params.map ZaT))),(2,.g (.int many)),(3,.g (.int depth)),(9,.row 0),(10,.g (.int (n:Int))),(11,.ptr 1 0),(12,.g (.sl 4 ((((r :: tl).map Raw.g).take hh).drop 1))),(14,.ptr 4 0),(15,.ptr 6 0)])
   (λ_=>[.row (out.map Stmt.g) 114 5,.blk r.d 24,.dead,.row ([[GV.str sx],[.str sy]]++params.map ZaT) 9 1,.blk x.d 146,.row [gX x] 146 5,.blk [.g (.int 1),.g (.str vn),.row 5,.nils,.nils] 114]) (λ_=>True) (λe0 _ _=>?_) (λRj aI=>?_)
  rotate_left
  ·refine ⟨some 9994,[12],rfl,?_⟩;refine ⟨_,_,.inl rfl,Za2 r.a _ ra (by rw[pf];simp[Zbh];omega),rfl,?_⟩;refine ⟨kv,dJ (by rw[pf];exact oo),(by show kv < ((Zbh params).map ZaT).length;rw[Yaa];exact fF),?_⟩;refine ⟨_,bT,?_⟩;refine ⟨[gX x],rfl,rfl,⟨rfl,rfl,rfl,rfl,rfl,trivial⟩,⟨_,rfl⟩,?_⟩;exact aI ⟨⟩ _ ⟨rfl,rfl,rfl,rfl,rfl,rfl,rfl,rfl,rfl,rfl,trivial⟩ trivial
  refine Zad (.inl rfl) (Za2 r.kind 12 rk (by decide)) ?_;have uZ:=ZcB r.kind (many:=12) (by decide);generalize Zbs r.kind 12=k at aZ uZ;have num:=(show CT Tryz.prog (gl L) _ _ _ from Zqj r ⟨rk,ra,rb,rc⟩);have xl:((((r :: tl).map Raw.g).take hh).drop 1).length=part.length:=by rw[bP,Yaa]
  have sn:(((((r :: tl).map Raw.g).take hh).drop 1).length:Int).tdiv 2=((part.length / 2:Nat):Int):=by rw[xl,Ybu (by omega)];omega
  refine ⟨λg2=>?_,λg2=>?_⟩
  ·rw[if_pos g2] at aZ;refine ⟨none,rfl,?_⟩;refine ⟨_,_,.inl rfl,num,rfl,?_⟩;refine ⟨[gX (Zff r),gX x],rfl,rfl,⟨rfl,rfl,rfl,rfl,rfl,rfl,rfl,rfl,rfl,rfl,trivial⟩,?_⟩;refine ⟨[[.int 2,.str ZoD,.sl 5 [gX (Zff r),gX x],.sl 5 [],.sl 5 []]],rfl,rfl,⟨rfl,rfl,ZbH rfl rfl,⟨5,rfl⟩,⟨5,rfl⟩,trivial⟩,?_⟩;refine ⟨⟨by simp[maxLen];omega,by simp;omega⟩,?_⟩;exact Hold.mk ⟨_,I64.wrap (by unfold I64;omega),aj _ _ _ ⟨⟨n+1,out++[.mk 2 ZoD [Zff r,x] [] []],tl.drop 6⟩,[.old 9],⟨rfl,.inr ⟨⟨Zek (b:=[]) (e:=[]) (gX2 _ _),rfl,rfl⟩,trivial⟩,.inr ⟨lk (congrArg (λz=>D.g (.sl 4 z)) cv),lk rfl,lkI (by push_cast;rfl),trivial⟩,rfl⟩,next _ aZ (by simp),less⟩⟩
  rw[if_neg g2] at aZ;refine ⟨λg3=>?_,λg3=>?_⟩
  ·rw[if_pos g3] at aZ;refine ⟨[gX x],rfl,rfl,⟨rfl,rfl,rfl,rfl,rfl,trivial⟩,?_⟩;refine ⟨[[.int 6,.str [],.sl 5 [gX x],.sl 5 [],.sl 5 []]],rfl,rfl,⟨rfl,rfl,ZbH rfl rfl,⟨5,rfl⟩,⟨5,rfl⟩,trivial⟩,?_⟩;refine ⟨⟨by simp[maxLen];omega,by simp;omega⟩,?_⟩;exact Hold.mk ⟨_,I64.wrap (by unfold I64;omega),aj _ _ _ ⟨⟨n+1,out++[.mk 6 [] [x] [] []],tl.drop 6⟩,[.old 9],⟨rfl,.inr ⟨⟨Zek (b:=[]) (e:=[]) (gX1 _),rfl,rfl⟩,trivial⟩,.inr ⟨lk (congrArg (λz=>D.g (.sl 4 z)) cv),lk rfl,lkI (by push_cast;rfl),trivial⟩,rfl⟩,next _ aZ (by simp),less⟩⟩
  rw[if_neg g3] at aZ;refine ⟨λg4=>?_,λg4=>?_⟩
  ·rw[if_pos g4] at aZ;refine ⟨[gX x],rfl,rfl,⟨rfl,rfl,rfl,rfl,rfl,trivial⟩,?_⟩;refine ⟨[[.int 5,.str [],.sl 5 [gX x],.sl 5 [],.sl 5 []]],rfl,rfl,⟨rfl,rfl,ZbH rfl rfl,⟨5,rfl⟩,⟨5,rfl⟩,trivial⟩,?_⟩;refine ⟨⟨by simp[maxLen];omega,by simp;omega⟩,?_⟩;exact Hold.mk ⟨_,I64.wrap (by unfold I64;omega),aj _ _ _ ⟨⟨n+1,out++[.mk 5 [] [x] [] []],tl.drop 6⟩,[.old 9],⟨rfl,.inr ⟨⟨Zek (b:=[]) (e:=[]) (gX1 _),rfl,rfl⟩,trivial⟩,.inr ⟨lk (congrArg (λz=>D.g (.sl 4 z)) cv),lk rfl,lkI (by push_cast;rfl),trivial⟩,rfl⟩,next _ aZ (by simp),less⟩⟩
  rw[if_neg g4] at aZ;refine ⟨λg6=>⟨λg7=>?_,λg7=>?_⟩,λg6=>?_⟩
  ·rw[if_pos ⟨g6,g7⟩] at aZ;have bM:CT Tryz.prog (gl L) 33 [.g (.sl 4 (((((r :: tl).map Raw.g).take hh).drop 1).take (part.length / 2))),.g (.sl 1 (params.map ZaT)),.g (.int many),.g (.int (depth+1))] (Is (.g (.sl 5 ((Zaz params many (f+1) (part.take (part.length / 2)) (depth+1)).map Stmt.g)))):=by rw[bP,<- YbH];exact ih (by omega) _ (by rw[Yam];omega) (λx hx=>ko x (YaK hx)) (depth+1) (by omega) _ (λh i hi=>ZbN (.inl (by simp only[conv,kp,hi])))
   have lC:CT Tryz.prog (gl L) 33 [.g (.sl 4 (((((r :: tl).map Raw.g).take hh).drop 1).drop (part.length / 2))),.g (.sl 1 (params.map ZaT)),.g (.int many),.g (.int (depth+1))] (Is (.g (.sl 5 ((Zaz params many (f+1) (part.drop (part.length / 2)) (depth+1)).map Stmt.g)))):=by rw[bP,<- YbI];exact ih (by omega) _ (by rw[YaM];omega) (λx hx=>ko x (Ya5 hx)) (depth+1) (by omega) _ (λh i hi=>ZbN (.inl (by simp only[conv,kp,hi])))
   generalize Zaz params many (f+1) (part.take (part.length / 2)) (depth+1)=sa at bM aZ;generalize Zaz params many (f+1) (part.drop (part.length / 2)) (depth+1)=sb at lC aZ;have fM:IntKind.i64.wrap (depth+1)=depth+1:=I64.wrap (by unfold I64;omega);have uk:I64 ((((((r :: tl).map Raw.g).take hh).drop 1).length:Int).tdiv 2):=by rw[sn];unfold I64;omega
   refine ⟨some 2000,rfl,?_⟩;refine ⟨[gX x],rfl,rfl,⟨rfl,rfl,rfl,rfl,rfl,trivial⟩,⟨_,rfl⟩,?_⟩;refine ⟨by decide,uk,part.length / 2,dJ sn,by omega,?_⟩;refine ⟨_,fM,_,_,.inl rfl,bM,rfl,?_⟩;refine ⟨by decide,uk,part.length / 2,dJ sn,by omega,?_⟩;refine ⟨_,fM,_,_,.inl rfl,lC,rfl,?_⟩;refine ⟨[[.int 3,.str [],.sl 5 [gX x],.sl 5 (sa.map Stmt.g),.sl 5 (sb.map Stmt.g)]],rfl,rfl,⟨rfl,rfl,ZbH rfl rfl,rfl,rfl,trivial⟩,?_⟩;refine ⟨⟨by simp[maxLen];omega,by simp;omega⟩,?_⟩;exact Hold.mk ⟨_,I64.wrap (by unfold I64;omega),aj _ _ _ ⟨⟨n+1,out++[.mk 3 [] [x] sa sb],tl.drop 6⟩,[.old 9],⟨rfl,.inr ⟨⟨Zek (b:=sa) (e:=sb) (gX1 _),rfl,rfl⟩,trivial⟩,.inr ⟨lk (congrArg (λz=>D.g (.sl 4 z)) cv),lk rfl,lkI (by push_cast;rfl),trivial⟩,rfl⟩,next _ aZ (by simp),less⟩⟩
  ·rw[if_neg (λh=>g7 h.2),if_neg (λh=>by omega)] at aZ;refine ⟨λh=>absurd h (by omega),λ_=>?_⟩;refine ⟨[[.int 1,.str vn,.sl 5 [gX x],.sl 5 [],.sl 5 []]],rfl,rfl,⟨rfl,rfl,ZbH rfl rfl,⟨5,rfl⟩,⟨5,rfl⟩,trivial⟩,?_⟩;refine ⟨⟨by simp[maxLen];omega,by simp;omega⟩,?_⟩;exact Hold.mk ⟨_,I64.wrap (by unfold I64;omega),aj _ _ _ ⟨⟨n+1,out++[.mk 1 vn [x] [] []],tl.drop 6⟩,[.old 8],⟨rfl,.inr ⟨⟨Zek (b:=[]) (e:=[]) (gX1 _),rfl,rfl⟩,trivial⟩,.inr ⟨lk (congrArg (λz=>D.g (.sl 4 z)) cv),lk rfl,lkI (by push_cast;rfl),trivial⟩,rfl⟩,next _ aZ (by simp),less⟩⟩
  rw[if_neg (λh=>g6 h.1)] at aZ;refine ⟨λg8=>⟨λg9=>?_,λg9=>?_⟩,λg8=>?_⟩
  ·rw[if_pos ⟨g8,g9⟩] at aZ;have td:CT Tryz.prog (gl L) 33 [.g (.sl 4 ((((r :: tl).map Raw.g).take hh).drop 1)),.g (.sl 1 (params.map ZaT)),.g (.int many),.g (.int (depth+2))] (λo=>o=.ret (.row 0) [.row ((Zaz params many (f+1) part (depth+2)).map Stmt.g) 114 5]):=by rw[bP];exact ih (by omega) _ kJ.2 ko (depth+2) (by omega) _ (λh i hi=>ZtI hi rfl rfl)
   have kG:(Zaz params many (f+1) part (depth+2)).length<=8:=ZrD (f+1) kJ.1;generalize Zaz params many (f+1) part (depth+2)=sc at td aZ kG;have yc:(sc.map Stmt.g).length=sc.length:=Yaa _;have fM:IntKind.i64.wrap (depth+2)=depth+2:=I64.wrap (by unfold I64;omega);have wT:=(show CT Tryz.prog (gl L) _ _ _ from Za2 r.b 6 rb (by decide));refine ⟨[[.int 1,.int 0,.str [],.str [],.sl 5 []]],rfl,rfl,⟨rfl,rfl,rfl,rfl,⟨5,rfl⟩,trivial⟩,?_⟩;refine ⟨[[.int 1,.str sy,.sl 5 [gX (ZgS 0)],.sl 5 [],.sl 5 []]],rfl,rfl,⟨rfl,rfl,ZbH rfl rfl,⟨5,rfl⟩,⟨5,rfl⟩,trivial⟩,?_⟩;refine ⟨⟨by simp[maxLen];omega,by simp;omega⟩,?_⟩;refine ⟨[gX (Zlu sy),gX (ZgS 1)],rfl,rfl,⟨rfl,rfl,rfl,rfl,⟨5,rfl⟩,rfl,rfl,rfl,rfl,⟨5,rfl⟩,trivial⟩,?_⟩;refine Zad (.inl rfl) wT ?_;refine ⟨[gX (Zlu sy),gX (ZgS (Zbs r.b 6))],rfl,rfl,⟨rfl,rfl,rfl,rfl,⟨5,rfl⟩,rfl,rfl,rfl,rfl,⟨5,rfl⟩,trivial⟩,?_⟩;refine ZdM [.old 9,.old 6,.old 11,.old 13] [(9,.row 0),(15,.ptr 1 0),(17,.ptr 2 0),(18,.ptr 3 0)]
    [.row (out.map Stmt.g++[[.int 1,.str sy,.sl 5 [gX (ZgS 0)],.sl 5 [],.sl 5 []]]) 114 5,.blk [.g (.int 1),.g (.str vn),.g (.sl 5 [gX x]),.nils,.nils] 114,
     .blk [.g (.int 5),.g (.int 1),.g (.str []),.g (.str []),.g (.sl 5 [gX (Zlu sy),gX (ZgS 1)])] 146,.blk [.g (.int 5),.g (.int 7),.g (.str []),.g (.str []),.g (.sl 5 [gX (Zlu sy),gX (ZgS (Zbs r.b 6))])] 146]
    ?_ ?_
   ·exact ⟨rfl,.inl rfl,.inl rfl,rfl⟩
   refine ⟨some 4500,rfl,?_⟩;refine ⟨_,fM,_,_,_,.inl rfl,td,rfl,?_⟩;refine ⟨[[.int 5,.int 1,.str [],.str [],.sl 5 [gX (Zlu sy),gX (ZgS 1)]]],rfl,rfl,⟨rfl,rfl,rfl,rfl,rfl,trivial⟩,?_⟩;refine ⟨[[.int 1,.str sy,.sl 5 [[.int 5,.int 1,.str [],.str [],.sl 5 [gX (Zlu sy),gX (ZgS 1)]]],.sl 5 [],.sl 5 []]],rfl,rfl,⟨rfl,rfl,rfl,⟨5,rfl⟩,⟨5,rfl⟩,trivial⟩,?_⟩;refine ⟨⟨by simp[maxLen];omega,by simp;omega⟩,?_⟩;refine ⟨[[.int 5,.int 7,.str [],.str [],.sl 5 [gX (Zlu sy),gX (ZgS (Zbs r.b 6))]]],rfl,rfl,⟨rfl,rfl,rfl,rfl,rfl,trivial⟩,?_⟩;refine ⟨[[.int 4,.str [],.sl 5 [[.int 5,.int 7,.str [],.str [],.sl 5 [gX (Zlu sy),gX (ZgS (Zbs r.b 6))]]],.sl 5 (sc.map Stmt.g++[[.int 1,.str sy,.sl 5 [[.int 5,.int 1,.str [],.str [],.sl 5 [gX (Zlu sy),gX (ZgS 1)]]],.sl 5 [],.sl 5 []]]),.sl 5 []]],rfl,rfl,⟨rfl,rfl,ZbH rfl rfl,ZbH rfl rfl,⟨5,rfl⟩,trivial⟩,?_⟩;refine ⟨⟨by simp[maxLen];omega,by simp;omega⟩,?_⟩;exact Hold.mk ⟨_,I64.wrap (by unfold I64;omega),aj _ _ _ ⟨⟨n+1,out++[.mk 1 sy [ZgS 0] [] [],.mk 4 [] [Zkj r] (sc++[.mk 1 sy [upP] [] []]) []],tl.drop 6⟩,[.old 8],⟨rfl,.inr ⟨⟨Zyb,rfl,rfl⟩,trivial⟩,.inr ⟨lk (congrArg (λz=>D.g (.sl 4 z)) cv),lk rfl,lkI (by push_cast;rfl),trivial⟩,rfl⟩,next _ aZ (by simp),less⟩⟩
  ·rw[if_neg (λh=>g9 h.2)] at aZ;refine ⟨[[.int 1,.str vn,.sl 5 [gX x],.sl 5 [],.sl 5 []]],rfl,rfl,⟨rfl,rfl,ZbH rfl rfl,⟨5,rfl⟩,⟨5,rfl⟩,trivial⟩,?_⟩;refine ⟨⟨by simp[maxLen];omega,by simp;omega⟩,?_⟩;exact Hold.mk ⟨_,I64.wrap (by unfold I64;omega),aj _ _ _ ⟨⟨n+1,out++[.mk 1 vn [x] [] []],tl.drop 6⟩,[.old 8],⟨rfl,.inr ⟨⟨Zek (b:=[]) (e:=[]) (gX1 _),rfl,rfl⟩,trivial⟩,.inr ⟨lk (congrArg (λz=>D.g (.sl 4 z)) cv),lk rfl,lkI (by push_cast;rfl),trivial⟩,rfl⟩,next _ aZ (by simp),less⟩⟩
  ·rw[if_neg (λh=>g8 h.1)] at aZ;refine ⟨[[.int 1,.str vn,.sl 5 [gX x],.sl 5 [],.sl 5 []]],rfl,rfl,⟨rfl,rfl,ZbH rfl rfl,⟨5,rfl⟩,⟨5,rfl⟩,trivial⟩,?_⟩;refine ⟨⟨by simp[maxLen];omega,by simp;omega⟩,?_⟩;exact Hold.mk ⟨_,I64.wrap (by unfold I64;omega),aj _ _ _ ⟨⟨n+1,out++[.mk 1 vn [x] [] []],tl.drop 6⟩,[.old 8],⟨rfl,.inr ⟨⟨Zek (b:=[]) (e:=[]) (gX1 _),rfl,rfl⟩,trivial⟩,.inr ⟨lk (congrArg (λz=>D.g (.sl 4 z)) cv),lk rfl,lkI (by push_cast;rfl),trivial⟩,rfl⟩,next _ aZ (by simp),less⟩⟩
variable {L:Lv}
theorem ZmG (params:List Str) (hp:params.length<=1000) (many:Nat) (hm:1<=many/\many<=3) (l:List Raw) (hl:l.length<=4398046511103) (hI:∀r∈l,r.I) :
  CT Tryz.prog (gl L) 33 [.g (.sl 4 (l.map Raw.g)),.g (.sl 1 (params.map ZaT)),.g (.int many),.g (.int 1)] (Is (.g (.sl 5 ((Zcz params many l).map Stmt.g)))) :=
 Zz1 params hp many hm l.length (by omega) l (Yas _) hI 1 (by omega) _ (λh i hi=>ZbN (.inl (by simp only[conv,kp,hi];rfl)))
theorem ZAf (u:Barb.Unit):u.g=[.str u.name,.sl 1 (u.vars.map ZaT),.sl 2 (u.arrays.map Arr.g),.sl 4 (u.funcs.map Fun.g)]:=rfl
set_option maxRecDepth 20000 in
set_option maxHeartbeats 8000000 in
theorem Zvp (l:List Raw) (hl:l.length*32<=140737488351232) (hI:∀r∈l,r.I) (Q:Out->Prop) (hQ:∀(h:Zae) (i:Nat),h[i]?=some (.row ((Zbw l).map Unit.g) 37 4)->Zby Q h (.row i)) :
  CT Tryz.prog (gl L) 11 [.g (.sl 4 (l.map Raw.g))] Q:=by
 have ll:(l.map Raw.g).length=l.length:=Yaa _;obtain ⟨k3,j8,wk⟩:=Zcc l.length (many:=3) (by decide);obtain ⟨M,uf⟩:∃M,M=Zpj l:=⟨_,rfl⟩;have ud:(M:Int)=1+Zbs l.length 3:=by rw[uf];unfold Zpj;rw[show (3:Int)=((3:Nat):Int) from rfl,j8];omega
 have hm:1<=M/\M<=3:=by rw[show (3:Int)=((3:Nat):Int) from rfl,j8] at ud;omega
 have iU:CT Tryz.prog (gl L) 25 [.g (.int ((l.map Raw.g).length:Nat)),.g (.int 3)] (Is (.g (.int (Zbs l.length 3)))):=by rw[ll];exact Za2 l.length 3 (by unfold I64;omega) (by decide)
 have hw:IntKind.i64.wrap (1+Zbs l.length 3)=(M:Int):=by rw[<- ud];exact I64.wrap (by unfold I64;omega)
 refine enter hT hF hM Tryz.func11 rfl 74 rfl (by kernel_rfl) [.tmp 2] rfl [.g (.sl 4 (l.map Raw.g))] rfl _ ?_;refine Zad (.inl rfl) iU ⟨_,hw,?_⟩;refine ZaO (ι:=Nat) (λi=>[(0,.g (.sl 4 (l.map Raw.g))),(3,.g (.int (M:Int))),(4,.row 0),(12,.g (.int (M:Int))),(13,.g (.int (i:Int)))]) (λi=>[.row (((List.range i).map (Zif l M)).map Unit.g) 37 4]) (λi=>i<=M) (λi=>M - i)
  ⟨0,[.nil 37 4],⟨rfl,.inl rfl,.inr ⟨lk rfl,lk rfl,.inr rfl,lk rfl,lk rfl,trivial⟩,rfl⟩,Yat _⟩ ?_
 intro Rd aj i hi;refine ⟨λaG=>?_,λig=>?_⟩
 rotate_left
 ·have pV:i=M:=by omega
  exact ⟨rfl,hQ _ _ (by rw[pV,uf];rfl)⟩
 have pV:i < M:=by omega
 have hmul:∀a:Nat,a<=4->a*l.length<=4*l.length:=λa ha=>YaJ _ ha;have h1:=hmul i (by omega);have h2:=hmul (i+1) (by omega);have c1:((i:Int)*((l.map Raw.g).length:Nat))=((i*l.length:Nat):Int):=by rw[ll];push_cast;rfl
 have c2:(((i:Int)+1)*((l.map Raw.g).length:Nat))=(((i+1)*l.length:Nat):Int):=by rw[ll];push_cast;rfl
 obtain ⟨lo,aT⟩:∃lo,lo=i*l.length / M:=⟨_,rfl⟩;obtain ⟨bc,du⟩:∃bc,bc=(i+1)*l.length / M:=⟨_,rfl⟩;have d1:((i:Int)*((l.map Raw.g).length:Nat)).tdiv M=(lo:Int):=by rw[c1,Ybu (by omega),aT];rfl
 have d2:(((i:Int)+1)*((l.map Raw.g).length:Nat)).tdiv M=(bc:Int):=by rw[c2,Ybu (by omega),du];rfl
 have hle:lo<=bc:=by rw[aT,du];exact Nat.div_le_div_right (YaJ _ (by omega))
 have kP:bc<=l.length:=by rw[du];have:(i+1)*l.length<=M*l.length:=YaJ _ pV;exact YaC (Nat.div_le_div_right this) (by rw[Nat.mul_div_cancel_left _ (by omega)];exact Yas _)
 have s6:IntKind.i64.wrap ((i:Int)+1)=(i:Int)+1:=I64.wrap (by unfold I64;omega);have bP:((l.map Raw.g).take bc).drop lo=(Zfv l M i).map Raw.g:=by unfold Zfv;rw[YbI,YbH,<- aT,<- du]
 refine ⟨none,rfl,?_⟩;refine ⟨by rw[c1];unfold I64;omega,by omega,by rw[d1];unfold I64;omega,?_⟩;refine ⟨_,s6,by rw[c2];unfold I64;omega,by omega,by rw[d2];unfold I64;omega,?_⟩;refine ⟨lo,bc,dJ d1,dJ d2,hle,by rw[ll];exact kP,?_⟩;have hpl:(((l.map Raw.g).take bc).drop lo).length=(Zfv l M i).length:=by rw[bP,Yaa]
 have vP:(Zfv l M i).length<=l.length:=by unfold Zfv;rw[YaM,Yam];omega
 have ko:∀r∈Zfv l M i,r.I:=λr hr=>hI r (YaK (Ya5 hr));obtain ⟨th,ta⟩:∃th,th=(Zfv l M i).length / 3:=⟨_,rfl⟩;have d3:((((l.map Raw.g).take bc).drop lo).length:Int).tdiv 3=(th:Int):=by rw[hpl,Ybu (by omega),ta];rfl
 have s1:CT Tryz.prog (gl L) 33 [.g (.sl 4 ((((l.map Raw.g).take bc).drop lo).take th)),.g (.sl 1 [[.str sp],[.str sq]]),.g (.int M),.g (.int 1)] (Is (.g (.sl 5 ((Zcz [sp,sq] M ((Zfv l M i).take th)).map Stmt.g)))):=by rw[bP,<- YbH];exact ZmG [sp,sq] (by simp) M hm _ (by rw[Yam];omega) (λr hr=>ko r (YaK hr))
 have s2:CT Tryz.prog (gl L) 33 [.g (.sl 4 (((((l.map Raw.g).take bc).drop lo).take (2*th)).drop th)),.g (.sl 1 [[.str sp]]),.g (.int M),.g (.int 1)] (Is (.g (.sl 5 ((Zcz [sp] M (((Zfv l M i).take (2*th)).drop th)).map Stmt.g)))):=by rw[bP,<- YbH,<- YbI];exact ZmG [sp] (by simp) M hm _ (by rw[YaM,Yam];omega) (λr hr=>ko r (YaK (Ya5 hr)))
 have s3:CT Tryz.prog (gl L) 33 [.g (.sl 4 ((((l.map Raw.g).take bc).drop lo).drop (2*th))),.g (.sl 1 []),.g (.int M),.g (.int 1)] (Is (.g (.sl 5 ((Zcz [] M ((Zfv l M i).drop (2*th))).map Stmt.g)))):=by rw[bP,<- YbI];exact ZmG [] (by simp) M hm _ (by rw[YaM];omega) (λr hr=>ko r (Ya5 hr))
 have gA:Zif l M i=⟨Zcr.getD i [],[sx,sy],[⟨ZoD,2+i⟩],[⟨sf,true,[sp,sq],Zcz [sp,sq] M ((Zfv l M i).take th)⟩,⟨sg,false,[sp],Zcz [sp] M (((Zfv l M i).take (2*th)).drop th)⟩,⟨sh,true,[],Zcz [] M ((Zfv l M i).drop (2*th))⟩]⟩:=by rw[ta];rfl
 generalize Zcz [sp,sq] M ((Zfv l M i).take th)=b1 at s1 gA;generalize Zcz [sp] M (((Zfv l M i).take (2*th)).drop th)=b2 at s2 gA;generalize Zcz [] M ((Zfv l M i).drop (2*th))=b3 at s3 gA;have k8:IntKind.i64.wrap (2+(i:Int))=2+(i:Int):=I64.wrap (by unfold I64;omega);have qG:th<=(((l.map Raw.g).take bc).drop lo).length:=by omega
 have nN:2*th<=(((l.map Raw.g).take bc).drop lo).length:=by omega
 have mO:(2:Int)*(th:Int)=((2*th:Nat):Int):=by push_cast;rfl
 have nC:(((List.range i).map (Zif l M)).map Unit.g).length=i:=by simp
 have aF:((List.range i).map (Zif l M)).map Unit.g++[(Zif l M i).g]=((List.range (i+1)).map (Zif l M)).map Unit.g:=by rw[Ycs];simp
 have vw:(Zif l M i).g=[.str (Zcr.getD i []),.sl 1 [[.str sx],[.str sy]],.sl 2 [[.str ZoD,.int (2+(i:Int))]],.sl 4 [[.str sf,.bool true,.sl 1 [[.str sp],[.str sq]],.sl 5 (b1.map Stmt.g)],[.str sg,.bool false,.sl 1 [[.str sp]],.sl 5 (b2.map Stmt.g)],[.str sh,.bool true,.sl 1 [],.sl 5 (b3.map Stmt.g)]]]:=by rw[gA,ZAf];simp only[Yan,YaI,Fun.g,Stmt.gs_map];rfl
 refine ⟨by decide,by rw[d3];unfold I64;omega,?_⟩;have i3:i=0\/i=1\/i=2:=by omega
 rcases i3 with rfl | rfl | rfl
 all_goals
  refine ⟨some 2500,rfl,?_⟩;refine ⟨_,rfl,(by decide),?_⟩;refine ⟨[[.str sx],[.str sy]],rfl,rfl,⟨rfl,rfl,trivial⟩,?_⟩;refine ⟨_,k8,?_⟩;refine ⟨[[.str ZoD,.int _]],rfl,rfl,⟨rfl,rfl,trivial⟩,?_⟩;refine ⟨[[.str sp],[.str sq]],rfl,rfl,⟨rfl,rfl,trivial⟩,?_⟩;refine ⟨th,dJ d3,qG,?_⟩;refine ⟨[[.str sp],[.str sq]],rfl,rfl,⟨rfl,rfl,trivial⟩,?_⟩;refine ⟨_,_,.inl rfl,s1,rfl,?_⟩;refine ⟨[[.str sp]],rfl,rfl,⟨rfl,trivial⟩,?_⟩;refine ⟨(by rw[d3];unfold I64;omega),?_⟩;refine ⟨th,2*th,dJ d3,dJ (by rw[d3];exact mO),by omega,nN,?_⟩;refine ⟨[[.str sp]],rfl,rfl,⟨rfl,trivial⟩,?_⟩;refine ⟨_,_,.inl rfl,s2,rfl,?_⟩;refine ⟨(by rw[d3];unfold I64;omega),?_⟩;refine ⟨2*th,dJ (by rw[d3];exact mO),nN,?_⟩;refine ⟨_,_,(show Ze0 [D.g (.sl 4 ((((l.map Raw.g).take bc).drop lo).drop (2*th))),.nils,.g (.int (M:Int)),.g (.int 1)] [D.g (.sl 4 ((((l.map Raw.g).take bc).drop lo).drop (2*th))),.g (.sl 1 []),.g (.int (M:Int)),.g (.int 1)] from .inr ⟨lk rfl,Zel,lk rfl,lk rfl,trivial⟩),s3,rfl,?_⟩;refine ⟨[[.str sf,.bool true,.sl 1 [[.str sp],[.str sq]],.sl 5 (b1.map Stmt.g)],[.str sg,.bool false,.sl 1 [[.str sp]],.sl 5 (b2.map Stmt.g)],[.str sh,.bool true,.sl 1 [],.sl 5 (b3.map Stmt.g)]],rfl,rfl,⟨rfl,rfl,rfl,rfl,rfl,rfl,rfl,rfl,rfl,rfl,⟨1,rfl⟩,rfl,trivial⟩,?_⟩;refine ⟨[[.str _,.sl 1 [[.str sx],[.str sy]],.sl 2 [[.str ZoD,.int _]],.sl 4 [[.str sf,.bool true,.sl 1 [[.str sp],[.str sq]],.sl 5 (b1.map Stmt.g)],[.str sg,.bool false,.sl 1 [[.str sp]],.sl 5 (b2.map Stmt.g)],[.str sh,.bool true,.sl 1 [],.sl 5 (b3.map Stmt.g)]]]],rfl,rfl,⟨rfl,rfl,rfl,rfl,trivial⟩,?_⟩;refine ⟨⟨by rw[nC];simp[maxLen],by rw[nC];simp⟩,?_⟩;refine ⟨_,s6,?_⟩;refine aj _ _ _ ⟨_,[.old 1],⟨rfl,.inr ⟨⟨?_,rfl,rfl⟩,trivial⟩,.inr ⟨lk rfl,lk rfl,lk rfl,lk rfl,lkI (by omega),trivial⟩,rfl⟩,pV,by show M - (_+1) < M - _;omega⟩;exact (congrArg (λz=>_++[z]) vw.symm).trans aF
end ZN
namespace Barb
open Go Go.Dm Go.Eng
def Zdv (b n:Int):Int:=(n*3+b) % 50
def Zdk (c n:Int):Int:=(n*5+c) % 70
def ZcD (f:Int->Int):Nat->Int->Int
 | 0,n=>n
 | k+1,n=>f (ZcD f k n)
def ZmL (f:Int->Int) (k:Nat) (n:Int):List Int:=(List.range k).map (λi=>ZcD f i n)
theorem ZlH (f:Int->Int) (k:Nat) (n:Int):(ZmL f k n).length=k:=by simp[ZmL]
theorem Zne (f:Int->Int) (k:Nat) (n:Int):ZmL f (k+1) n=ZmL f k n++[ZcD f k n]:=by simp[ZmL,List.range_succ]
def Zfa (c:Int):List Arr->Int->List (List Int)
 | [],_=>[]
 | a :: l,n=>ZmL (Zdk c) a.size.toNat n :: Zfa c l (ZcD (Zdk c) a.size.toNat n)
def Zpz (c:Int):List Arr->Int->Int
 | [],n=>n
 | a :: l,n=>Zpz c l (ZcD (Zdk c) a.size.toNat n)
def Zoc (b c:Int) (u:Unit) (n:Int):Cells:=⟨ZmL (Zdv b) u.vars.length n,Zfa c u.arrays (ZcD (Zdv b) u.vars.length n)⟩
def ZxZ (b c:Int) (u:Unit) (n:Int):Int:=Zpz c u.arrays (ZcD (Zdv b) u.vars.length n)
def ZaG (b c:Int):List Unit->Int->List Cells
 | [],_=>[]
 | u :: l,n=>Zoc b c u n :: ZaG b c l (ZxZ b c u n)
def Zsv (b c:Int):List Unit->Int->Int
 | [],n=>n
 | u :: l,n=>Zsv b c l (ZxZ b c u n)
def ZcL (p:List Unit) (r:Raw):List Cells:=ZaG (Zbs r.b 5) (Zbs r.c 9) p (Zbs r.a 7)
theorem Zkc (b c:Int) (u:Unit):∀(l:List Unit) (n:Int),ZaG b c (l++[u]) n=ZaG b c l n++[Zoc b c u (Zsv b c l n)]
 | [],_=>rfl
 | v :: l,n=>by simp only[List.cons_append,ZaG,Zsv,Zkc b c u l]
theorem Zn9 (b c:Int) (u:Unit):∀(l:List Unit) (n:Int),Zsv b c (l++[u]) n=ZxZ b c u (Zsv b c l n)
 | [],_=>rfl
 | v :: l,n=>by simp only[List.cons_append,Zsv,Zn9 b c u l]
theorem Zlj (c:Int) (a:Arr):∀(l:List Arr) (n:Int),Zfa c (l++[a]) n=Zfa c l n++[ZmL (Zdk c) a.size.toNat (Zpz c l n)]
 | [],_=>rfl
 | v :: l,n=>by simp only[List.cons_append,Zfa,Zpz,Zlj c a l]
theorem Zoa (c:Int) (a:Arr):∀(l:List Arr) (n:Int),Zpz c (l++[a]) n=ZcD (Zdk c) a.size.toNat (Zpz c l n)
 | [],_=>rfl
 | v :: l,n=>by simp only[List.cons_append,Zpz,Zoa c a l]
theorem Zh7 (b c:Int):∀(l:List Unit) (n:Int),(ZaG b c l n).length=l.length
 | [],_=>rfl
 | v :: l,n=>by simp only[ZaG,List.length_cons,Zh7 b c l]
theorem ZfH {b:Int}:∀(k:Nat) {n:Int},0<=n/\n < 70->0<=ZcD (Zdv b) k n/\ZcD (Zdv b) k n < 70
 | 0,_,h=>h
 | k+1,n,h=>by show 0<=Zdv b (ZcD (Zdv b) k n)/\Zdv b (ZcD (Zdv b) k n) < 70;unfold Zdv;omega
theorem Zhg {c:Int}:∀(k:Nat) {n:Int},0<=n/\n < 70->0<=ZcD (Zdk c) k n/\ZcD (Zdk c) k n < 70
 | 0,_,h=>h
 | k+1,n,h=>by show 0<=Zdk c (ZcD (Zdk c) k n)/\Zdk c (ZcD (Zdk c) k n) < 70;unfold Zdk;omega
theorem Zmt {c:Int}:∀(l:List Arr) {n:Int},0<=n/\n < 70->0<=Zpz c l n/\Zpz c l n < 70
 | [],_,h=>h
 | _ :: l,_,h=>Zmt l (Zhg _ h)
theorem Zq6 {b c:Int} {u:Unit} {n:Int} (h:0<=n/\n < 70):0<=ZxZ b c u n/\ZxZ b c u n < 70:=Zmt _ (ZfH _ h)
theorem Zq7 {b c:Int}:∀(l:List Unit) {n:Int},0<=n/\n < 70->0<=Zsv b c l n/\Zsv b c l n < 70
 | [],_,h=>h
 | _ :: l,_,h=>Zq7 l (Zq6 h)
structure PC (p:List Unit):Prop where
 len:p.length<=1000
 vars:∀u∈p,u.vars.length<=1000
 arrs:∀u∈p,u.arrays.length<=1000
 size:∀u∈p,∀a∈u.arrays,0<=a.size/\a.size<=1000
theorem Zkl (c:Int):∀(l:List Arr) (n:Int),(Zfa c l n).length=l.length
 | [],_=>rfl
 | _ :: l,n=>by simp only[Zfa,List.length_cons,Zkl c l]
theorem cells_row (l:List Cells) (c:Cells):l.map Cells.g++[[.sl 1 (c.vars.map ZaU),.sl 1 (c.arrays.map Zmf)]]=(l++[c]).map Cells.g:=by rw[Yaf];rfl
theorem ints_row (l:List Int) (n:Int):l.map ZaU++[[.int n]]=(l++[n]).map ZaU:=by rw[Yaf];rfl
theorem intss_row (l:List (List Int)) (n:List Int):l.map Zmf++[[.sl 1 (n.map ZaU)]]=(l++[n]).map Zmf:=by rw[Yaf];rfl
theorem ZwZ (A:List (List GV)) (q sz:Nat) (h:q < sz) (hA:A.length=q) (x z:List GV):(A++List.replicate (sz - q) z).set q x=(A++[x])++List.replicate (sz - (q+1)) z:=by obtain ⟨m,hm⟩:∃m,sz - q=m+1:=⟨sz - q - 1,by omega⟩;rw[hm,show sz - (q+1)=m by omega,List.replicate_succ,Yb3 _ _ (by omega),hA,Ybq,List.set_cons_zero];simp
end Barb
namespace ZN
open Go Go.Dm Go.Eng Go.RowKit Barb
variable {L:Lv}
set_option maxRecDepth 20000 in
set_option maxHeartbeats 8000000 in
theorem Zz5 (p:List Barb.Unit) (hp:PC p) (r:Raw) (hr:r.I) (Q:Out->Prop) (hQ:∀(h:Zae) (i:Nat),h[i]?=some (.row ((ZcL p r).map Cells.g) 104 2)->Zby Q h (.row i)) :
  CT Tryz.prog (gl L) 12 [.g (.sl 4 (p.map Unit.g)),.agg r.d] Q:=by
 obtain ⟨_,ra,rb,rc⟩:=hr;have lp:(p.map Unit.g).length=p.length:=Yaa _;have na:=ZcB r.a (many:=7) (by decide);have nb:=ZcB r.b (many:=5) (by decide);have nc:=ZcB r.c (many:=9) (by decide);have pa:=Za2 (L:=L) r.a 7 ra (by decide);have pb:=Za2 (L:=L) r.b 5 rb (by decide);have pc:=Za2 (L:=L) r.c 9 rc (by decide);unfold ZcL at hQ;generalize Zbs r.a 7=n0 at na pa hQ;generalize Zbs r.b 5=b at nb pb hQ;generalize Zbs r.c 9=c at nc pc hQ;have hlen:=hp.len;refine enter hT hF hM Tryz.func12 rfl 83 rfl (by kernel_rfl) [.tmp 4] rfl [.g (.sl 4 (p.map Unit.g)),.agg r.d] rfl _ ?_;refine Zad (.inl rfl) pa ?_;refine ZaO (ι:=Nat) (λi=>[(3,.ptr 0 0),(5,.row 1),(6,.g (.int (Zsv b c (p.take i) n0))),(19,.g (.int (i:Int)))]) (λi=>[.blk r.d 24,.row ((ZaG b c (p.take i) n0).map Cells.g) 104 2]) (λi=>i<=p.length) (λi=>p.length - i)
  ⟨0,[.old 0,.nil 104 2],⟨rfl,.inl rfl,.inr ⟨lk rfl,.inr rfl,lk rfl,lk rfl,trivial⟩,rfl⟩,Yat _⟩ ?_
 intro Rd aj i hi;refine ⟨λaG=>?_,λig=>?_⟩
 rotate_left
 ·have az:i=p.length:=by omega
  exact ⟨rfl,hQ _ _ (by rw[az,YaH];rfl)⟩
 have az:i < p.length:=by omega
 have ax:=Yai az;have hv:=hp.vars _ ax;have ha:=hp.arrs _ ax;have hs:=hp.size _ ax;have jw:=Zq7 (b:=b) (c:=c) (p.take i) (n:=n0) (by omega);have aT:=Zh7 b c (p.take i) n0;rw[Yam] at aT;have aM:ZaG b c (p.take (i+1)) n0=ZaG b c (p.take i) n0++[Zoc b c p[i] (Zsv b c (p.take i) n0)]:=by rw[ZaJ az,Zkc]
 have eH:Zsv b c (p.take (i+1)) n0=ZxZ b c p[i] (Zsv b c (p.take i) n0):=by rw[ZaJ az,Zn9]
 refine ⟨i,_,rfl,gm az,?_⟩;generalize yk:ZaG b c (p.take i) n0=out at aM aT;generalize Zsv b c (p.take i) n0=n1 at jw aM eH;generalize p[i]=u at hv ha hs aM eH;have lu:(u.vars.map ZaT).length=u.vars.length:=Yaa _;have la:(u.arrays.map Arr.g).length=u.arrays.length:=Yaa _;refine ZaO (ι:=Nat) (λk=>[(3,.ptr 0 0),(5,.row 1),(6,.g (.int (ZcD (Zdv b) k n1))),(8,.ptr 2 0),(9,.ptr 3 0),(19,.g (.int (i:Int))),(27,.g (.int (k:Int)))])
  (λk=>[.blk r.d 24,.row (out.map Cells.g) 104 2,.blk u.d 37,.blk [.row 4,.nils] 104,.row ((ZmL (Zdv b) k n1).map ZaU) 3 1]) (λk=>k<=u.vars.length) (λk=>u.vars.length - k)
  ⟨0,[.old 0,.old 1,.old 2,.old 3,.nil 3 1],⟨rfl,.inr ⟨⟨rfl,.inl rfl⟩,⟨rfl,rfl,rfl⟩,⟨rfl,.inl rfl⟩,⟨rfl,.inr ⟨.inr rfl,lk rfl,trivial⟩⟩,⟨rfl,rfl,rfl⟩,trivial⟩,.inr ⟨lk rfl,lk rfl,lk rfl,lk rfl,lk rfl,lk rfl,lk rfl,trivial⟩,rfl⟩,Yat _⟩ ?_
 intro Rd2 sk k hk;refine ⟨λwb=>?_,λwc=>?_⟩
 ·have aB:k < u.vars.length:=by omega
  have vV:=ZfH (b:=b) k jw;have aZ:ZcD (Zdv b) (k+1) n1=Zdv b (ZcD (Zdv b) k n1):=rfl;have aF:=Zne (Zdv b) k n1;have fa:=ZlH (Zdv b) k n1;generalize ZcD (Zdv b) k n1=n at vV aZ aF;generalize ZmL (Zdv b) k n1=row at aF fa;refine ⟨[[.int n]],rfl,rfl,⟨rfl,trivial⟩,?_⟩;refine ⟨⟨by simp[maxLen];omega,by simp;omega⟩,?_⟩;refine ⟨by unfold I64;omega,Zad (.inl rfl) pb ⟨_,I64.wrap (by unfold I64;omega),by decide,?_⟩⟩;refine ⟨_,I64.wrap (by unfold I64;omega),?_⟩;exact sk _ _ _ ⟨k+1,[.old 0,.old 1,.old 2,.old 3,.old 6],⟨rfl,.inr ⟨⟨rfl,.inl rfl⟩,⟨rfl,rfl,rfl⟩,⟨rfl,.inl rfl⟩,⟨rfl,.inl rfl⟩,⟨by rw[aF];exact ints_row row n,rfl,rfl⟩,trivial⟩,.inr ⟨lk rfl,lk rfl,lkI (by rw[aZ];unfold Zdv;rw[YbG (by omega)]),lk rfl,lk rfl,lk rfl,lkI (by push_cast;rfl),trivial⟩,rfl⟩,aB,by show u.vars.length - (k+1) < u.vars.length - k;omega⟩
 have eJ:k=u.vars.length:=by omega
 subst eJ;have iY:=ZfH (b:=b) u.vars.length jw;have wQ:Zoc b c u n1=⟨ZmL (Zdv b) u.vars.length n1,Zfa c u.arrays (ZcD (Zdv b) u.vars.length n1)⟩:=rfl;have wG:ZxZ b c u n1=Zpz c u.arrays (ZcD (Zdv b) u.vars.length n1):=rfl;rw[wQ] at aM;rw[wG] at eH;generalize ZmL (Zdv b) u.vars.length n1=vs at aM;generalize ZcD (Zdv b) u.vars.length n1=n2 at iY aM eH;refine ZaO (ι:=Nat) (λj=>[(3,.ptr 0 0),(5,.row 1),(6,.g (.int (Zpz c (u.arrays.take j) n2))),(8,.ptr 2 0),(9,.ptr 3 0),(19,.g (.int (i:Int))),(46,.g (.int (j:Int)))])
  (λj=>[.blk r.d 24,.row (out.map Cells.g) 104 2,.blk u.d 37,.blk [.row 4,.row 5] 104,.row (vs.map ZaU) 3 1,.row ((Zfa c (u.arrays.take j) n2).map Zmf) 30 1]) (λj=>j<=u.arrays.length) (λj=>u.arrays.length - j)
  ⟨0,[.old 0,.old 1,.old 2,.old 3,.old 4,.nil 30 1],⟨rfl,.inr ⟨⟨rfl,.inl rfl⟩,⟨rfl,rfl,rfl⟩,⟨rfl,.inl rfl⟩,⟨rfl,.inr ⟨lk rfl,.inr rfl,trivial⟩⟩,⟨rfl,rfl,rfl⟩,⟨rfl,rfl,rfl⟩,trivial⟩,.inr ⟨lk rfl,lk rfl,lk rfl,lk rfl,lk rfl,lk rfl,lk rfl,trivial⟩,rfl⟩,Yat _⟩ ?_
 intro Rd3 sj j hj;refine ⟨λwm=>?_,λwo=>?_⟩
 rotate_left
 ·have gE:j=u.arrays.length:=by omega
  rw[gE,YaH] at *;refine ⟨[[.sl 1 (vs.map ZaU),.sl 1 ((Zfa c u.arrays n2).map Zmf)]],rfl,rfl,⟨ZbH rfl rfl,ZbH rfl rfl,trivial⟩,?_⟩;refine ⟨⟨by simp[maxLen];omega,by simp;omega⟩,?_⟩;refine ⟨_,I64.wrap (by unfold I64;omega),?_⟩;exact aj _ _ _ ⟨i+1,[.old 0,.old 7],⟨rfl,.inr ⟨⟨rfl,.inl rfl⟩,⟨by rw[aM];exact cells_row out ⟨vs,Zfa c u.arrays n2⟩,rfl,rfl⟩,trivial⟩,.inr ⟨lk rfl,lk rfl,lkI eH.symm,lkI (by push_cast;rfl),trivial⟩,rfl⟩,az,by show p.length - (i+1) < p.length - i;omega⟩
 have aD:j < u.arrays.length:=by omega
 have ah:=hs _ (Yai aD);have pL:=Zmt (c:=c) (u.arrays.take j) iY;have bh:Zfa c (u.arrays.take (j+1)) n2=Zfa c (u.arrays.take j) n2++[ZmL (Zdk c) u.arrays[j].size.toNat (Zpz c (u.arrays.take j) n2)]:=by rw[ZaJ aD,Zlj]
 have eZ:Zpz c (u.arrays.take (j+1)) n2=ZcD (Zdk c) u.arrays[j].size.toNat (Zpz c (u.arrays.take j) n2):=by rw[ZaJ aD,Zoa]
 have bn:(Zfa c (u.arrays.take j) n2).length<=1000:=by rw[Zkl,Yam];omega
 refine ⟨j,_,rfl,gm aD,?_⟩;generalize Zfa c (u.arrays.take j) n2=arrs at bh bn;generalize Zpz c (u.arrays.take j) n2=n3 at pL bh eZ;generalize u.arrays[j]=ar at ah bh eZ;obtain ⟨sz,iK⟩:∃sz:Nat,ar.size=(sz:Int):=⟨ar.size.toNat,by omega⟩;rw[show ar.size.toNat=sz by omega] at bh eZ;refine ⟨sz,sz,[.int 0],dJ iK,dJ iK,Yas _,(by show 8*sz<=140737488355328;omega),by unfold maxLen;omega,⟨rfl,trivial⟩,?_⟩;refine ZaO (ι:=Nat) (λq=>[(3,.ptr 0 0),(5,.row 1),(6,.g (.int (ZcD (Zdk c) q n3))),(8,.ptr 2 0),(9,.ptr 3 0),(12,.row 6),(19,.g (.int (i:Int))),(46,.g (.int (j:Int))),(55,.g (.int (q:Int)))])
  (λq=>[.blk r.d 24,.row (out.map Cells.g) 104 2,.blk u.d 37,.blk [.row 4,.row 5] 104,.row (vs.map ZaU) 3 1,.row (arrs.map Zmf) 30 1,.row ((ZmL (Zdk c) q n3).map ZaU++List.replicate (sz - q) [.int 0]) 3 1]) (λq=>q<=sz) (λq=>sz - q)
  ⟨0,[.old 0,.old 1,.old 2,.old 3,.old 4,.old 5,.old 7],⟨rfl,.inl rfl,.inr ⟨lk rfl,lk rfl,lk rfl,lk rfl,lk rfl,lk rfl,lk rfl,lk rfl,lk rfl,trivial⟩,rfl⟩,Yat _⟩ ?_
 intro Rd4 se q hq;have fD:(List.replicate sz ([GV.int 0]:List GV)).length=sz:=YbO;refine ⟨λvJ=>?_,λvL=>?_⟩
 ·have gT:q < sz:=by omega
  have vT:=Zhg (c:=c) q pL;have aZ:ZcD (Zdk c) (q+1) n3=Zdk c (ZcD (Zdk c) q n3):=rfl;have aF:=Zne (Zdk c) q n3;have fa:=ZlH (Zdk c) q n3;generalize ZcD (Zdk c) q n3=n at vT aZ aF;generalize ZmL (Zdk c) q n3=row at aF fa;have jT:(row.map ZaU).length=q:=by rw[Yaa];exact fa
  have bT:(row.map ZaU++List.replicate (sz - q) ([GV.int 0]:List GV))[q]?=some [.int 0]:=by rw[Yaj (by omega),jT,Ybq,List.getElem?_replicate,if_pos (by omega)]
  refine ⟨q,rfl,(by show q < (row.map ZaU++List.replicate (sz - q) ([GV.int 0]:List GV)).length;rw[Yab,jT,YbO];omega),?_⟩;refine ⟨_,[.int n],bT,⟨rfl,trivial⟩,Yas 1,(λh=>by cases h),?_⟩;refine ⟨by unfold I64;omega,Zad (.inl rfl) pc ⟨_,I64.wrap (by unfold I64;omega),by decide,?_⟩⟩;refine ⟨_,I64.wrap (by unfold I64;omega),?_⟩;exact se _ _ _ ⟨q+1,[.old 0,.old 1,.old 2,.old 3,.old 4,.old 5,.old 6],⟨rfl,.inr ⟨⟨rfl,.inl rfl⟩,⟨rfl,rfl,rfl⟩,⟨rfl,.inl rfl⟩,⟨rfl,.inl rfl⟩,⟨rfl,rfl,rfl⟩,⟨rfl,rfl,rfl⟩,⟨(ZwZ (row.map ZaU) q sz gT jT [.int n] [.int 0]).trans (by rw[aF,ints_row]),rfl,rfl⟩,trivial⟩,.inr ⟨lk rfl,lk rfl,lkI (by rw[aZ];unfold Zdk;rw[YbG (by omega)]),lk rfl,lk rfl,lk rfl,lk rfl,lk rfl,lkI (by push_cast;rfl),trivial⟩,rfl⟩,gT,by show sz - (q+1) < sz - q;omega⟩
 ·have qR:q=sz:=by omega
  subst qR;refine ⟨[[.sl 1 ((ZmL (Zdk c) q n3).map ZaU++List.replicate (q - q) [.int 0])]],rfl,rfl,⟨ZbH rfl rfl,trivial⟩,?_⟩;refine ⟨⟨by simp[maxLen];omega,by simp;omega⟩,?_⟩;refine ⟨_,I64.wrap (by unfold I64;omega),?_⟩;exact sj _ _ _ ⟨j+1,[.old 0,.old 1,.old 2,.old 3,.old 4,.old 8],⟨rfl,.inr ⟨⟨rfl,.inl rfl⟩,⟨rfl,rfl,rfl⟩,⟨rfl,.inl rfl⟩,⟨rfl,.inl rfl⟩,⟨rfl,rfl,rfl⟩,⟨by rw[bh,Ybq,List.replicate_zero,YaF];exact intss_row _ _,rfl,rfl⟩,trivial⟩,.inr ⟨lk rfl,lk rfl,lkI eZ.symm,lk rfl,lk rfl,lk rfl,lkI (by push_cast;rfl),trivial⟩,rfl⟩,aD,by show u.arrays.length - (j+1) < u.arrays.length - j;omega⟩
end ZN
namespace Barb
open Go Go.Dm Go.Eng
theorem ZdG {s:Str} (h1:1<=s.length) (h8:s.length<=8) (hc:∀c∈s,97<=c.toNat/\c.toNat<=122) (hk:s ∉ ZqA):Zan s :=
 ⟨⟨⟨h1,h8⟩,λ_ hj=>.inl (hc _ (Yai hj))⟩,hk⟩
theorem ZCK:Zan sx:=ZdG (by decide) (by decide) (by decide) (by decide)
theorem Zz8:Zan sy:=ZdG (by decide) (by decide) (by decide) (by decide)
theorem ZCL:Zan sp:=ZdG (by decide) (by decide) (by decide) (by decide)
theorem ZC4:Zan sq:=ZdG (by decide) (by decide) (by decide) (by decide)
theorem ZCO:Zan sf:=ZdG (by decide) (by decide) (by decide) (by decide)
theorem ZCN:Zan sg:=ZdG (by decide) (by decide) (by decide) (by decide)
theorem ZCM:Zan sh:=ZdG (by decide) (by decide) (by decide) (by decide)
theorem Zux:Zan ZoD:=ZdG (by decide) (by decide) (by decide) (by decide)
theorem Zmh:∀s∈Zcr,Zan s:=by intro s hs;simp only[Zcr,Yav,Ya4,or_false] at hs;rcases hs with rfl | rfl | rfl<;>exact ZdG (by decide) (by decide) (by decide) (by decide)
theorem ZpK {α:Type} {l:List α} {k:Nat} (h:k < l.length) (z:α):l.getD k z=l[k]:=by simp[h]
theorem ZiV {l:List Str} (h:l≠[]) (n:Int):Znp l n∈l:=by unfold Znp;obtain ⟨k,hk,hl⟩:=Zcc n (many:=l.length) (Ybm.2 h);rw[hk];show l.getD k []∈l;rw[ZpK hl];exact Yai hl
theorem Zlv {many:Int} (h1:1<=many) (h3:many<=3) (n:Int):Zex n many∈Zcr.take many.toNat:=by
 obtain ⟨m,rfl⟩:∃m:Nat,many=(m:Int):=⟨many.toNat,by omega⟩;unfold Zex;obtain ⟨k,hk,hl⟩:=Zcc n (many:=m) (by omega);rw[hk];show Zcr.getD k []∈Zcr.take m;have h:k < (Zcr.take m).length:=by rw[Yam];show k < min m 3;omega
 have:Zcr.getD k []=(Zcr.take m)[k]:=by rw[List.getElem_take];exact ZpK (by show k < 3;omega) []
 rw[this];exact Yai h
structure PX (params:List Str) (many:Int):Prop where
 lo:1<=many
 hi:many<=3
 ids:∀s∈params,Zan s
theorem Zs5 {params:List Str} {many:Int} (h:PX params many):∀s∈Zbh params,Zan s:=by
 intro s hs;simp only[Zbh,List.cons_append,List.nil_append,Yav] at hs;rcases hs with rfl | rfl | hs
 ·exact ZCK
 ·exact Zz8
 ·exact h.ids s hs
theorem Zs9 {many:Int} (h1:1<=many) (h3:many<=3) (n:Int):Zan (Zex n many):=Zmh _ (YaK (Zlv h1 h3 n))
theorem Ze2 {n:Int} (h0:0<=n) (h1:n<=65535) (f:Nat):Zaw (f+1) (ZgS n)=0:=by unfold Zaw;rw[if_neg (by omega),if_neg (by simp),if_neg (λh=>h (.inl ⟨rfl,rfl,rfl,rfl⟩)),if_neg (by unfold Za0;omega)];rfl
theorem Zl6 {s:Str} (h:Zan s) (f:Nat):Zaw (f+1) (Zlu s)=0:=by unfold Zaw;rw[if_neg (by omega),if_neg (by simp),if_neg (λh'=>h' (.inr (.inl ⟨rfl,rfl,h,rfl,rfl⟩))),if_neg (by unfold Za0;omega)];rfl
theorem Zt8 (r:Raw):∃n,Zff r=ZgS n/\0<=n/\n<=65535:=by
 unfold Zff;refine ⟨_,rfl,?_⟩;split
 ·obtain ⟨k,hk,hl⟩:=Zcc r.c (many:=4) (by decide);rw[show (4:Int)=((4:Nat):Int) from rfl,hk]
  match k,hl with
  | 0,_=>decide
  | 1,_=>decide
  | 2,_=>decide
  | 3,_=>decide
 ·have:=ZcB r.a (many:=6) (by decide);omega
theorem Ziq {α:Type} {f:α->Int} {a b:α} (ha:f a=0) (hb:f b=0):Zal f [a,b]=0:=by simp[Zal,ha,hb]
theorem ZbU {α:Type} {f:α->Int} {a:α} (ha:f a=0):Zal f [a]=0:=by simp[Zal,ha]
theorem Zh1 {params:List Str} {many:Int} (hp:PX params many):∀(f:Nat) (l:List Raw) (depth:Int) (n:Nat),1<=n->1<=depth->6<=depth+n->Zaw n (Zat params many f l depth)=0
 | 0,l,depth,n+1,_,_,_=>Ze2 (by omega) (by omega) n
 | f+1,[],depth,n+1,_,_,_=>Ze2 (by omega) (by omega) n
 | f+1,r :: rest,depth,n+1,_,hd,hn=>by
  have ka:=ZcB r.kind (many:=9) (by decide);have kb:=ZcB r.kind (many:=20) (by decide);have ra:=ZcB r.a (many:=10) (by decide);unfold Zat;simp only;generalize hk:(if depth > 4 then Zbs r.kind 9 else Zbs r.kind 20)=k;have wj:¬k < 9->¬depth > 4:=λh h4=>by rw[if_pos h4] at hk;omega
  split
  ·obtain ⟨v,e,v0,v1⟩:=Zt8 r;rw[e];exact Ze2 v0 v1 n
  ·split
   ·exact Zl6 (Zs5 hp _ (ZiV (by simp[Zbh]) _)) n
   ·rename_i h4 h9;have yx:=wj h9;have ia:=Zh1 hp f (rest.take (rest.length / 2)) (depth+1) n (by omega) (by omega) (by omega);have ib:=Zh1 hp f (rest.drop (rest.length / 2)) (depth+1) n (by omega) (by omega) (by omega);split
    ·unfold Zaw;rw[if_neg (by omega),if_neg (by simp),if_neg (λh'=>h' (.inr (.inr (.inr (.inr ⟨rfl,rfl,rfl,rfl⟩))))),if_neg (by unfold Za0;omega)];exact Ziq ia ib
    ·split
     ·unfold Zaw;rw[if_neg (by omega),if_neg (by simp),if_neg (λh'=>h' (.inr (.inr (.inl ⟨rfl,rfl,Zux,rfl,rfl⟩)))),if_neg (by unfold Za0;omega)];exact ZbU ia
     ·split
      ·unfold Zaw;rw[if_neg (by omega),if_neg (by simp),if_neg (λh'=>h' (.inr (.inr (.inr (.inl ⟨rfl,.inl rfl,ZCN,rfl⟩))))),if_neg (by unfold Za0;omega)];exact ZbU ia
      ·split
       ·unfold Zaw;rw[if_neg (by omega),if_neg (by simp),if_neg (λh'=>h' (.inr (.inr (.inr (.inl ⟨rfl,.inr (Zs9 hp.lo hp.hi _),ZCO,rfl⟩))))),if_neg (by unfold Za0;omega)];exact Ziq ia ib
       ·unfold Zaw;rw[if_neg (by omega),if_neg (by simp),if_neg (λh'=>h' (.inr (.inr (.inr (.inl ⟨rfl,.inr (Zs9 hp.lo hp.hi _),ZCM,rfl⟩))))),if_neg (by unfold Za0;omega)];rfl
theorem ZBh {params:List Str} {many:Int} (hp:PX params many) (f:Nat) (l:List Raw):Zaw 12 (Zat params many f l 1)=0:=Zh1 hp f l 1 12 (by decide) (by decide) (by decide)
theorem ZCc (r:Raw):Zaw 12 (Zff r)=0:=by obtain ⟨v,e,v0,v1⟩:=Zt8 r;rw[e];exact Ze2 v0 v1 11
theorem stE {f:List Stmt->Int} {k:Int} {s:Str} {xs:List Expr} {b e:List Stmt} (h1:1<=k/\k<=6) (h2:ZdN k s xs.length b.length e.length) (h3:Zal (Zaw 12) xs=0) (h4:f b=0) (h5:f e=0):ZbI f (.mk k s xs b e)=0:=by unfold ZbI;simp only;rw[if_neg (λh=>h h1),if_neg (λh=>h h2),if_neg (λh=>h h3),if_neg (λh=>h h4)];exact h5
theorem ZgY (n:Nat):Zai (n+1) []=0:=rfl
theorem Zh0 {α:Type} {f:α->Int} {a b:List α} (ha:Zal f a=0) (hb:Zal f b=0):Zal f (a++b)=0 :=
 Zap (λx hx=>by
  rcases Yar.1 hx with h | h
  ·exact (Zaf ha) x h
  ·exact (Zaf hb) x h)
theorem ZlD {s:Str} {x:Expr} (hs:Zan s) (hx:Zaw 12 x=0) (n:Nat):ZbI (Zai (n+1)) (.mk 1 s [x] [] [])=0 :=
 stE (by omega) ⟨⟨λ_=>hs,λh=>absurd h (by omega),λh=>absurd h (by omega),λ_=>rfl⟩,.inl rfl,.inl rfl⟩ (ZbU hx) (ZgY n) (ZgY n)
theorem ZCW:Zaw 12 upP=0:=by unfold upP Zaw;rw[if_neg (by omega),if_neg (by simp),if_neg (λh'=>h' (.inr (.inr (.inr (.inr ⟨rfl,rfl,rfl,rfl⟩))))),if_neg (by unfold Za0;omega)];exact Ziq (Zl6 Zz8 10) (Ze2 (by omega) (by omega) 10)
theorem ZzR (r:Raw):Zaw 12 (Zkj r)=0:=by have:=ZcB r.b (many:=6) (by decide);unfold Zkj Zaw;rw[if_neg (by omega),if_neg (by simp),if_neg (λh'=>h' (.inr (.inr (.inr (.inr ⟨rfl,rfl,rfl,rfl⟩))))),if_neg (by unfold Za0;omega)];exact Ziq (Zl6 Zz8 10) (Ze2 (by omega) (by omega) 10)
theorem ZrG {params:List Str} {many:Int} (hp:PX params many) {depth:Int} {n:Nat} {rec:List Raw->Int->List Stmt} (r:Raw) (part:List Raw) (h3:depth < 3->∀l,Zai (n+2) (rec l (depth+1))=0) (h2:depth < 2->∀l,Zai (n+2) (rec l (depth+2))=0) :
  Zal (ZbI (Zai (n+2))) (ZaX params many depth rec r part)=0:=by
 have kb:=ZcB r.kind (many:=12) (by decide);have hx:=ZBh hp part.length part;unfold ZaX;simp only;generalize Zbs r.kind 12=k at kb;split
 ·exact ZbU (stE (by omega) ⟨⟨λ_=>Zux,λh=>absurd h (by omega),λ_=>rfl,λh=>absurd rfl h⟩,.inl rfl,.inl rfl⟩ (Ziq (ZCc r) hx) (ZgY (n+1)) (ZgY (n+1)))
 ·split
  ·exact ZbU (stE (by omega) ⟨⟨λh=>absurd h (by omega),λ_=>rfl,λh=>absurd h (by omega),λ_=>rfl⟩,.inl rfl,.inl rfl⟩ (ZbU hx) (ZgY (n+1)) (ZgY (n+1)))
  ·split
   ·exact ZbU (stE (by omega) ⟨⟨λh=>absurd h (by omega),λ_=>rfl,λh=>absurd h (by omega),λ_=>rfl⟩,.inl rfl,.inl rfl⟩ (ZbU hx) (ZgY (n+1)) (ZgY (n+1)))
   ·split
    ·rename_i hd;exact ZbU (stE (by omega) ⟨⟨λh=>absurd h (by omega),λ_=>rfl,λh=>absurd h (by omega),λ_=>rfl⟩,.inr (.inl rfl),.inr rfl⟩ (ZbU hx) (h3 hd.2 _) (h3 hd.2 _))
    ·split
     ·rename_i hd;refine Ziq (ZlD Zz8 (Ze2 (by omega) (by omega) 11) (n+1)) (stE (by omega) ⟨⟨λh=>absurd h (by omega),λ_=>rfl,λh=>absurd h (by omega),λ_=>rfl⟩,.inr (.inr rfl),.inl rfl⟩ (ZbU (ZzR r)) ?_ (ZgY (n+1)));have:=h2 hd.2 part;exact Zh0 this (ZbU (ZlD Zz8 ZCW n))
     ·exact ZbU (ZlD (Zs5 hp _ (ZiV (by simp[Zbh]) _)) hx (n+1))
theorem Zjz {params:List Str} {many depth:Int} {rec:List Raw->Int->List Stmt} {g:Stmt->Int} (h:∀r part,Zal g (ZaX params many depth rec r part)=0):∀(k:Nat) (l:List Raw),Zal g (ZeV params many depth rec k l)=0
 | 0,_=>rfl
 | _+1,[]=>rfl
 | k+1,r :: _=>Zh0 (h r _) (Zjz h k _)
theorem Zgx {params:List Str} {many:Int} (hp:PX params many):∀(f:Nat) (l:List Raw) (depth:Int) (n:Nat),3<=n->1<=depth->7<=depth+n->Zai n (Zaz params many f l depth)=0
 | 0,_,_,n+3,_,_,_=>rfl
 | f+1,l,depth,n+3,_,h1,h7=>by unfold Zaz Zai;exact Zjz (λr part=>ZrG hp r part (λh3 l=>Zgx hp f l (depth+1) (n+2) (by omega) (by omega) (by omega)) (λh2 l=>Zgx hp f l (depth+2) (n+2) (by omega) (by omega) (by omega))) 4 l
theorem Zl1 (n:Nat) (a b:List Stmt):Zah (n+1) (a++b)=Zah (n+1) a+Zah (n+1) b:=by simp only[Zah,Yab,Yaf,YbE];omega
theorem ZiW (n:Nat) (k:Int) (s:Str) (xs:List Expr) (b e:List Stmt):Zah (n+1) [.mk k s xs b e]=1+(Zah n b+Zah n e):=by simp[Zah,Zfd]
theorem ZeZ (n:Nat):Zah n []=0:=by cases n<;>simp[Zah]
theorem ZfB (n:Nat) (k:Int) (s:Str) (xs:List Expr):Zah n [.mk k s xs [] []]<=1:=by
 cases n with
 | zero=>simp[Zah]
 | succ n=>rw[ZiW,ZeZ];omega
theorem Zwa {params:List Str} {many depth:Int} {rec:List Raw->Int->List Stmt} (r:Raw) {l:List Raw} (h:l.length<=6) (k:Nat):ZeV params many depth rec (k+1) (r :: l)=ZaX params many depth rec r (l.take 6):=by
 have:l.drop 6=[]:=Yb8.2 h;unfold ZeV;rw[this];cases k<;>simp[ZeV]
theorem ZhD {params:List Str} {many depth:Int} {rec:List Raw->Int->List Stmt} (r:Raw) (part:List Raw) (n:Nat) (c b:Int) (h3:depth < 3->Zah n (rec (part.take (part.length / 2)) (depth+1))+Zah n (rec (part.drop (part.length / 2)) (depth+1))<=c) (h2:depth < 2->Zah n (rec part (depth+2))<=b) (hc:0<=c) (hb:depth < 2->b+3<=c+1) :
  Zah (n+1) (ZaX params many depth rec r part)<=c+1:=by
 unfold ZaX;simp only;split
 ·have:=ZfB (n+1) 2 ZoD [Zff r,Zat params many part.length part 1];omega
 ·split
  ·have:=ZfB (n+1) 6 [] [Zat params many part.length part 1];omega
  ·split
   ·have:=ZfB (n+1) 5 [] [Zat params many part.length part 1];omega
   ·split
    ·rename_i hd;rw[ZiW];have:=h3 hd.2;omega
    ·split
     ·rename_i hd;rw[show ∀a b:Stmt,[a,b]=[a]++[b] from λ_ _=>rfl,Zl1,ZiW (e:=[]),ZiW,ZeZ];have h4:=h2 hd.2;have h5:=hb hd.2;have h6:Zah n (rec part (depth+2)++[.mk 1 sy [upP] [] []])<=b+1:=by
       cases n with
       | zero=>simp only[Zah] at h4 ⊢;omega
       | succ n =>rw[Zl1];have:=ZfB (n+1) 1 sy [upP];omega
      omega
     ·have:=ZfB (n+1) 1 (Znp (Zbh params) r.a) [Zat params many part.length part 1];omega
theorem Znc {params:List Str} {many depth:Int} {rec:List Raw->Int->List Stmt} (n:Nat) {c:Int} (hc:0<=c) (hs:∀r part,part.length<=6->Zah (n+1) (ZaX params many depth rec r part)<=c):∀(k:Nat) (l:List Raw),Zah (n+1) (ZeV params many depth rec k l)<=k*c
 | 0,_=>by unfold ZeV;rw[ZeZ];simp
 | k+1,[]=>by unfold ZeV;rw[ZeZ];exact Int.mul_nonneg (by omega) hc
 | k+1,r :: l=>by unfold ZeV;rw[Zl1];have h1:=hs r (l.take 6) (by rw[Yam];omega);have h2:=Znc n hc hs k (l.drop 6);rw[show ((k+1:Nat):Int)*c=k*c+c from by push_cast;rw[Int.add_mul,Int.one_mul]];omega
theorem ZkO {params:List Str} {many depth:Int} {f:Nat} (n:Nat) {l:List Raw} (h:l.length<=6) (c:Int) (hc:0<=c) (hs:∀r part,part.length<=6->Zah (n+1) (ZaX params many depth (Zaz params many f) r part)<=c):Zah (n+1) (Zaz params many (f+1) l depth)<=c:=by
 unfold Zaz
 match l,h with
 | [],_=>unfold ZeV;rw[ZeZ];exact hc
 | r :: l,h=>rw[Zwa r (by simp at h;omega)];exact hs r _ (by rw[Yam];omega)
theorem Zuf (params:List Str) (many:Int) (f n:Nat) (l:List Raw) {depth:Int} (hd:3<=depth) (h:l.length<=6):Zah n (Zaz params many f l depth)<=1:=by
 match n,f with
 | 0,_=>simp[Zah]
 | n+1,0=>unfold Zaz;rw[ZeZ];omega
 | n+1,f+1=>exact ZkO n h 1 (by omega) (λr part _=>ZhD r part n 0 0 (λh=>absurd h (by omega)) (λh=>absurd h (by omega)) (by omega) (λh=>absurd h (by omega)))
theorem ZxP (params:List Str) (many:Int) (f n:Nat) (l:List Raw) (h:l.length<=6):Zah n (Zaz params many f l 2)<=3:=by
 match n,f with
 | 0,_=>simp[Zah]
 | n+1,0=>unfold Zaz;rw[ZeZ];omega
 | n+1,f+1 =>refine ZkO n h 3 (by omega) (λr part hp=>ZhD r part n 2 0 (λ_=>?_) (λh=>absurd h (by omega)) (by omega) (λh=>absurd h (by omega)));have h1:=Zuf params many f n (part.take (part.length / 2)) (depth:=2+1) (by omega) (by rw[Yam];omega);have h2:=Zuf params many f n (part.drop (part.length / 2)) (depth:=2+1) (by omega) (by rw[YaM];omega);omega
theorem ZeN (params:List Str) (many:Int) (l:List Raw):Zah 12 (Zcz params many l)<=28:=by
 unfold Zcz Zaz;refine Znc 11 (c:=7) (by omega) (λr part hp=>ZhD r part 11 6 1 (λ_=>?_) (λ_=>?_) (by omega) (λ_=>by omega)) 4 l
 ·have h1:=ZxP params many l.length 11 (part.take (part.length / 2)) (by rw[Yam];omega);have h2:=ZxP params many l.length 11 (part.drop (part.length / 2)) (by rw[YaM];omega);have e:(1:Int)+1=2:=rfl;rw[e];omega
 ·exact Zuf params many l.length 11 part (by omega) hp
theorem Zki {params:List Str} {many:Int} (hp:PX params many) (l:List Raw):Zai 12 (Zcz params many l)=0:=Zgx hp _ l 1 12 (by omega) (by omega) (by omega)
structure Shape (many:Nat) (u:Unit):Prop where
 ex:∃(i:Nat) (l1 l2 l3:List Raw),i < 3/\u=⟨Zcr.getD i [],[sx,sy],[⟨ZoD,2+i⟩],[⟨sf,true,[sp,sq],Zcz [sp,sq] many l1⟩,⟨sg,false,[sp],Zcz [sp] many l2⟩,⟨sh,true,[],Zcz [] many l3⟩]⟩
theorem px2 {many:Nat} (h:1<=many/\many<=3):PX [sp,sq] many:=⟨by omega,by omega,λs hs=>by
 simp only[Yav,Ya4,or_false] at hs;rcases hs with rfl | rfl
 ·exact ZCL
 ·exact ZC4⟩
theorem px1 {many:Nat} (h:1<=many/\many<=3):PX [sp] many:=⟨by omega,by omega,λs hs=>by
 simp only[Yav,Ya4,or_false] at hs;subst hs;exact ZCL⟩
theorem px0 {many:Nat} (h:1<=many/\many<=3):PX [] many:=⟨by omega,by omega,λs hs=>by simp at hs⟩
theorem ZrJ {many:Nat} (hm:1<=many/\many<=3) {u:Unit} (h:Shape many u):Zbm u=0:=by
 obtain ⟨i,l1,l2,l3,hi,rfl⟩:=h.ex;have hu:Zan (Zcr.getD i []):=Zmh _ (by rw[ZpK (show i < Zcr.length from hi)];exact Yai _);have f1:Zhi ⟨sf,true,[sp,sq],Zcz [sp,sq] many l1⟩=0:=Zi3 ZCO (by simp) (px2 hm).ids (Zki (px2 hm) l1);have f2:Zhi ⟨sg,false,[sp],Zcz [sp] many l2⟩=0:=Zi3 ZCN (by simp) (px1 hm).ids (Zki (px1 hm) l2);have f3:Zhi ⟨sh,true,[],Zcz [] many l3⟩=0:=Zi3 ZCM (by simp) (px0 hm).ids (Zki (px0 hm) l3);have m1:=ZeN [sp,sq] many l1;have m2:=ZeN [sp] many l2;have m3:=ZeN [] many l3;have n1:=Zbx 12 (Zcz [sp,sq] many l1);have n2:=Zbx 12 (Zcz [sp] many l2);have n3:=Zbx 12 (Zcz [] many l3);have hN:Zb9 [⟨sf,true,[sp,sq],Zcz [sp,sq] many l1⟩,⟨sg,false,[sp],Zcz [sp] many l2⟩,⟨sh,true,[],Zcz [] many l3⟩]=Zah 12 (Zcz [sp,sq] many l1)+(Zah 12 (Zcz [sp] many l2)+Zah 12 (Zcz [] many l3)):=by simp[Zb9]
 unfold Zbm;simp only;rw[if_neg (λh=>h hu),if_neg (by simp),if_neg,if_neg,if_neg,if_neg]
 ·rw[hN,I64.wrap (by unfold I64;omega)];omega
 ·simp[Zal,f1,f2,f3]
 ·have:Zkm ⟨ZoD,2+i⟩=0:=by unfold Zkm;rw[if_neg (λh=>h Zux),if_neg (by show ¬¬(1<=(2+(i:Int))/\2+(i:Int)<=10);omega)]
  simp[Zal,this]
 ·have hx:ZdF sx=0:=by unfold ZdF;rw[if_pos ZCK]
  have hy:ZdF sy=0:=by unfold ZdF;rw[if_pos Zz8]
  simp[Zal,hx,hy]
structure Sees2 (params:List Str) (many:Int) (p:List Unit) (u:Unit) (f:Fun):Prop where
 vars:∀s∈Zbh params,ZkM u f s
 arr:Zlk u ZoD
 g:Zbf p u [] sg 1=0
 f:∀s∈Zcr.take many.toNat,Zbf p u s sf 2=0
 h:∀s∈Zcr.take many.toNat,Zbf p u s sh 0=0
 lo:1<=many
 hi:many<=3
section
variable {params:List Str} {many:Int} {p:List Unit} {u:Unit} {fn:Fun}
theorem Zj1 {k n:Int} {of s:Str} (h:Zbp p u fn k of s 0=0):ZbR p u fn (.mk k n of s [])=0:=by simp only[ZbR,List.length_nil,h,Zeb];rfl
theorem Zn4 {k n:Int} {of s:Str} {a:Expr} (h:Zbp p u fn k of s 1=0) (ha:ZbR p u fn a=0):ZbR p u fn (.mk k n of s [a])=0:=by simp only[ZbR,List.length_cons,List.length_nil,YaA,h,Zeb,ha];rfl
theorem Zhn {k n:Int} {of s:Str} {a b:Expr} (h:Zbp p u fn k of s 2=0) (ha:ZbR p u fn a=0) (hb:ZbR p u fn b=0):ZbR p u fn (.mk k n of s [a,b])=0:=by simp only[ZbR,List.length_cons,List.length_nil,YaA,Nat.reduceAdd,h,Zeb,ha,hb];rfl
theorem Zv8 {k:Int} {of s:Str} {m:Nat} (h2:k≠2) (h3:k≠3) (h4:k≠4):Zbp p u fn k of s m=0:=by unfold Zbp;rw[if_neg (by omega),if_neg h4]
theorem ZAA {of s:Str} {m:Nat} (h:ZkM u fn s):Zbp p u fn 2 of s m=0:=by unfold Zbp;rw[if_neg (λh'=>by rcases h' with h' | h';exact h'.2 h;exact absurd h'.1 (by omega)),if_neg (by omega)]
theorem ZAB {of s:Str} {m:Nat} (h:Zlk u s):Zbp p u fn 3 of s m=0:=by unfold Zbp;rw[if_neg (λh'=>by rcases h' with h' | h';exact absurd h'.1 (by omega);exact h'.2 h),if_neg (by omega)]
theorem ZtC {of s:Str} {m:Nat} (h:Zbf p u of s m=0):Zbp p u fn 4 of s m=0:=by unfold Zbp;rw[if_neg (by omega),if_pos rfl];exact h
theorem Zzi (n:Int):ZbR p u fn (ZgS n)=0:=Zj1 (Zv8 (by omega) (by omega) (by omega))
theorem ZBR {s:Str} (h:ZkM u fn s):ZbR p u fn (Zlu s)=0:=Zj1 (ZAA h)
theorem ZgH (hs:Sees2 params many p u fn):∀(f:Nat) (l:List Raw) (depth:Int),ZbR p u fn (Zat params many f l depth)=0
 | 0,_,_=>Zzi 3
 | _+1,[],_=>Zzi 3
 | f+1,r :: rest,depth=>by
  have ia:=ZgH hs f (rest.take (rest.length / 2)) (depth+1);have ib:=ZgH hs f (rest.drop (rest.length / 2)) (depth+1);unfold Zat;simp only;generalize (if depth > 4 then Zbs r.kind 9 else Zbs r.kind 20)=k;split
  ·exact Zzi _
  ·split
   ·exact ZBR (hs.vars _ (ZiV (by simp[Zbh]) _))
   ·split
    ·exact Zhn (Zv8 (by omega) (by omega) (by omega)) ia ib
    ·split
     ·exact Zn4 (ZAB hs.arr) ia
     ·split
      ·exact Zn4 (ZtC hs.g) ia
      ·split
       ·exact Zhn (ZtC (hs.f _ (Zlv hs.lo hs.hi _))) ia ib
       ·exact Zj1 (ZtC (hs.h _ (Zlv hs.lo hs.hi _)))
theorem stS {k:Int} {s:Str} {xs:List Expr} {b e:List Stmt} (h1:k=1->ZkM u fn s) (h2:k=2->Zlk u s) (hx:Zal (ZbR p u fn) xs=0) (hb:Zal (Zd1 p u fn) b=0) (he:Zal (Zd1 p u fn) e=0):Zd1 p u fn (.mk k s xs b e)=0:=by simp only[Zd1];rw[if_neg (λh=>by rcases h with h | h;exact h.2 (h1 h.1);exact h.2 (h2 h.1)),ZbV,Za1,Za1,if_neg (λh=>h hx),if_neg (λh=>h hb)];exact he
theorem ZoQ (hs:Sees2 params many p u fn) {depth:Int} {rec:List Raw->Int->List Stmt} (hr:∀l d,Zal (Zd1 p u fn) (rec l d)=0) (r:Raw) (part:List Raw):Zal (Zd1 p u fn) (ZaX params many depth rec r part)=0:=by
 have hx:=ZgH hs part.length part 1;have hy:ZkM u fn sy:=hs.vars _ (by simp[Zbh]);have n0:Zal (Zd1 p u fn) []=0:=rfl;unfold ZaX;simp only;generalize Zbs r.kind 12=k;split
 ·exact ZbU (stS (λh=>absurd h (by omega)) (λ_=>hs.arr) (Ziq (Zzi _) hx) n0 n0)
 ·split
  ·exact ZbU (stS (λh=>absurd h (by omega)) (λh=>absurd h (by omega)) (ZbU hx) n0 n0)
  ·split
   ·exact ZbU (stS (λh=>absurd h (by omega)) (λh=>absurd h (by omega)) (ZbU hx) n0 n0)
   ·split
    ·exact ZbU (stS (λh=>absurd h (by omega)) (λh=>absurd h (by omega)) (ZbU hx) (hr _ _) (hr _ _))
    ·split
     ·refine Ziq (stS (λ_=>hy) (λh=>absurd h (by omega)) (ZbU (Zzi 0)) n0 n0) (stS (λh=>absurd h (by omega)) (λh=>absurd h (by omega)) (ZbU ?_) ?_ n0)
      ·exact Zhn (Zv8 (by omega) (by omega) (by omega)) (ZBR hy) (Zzi _)
      ·exact Zh0 (hr _ _) (ZbU (stS (λ_=>hy) (λh=>absurd h (by omega)) (ZbU (Zhn (Zv8 (by omega) (by omega) (by omega)) (ZBR hy) (Zzi _))) n0 n0))
     ·exact ZbU (stS (λ_=>hs.vars _ (ZiV (by simp[Zbh]) _)) (λh=>absurd h (by omega)) (ZbU hx) n0 n0)
theorem ZrP {depth:Int} {rec:List Raw->Int->List Stmt} {g:Stmt->Int} (h:∀r part,Zal g (ZaX params many depth rec r part)=0):∀(k:Nat) (l:List Raw),Zal g (ZeV params many depth rec k l)=0:=Zjz h
theorem Zig (hs:Sees2 params many p u fn):∀(f:Nat) (l:List Raw) (depth:Int),Zal (Zd1 p u fn) (Zaz params many f l depth)=0
 | 0,_,_=>rfl
 | f+1,l,depth=>by unfold Zaz;exact ZrP (λr part=>ZoQ hs (λl d=>Zig hs f l d) r part) 4 l
end
structure Prog (many:Nat) (p:List Unit):Prop where
 m:1<=many/\many<=3
 shape:∀u∈p,Shape many u
 names:p.map Unit.name=Zcr.take many
theorem Ztv {many:Nat} {u:Unit} (h:Shape many u):Zlk u ZoD:=by obtain ⟨i,l1,l2,l3,hi,rfl⟩:=h.ex;exact ⟨_,Yaz.2 rfl,rfl⟩
theorem ZrI {many:Nat} {u:Unit} (h:Shape many u):u.vars=[sx,sy]:=by obtain ⟨i,l1,l2,l3,hi,rfl⟩:=h.ex;rfl
theorem ZyH {many:Nat} {u:Unit} (h:Shape many u) (p:List Unit):Zbf p u [] sg 1=0:=by obtain ⟨i,l1,l2,l3,hi,rfl⟩:=h.ex;unfold Zbf;rw[if_pos rfl];rfl
theorem ZyI {many:Nat} {u:Unit} (h:Shape many u) (of:Str):calledIn u of sf 2=0:=by obtain ⟨i,l1,l2,l3,hi,rfl⟩:=h.ex;unfold calledIn;show (if of≠[]/\true=false then (5:Int) else if (2:Nat)≠2 then 7 else 0)=0;rw[if_neg (by simp),if_neg (by simp)]
theorem ZyG {many:Nat} {u:Unit} (h:Shape many u) (of:Str):calledIn u of sh 0=0:=by obtain ⟨i,l1,l2,l3,hi,rfl⟩:=h.ex;unfold calledIn;show (if of≠[]/\true=false then (5:Int) else if (0:Nat)≠0 then 7 else 0)=0;rw[if_neg (by simp),if_neg (by simp)]
theorem ZjD {many:Nat} {p:List Unit} (hp:Prog many p) {s:Str} (hs:s∈Zcr.take many) (u:Unit) (x:Str) (m:Nat) (h:∀v,Shape many v->calledIn v s x m=0):Zbf p u s x m=0:=by
 have aC:s≠[]:=λe=>by have:=Zmh s (YaK hs);rw[e] at this;exact absurd this.1.1.1 (by decide)
 unfold Zbf;rw[if_neg aC];split
 ·rename_i hn;rw[<- hp.names] at hs;obtain ⟨v,hv,e⟩:=YaU.1 hs;have:=List.find?_eq_none.1 hn v hv;exact absurd (decide_eq_true e) this
 ·rename_i v hv;exact h v (hp.shape v (YbV hv))
theorem ZtU {many:Nat} {p:List Unit} (hp:Prog many p) {u:Unit} (hu:u∈p) {f:Fun}:Sees2 f.params many p u f:=by
 have h:=hp.shape u hu;refine ⟨λs hs=>?_,Ztv h,ZyH h p,λs hs=>ZjD hp hs u _ _ (λv hv=>ZyI hv s),λs hs=>ZjD hp hs u _ _ (λv hv=>ZyG hv s),by have:=hp.m;omega,by have:=hp.m;omega⟩;unfold ZkM;rw[ZrI h];simp only[Zbh,List.cons_append,List.nil_append,Yav] at hs ⊢;rcases hs with hs | hs | hs
 ·exact .inr (.inl hs)
 ·exact .inr (.inr (.inl hs))
 ·exact .inl hs
theorem Zq8 {l:List Str} (h:l.Nodup):¬ZoF l:=by rintro ⟨j,hj,hm⟩;obtain ⟨i,hi,e⟩:=YaR hm;rw[Yam] at hi;rw[List.getElem_take] at e;have:=(List.getElem_inj h).1 e;omega
theorem ZrR {many:Nat} {p:List Unit} (hp:Prog many p) {u:Unit} (hu:u∈p):ZgT p u=0:=by
 have rM:∀f∈u.funcs,ZuG p u f=0:=by
  intro f hf;have hs:=ZtU hp hu (f:=f);have key:∀(params:List Str) (l:List Raw),f.params=params->f.body=Zcz params many l->params.Nodup->ZuG p u f=0:=λparams l e1 e2 hd=>by unfold ZuG;rw[e1,if_neg (Zq8 hd),Za1,e2];rw[e1] at hs;exact Zig hs _ l 1
  obtain ⟨i,l1,l2,l3,hi,rfl⟩:=(hp.shape u hu).ex;simp only[Yav,Ya4,or_false] at hf;rcases hf with rfl | rfl | rfl
  ·exact key [sp,sq] l1 rfl rfl (by decide)
  ·exact key [sp] l2 rfl rfl (by decide)
  ·exact key [] l3 rfl rfl (by decide)
 unfold ZgT;rw[if_neg,Zap rM];obtain ⟨i,l1,l2,l3,hi,rfl⟩:=(hp.shape u hu).ex;rintro (h | h)
 ·exact Zq8 (l:=[sx,sy,ZoD]) (by decide) h
 ·exact Zq8 (l:=[sf,sg,sh]) (by decide) h
theorem ZoU {many:Nat} {u:Unit} (h:Shape many u):0<=ZaC u/\ZaC u<=6:=by obtain ⟨i,l1,l2,l3,hi,rfl⟩:=h.ex;simp only[ZaC,sizes,Yan,YaI,List.sum_cons,List.sum_nil,List.length_cons,List.length_nil];omega
theorem Zje {many:Nat}:∀{p:List Unit},(∀u∈p,Shape many u)->0<=Zar p/\Zar p<=6*p.length
 | [],_=>by simp[Zar]
 | u :: p,h=>by have h1:=ZoU (h u Yae);have h2:=Zje (p:=p) (λv hv=>h v (Yad _ hv));simp only[Zar,Yan,List.sum_cons,List.length_cons] at h2 ⊢;omega
theorem Zg5 {many:Nat} {p:List Unit} (hp:Prog many p):p.length=many:=by have:=congrArg List.length hp.names;rw[Yaa,Yam] at this;have h3:=hp.m;have h:Zcr.length=3:=rfl;omega
theorem Znn {many:Nat} {p:List Unit} (hp:Prog many p):ZbC p=0:=by
 have hl:=Zg5 hp;have hm:=hp.m;have hw:=Zje hp.shape;have hu:Zal Zbm p=0:=Zap (λu hu=>ZrJ hm (hp.shape u hu));unfold ZbC;rw[if_neg (by omega),if_neg (λh=>h hu),if_neg,if_neg (by omega)]
 ·exact Zap (λu hu=>ZrR hp hu)
 ·rw[hp.names];refine Zq8 ?_;obtain ⟨h1,h3⟩:=hm;have:many=1\/many=2\/many=3:=by omega
  rcases this with rfl | rfl | rfl<;>decide
theorem Zg4 (l:List Raw):Prog (Zpj l) (Zbw l):=by
 obtain ⟨k,hk,hl⟩:=Zcc l.length (many:=3) (by decide);have hm:Zpj l=1+k:=by unfold Zpj;rw[show (3:Int)=((3:Nat):Int) from rfl,hk];omega
 refine ⟨by omega,λu hu=>?_,?_⟩
 ·unfold Zbw at hu;obtain ⟨i,hi,rfl⟩:=YaU.1 hu;rw[Ya1] at hi;exact ⟨i,_,_,_,by omega,rfl⟩
 ·unfold Zbw;rw[hm];have:k=0\/k=1\/k=2:=by omega
  rcases this with rfl | rfl | rfl<;>rfl
theorem Ztu {many:Nat} {u:Unit} (h:Shape many u):Zb9 u.funcs<=300:=by obtain ⟨i,l1,l2,l3,_,rfl⟩:=h.ex;have m1:=ZeN [sp,sq] many l1;have m2:=ZeN [sp] many l2;have m3:=ZeN [] many l3;simp only[Zb9,Yan,YaI,List.sum_cons,List.sum_nil];omega
theorem Zqc {many:Nat} {p:List Unit} (h:Prog many p):ZuS p:=λu hu=>Ztu (h.shape u hu)
end Barb
