import Derived.Test.YtpjjkiidjofflaaGreatDoorWG2
import Derived.Test.YtpjjkiidjofflaaGreatDoorWDjk
import Derived.Test.YtpjjkiidjofflaaGreatDoorWGh
import Derived.Test.YtpjjkiidjofflaaGreatDoorWG1
import Derived.Test.YtpjjkiidjofflaaGreatDoorWTq
open Go Go.Proofs Go.Proofs.YtpjjkiidjofflaaGreatDoor
namespace Barb
open Go Go.Dm Go.Eng
end Barb
namespace ZN
open Go Go.Dm Go.Eng Go.RowKit Barb
abbrev BH (p:List Barb.Unit) (N:List CN) (fuel:Nat) (told:List Int):Zad:=[.blk (rC p N 1 fuel) 70,.row (told.map Zat) 3 1]
abbrev XH (p:List Barb.Unit) (N:List CN) (R:Value) (s:ES) (c:EC) (el:EL):Zad :=
 [.blk (cC 1 3 c el) 148,.blk (rC p N 4 s.fuel) 70,.many (mz N s) [(R,1)],.row (el.ps.map Zat) 3 1,.row (tz s) 3 1]
abbrev RH (p:List Barb.Unit) (N:List CN) (R:Value) (s:ES):Zad :=
 [.blk (rC p N 2 s.fuel) 70,.many (mz N s) [(R,0)],.row (tz s) 3 1]
abbrev ZbW (e:Int):D:=.iface 116 (.agg [.g (.int e)])
theorem ZA7 {R':D->Zad->Prop} {env:Dm.Env} {p:List Barb.Unit} {N:List CN} {fuel:Nat} {told:List Int} {h hin:Zad} {d0:D} (d:D) (src:List Src) (hok:ZdG src=true) (hlen:Zmt src (BH p N fuel told)=true)
  (h0:conv h src 4 (env 0)=.ptr 0 0) (hd:conv h src 4 d0=d) (hT:Zbu h src=BH p N fuel told) (q:R' d (BH p N fuel told)):ToH [0] hin 1 [] R' h env d0:=by refine ⟨src,d,BH p N fuel told,⟨hok,.inl hT,.inl ?_,hlen⟩,rfl,trivial,q⟩;rw[Yar,Yar,Yar,h0,hd];rfl
theorem Zzw:fnOk Tryz.prog 96=true:=by kernel_rfl
theorem ZwW (p:List Barb.Unit) (N:List CN) (fuel:Nat) (told:List Int) (hf:fuel<=200000):CTH Tryz.prog gl 96 1 (BH p N fuel told) [.ptr 0 0]
  (λout=>if fuel=0 then out=.panH (ZbW 3) (BH p N 0 told) else out=.ret (.tuple []) (BH p N (fuel - 1) told)):=by
 refine ZbT [] hT hF hM Tryz.func96 rfl 16 rfl (by kernel_rfl) [] rfl [.ptr 0 0] rfl (BH p N fuel told) [0] rfl rfl rfl 1 [] trivial _ ?_;refine ⟨λh=>?_,λh=>?_⟩
 ·have h0:fuel=0:=by omega
  subst h0;exact ⟨rfl,ZA7 (ZbW 3) [.old 0,.old 1] rfl rfl rfl rfl rfl (ZCy rfl rfl)⟩
 ·have h0:fuel≠0:=λe=>h (by omega);refine ⟨by unfold I64;omega,?_⟩;have e:((fuel:Int) - 1)=((fuel - 1:Nat):Int):=by omega
  rw[e];exact ⟨rfl,ZA7 (.tuple []) [.old 0,.old 1] rfl rfl rfl rfl rfl (ZCx h0 rfl)⟩
end ZN
namespace Go.Dm
open Go Go.Eng Go.RowKit
section
variable {P:Program} {G:Gl} {n:Nat}
end
end Go.Dm
namespace ZN
open Go Go.Dm Go.Eng Go.RowKit Barb
abbrev LH (p:List Barb.Unit) (N:List CN) (R:Value) (s:ES) (c:EC) (el:EL) (l:List (Value × Ob0)) (v:Value) (xs:List Int):Zad :=
 [.blk (cC 1 3 c el) 148,.blk (rC p N 4 s.fuel) 70,.many l [(v,5),(R,1)],.row (el.ps.map Zat) 3 1,.row (tz s) 3 1,.row (xs.map Zat) 3 1]
theorem tgX {p:List Barb.Unit} {N:List CN} {R:Value} {s:ES} {c:EC} {el:EL}:Zgd (XH p N R s c el) 2 1 [some R,none]:=⟨Yac,trivial,trivial⟩
theorem tgL {p:List Barb.Unit} {N:List CN} {R:Value} {s:ES} {c:EC} {el:EL} {l:List (Value × Ob0)} {v:Value} {xs:List Int}:Zgd (LH p N R s c el l v xs) 2 1 [some R,none]:=⟨Yad _ Yac,trivial,trivial⟩
theorem Zez:fnOk Tryz.prog 98=true:=by kernel_rfl
theorem stX {p:List Barb.Unit} {N:List CN} {R:Value} {s:ES} {c:EC} {el:EL} {s':ES} {c':EC} {el':EL}:Zhp (XH p N R s c el) (XH p N R s' c' el') 2 1 [some R,none] :=
 ⟨Yac,⟨trivial,rfl⟩,trivial,trivial⟩
theorem stL {p:List Barb.Unit} {N:List CN} {R:Value} {s:ES} {c:EC} {el:EL} {l:List (Value × Ob0)} {v:Value} {xs:List Int}:Zhp (LH p N R s c el l v xs) (LH p N R s c el l v xs) 2 1 [some R,none] :=
 ⟨Yad _ Yac,⟨trivial,rfl⟩,trivial,trivial⟩
set_option maxRecDepth 20000 in
theorem Zkp {p:List Barb.Unit} {N:List CN} {R:Value} {s:ES} {c:EC} {el:EL} {name:Str} {i:Nat} (hi:i < el.ps.length) (hx:ZoT c.f name=(i:Int)) (hpl:c.f.params.length<=4) :
  CTH Tryz.prog gl 98 3 (XH p N R s c el) [.ptr 0 0,.g (.str name)] (λout=>out=.ret (.el 3 i 0) (XH p N R s c el)):=by unfold ZoT at hx;have hI:=Zc2 c.f.params (by omega) name;rw[hx] at hI;refine ZbT [] hT hF hM Tryz.func98 rfl 52 rfl (by kernel_rfl) [.tmp 4] rfl [.ptr 0 0,.g (.str name)] rfl (XH p N R s c el) [0] rfl rfl rfl 2 [some R,none] tgX _ ?_;refine .inl (Zae (.inl rfl) hI ?_);refine ⟨λ_=>?_,λh=>absurd (Int.natCast_nonneg i) h⟩;refine ⟨i,rfl,by rw[Yab];exact hi,?_⟩;exact ⟨rfl,.inl (Zl6 (.el 3 i 0) [.old 0,.old 1,.old 2,.old 3,.old 4] rfl rfl rfl (.inl rfl) rfl rfl stX rfl)⟩
set_option maxRecDepth 20000 in
theorem Zko {p:List Barb.Unit} {N:List CN} {R:Value} {s:ES} {c:EC} {el:EL} {name:Str} {l:List (Value × Ob0)} {v:Value} {xs:List Int} {i:Nat} (hi:i < xs.length) (hx:¬0<=ZoT c.f name) (hu:c.u < p.length) (hy:ZxZ (uAt p c.u) name=(i:Int)) (hN:c.u < N.length) (hv:N[c.u].v=v) (hpl:c.f.params.length<=4) (hvl:(uAt p c.u).vars.length<=8) :
  CTH Tryz.prog gl 98 3 (LH p N R s c el l v xs) [.ptr 0 0,.g (.str name)] (λout=>out=.ret (.el 5 i 0) (LH p N R s c el l v xs)):=by unfold ZoT at hx;unfold ZxZ at hy;rw[Zde hu] at hy hvl;have hI:=Zc2 p[c.u].vars (by omega) name;rw[hy] at hI;refine ZbT [] hT hF hM Tryz.func98 rfl 52 rfl (by kernel_rfl) [.tmp 4] rfl [.ptr 0 0,.g (.str name)] rfl (LH p N R s c el l v xs) [0] rfl rfl rfl 2 [some R,none] tgL _ ?_;refine .inl (Zae (.inl rfl) (Zc2 c.f.params (by omega) name) ?_);refine ⟨λh=>absurd h hx,λ_=>?_⟩;refine ⟨none,rfl,?_⟩;refine ⟨c.u,_,rfl,ZCw hN,?_⟩;refine ⟨c.u,_,rfl,gm hu,?_⟩;refine ⟨_,_,.inl rfl,hI,rfl,?_⟩;refine ⟨2,5,l,[(v,5),(R,1)],xs.map Zat,3,i,rfl,by rw[hv];exact Yac,rfl,rfl,by rw[Yab];exact hi,?_⟩;exact ⟨rfl,.inl (Zl6 (.el 5 i 0) [.old 0,.old 1,.old 2,.old 3,.old 4,.old 5] rfl rfl rfl (.inl rfl) rfl rfl stL rfl)⟩
theorem ZjT:fnOk Tryz.prog 99=true:=by kernel_rfl
theorem Zw7 (a:Arr) (s:Str):CT Tryz.prog gl 109 [.agg [.g (.str a.name),.g (.int a.size)],.fp [.str s] 0] (Is (.pb (a.name=s))):=by refine enter hT hF hM Tryz.func109 rfl 8 rfl (by kernel_rfl) [.tmp 3] rfl [.agg [.g (.str a.name),.g (.int a.size)],.fp [.str s] 0] rfl _ ?_;exact ⟨rfl,ZmY Ybg⟩
theorem Zt7 (l:List Arr) (hl:l.length<=9223372036854775807) (s:Str):CT Tryz.prog gl 108 [.g (.sl 2 (l.map Arr.g)),.fn 109 [] [.fp [.str s] 0]] (Is (.g (.int (idx (λa:Arr=>a.name=s) l)))):=by
 have ll:(l.map Arr.g).length=l.length:=by simp
 refine enter hT hF hM Tryz.func108 rfl 19 rfl (by kernel_rfl) [.tmp 4] rfl [.g (.sl 2 (l.map Arr.g)),.fn 109 [] [.fp [.str s] 0]] rfl _ ?_;refine ZaL (ι:=Nat) (λi=>[(8,.g (.int (i:Int)))]) (λ_=>[]) (λi=>i<=l.length/\∀j (hj:j < l.length),j < i->¬l[j].name=s) (λi=>l.length - i)
  ⟨0,[],⟨rfl,.inl rfl,.inr ⟨lk rfl,trivial⟩,rfl⟩,Yau _,Zhg (q:=λx:Arr=>x.name=s)⟩ ?_
 intro Rd hRd i ⟨hi,ha⟩;refine ⟨λh=>?_,λh=>?_⟩
 ·have h1:i < l.length:=by omega
  refine ⟨i,_,rfl,gm h1,?_⟩;refine Zae (.inl rfl) (Zw7 l[i] s) ?_;refine ⟨λh2=>⟨rfl,ZbQ (Zf6 (q:=λx:Arr=>x.name=s) h1 ha h2).symm⟩,λh2=>⟨_,I64.wrap (by unfold I64;omega),?_⟩⟩;exact hRd _ _ _ ⟨i+1,[],⟨rfl,.inl rfl,.inr ⟨lk rfl,trivial⟩,rfl⟩,⟨h1,ZcS (q:=λx:Arr=>x.name=s) h1 ha h2⟩,by omega⟩
 ·exact ⟨rfl,ZbQ (Zf5 (Zdw (q:=λx:Arr=>x.name=s) (by omega) ha)).symm⟩
set_option maxRecDepth 20000 in
theorem Zib {p:List Barb.Unit} {N:List CN} {R:Value} {s:ES} {c:EC} {el:EL} {name:Str} {n:Int} {l:List (Value × Ob0)} {v:Value} {xs:List Int} {k:Nat} (h0:0<=n) (hn:n<=65535) (hu:c.u < p.length) (hy:ZxK (uAt p c.u) name=(k:Int)) (hN:c.u < N.length) (hv:N[c.u].ar[k]?=some v) (hal:(uAt p c.u).arrays.length<=3) :
  CTH Tryz.prog gl 99 3 (LH p N R s c el l v xs) [.ptr 0 0,.g (.str name),.g (.int n)]
   (λout=>if (xs.length:Int)<=n then out=.panH (ZbW 2) (LH p N R s c el l v xs) else out=.ret (.el 5 n.toNat 0) (LH p N R s c el l v xs)):=by
 unfold ZxK at hy;rw[Zde hu] at hy hal;have hI:=Zt7 p[c.u].arrays (by omega) name;rw[hy] at hI;refine ZhQ [3] hT hF hM Tryz.func99 rfl 51 rfl (by kernel_rfl) [.tmp 6] rfl [.ptr 0 0,.g (.str name),.g (.int n)] rfl (LH p N R s c el l v xs) [0] rfl rfl rfl 2 [some R,none] tgL _ ?_;refine ⟨none,rfl,?_⟩;refine ⟨c.u,_,rfl,gm hu,?_⟩;refine ⟨_,_,.inl rfl,hI,rfl,?_⟩;refine ⟨none,rfl,?_⟩;refine ⟨c.u,_,rfl,ZCw hN,?_⟩;refine ⟨k,_,rfl,ZBY hv,?_⟩;refine Zx3 8 2 5 rfl rfl Yac rfl (ZmE ?_);have lx:(xs.map Zat).length=xs.length:=Yab _;refine ⟨λh=>?_,λh=>?_⟩
 ·refine .inl ?_;exact ⟨rfl,.inl (Zl6 (ZbW 2) [.old 0,.old 1,.old 2,.old 3,.old 4,.old 5] rfl rfl rfl (.inl rfl) rfl rfl stL (ZCy (by omega) rfl))⟩
 ·refine ⟨n.toNat,congrArg (λz=>D.g (.int z)) (by omega),by omega,?_⟩;exact ⟨rfl,.inl (Zl6 (.el 5 n.toNat 0) [.old 0,.old 1,.old 2,.old 3,.old 4,.old 5] rfl rfl rfl (.inl rfl) rfl rfl stL (ZCx (by omega) rfl))⟩
end ZN
namespace Barb
open Go Go.Dm Go.Eng
end Barb
namespace ZN
open Go Go.Dm Go.Eng Go.RowKit Barb
abbrev XHr (p:List Barb.Unit) (N:List CN) (R:Value) (s:ES) (c:EC) (el:EL) (r:Zad):Zad :=
 .blk (cC 1 3 c el) 148 :: .blk (rC p N 4 s.fuel) 70 :: .many (mz N s) [(R,1)] :: .row (el.ps.map Zat) 3 1 :: .row (tz s) 3 1 :: r
abbrev XHd (p:List Barb.Unit) (N:List CN) (R:Value) (s:ES) (c:EC) (el:EL) (r:Zad):Zad :=
 .blk (cC 1 (0+(r.length+5)) c el) 148 :: .blk (rC p N (1+(r.length+5)) s.fuel) 70 :: .many (mz N s) [(R,1)] :: .dead :: .dead :: (r++[.row (el.ps.map Zat) 3 1,.row (tz s) 3 1])
abbrev XHb (p:List Barb.Unit) (N:List CN) (R:Value) (s:ES) (c:EC) (el:EL) (r:Zad):Zad :=
 .blk (cC 1 3 c el) 148 :: .blk (rC p N (0+(r.length+5)) s.fuel) 70 :: .many (mz N s) [(R,1)] :: .row (el.ps.map Zat) 3 1 :: .dead :: (r++[.row (tz s) 3 1])
theorem ZCt (p:List Barb.Unit) (N:List CN) (R:Value) (s s':ES) (c:EC) (el el':EL) (r:Zad):Zhv (XHr p N R s c el r) [0,1,2,3,4] 3 (XH p N R s' c el')=XHd p N R s' c el' r:=by unfold Zhv;simp only[Yar,YaS,Zlu];rw[show (0+1+1+1+1+1:Nat)=0+5 from rfl,ZkB];rfl
theorem ZCv (p:List Barb.Unit) (N:List CN) (R:Value) (s:ES) (c:EC) (el:EL) (r:Zad) (n:Nat):Zhv (XHr p N R s c el r) [1,4] 1 (BH p N n s.told)=XHb p N R { s with fuel:=n } c el r:=by unfold Zhv;simp only[Yar,YaS,Zlu];rw[show (0+1+1+1+1+1:Nat)=0+5 from rfl,ZkC];rfl
theorem ZBL (p:List Barb.Unit) (N:List CN) (R:Value) (s:ES) (c:EC) (el:EL) (r:Zad) (l:List D) (hn:l.map (conv (XHr p N R s c el r) [.old 0,.old 1,.old 2,.old 3,.old 4] 4)=l):TurnTo (XHr p N R s c el r) [.old 0,.old 1,.old 2,.old 3,.old 4] (.ptr 0 0 :: l) (XH p N R s c el) (.ptr 0 0 :: l) :=
 ⟨rfl,.inl rfl,.inl (by rw[Yar,hn];rfl),rfl⟩
theorem ZuN {g:FuncId} (hg:fnOk Tryz.prog g=true) {l all:List D} {h:Zad} {K Qp:KD} {p:List Barb.Unit} {N:List CN} {R:Value} {s:ES} {c:EC} {el:EL} {Q:Out->Prop} (r:Zad)
  (hct:CTH Tryz.prog gl g 3 (XH p N R s c el) (.ptr 0 0 :: l) Q) (hn:l.map (conv (XHr p N R s c el r) [.old 0,.old 1,.old 2,.old 3,.old 4] 4)=l) (hl:Zgw (XHr p N R s c el r) [0,1,2,3,4] (.ptr 0 0 :: l)=true)
  (hh:h=XHr p N R s c el r) (ha:all=.ptr 0 0 :: l)
  (hQ:∀out,Q out->(∃d s' el',out=.ret d (XH p N R s' c el')/\K (rnD (rnI [0,1,2,3,4] 3 (r.length+5)) 4 d) (XHd p N R s' c el' r))\/(∃e s' el',out=.panH (ZbW e) (XH p N R s' c el')/\Qp (ZbW e) (XHd p N R s' c el' r))) :
  fnOk Tryz.prog g=true/\(Zb7 Tryz.prog gl g all h K Qp\/ZbB Tryz.prog gl g all h K Qp):=by
 subst hh;subst ha;refine Zee [0,1,2,3,4] hg hl rfl (ZBL _ _ _ _ _ _ _ _ hn) hct (λd' h' hq=>?_) (λd' h' hq=>?_)
 ·rcases hQ _ hq with ⟨d,s',el',he,hk⟩ | ⟨e,s',el',he,_⟩
  ·injection he with e1 e2;subst e1;subst e2;rw[ZCt];exact hk
  ·cases he
 ·rcases hQ _ hq with ⟨d,s',el',he,hk⟩ | ⟨e,s',el',he,hk⟩
  ·cases he
  ·injection he with e1 e2;subst e1;subst e2;rw[ZCt];exact hk
theorem Zhe {all:List D} {h:Zad} {K Qp:KD} {p:List Barb.Unit} {N:List CN} {R:Value} {s:ES} {c:EC} {el:EL} (r:Zad) (hf:s.fuel<=200000)
  (hh:h=XHr p N R s c el r) (ha:all=[.ptr 1 0])
  (hno:s.fuel=0->Qp (ZbW 3) (XHb p N R s c el r)) (hyes:s.fuel≠0->K (.tuple []) (XHb p N R { s with fuel:=s.fuel - 1 } c el r)) :
  fnOk Tryz.prog 96=true/\(Zb7 Tryz.prog gl 96 all h K Qp\/ZbB Tryz.prog gl 96 all h K Qp):=by
 subst hh;subst ha;refine Zee [1,4] Zzw rfl rfl ⟨rfl,.inl rfl,.inl rfl,rfl⟩ (ZwW p N s.fuel s.told hf) (λd' h' hq=>?_) (λd' h' hq=>?_)
 ·split at hq
  ·cases hq
  ·rename_i h0;injection hq with e1 e2;subst e1;subst e2;rw[ZCv];exact hyes h0
 ·split at hq
  ·rename_i h0;injection hq with e1 e2;subst e1;subst e2;have e:(BH p N 0 s.told)=BH p N s.fuel s.told:=by rw[h0]
   rw[e,ZCv];exact hno h0
  ·cases hq
theorem Zb2 {R':D->Zad->Prop} {env:Dm.Env} {p:List Barb.Unit} {N:List CN} {R:Value} {s s':ES} {c:EC} {el el':EL} {h:Zad} {l:List (Value × Ob0)} {ps told:List (List GV)} {d0:D} (d:D) (src:List Src) (hok:ZdG src=true) (hlen:Zmt src (XH p N R s' c el')=true)
  (h0:conv h src 4 (env 0)=.ptr 0 0) (hd:conv h src 4 d0=d\/ZiV (Zjs src) 4 (conv h src 4 d0) d)
  (hT:Zbu h src=[.blk (cC 1 3 c el') 148,.blk (rC p N 4 s'.fuel) 70,.many l [(R,1)],.row ps 3 1,.row told 3 1])
  (e1:ps=el'.ps.map Zat) (e2:told=tz s') (e3:l.Perm (mz N s')) (q:R' d (XH p N R s' c el')):ToH [0] (XH p N R s c el) 2 [some R,none] R' h env d0:=by
 subst e1;subst e2;refine ⟨src,d,XH p N R s' c el',⟨hok,.inr ?_,.inr ?_,hlen⟩,rfl,stX,q⟩
 ·rw[hT];exact ⟨⟨rfl,.inl rfl⟩,⟨rfl,.inl rfl⟩,⟨e3,rfl⟩,⟨rfl,rfl,rfl⟩,⟨rfl,rfl,rfl⟩,trivial⟩
 ·rw[Yar,Yar,Yar,h0];exact ⟨by rcases hd with hd | hd;exact lk hd;exact hd,lk rfl,trivial⟩
def xQ (p:List Barb.Unit) (N:List CN) (R:Value) (c:EC) (el:EL):RR Int->Out->Prop
 | .ok n s',out=>out=.ret (.g (.int n)) (XH p N R s' c el)
 | .stop e s',out=>out=.panH (ZbW e) (XH p N R s' c el)
def kQ (p:List Barb.Unit) (N:List CN) (R:Value):RR Int->Out->Prop
 | .ok n s',out=>out=.ret (.g (.int n)) (RH p N R s')
 | .stop e s',out=>out=.panH (ZbW e) (RH p N R s')
def Zsp (p:List Barb.Unit) (N:List CN) (R:Value) (g:Nat):Prop:=∀(c:EC) (el:EL) (s:ES) (x:Barb.Expr),OkS p N g s->CI p c->ELI c el->XI p c x->x.I ->
 CTH Tryz.prog gl 97 3 (XH p N R s c el) [.ptr 0 0,.agg x.d] (xQ p N R c el (evE p g c el.ps x s))
def ZzP (p:List Barb.Unit) (N:List CN) (R:Value) (g:Nat):Prop:=∀(u i:Nat) (args:List Int) (deep:Nat) (s:ES),OkS p N g s->u < p.length->i < (uAt p u).funcs.length->args.length=((uAt p u).funcs.getD i noF).params.length->wds args->deep<=20 ->
 CTH Tryz.prog gl 47 2 (RH p N R s++[.row (args.map Zat) 3 1]) [.ptr 0 0,.g (.int (u:Int)),.g (.int (i:Int)),.row 3,.g (.int (deep:Int))] (kQ p N R (Zb6 p (evS p g) u i args deep s))
theorem Zze:fnOk Tryz.prog 97=true:=by kernel_rfl
theorem Zpq:fnOk Tryz.prog 47=true:=by kernel_rfl
theorem ZzW {p:List Barb.Unit} {N:List CN} {R:Value} {c:EC} {el:EL} {r:RR Int} {out:Out} (h:xQ p N R c el r out):(∃n s',r=.ok n s'/\out=.ret (.g (.int n)) (XH p N R s' c el))\/∃e s',r=.stop e s'/\out=.panH (ZbW e) (XH p N R s' c el):=by
 cases r with
 | ok n s'=>exact .inl ⟨n,s',rfl,h⟩
 | stop e s'=>exact .inr ⟨e,s',rfl,h⟩
theorem ZkK {p:List Barb.Unit} {N:List CN} {R:Value} {r:RR Int} {out:Out} (h:kQ p N R r out):(∃n s',r=.ok n s'/\out=.ret (.g (.int n)) (RH p N R s'))\/∃e s',r=.stop e s'/\out=.panH (ZbW e) (RH p N R s'):=by
 cases r with
 | ok n s'=>exact .inl ⟨n,s',rfl,h⟩
 | stop e s'=>exact .inr ⟨e,s',rfl,h⟩
theorem ZwT {all:List D} {h:Zad} {K Qp:KD} {p:List Barb.Unit} {N:List CN} {R:Value} {g:Nat} (hE:Zsp p N R g) {s:ES} {c:EC} {el:EL} {x:Barb.Expr} (r:Zad) (hs:OkS p N g s) (hc:CI p c) (he:ELI c el) (hx:XI p c x) (hxI:x.I) (hp:PI p)
  (hh:h=XHr p N R s c el r) (ha:all=[.ptr 0 0,.agg x.d])
  (hgo:∀n s',evE p g c el.ps x s=.ok n s'->OkS p N g s'->s'.fuel<=s.fuel->wd n->K (.g (.int n)) (XHd p N R s' c el r))
  (hno:∀e s',evE p g c el.ps x s=.stop e s'->Qp (ZbW e) (XHd p N R s' c el r)) :
  fnOk Tryz.prog 97=true/\(Zb7 Tryz.prog gl 97 all h K Qp\/ZbB Tryz.prog gl 97 all h K Qp):=by
 refine ZuN Zze r (hE c el s x hs hc he hx hxI) rfl rfl hh ha (λout hq=>?_);have hI:=(ZdT hp g).1 c el.ps x s hc hs.si he.2.1 hx;rcases ZzW hq with ⟨n,s',h1,h2⟩ | ⟨e,s',h1,h2⟩
 ·rw[show evE p g c el.ps x s=.ok n s' from h1] at hI;exact .inl ⟨_,s',el,h2,hgo n s' h1 ⟨hI.1,hs.np,YaB hI.2.1.1 hs.fuel,hs.g⟩ hI.2.1.1 hI.2.2⟩
 ·exact .inr ⟨e,s',el,h2,hno e s' h1⟩
set_option maxRecDepth 20000 in
set_option maxHeartbeats 1000000 in
theorem ZwH {p:List Barb.Unit} (hp:PI p) {N:List CN} {R:Value} {g:Nat} (hE:Zsp p N R g) (hC:ZzP p N R g):Zsp p N R (g+1):=by
 intro c el s x hs hc he hx hxI
 suffices H:∀r,evE p (g+1) c el.ps x s=r->CTH Tryz.prog gl 97 3 (XH p N R s c el) [.ptr 0 0,.agg x.d] (xQ p N R c el r) from H _ rfl
 intro r hr;have hg:=hs.g;have hf:=hs.fuel;obtain ⟨i1,i2,i3,i4,i5,i6⟩:=hxI.inv;refine ZhQ [2,1000006,1000015] hT hF hM Tryz.func97 rfl 114 rfl (by kernel_rfl) [.tmp 4] rfl [.ptr 0 0,.agg x.d] rfl (XH p N R s c el) [0] rfl rfl rfl 2 [some R,none] tgX _ ?_;refine Zhe [.blk x.d 132] (by omega) rfl rfl (λh0=>?_) (λh0=>?_)
 ·rw[ZjM p _ c _ x s h0] at hr;subst hr;exact ⟨rfl,.inl (Zb2 (s':=s) (el':=el) (ZbW 3) [.old 0,.old 1,.old 2,.old 3,.old 6] rfl rfl rfl (.inl rfl) rfl rfl rfl (Yag _) rfl)⟩
 rw[ZqI p g c _ x s h0] at hr;have hs1:OkS p N g { s with fuel:=s.fuel - 1 }:=⟨hs.si.fuel _,hs.np,by show s.fuel - 1<=g;omega,by omega⟩;revert hr hs1;generalize { s with fuel:=s.fuel - 1 }=s1;intro hr hs1;refine Zcu [.old 0,.old 1,.old 2,.old 3,.old 6,.old 5] [(0,.ptr 0 0),(3,.ptr 5 0)] (XHr p N R s1 c el [.blk x.d 132]) ⟨rfl,.inl rfl,.inl rfl,rfl⟩ ?_;have ul:=hp.unit _ (Zdm hc.u);obtain ⟨_,u1,u2,u3,_⟩:=Zau ul;have hfp:c.f.params.length<=4:=(ZbL ((Zau ul).2.2.2.2.2.2 _ hc.f)).2.1;have hNu:c.u < N.length:=by rw[hs.np.len];exact hc.u
 have huc:c.u < s1.cells.length:=by rw[hs1.si.len];exact hc.u
 have hcell:=hs1.si.cell hc.u;refine ⟨λk1=>?_,λk1=>?_⟩
 ·refine ⟨rfl,.inl (Zb2 (s':=s1) (el':=el) (.g (.int x.n)) [.old 0,.old 1,.old 2,.old 3,.old 4] rfl rfl rfl (.inl rfl) rfl rfl rfl (Yag _) ?_)⟩;rw[<- hr,if_pos k1];rfl
 refine ⟨λk2=>?_,λk2=>?_⟩
 ·rw[if_neg k1,if_pos k2] at hr;rcases ZgG (hx.var k2) with ⟨i,hi,hpi⟩ | ⟨hpi,i,hi,hvi⟩
  ·have hi':i < el.ps.length:=by rw[he.1];exact hi
   refine ZmE ?_;refine ZuN Zez [.blk x.d 132] (Zkp hi' hpi hfp) rfl rfl rfl rfl (λout hq=>.inl ⟨_,s1,el,hq,?_⟩);refine ⟨_,gm hi',?_⟩;refine ⟨rfl,.inl (Zb2 (s':=s1) (el':=el) (.g (.int el.ps[i])) [.old 0,.old 1,.old 2,.old 6,.old 7] rfl rfl rfl (.inl rfl) rfl rfl rfl (Yag _) ?_)⟩;rw[<- hr];unfold Zvj;rw[if_pos (by omega),hpi];show Out.ret _ _=Out.ret (.g (.int (el.ps.getD i 0))) _;simp[hi']
  ·obtain ⟨l1,l2,e1,e2,_⟩:=ZAG (t:=3) (hs.np.ni hs1.si) huc;have hvl:i < (cAt s1 c.u).vars.length:=by have:=hcell.1.1.1;omega
   refine ZiA 2 l1 l2 (Zew 3 (cAt s1 c.u).vars) rfl e1 ?_;refine Zcu [.old 0,.old 1,.old 2,.old 3,.old 4,.old 6,.old 5] [(0,.ptr 0 0),(3,.ptr 6 0)] (LH p N R s1 c el (l1++l2) N[c.u].v (cAt s1 c.u).vars++[.blk x.d 132]) ⟨rfl,.inl rfl,.inl rfl,rfl⟩ ?_;refine Zee [0,1,2,3,4,5] Zez rfl rfl ⟨rfl,.inl rfl,.inl rfl,rfl⟩ (Zko hvl hpi hc.u hvi hNu rfl hfp u1) (λd' h' hq=>?_) (λd' h' hq=>by cases hq);injection hq with q1 q2;subst q1;subst q2;refine ⟨_,gm hvl,?_⟩;refine ⟨rfl,.inr (Zd2 2 9 N[c.u].v (Zew 3 (cAt s1 c.u).vars) rfl Yac rfl ⟨rfl,rfl,rfl⟩ (Ze2 (Zb2 (s':=s1) (el':=el) (.g (.int (cAt s1 c.u).vars[i])) [.old 0,.old 1,.old 2,.old 7,.old 8] rfl rfl rfl (.inl rfl) rfl rfl rfl ((Ybn _ _).trans e2) ?_)))⟩;rw[<- hr];unfold Zvj;rw[if_neg hpi,hvi];show Out.ret _ _=Out.ret (.g (.int ((cAt s1 c.u).vars.getD i 0))) _;simp[hvl]
 rw[if_neg k1,if_neg k2] at hr;have la:(x.args.map Expr.g).length=x.args.length:=Yab _;refine ZaL (ι:=List Int × ES) (λz=>[(0,.ptr 0 0),(3,.ptr 5 0),(5,.row 6),(33,.g (.int (z.1.length:Int)))]) (λz=>XHr p N R z.2 c el [.blk x.d 132,.row (z.1.map Zat) 3 1]) (ArgI p N g c el.ps x.args s1) (λz=>x.args.length - z.1.length)
  ⟨([],s1),[.old 0,.old 1,.old 2,.old 3,.old 4,.old 5,.nil 3 1],⟨rfl,.inl rfl,.inr ⟨lk rfl,lk rfl,.inr rfl,lk rfl,trivial⟩,rfl⟩,⟨Yau _,hs1,λ_ h=>by simp at h,ZrL _ _ _⟩⟩ ?_
 rintro Rd hRd ⟨vs,sv⟩ ⟨v1,v2,v3,v4⟩;dsimp only at v1 v2 v3 v4;have lv:(vs.map Zat).length=vs.length:=Yab _;have ev:((vs,sv):List Int × ES).1.length=vs.length:=rfl;have a4:=hx.inv.2.1;refine ⟨λhlt=>?_,λhlt=>?_⟩
 ·have hi:vs.length < x.args.length:=by omega
  obtain ⟨st1,st2⟩:=ZrK hi v4;have hxy:=i6 _ (Yah hi);refine ⟨vs.length,_,rfl,exG hi,?_⟩;refine .inl ?_;refine ZwT hE [.blk x.d 132,.row (vs.map Zat) 3 1,.blk x.args[vs.length].d 132] v2 hc he (hx.inv.2.2.2.2.2 _ (Yah hi)) hxy hp rfl rfl (λn s' hn ok' _ wn=>?_) (λe s' hn=>?_)
  ·refine ⟨[[.int n]],rfl,rfl,⟨rfl,trivial⟩,?_⟩;refine ⟨⟨by simp only[maxLen,Yab,List.length_cons,List.length_nil];omega,by simp only[Yab,List.length_cons,List.length_nil];omega⟩,.inl ?_⟩;refine ⟨_,I64.wrap (by unfold I64;omega),?_⟩;refine hRd _ _ _ ⟨(vs++[n],s'),[.old 0,.old 1,.old 2,.old 8,.old 9,.old 5,.old 11],⟨rfl,.inr ⟨⟨rfl,.inl rfl⟩,⟨rfl,.inl rfl⟩,⟨Yag _,rfl⟩,⟨rfl,rfl,rfl⟩,⟨rfl,rfl,rfl⟩,⟨rfl,.inl rfl⟩,⟨by rw[Yai];rfl,rfl,rfl⟩,trivial⟩,.inr ⟨lk rfl,lk rfl,lk rfl,lkI (by simp),trivial⟩,rfl⟩,
    ⟨by simp;omega,ok',λz hz=>?_,st1 n s' hn⟩,by simp;omega⟩
   rcases Yao.1 hz with hz | hz
   ·exact v3 z hz
   ·rw[Yay.1 hz];exact wn
  ·rw[st2 e s' hn] at hr;refine ⟨rfl,.inl (Zb2 (s':=s') (el':=el) (ZbW e) [.old 0,.old 1,.old 2,.old 8,.old 9] rfl rfl rfl (.inl rfl) rfl rfl rfl (Yag _) ?_)⟩;rw[<- hr];rfl
 have hl:vs.length=x.args.length:=by omega
 rw[v4,hl,Yce] at hr
 replace hr:ZfW p (evS p g) c x vs sv=r:=by rw[<- hr];show _=ZfW p (evS p g) c x (vs++[]) sv;rw[YaF]
 unfold ZfW at hr;have huv:c.u < sv.cells.length:=by rw[v2.si.len];exact hc.u
 have hcv:=v2.si.cell hc.u;refine ⟨λk3=>?_,λk3=>?_⟩
 ·rw[if_pos k3] at hr;have o3:=hx.inv.2.2.1;rw[k3,Zl3] at o3;obtain ⟨a,ha⟩:∃a,vs=[a]:=by
   match vs,(hl.trans o3.2.2.1) with
   | [a],_=>exact ⟨a,rfl⟩
  subst ha;obtain ⟨k,hk,hak⟩:=ZuZ (hx.arr k3);have hka:k < (cAt sv c.u).arrays.length:=by rw[hcv.1.2];exact hk
  obtain ⟨v,l1,l2,hv,e1,e2,_⟩:=ZAH (t:=3) (hs.np.ni v2.si) huv hka;have hwa:wd a:=v3 a Yac;refine ZiA 2 l1 l2 (Zew 3 ((cAt sv c.u).arrays.getD k [])) rfl e1 ?_;refine Zcu [.old 0,.old 1,.old 2,.old 3,.old 4,.old 7,.old 5,.old 6] [(0,.ptr 0 0),(3,.ptr 6 0),(5,.row 7)] (LH p N R sv c el (l1++l2) v ((cAt sv c.u).arrays.getD k [])++[.blk x.d 132,.row [[.int a]] 3 1]) ⟨rfl,.inl rfl,.inl rfl,rfl⟩ ?_;refine ⟨some 9999,[6],rfl,?_⟩;refine ⟨0,rfl,Nat.zero_lt_one,?_⟩;have hct:=Zib (p:=p) (N:=N) (R:=R) (s:=sv) (c:=c) (el:=el) (name:=x.s) (l:=l1++l2) (xs:=(cAt sv c.u).arrays.getD k []) hwa.1 hwa.2 hc.u hak hNu hv u2;have ear:ZeU p c sv x.s=(cAt sv c.u).arrays.getD k []:=by unfold ZeU;rw[hak];rfl
  unfold Zww at hr;rw[ear] at hr;refine ⟨_,rfl,?_⟩;refine Zee [0,1,2,3,4,5] ZjT rfl rfl ⟨rfl,.inl rfl,.inl rfl,rfl⟩ hct (λd' h' hq=>?_) (λd' h' hq=>?_)
  ·by_cases hle:(((cAt sv c.u).arrays.getD k []).length:Int)<=a
   ·rw[if_pos hle] at hq;cases hq
   rw[if_neg hle] at hq;injection hq with q1 q2;subst q1;subst q2;have hal:a.toNat < ((cAt sv c.u).arrays.getD k []).length:=by have:=hwa.1;omega
   refine ⟨_,gm hal,?_⟩;refine ⟨rfl,.inr (Zd2 2 10 v (Zew 3 ((cAt sv c.u).arrays.getD k [])) rfl Yac rfl ⟨rfl,rfl,rfl⟩ (Ze2 (Zb2 (s':=sv) (el':=el) (.g (.int ((cAt sv c.u).arrays.getD k [])[a.toNat])) [.old 0,.old 1,.old 2,.old 8,.old 9] rfl rfl rfl (.inl rfl) rfl rfl rfl ((Ybn _ _).trans e2) ?_)))⟩;rw[<- hr];show xQ p N R c el (if (((cAt sv c.u).arrays.getD k []).length:Int)<=a then _ else _) _;rw[if_neg hle];show Out.ret _ _=Out.ret (.g (.int (((cAt sv c.u).arrays.getD k []).getD a.toNat 0))) _;rw[Zy4 hal]
  ·by_cases hle:(((cAt sv c.u).arrays.getD k []).length:Int)<=a
   ·rw[if_pos hle] at hq;injection hq with q1 q2;subst q1;subst q2;refine ⟨rfl,.inr (Zd2 2 10 v (Zew 3 ((cAt sv c.u).arrays.getD k [])) rfl Yac rfl ⟨rfl,rfl,rfl⟩ (Ze2 (Zb2 (s':=sv) (el':=el) (ZbW 2) [.old 0,.old 1,.old 2,.old 8,.old 9] rfl rfl rfl (.inl rfl) rfl rfl rfl ((Ybn _ _).trans e2) ?_)))⟩;rw[<- hr];show xQ p N R c el (if (((cAt sv c.u).arrays.getD k []).length:Int)<=a then _ else _) _;rw[if_pos hle];rfl
   ·rw[if_neg hle] at hq;cases hq
 rw[if_neg k3] at hr;refine ⟨λk5=>?_,λk5=>?_⟩
 ·rw[if_pos k5] at hr;have o5:=hx.inv.2.2.1;rw[k5,Zl2] at o5;obtain ⟨a,b,hab⟩:∃a b,vs=[a,b]:=by
   match vs,(hl.trans o5.2.2) with
   | [a,b],_=>exact ⟨a,b,rfl⟩
  subst hab;refine ⟨none,rfl,?_⟩;refine ⟨0,rfl,Nat.zero_lt_succ _,?_⟩;refine ⟨_,rfl,?_⟩;refine ⟨1,rfl,Nat.one_lt_succ_succ _,?_⟩;refine ⟨_,rfl,?_⟩;refine ⟨_,_,.inl rfl,Zvc x.n a b,rfl,?_⟩;refine ⟨rfl,.inl (Zb2 (s':=sv) (el':=el) (.g (.int (doI x.n a b))) [.old 0,.old 1,.old 2,.old 3,.old 4] rfl rfl rfl (.inl rfl) rfl rfl rfl (Yag _) ?_)⟩;rw[<- hr];rfl
 rw[if_neg k5] at hr;have k4:x.k=4:=by have:=hx.inv.1;omega
 obtain ⟨t1,fi,t2,t3,t4,t5⟩:=hx.ask hc k4;rw[t2,Int.toNat_natCast] at hr;have hcd:=hc.deep;have hto:=Zdm t1;obtain ⟨_,_,_,w3,_⟩:=Zau (hp.unit _ hto);have hF:=ZcU (uAt p (toU p c x.of)) (by omega) x.s;rw[t2] at hF;have hU:x.of≠[]->CT Tryz.prog gl 19 [.g (.sl 4 (p.map Unit.g)),.g (.str x.of)] (Is (.g (.int ((toU p c x.of:Nat):Int)))):=λho=>by rw[<- t5 ho];exact Zdx p (by have:=hp.few;omega) x.of
 have hu0:x.of=[]->toU p c x.of=c.u:=λho=>by unfold toU;rw[if_pos ho]
 have hcc:=hC (toU p c x.of) fi vs (c.deep+1) sv v2 t1 t3 (hl.trans t4.symm) v3 (by omega);revert hr hcc hF hU hu0 t1;generalize toU p c x.of=u' at *;intro t1 hr hF hU hu0 hcc;rw[Zde t1] at hF;refine ⟨λho=>?_,λho=>?_⟩
 ·refine ⟨none,rfl,?_⟩;refine ⟨_,_,.inl rfl,hU ho,rfl,?_⟩;refine ⟨some 9999,[24],rfl,?_⟩;refine ⟨u',_,rfl,gm t1,?_⟩;refine ⟨_,_,.inl rfl,hF,rfl,?_⟩;refine ⟨((c.deep+1:Nat):Int),(I64.wrap (by unfold I64;omega)).trans rfl,?_⟩;refine Zee [1,2,4,6] Zpq rfl rfl ⟨rfl,.inl rfl,.inl rfl,rfl⟩ hcc (λd' h' hq=>?_) (λd' h' hq=>?_)
  ·rcases ZkK hq with ⟨n,s',h1,h2⟩ | ⟨e,s',h1,h2⟩
   ·injection h2 with q1 q2;subst q1;subst q2;refine ⟨rfl,.inl (Zb2 (s':=s') (el':=el) (.g (.int n)) [.old 0,.old 1,.old 2,.old 3,.old 7] rfl rfl rfl (.inl rfl) rfl rfl rfl (Yag _) ?_)⟩;rw[<- hr,h1];rfl
   ·cases h2
  ·rcases ZkK hq with ⟨n,s',h1,h2⟩ | ⟨e,s',h1,h2⟩
   ·cases h2
   ·injection h2 with q1 q2;subst q1;subst q2;refine ⟨rfl,.inl (Zb2 (s':=s') (el':=el) (ZbW e) [.old 0,.old 1,.old 2,.old 3,.old 7] rfl rfl rfl (.inl rfl) rfl rfl rfl (Yag _) ?_)⟩;rw[<- hr,h1];rfl
 ·obtain rfl:=hu0 ho;refine ⟨some 9999,[24],rfl,?_⟩;refine ⟨c.u,_,rfl,gm t1,?_⟩;refine ⟨_,_,.inl rfl,hF,rfl,?_⟩;refine ⟨((c.deep+1:Nat):Int),(I64.wrap (by unfold I64;omega)).trans rfl,?_⟩;refine Zee [1,2,4,6] Zpq rfl rfl ⟨rfl,.inl rfl,.inl rfl,rfl⟩ hcc (λd' h' hq=>?_) (λd' h' hq=>?_)
  ·rcases ZkK hq with ⟨n,s',h1,h2⟩ | ⟨e,s',h1,h2⟩
   ·injection h2 with q1 q2;subst q1;subst q2;refine ⟨rfl,.inl (Zb2 (s':=s') (el':=el) (.g (.int n)) [.old 0,.old 1,.old 2,.old 3,.old 7] rfl rfl rfl (.inl rfl) rfl rfl rfl (Yag _) ?_)⟩;rw[<- hr,h1];rfl
   ·cases h2
  ·rcases ZkK hq with ⟨n,s',h1,h2⟩ | ⟨e,s',h1,h2⟩
   ·cases h2
   ·injection h2 with q1 q2;subst q1;subst q2;refine ⟨rfl,.inl (Zb2 (s':=s') (el':=el) (ZbW e) [.old 0,.old 1,.old 2,.old 3,.old 7] rfl rfl rfl (.inl rfl) rfl rfl rfl (Yag _) ?_)⟩;rw[<- hr,h1];rfl
def sQ (p:List Barb.Unit) (N:List CN) (R:Value) (c:EC):RR EL->Out->Prop
 | .ok el' s',out=>out=.ret (.tuple []) (XH p N R s' c el')
 | .stop e s',out=>∃el',out=.panH (ZbW e) (XH p N R s' c el')
theorem ZpX {p:List Barb.Unit} {N:List CN} {R:Value} {c:EC} {r:RR EL} {out:Out} (h:sQ p N R c r out):(∃el' s',r=.ok el' s'/\out=.ret (.tuple []) (XH p N R s' c el'))\/∃e s' el',r=.stop e s'/\out=.panH (ZbW e) (XH p N R s' c el'):=by
 cases r with
 | ok n s'=>exact .inl ⟨n,s',rfl,h⟩
 | stop e s'=>obtain ⟨el',h⟩:=h;exact .inr ⟨e,s',el',rfl,h⟩
def Zu5 (p:List Barb.Unit) (N:List CN) (R:Value) (g:Nat):Prop:=∀(c:EC) (el:EL) (s:ES) (x:Barb.Stmt),OkS p N g s->CI p c->ELI c el->StI p c x->x.I ->
 CTH Tryz.prog gl 84 3 (XH p N R s c el) [.ptr 0 0,.agg x.d] (sQ p N R c (evS p g c x el s))
def Zxg (p:List Barb.Unit) (N:List CN) (R:Value) (g:Nat):Prop:=∀(c:EC) (el:EL) (s:ES) (l:List Barb.Stmt),OkS p N g s->CI p c->ELI c el->SsC p c l ->
 CTH Tryz.prog gl 64 3 (XH p N R s c el) [.ptr 0 0,.g (.sl 5 (l.map Stmt.g))] (sQ p N R c (Za8 (evS p g c) l el s))
theorem Zya:fnOk Tryz.prog 84=true:=by kernel_rfl
theorem ZmI:fnOk Tryz.prog 64=true:=by kernel_rfl
theorem ZCk {all:List D} {h:Zad} {K Qp:KD} {p:List Barb.Unit} {N:List CN} {R:Value} {g:Nat} (hS:Zu5 p N R g) {s:ES} {c:EC} {el:EL} {x:Barb.Stmt} (r:Zad) (hs:OkS p N g s) (hc:CI p c) (he:ELI c el) (hx:StI p c x) (hxI:x.I) (hp:PI p)
  (hh:h=XHr p N R s c el r) (ha:all=[.ptr 0 0,.agg x.d])
  (hgo:∀el' s',evS p g c x el s=.ok el' s'->OkS p N g s'->ELI c el'->K (.tuple []) (XHd p N R s' c el' r))
  (hno:∀e s' el',evS p g c x el s=.stop e s'->Qp (ZbW e) (XHd p N R s' c el' r)) :
  fnOk Tryz.prog 84=true/\(Zb7 Tryz.prog gl 84 all h K Qp\/ZbB Tryz.prog gl 84 all h K Qp):=by
 refine ZuN Zya r (hS c el s x hs hc he hx hxI) rfl rfl hh ha (λout hq=>?_);have hI:=(ZdT hp g).2 c x el s hc hs.si he hx;rcases ZpX hq with ⟨el',s',h1,h2⟩ | ⟨e,s',el',h1,h2⟩
 ·rw[show evS p g c x el s=.ok el' s' from h1] at hI;exact .inl ⟨_,s',el',h2,hgo el' s' h1 ⟨hI.1,hs.np,YaB hI.2.1.1 hs.fuel,hs.g⟩ hI.2.2⟩
 ·exact .inr ⟨e,s',el',h2,hno e s' el' h1⟩
theorem Zzv {all:List D} {h:Zad} {K Qp:KD} {p:List Barb.Unit} {N:List CN} {R:Value} {g:Nat} (hB:Zxg p N R g) {s:ES} {c:EC} {el:EL} {l:List Barb.Stmt} (r:Zad) (hs:OkS p N g s) (hc:CI p c) (he:ELI c el) (hl:SsC p c l) (hp:PI p)
  (hh:h=XHr p N R s c el r) (ha:all=[.ptr 0 0,.g (.sl 5 (l.map Stmt.g))])
  (hgo:∀el' s',Za8 (evS p g c) l el s=.ok el' s'->OkS p N g s'->ELI c el'->s'.fuel<=s.fuel->K (.tuple []) (XHd p N R s' c el' r))
  (hno:∀e s' el',Za8 (evS p g c) l el s=.stop e s'->Qp (ZbW e) (XHd p N R s' c el' r)) :
  fnOk Tryz.prog 64=true/\(Zb7 Tryz.prog gl 64 all h K Qp\/ZbB Tryz.prog gl 64 all h K Qp):=by
 refine ZuN ZmI r (hB c el s l hs hc he hl) rfl rfl hh ha (λout hq=>?_);have hI:=ZhX (p:=p) (c:=c) l (λx hx el s hs he=>(ZdT hp g).2 c x el s hc hs he (hl.ok x hx)) el s hs.si he;rcases ZpX hq with ⟨el',s',h1,h2⟩ | ⟨e,s',el',h1,h2⟩
 ·rw[show Za8 (evS p g c) l el s=.ok el' s' from h1] at hI;exact .inl ⟨_,s',el',h2,hgo el' s' h1 ⟨hI.1,hs.np,YaB hI.2.1.1 hs.fuel,hs.g⟩ hI.2.2 hI.2.1.1⟩
 ·exact .inr ⟨e,s',el',h2,hno e s' el' h1⟩
set_option maxRecDepth 20000 in
theorem Zkr {p:List Barb.Unit} (hp:PI p) {N:List CN} {R:Value} {g:Nat} (hS:Zu5 p N R g):Zxg p N R g:=by
 intro c el s l hs hc he hl
 suffices H:∀r,Za8 (evS p g c) l el s=r->CTH Tryz.prog gl 64 3 (XH p N R s c el) [.ptr 0 0,.g (.sl 5 (l.map Stmt.g))] (sQ p N R c r) from H _ rfl
 intro r hr;have ll:(l.map Stmt.g).length=l.length:=Yab _;refine ZhQ [] hT hF hM Tryz.func64 rfl 20 rfl (by kernel_rfl) [] rfl [.ptr 0 0,.g (.sl 5 (l.map Stmt.g))] rfl (XH p N R s c el) [0] rfl rfl rfl 2 [some R,none] tgX _ ?_;refine ZaL (ι:=Nat × EL × ES) (λz=>[(0,.ptr 0 0),(8,.g (.int (z.1:Int)))]) (λz=>XH p N R z.2.2 c z.2.1) (BodI p N g c l el s) (λz=>l.length - z.1)
  ⟨(0,el,s),[.old 0,.old 1,.old 2,.old 3,.old 4],⟨rfl,.inl rfl,.inr ⟨lk rfl,lk rfl,trivial⟩,rfl⟩,⟨Yau _,hs,he,rfl⟩⟩ ?_
 rintro Rd hRd ⟨i,⟨ps1,bk1,val1⟩,s1⟩ ⟨v1,v2,v3,v4⟩;dsimp only at v1 v2 v3 v4;have hlen:=hl.len;refine ⟨λhlt=>?_,λhlt=>?_⟩
 ·have hi:i < l.length:=by have h:(i:Int) < ((l.map Stmt.g).length:Int):=hlt;omega
  refine ⟨i,_,rfl,stG hi,?_⟩;refine .inl ?_;cases bk1 with
  | true =>refine ⟨rfl,.inl (Zb2 (s':=s1) (el':=⟨ps1,true,val1⟩) (.tuple []) [.old 0,.old 1,.old 2,.old 3,.old 4] rfl rfl rfl (.inl rfl) rfl rfl rfl (Yag _) ?_)⟩;rw[<- hr,v4,ZdC _ _ _ _ rfl];rfl
  | false =>
  rw[ZwY _ hi _ _ rfl] at v4;refine ZCk hS [.blk l[i].d 135] v2 hc v3 (hl.ok _ (Yah hi)) (hl.i _ (Yah hi)) hp rfl rfl (λel2 s2 h2 ok2 e2=>?_) (λe s2 el2 h2=>?_)
  ·rw[h2] at v4;refine ⟨_,I64.wrap (by unfold I64;omega),?_⟩;exact hRd _ _ _ ⟨(i+1,el2,s2),[.old 0,.old 1,.old 2,.old 6,.old 7],⟨rfl,.inl rfl,.inr ⟨lk rfl,lk rfl,trivial⟩,rfl⟩,⟨hi,ok2,e2,v4⟩,by show l.length - (i+1) < l.length - i;omega⟩
  ·rw[h2] at v4;refine ⟨rfl,.inl (Zb2 (s':=s2) (el':=el2) (ZbW e) [.old 0,.old 1,.old 2,.old 6,.old 7] rfl rfl rfl (.inl rfl) rfl rfl rfl (Yag _) ?_)⟩;rw[<- hr,v4];exact ⟨el2,rfl⟩
 ·have hi:i=l.length:=by have h:¬(i:Int) < ((l.map Stmt.g).length:Int):=hlt;omega
  refine ⟨rfl,.inl (Zb2 (s':=s1) (el':=⟨ps1,bk1,val1⟩) (.tuple []) [.old 0,.old 1,.old 2,.old 3,.old 4] rfl rfl rfl (.inl rfl) rfl rfl rfl (Yag _) ?_)⟩;rw[<- hr,v4,hi,Yce];rfl
theorem tgR {p:List Barb.Unit} {N:List CN} {R:Value} {s:ES} {x:Dm.Obj}:Zgd (RH p N R s++[x]) 1 1 [none]:=⟨trivial,trivial⟩
theorem Zzj {R':D->Zad->Prop} {env:Dm.Env} {p:List Barb.Unit} {N:List CN} {R:Value} {s s':ES} {x:Dm.Obj} {h:Zad} {l:List (Value × Ob0)} {told:List (List GV)} {d0:D} (d:D) (src:List Src) (hok:ZdG src=true) (hlen:Zmt src (RH p N R s')=true)
  (h0:conv h src 4 (env 0)=.ptr 0 0) (hd:conv h src 4 d0=d)
  (hT:Zbu h src=[.blk (rC p N 2 s'.fuel) 70,.many l [(R,0)],.row told 3 1])
  (e2:told=tz s') (e3:l.Perm (mz N s')) (q:R' d (RH p N R s')):ToH [0] (RH p N R s++[x]) 1 [none] R' h env d0:=by
 subst e2;refine ⟨src,d,RH p N R s',⟨hok,.inr ?_,.inl ?_,hlen⟩,rfl,⟨trivial,trivial⟩,q⟩
 ·rw[hT];exact ⟨⟨rfl,.inl rfl⟩,⟨e3,rfl⟩,⟨rfl,rfl,rfl⟩,trivial⟩
 ·rw[Yar,Yar,Yar,h0,hd];rfl
set_option maxRecDepth 20000 in
theorem Zq0 {p:List Barb.Unit} (hp:PI p) (hpI:Zj7 p) {N:List CN} {R:Value} {g:Nat} (hB:Zxg p N R g):ZzP p N R g:=by
 intro u i args deep s hs hu hi ha hw hd;obtain ⟨f,hf⟩:∃f,f=(uAt p u).funcs.getD i noF:=⟨_,rfl⟩;have hfm:f∈(uAt p u).funcs:=hf▸ZnC hi;have hfa:(uAt p u).funcs[i]=f:=by rw[hf];simp[hi]
 rw[<- hf] at ha
 suffices H:∀r,Zb6 p (evS p g) u i args deep s=r->CTH Tryz.prog gl 47 2 (RH p N R s++[.row (args.map Zat) 3 1]) [.ptr 0 0,.g (.int (u:Int)),.g (.int (i:Int)),.row 3,.g (.int (deep:Int))] (kQ p N R r) from H _ rfl
 intro r hr;unfold Zb6 at hr;rw[<- hf] at hr;have hgm:(p.map Unit.g)[u]?=some [.str (uAt p u).name,.sl 1 ((uAt p u).vars.map ZbP),.sl 2 ((uAt p u).arrays.map Arr.g),.sl 4 ((uAt p u).funcs.map Fun.g)]:=by rw[Zde hu];exact gm hu
 have hgf:((uAt p u).funcs.map Fun.g)[i]?=some [.str f.name,.bool f.isOpen,.sl 1 (f.params.map ZbP),.sl 5 (f.body.map Stmt.g)]:=by rw[<- hfa];exact fnG hi
 refine ZbT [] hT hF hM Tryz.func47 rfl 44 rfl (by kernel_rfl) [.tmp 10] rfl [.ptr 0 0,.g (.int (u:Int)),.g (.int (i:Int)),.row 3,.g (.int (deep:Int))] rfl ((RH p N R s++[.row (args.map Zat) 3 1])) [0] rfl rfl rfl 1 [none] tgR _ ?_;refine ⟨λh20=>?_,λh20=>?_⟩
 ·refine .inl ?_;refine ⟨rfl,.inl (Zzj (s':=s) (ZbW 5) [.old 0,.old 1,.old 2] rfl rfl rfl rfl rfl rfl (Yag _) ?_)⟩;rw[<- hr,if_pos (by omega)];rfl
 have hd19:deep<=19:=by omega
 rw[if_neg (by omega)] at hr;have hc:CI p ⟨u,f,deep⟩:=⟨hu,hfm,hd19⟩;have he:ELI ⟨u,f,deep⟩ ⟨args,false,0⟩:=⟨ha,hw,(show wd 0 from ⟨by decide,by decide⟩)⟩;have hsc:SsC p ⟨u,f,deep⟩ f.body:=by obtain ⟨_,_,_,_,hI,_⟩:=hpI.1 _ (Zdm hu);obtain ⟨_,_,a1,a2⟩:=hI _ hfm;exact ⟨(hp.body hc).all,a2,a1⟩
 refine ⟨u,_,rfl,hgm,?_⟩;refine ⟨i,_,rfl,hgf,?_⟩;refine .inl ?_;refine Zee [4,0,1,3,2] ZmI rfl rfl ⟨rfl,.inl rfl,.inl rfl,rfl⟩ (hB ⟨u,f,deep⟩ ⟨args,false,0⟩ s f.body hs hc he hsc) (λd' h' hq=>?_) (λd' h' hq=>?_)
 ·rcases ZpX hq with ⟨el',s',h1,h2⟩ | ⟨e,s',el',h1,h2⟩
  ·injection h2 with q1 q2;subst q1;subst q2;refine ⟨rfl,.inl (Zzj (s':=s') (.g (.int el'.val)) [.old 0,.old 1,.old 6] rfl rfl rfl rfl rfl rfl (Yag _) ?_)⟩;rw[<- hr,h1];rfl
  ·cases h2
 ·rcases ZpX hq with ⟨el',s',h1,h2⟩ | ⟨e,s',el',h1,h2⟩
  ·cases h2
  ·injection h2 with q1 q2;subst q1;subst q2;refine ⟨rfl,.inl (Zzj (s':=s') (ZbW e) [.old 0,.old 1,.old 6] rfl rfl rfl rfl rfl rfl (Yag _) ?_)⟩;rw[<- hr,h1];rfl
set_option maxRecDepth 20000 in
set_option maxHeartbeats 1000000 in
theorem Zvz {p:List Barb.Unit} (hp:PI p) {N:List CN} {R:Value} {g:Nat} (hE:Zsp p N R g) (hB:Zxg p N R g):Zu5 p N R (g+1):=by
 intro c el s x hs hc he hx hxI
 suffices H:∀r,evS p (g+1) c x el s=r->CTH Tryz.prog gl 84 3 (XH p N R s c el) [.ptr 0 0,.agg x.d] (sQ p N R c r) from H _ rfl
 intro r hr;have hg:=hs.g;have hf:=hs.fuel;obtain ⟨i1,i2,i3,i4,i5,i6,i7,i8⟩:=hxI.inv;obtain ⟨hx0,hX0⟩:=hx.one;have hinv:=hx.inv;refine ZhQ [2,3,1000008,11,19,21] hT hF hM Tryz.func84 rfl 121 rfl (by kernel_rfl) [] rfl [.ptr 0 0,.agg x.d] rfl (XH p N R s c el) [0] rfl rfl rfl 2 [some R,none] tgX _ ?_;refine Zhe [.blk x.d 135] (by omega) rfl rfl (λh0=>?_) (λh0=>?_)
 ·rw[Zi9 p _ c x _ s h0] at hr;subst hr;exact ⟨rfl,.inl (Zb2 (s':=s) (el':=el) (ZbW 3) [.old 0,.old 1,.old 2,.old 3,.old 6] rfl rfl rfl (.inl rfl) rfl rfl rfl (Yag _) ⟨el,rfl⟩)⟩
 rw[ZpP p g c x _ s h0] at hr;have hs1:OkS p N g { s with fuel:=s.fuel - 1 }:=⟨hs.si.fuel _,hs.np,by show s.fuel - 1<=g;omega,by omega⟩;revert hr hs1;generalize { s with fuel:=s.fuel - 1 }=s1;intro hr hs1;refine Zcu [.old 0,.old 1,.old 2,.old 3,.old 6,.old 5] [(0,.ptr 0 0),(3,.ptr 5 0)] (XHr p N R s1 c el [.blk x.d 135]) ⟨rfl,.inl rfl,.inl rfl,rfl⟩ ?_;have ul:=hp.unit _ (Zdm hc.u);obtain ⟨_,u1,u2,u3,_⟩:=Zau ul;have hfp:c.f.params.length<=4:=(ZbL ((Zau ul).2.2.2.2.2.2 _ hc.f)).2.1;have hNu:c.u < N.length:=by rw[hs.np.len];exact hc.u
 have ex0:x.xs.getD 0 noX=x.xs[0]:=by simp[hx0]
 rw[ex0] at hr hX0;refine ⟨0,_,rfl,exG hx0,?_⟩;refine ZwT hE [.blk x.d 135] hs1 hc he hX0 (i6 _ (Yah hx0)) hp rfl rfl (λn s2 hn hs2 _ wn=>?_) (λe s2 hn=>?_)
 rotate_left
 ·rw[hn] at hr;refine ⟨rfl,.inl (Zb2 (s':=s2) (el':=el) (ZbW e) [.old 0,.old 1,.old 2,.old 6,.old 7] rfl rfl rfl (.inl rfl) rfl rfl rfl (Yag _) ?_)⟩;rw[<- hr];exact ⟨el,rfl⟩
 rw[hn] at hr
 replace hr:(if x.k=1 then ZoP p c el s2 x.s n
  else if x.k=2 then (evE p g c el.ps (x.xs.getD 1 noX) s2).bind λv s=>Zss p c el s x.s n v
  else if x.k=3 then Za8 (evS p g c) (if n=0 then x.e else x.b) el s2
  else if x.k=4 then Zce (evE p g) (evS p g) c x (g+1) n el s2
  else if x.k=5 then .ok { el with back:=true,val:=n } s2
  else if s2.told.length=500 then .stop 6 s2 else .ok el { s2 with told:=s2.told++[n] })=r:=hr
 refine Zcu [.old 0,.old 1,.old 2,.old 6,.old 7,.old 5] [(0,.ptr 0 0),(3,.ptr 5 0),(4,.g (.int n))] (XHr p N R s2 c el [.blk x.d 135]) ⟨rfl,.inl rfl,.inl rfl,rfl⟩ ?_;have hu2:c.u < s2.cells.length:=by rw[hs2.si.len];exact hc.u
 have hcell:=hs2.si.cell hc.u;refine ⟨λk1=>?_,λk1=>?_⟩
 ·rw[if_pos k1] at hr;rcases ZgG (hx.var k1) with ⟨i,hi,hpi⟩ | ⟨hpi,i,hi,hvi⟩
  ·have hi':i < el.ps.length:=by rw[he.1];exact hi
   refine ZmE ?_;refine ZuN Zez [.blk x.d 135] (Zkp hi' hpi hfp) rfl rfl rfl rfl (λout hq=>.inl ⟨_,s2,el,hq,?_⟩);refine ⟨_,[.int n],gm hi',⟨rfl,trivial⟩,Yax 1,(λh=>by cases h),.inl ?_⟩;refine ⟨rfl,.inl (Zb2 (s':=s2) (el':={ el with ps:=el.ps.set i n }) (.tuple []) [.old 0,.old 1,.old 2,.old 6,.old 7] rfl rfl rfl (.inl rfl) rfl (by rw[Yb7];rfl) rfl (Yag _) ?_)⟩;rw[<- hr];unfold ZoP;rw[if_pos (by omega),hpi];rfl
  ·obtain ⟨l1,l2,e1,_,e3⟩:=ZAG (t:=3) (hs.np.ni hs2.si) hu2;have hvl:i < (cAt s2 c.u).vars.length:=by have:=hcell.1.1.1;omega
   refine ZiA 2 l1 l2 (Zew 3 (cAt s2 c.u).vars) rfl e1 ?_;refine Zcu [.old 0,.old 1,.old 2,.old 3,.old 4,.old 6,.old 5] [(0,.ptr 0 0),(3,.ptr 6 0),(4,.g (.int n))] (LH p N R s2 c el (l1++l2) N[c.u].v (cAt s2 c.u).vars++[.blk x.d 135]) ⟨rfl,.inl rfl,.inl rfl,rfl⟩ ?_;refine Zee [0,1,2,3,4,5] Zez rfl rfl ⟨rfl,.inl rfl,.inl rfl,rfl⟩ (Zko hvl hpi hc.u hvi hNu rfl hfp u1) (λd' h' hq=>?_) (λd' h' hq=>by cases hq);injection hq with q1 q2;subst q1;subst q2;refine ⟨_,[.int n],gm hvl,⟨rfl,trivial⟩,Yax 1,(λh=>by cases h),.inl ?_⟩;refine ⟨rfl,.inr (Zd2 2 9 N[c.u].v (Zew 3 ((cAt s2 c.u).vars.set i n)) rfl Yac rfl ⟨by rw[Yb7];rfl,rfl,rfl⟩ (Ze2 (Zb2 (s':=s2.setV c.u i n) (el':=el) (.tuple []) [.old 0,.old 1,.old 2,.old 7,.old 8] rfl rfl rfl (.inl rfl) rfl rfl rfl ((Ybn _ _).trans (e3 i n)) ?_)))⟩;rw[<- hr];unfold ZoP;rw[if_neg hpi,hvi];rfl
 rw[if_neg k1] at hr;refine ⟨λk2=>?_,λk2=>?_⟩
 ·rw[if_pos k2] at hr;obtain ⟨hx1,hX1⟩:=hx.two k2;have ex1:x.xs.getD 1 noX=x.xs[1]:=by simp[hx1]
  rw[ex1] at hr hX1;refine ⟨1,_,rfl,exG hx1,?_⟩;refine ZwT hE [.blk x.d 135] hs2 hc he hX1 (i6 _ (Yah hx1)) hp rfl rfl (λv s3 hv hs3 _ wv=>?_) (λe s3 hv=>?_)
  rotate_left
  ·rw[hv] at hr;refine ⟨rfl,.inl (Zb2 (s':=s3) (el':=el) (ZbW e) [.old 0,.old 1,.old 2,.old 6,.old 7] rfl rfl rfl (.inl rfl) rfl rfl rfl (Yag _) ?_)⟩;rw[<- hr];exact ⟨el,rfl⟩
  rw[hv] at hr
  replace hr:Zss p c el s3 x.s n v=r:=hr
  have hu3:c.u < s3.cells.length:=by rw[hs3.si.len];exact hc.u
  have hc3:=hs3.si.cell hc.u;obtain ⟨k,hk,hak⟩:=ZuZ (hx.arr k2);have hka:k < (cAt s3 c.u).arrays.length:=by rw[hc3.1.2];exact hk
  obtain ⟨z,l1,l2,hz,e1,e2,e3⟩:=ZAH (t:=3) (hs.np.ni hs3.si) hu3 hka;refine ZiA 2 l1 l2 (Zew 3 ((cAt s3 c.u).arrays.getD k [])) rfl e1 ?_;refine Zcu [.old 0,.old 1,.old 2,.old 6,.old 7,.old 8,.old 5] [(0,.ptr 0 0),(3,.ptr 6 0),(4,.g (.int n)),(5,.g (.int v))] (LH p N R s3 c el (l1++l2) z ((cAt s3 c.u).arrays.getD k [])++[.blk x.d 135]) ⟨rfl,.inl rfl,.inl rfl,rfl⟩ ?_;have hct:=Zib (p:=p) (N:=N) (R:=R) (s:=s3) (c:=c) (el:=el) (name:=x.s) (l:=l1++l2) (xs:=(cAt s3 c.u).arrays.getD k []) wn.1 wn.2 hc.u hak hNu hz u2;have ear:ZeU p c s3 x.s=(cAt s3 c.u).arrays.getD k []:=by unfold ZeU;rw[hak];rfl
  unfold Zss at hr;rw[ear,hak,Int.toNat_natCast] at hr;refine Zee [0,1,2,3,4,5] ZjT rfl rfl ⟨rfl,.inl rfl,.inl rfl,rfl⟩ hct (λd' h' hq=>?_) (λd' h' hq=>?_)
  ·by_cases hle:(((cAt s3 c.u).arrays.getD k []).length:Int)<=n
   ·rw[if_pos hle] at hq;cases hq
   rw[if_neg hle] at hq hr;injection hq with q1 q2;subst q1;subst q2;have hal:n.toNat < ((cAt s3 c.u).arrays.getD k []).length:=by have:=wn.1;omega
   refine ⟨_,[.int v],gm hal,⟨rfl,trivial⟩,Yax 1,(λh=>by cases h),.inl ?_⟩;refine ⟨rfl,.inr (Zd2 2 9 z (Zew 3 (((cAt s3 c.u).arrays.getD k []).set n.toNat v)) rfl Yac rfl ⟨by rw[Yb7];rfl,rfl,rfl⟩ (Ze2 (Zb2 (s':=s3.setA c.u k n.toNat v) (el':=el) (.tuple []) [.old 0,.old 1,.old 2,.old 7,.old 8] rfl rfl rfl (.inl rfl) rfl rfl rfl ((Ybn _ _).trans (e3 n.toNat v)) ?_)))⟩;rw[<- hr];rfl
  ·by_cases hle:(((cAt s3 c.u).arrays.getD k []).length:Int)<=n
   ·rw[if_pos hle] at hq hr;injection hq with q1 q2;subst q1;subst q2;refine ⟨rfl,.inr (Zd2 2 9 z (Zew 3 ((cAt s3 c.u).arrays.getD k [])) rfl Yac rfl ⟨rfl,rfl,rfl⟩ (Ze2 (Zb2 (s':=s3) (el':=el) (ZbW 2) [.old 0,.old 1,.old 2,.old 7,.old 8] rfl rfl rfl (.inl rfl) rfl rfl rfl ((Ybn _ _).trans e2) ?_)))⟩;rw[<- hr];exact ⟨el,rfl⟩
   ·rw[if_neg hle] at hq;cases hq
 rw[if_neg k2] at hr;have hsB:SsC p c x.b:=⟨hinv.2.2.2.1.all,i7,i4⟩;have hsE:SsC p c x.e:=⟨hinv.2.2.2.2.1.all,i8,i5⟩;refine ⟨λk3=>?_,λk3=>?_⟩
 ·rw[if_pos k3] at hr;refine ⟨λhn0=>?_,λhn0=>?_⟩
  ·rw[if_neg hn0] at hr;refine Zzv hB [.blk x.d 135] hs2 hc he hsB hp rfl rfl (λel3 s3 h3 _ _ _=>?_) (λe s3 el3 h3=>?_)
   ·refine ⟨rfl,.inl (Zb2 (s':=s3) (el':=el3) (.tuple []) [.old 0,.old 1,.old 2,.old 6,.old 7] rfl rfl rfl (.inl rfl) rfl rfl rfl (Yag _) ?_)⟩;rw[<- hr,h3];rfl
   ·refine ⟨rfl,.inl (Zb2 (s':=s3) (el':=el3) (ZbW e) [.old 0,.old 1,.old 2,.old 6,.old 7] rfl rfl rfl (.inl rfl) rfl rfl rfl (Yag _) ?_)⟩;rw[<- hr,h3];exact ⟨el3,rfl⟩
  ·rw[if_pos hn0] at hr;refine Zzv hB [.blk x.d 135] hs2 hc he hsE hp rfl rfl (λel3 s3 h3 _ _ _=>?_) (λe s3 el3 h3=>?_)
   ·refine ⟨rfl,.inl (Zb2 (s':=s3) (el':=el3) (.tuple []) [.old 0,.old 1,.old 2,.old 6,.old 7] rfl rfl rfl (.inl rfl) rfl rfl rfl (Yag _) ?_)⟩;rw[<- hr,h3];rfl
   ·refine ⟨rfl,.inl (Zb2 (s':=s3) (el':=el3) (ZbW e) [.old 0,.old 1,.old 2,.old 6,.old 7] rfl rfl rfl (.inl rfl) rfl rfl rfl (Yag _) ?_)⟩;rw[<- hr,h3];exact ⟨el3,rfl⟩
 rw[if_neg k3] at hr;refine ⟨λk4=>?_,λk4=>?_⟩
 ·rw[if_pos k4] at hr;refine ZaL (ι:=Nat × Int × EL × ES) (λz=>[(0,.ptr 0 0),(3,.ptr 5 0),(4,.g (.int z.2.1))]) (λz=>XHr p N R z.2.2.2 c z.2.2.1 [.blk x.d 135]) (WhI p N g c x r) (λz=>if z.2.2.1.back then 0 else z.1+1)
   ⟨(g+1,n,el,s2),[.old 0,.old 1,.old 2,.old 3,.old 4,.old 5],⟨rfl,.inl rfl,.inr ⟨lk rfl,lk rfl,lk rfl,trivial⟩,rfl⟩,⟨hs2,he,wn,?_⟩⟩ ?_
  ·cases hb:el.back with
   | true=>exact .inl ⟨rfl,by rw[<- hr];unfold Zce;rw[if_pos (.inr hb)]⟩
   | false=>exact .inr ⟨rfl,by have:=hs2.fuel;show s2.fuel < g+1;omega,hr⟩
  rintro Rd hRd ⟨k,m,⟨ps1,bk1,val1⟩,s3⟩ ⟨w1,w2,w3,w4⟩;dsimp only at w1 w2 w3 w4;cases bk1 with
  | true =>
   rcases w4 with ⟨_,rfl⟩ | ⟨h,_⟩
   ·refine ⟨λ_=>?_,λ_=>?_⟩
    all_goals exact ⟨rfl,.inl (Zb2 (s':=s3) (el':=⟨ps1,true,val1⟩) (.tuple []) [.old 0,.old 1,.old 2,.old 3,.old 4] rfl rfl rfl (.inl rfl) rfl rfl rfl (Yag _) rfl)⟩
   ·cases h
  | false =>
  rcases w4 with ⟨h,_⟩ | ⟨_,wf,hr⟩
  ·cases h
  obtain ⟨k',rfl⟩:∃k',k=k'+1:=⟨k - 1,by have:s3.fuel < k:=wf;omega⟩
  replace hr:Zce (evE p g) (evS p g) c x (k'+1) m ⟨ps1,false,val1⟩ s3=r:=hr
  unfold Zce at hr;refine ⟨λhm=>?_,λhm=>?_⟩
  ·replace hm:¬m=0:=hm
   rw[if_neg (by rintro (h | h);exact hm h;cases h)] at hr;refine Zzv hB [.blk x.d 135] w1 hc w2 hsB hp rfl rfl (λel4 s4 h4 ok4 e4 lt4=>?_) (λe s4 el4 h4=>?_)
   rotate_left
   ·refine ⟨rfl,.inl (Zb2 (s':=s4) (el':=el4) (ZbW e) [.old 0,.old 1,.old 2,.old 6,.old 7] rfl rfl rfl (.inl rfl) rfl rfl rfl (Yag _) ?_)⟩;rw[<- hr,h4];exact ⟨el4,rfl⟩
   rw[h4] at hr;refine Zcu [.old 0,.old 1,.old 2,.old 6,.old 7,.old 5] [(0,.ptr 0 0),(3,.ptr 5 0),(4,.g (.int m))] (XHr p N R s4 c el4 [.blk x.d 135]) ⟨rfl,.inl rfl,.inl rfl,rfl⟩ ?_;obtain ⟨ps4,bk4,val4⟩:=el4;cases bk4 with
   | true =>exact hRd _ _ _ ⟨(k',m,⟨ps4,true,val4⟩,s4),[.old 0,.old 1,.old 2,.old 3,.old 4,.old 5],⟨rfl,.inl rfl,.inr ⟨lk rfl,lk rfl,lk rfl,trivial⟩,rfl⟩,⟨ok4,e4,w3,.inl ⟨rfl,hr.symm⟩⟩,Nat.succ_pos _⟩
   | false =>
   replace hr:(ZdU s4 λs=>(evE p g c ps4 (x.xs.getD 0 noX) s).bind λn s=>Zce (evE p g) (evS p g) c x k' n ⟨ps4,false,val4⟩ s)=r:=hr
   unfold ZdU at hr;refine Zhe (el:=⟨ps4,false,val4⟩) [.blk x.d 135] (by have:=ok4.fuel;omega) rfl rfl (λh0=>?_) (λh0=>?_)
   ·rw[if_pos h0] at hr;subst hr;exact ⟨rfl,.inl (Zb2 (s':=s4) (el':=⟨ps4,false,val4⟩) (ZbW 3) [.old 0,.old 1,.old 2,.old 3,.old 6] rfl rfl rfl (.inl rfl) rfl rfl rfl (Yag _) ⟨_,rfl⟩)⟩
   rw[if_neg h0,ex0] at hr;have hs5:OkS p N g { s4 with fuel:=s4.fuel - 1 }:=⟨ok4.si.fuel _,ok4.np,by have:=ok4.fuel;show s4.fuel - 1<=g;omega,ok4.g⟩;have hk5:({ s4 with fuel:=s4.fuel - 1 }:ES).fuel < k':=by have h1:s3.fuel < k'+1:=wf;show s4.fuel - 1 < k';omega
   revert hr hs5 hk5;generalize { s4 with fuel:=s4.fuel - 1 }=s5;intro hr hs5 hk5
   replace hr:(evE p g c ps4 x.xs[0] s5).bind (λn s=>Zce (evE p g) (evS p g) c x k' n ⟨ps4,false,val4⟩ s)=r:=hr
   refine Zcu [.old 0,.old 1,.old 2,.old 3,.old 6,.old 5] [(0,.ptr 0 0),(3,.ptr 5 0)] (XHr p N R s5 c ⟨ps4,false,val4⟩ [.blk x.d 135]) ⟨rfl,.inl rfl,.inl rfl,rfl⟩ ?_;refine ⟨0,_,rfl,exG hx0,?_⟩;refine ZwT hE (el:=⟨ps4,false,val4⟩) [.blk x.d 135] hs5 hc e4 hX0 (i6 _ (Yah hx0)) hp rfl rfl (λn6 s6 h6 ok6 lt6 wn6=>?_) (λe s6 h6=>?_)
   ·rw[show evE p g c ps4 x.xs[0] s5=.ok n6 s6 from h6] at hr;exact hRd _ _ _ ⟨(k',n6,⟨ps4,false,val4⟩,s6),[.old 0,.old 1,.old 2,.old 6,.old 7,.old 5],⟨rfl,.inl rfl,.inr ⟨lk rfl,lk rfl,lk rfl,trivial⟩,rfl⟩,⟨ok6,e4,wn6,.inr ⟨rfl,by show s6.fuel < k';omega,hr⟩⟩,Yb0 _⟩
   ·rw[show evE p g c ps4 x.xs[0] s5=.stop e s6 from h6] at hr;refine ⟨rfl,.inl (Zb2 (s':=s6) (el':=⟨ps4,false,val4⟩) (ZbW e) [.old 0,.old 1,.old 2,.old 6,.old 7] rfl rfl rfl (.inl rfl) rfl rfl rfl (Yag _) ?_)⟩;rw[<- hr];exact ⟨_,rfl⟩
  ·replace hm:m=0:=hm
   rw[if_pos (.inl hm)] at hr;refine ⟨rfl,.inl (Zb2 (s':=s3) (el':=⟨ps1,false,val1⟩) (.tuple []) [.old 0,.old 1,.old 2,.old 3,.old 4] rfl rfl rfl (.inl rfl) rfl rfl rfl (Yag _) ?_)⟩;rw[<- hr];rfl
 rw[if_neg k4] at hr;refine ⟨λk5=>?_,λk5=>?_⟩
 ·rw[if_pos k5] at hr;refine .inl ?_;refine .inl ?_;refine ⟨rfl,.inl (Zb2 (s':=s2) (el':={ el with back:=true,val:=n }) (.tuple []) [.old 0,.old 1,.old 2,.old 3,.old 4] rfl rfl rfl (.inl rfl) rfl rfl rfl (Yag _) ?_)⟩;rw[<- hr];rfl
 rw[if_neg k5] at hr;have lt:(tz s2).length=s2.told.length:=Yab _;have htold:=hs2.si.told;refine ⟨λh5=>?_,λh5=>?_⟩
 ·rw[if_pos (by omega)] at hr;refine .inl ?_;refine ⟨rfl,.inl (Zb2 (s':=s2) (el':=el) (ZbW 6) [.old 0,.old 1,.old 2,.old 3,.old 4] rfl rfl rfl (.inl rfl) rfl rfl rfl (Yag _) ?_)⟩;rw[<- hr];exact ⟨el,rfl⟩
 rw[if_neg (by omega)] at hr;have hroom:(tz s2).length+1<=maxLen/\((tz s2).length+1)*8<=140737488355328:=⟨by unfold maxLen;omega,by omega⟩;have hend:sQ p N R c r (.ret (.tuple []) (XH p N R { s2 with told:=s2.told++[n] } c el)):=by rw[<- hr];rfl
 have etold:tz s2++[[.int n]]=tz { s2 with told:=s2.told++[n] }:=by show _=(s2.told++[n]).map Zat;rw[Yai];rfl
 refine ⟨some 60001,(.lead 0 (.lead 1 (.lead 2 (.lead 4 (.lead 5 (.lead 6 (.lead 11 (.two (.run 3 (.two (.run 7 (.lead 8 (.lead 9 (.two (.run 10 (.run 12 (.run 13 (.lead 14 (.lead 15 (.run 16 .done)))))) (.run 12 (.run 10 (.run 13 (.lead 14 (.lead 15 (.run 16 .done)))))))))) (.run 12 (.run 7 (.lead 8 (.lead 9 (.run 10 (.run 13 (.lead 14 (.lead 15 (.run 16 .done))))))))))) (.two (.run 7 (.lead 8 (.lead 9 (.two (.run 3 (.two (.run 10 (.run 12 (.run 13 (.lead 14 (.lead 15 (.run 16 .done)))))) (.run 12 (.run 10 (.run 13 (.lead 14 (.lead 15 (.run 16 .done)))))))) (.two (.run 10 (.two (.run 3 (.run 12 (.run 13 (.lead 14 (.lead 15 (.run 16 .done)))))) (.run 12 (.two (.run 3 (.run 13 (.lead 14 (.lead 15 (.run 16 .done))))) (.run 13 (.run 3 (.lead 14 (.lead 15 (.run 16 .done))))))))) (.run 12 (.two (.run 3 (.run 10 (.run 13 (.lead 14 (.lead 15 (.run 16 .done)))))) (.run 10 (.two (.run 3 (.run 13 (.lead 14 (.lead 15 (.run 16 .done))))) (.run 13 (.run 3 (.lead 14 (.lead 15 (.run 16 .done)))))))))))))) (.run 12 (.two (.run 3 (.run 7 (.lead 8 (.lead 9 (.run 10 (.run 13 (.lead 14 (.lead 15 (.run 16 .done))))))))) (.run 7 (.lead 8 (.lead 9 (.two (.run 3 (.run 10 (.run 13 (.lead 14 (.lead 15 (.run 16 .done)))))) (.run 10 (.two (.run 3 (.run 13 (.lead 14 (.lead 15 (.run 16 .done))))) (.run 13 (.run 3 (.lead 14 (.lead 15 (.run 16 .done)))))))))))))))))))))),rfl,?_⟩;refine ⟨⟨⟨⟨[[.int n]],rfl,rfl,⟨rfl,trivial⟩,⟨hroom,.inl (.inl (?_))⟩⟩,⟨[[.int n]],rfl,rfl,⟨rfl,trivial⟩,⟨hroom,.inl (.inl (?_))⟩⟩⟩,⟨[[.int n]],rfl,rfl,⟨rfl,trivial⟩,⟨hroom,.inl (.inl (?_))⟩⟩⟩,⟨⟨⟨⟨[[.int n]],rfl,rfl,⟨rfl,trivial⟩,⟨hroom,.inl (.inl (?_))⟩⟩,⟨[[.int n]],rfl,rfl,⟨rfl,trivial⟩,⟨hroom,.inl (.inl (?_))⟩⟩⟩,⟨⟨⟨[[.int n]],rfl,rfl,⟨rfl,trivial⟩,⟨hroom,.inl (.inl (?_))⟩⟩,⟨[[.int n]],rfl,rfl,⟨rfl,trivial⟩,⟨⟨hroom,.inl (.inl (?_))⟩,⟨hroom,.inl (.inl (?_))⟩⟩⟩⟩,⟨[[.int n]],rfl,rfl,⟨rfl,trivial⟩,⟨⟨hroom,.inl (.inl (?_))⟩,⟨⟨hroom,.inl (.inl (?_))⟩,⟨hroom,.inl (.inl (?_))⟩⟩⟩⟩⟩⟩,⟨[[.int n]],rfl,rfl,⟨rfl,trivial⟩,⟨⟨hroom,.inl (.inl (?_))⟩,⟨⟨hroom,.inl (.inl (?_))⟩,⟨⟨hroom,.inl (.inl (?_))⟩,⟨hroom,.inl (.inl (?_))⟩⟩⟩⟩⟩⟩⟩
 all_goals exact ⟨rfl,.inl (Zb2 (s':={ s2 with told:=s2.told++[n] }) (el':=el) (.tuple []) [.old 0,.old 1,.old 2,.old 3,.old 7] rfl rfl rfl (.inl rfl) rfl rfl etold (Yag _) hend)⟩
end ZN
namespace Barb
open Go Go.Dm Go.Eng
end Barb
namespace ZN
open Go Go.Dm Go.Eng Go.RowKit Barb
set_option maxRecDepth 20000 in
theorem ZpD (cs:List Cells) (hI:∀c∈cs,Cells.I c) (hl:cs.length*48<=140737488351232):CT Tryz.prog gl 22 [.g (.sl 2 (cs.map Cells.g))]
  (λout=>∃N,NI N cs/\out=.ret (.row 0) [.row (N.map CN.g) 92 2,.many (Zbi 3 N cs) []]):=by
 have lc:(cs.map Cells.g).length=cs.length:=by simp
 refine ZqM [] hT hF hM Tryz.func22 rfl 40 rfl (by kernel_rfl) [.tmp 2] rfl [.g (.sl 2 (cs.map Cells.g))] rfl _ ?_;refine ZaL (ι:=List CN) (λN=>[(11,.g (.int (N.length:Int))),(3,.row 0)]) (λN=>[.row (N.map CN.g) 92 2,.many (Zbi 3 N (cs.take N.length)) []]) (λN=>N.length<=cs.length/\NI N (cs.take N.length)) (λN=>cs.length - N.length)
  ⟨[],[.nil 92 2,.many0],⟨rfl,.inl rfl,.inr ⟨lk rfl,.inr rfl,trivial⟩,rfl⟩,Yau _,⟨rfl,λi h=>by simp at h⟩⟩ ?_
 rintro Rd hRd N ⟨hi,hN⟩;have lN:(N.map CN.g).length=N.length:=Yab _;refine ⟨λh1=>?_,λh1=>?_⟩
 rotate_left
 ·have hil:N.length=cs.length:=by omega
  rw[hil,YaE] at hN;exact ⟨rfl,[.old 0,.old 1],.row 0,[.row (N.map CN.g) 92 2,.many (Zbi 3 N cs) []],⟨rfl,.inr ⟨⟨rfl,rfl,rfl⟩,⟨by rw[hil,YaE],rfl⟩,trivial⟩,.inl rfl,rfl⟩,N,hN,rfl⟩
 have h2:N.length < cs.length:=by omega
 obtain ⟨⟨_,hv⟩,ha,hal⟩:=hI _ (Yah h2);have noI:∀(l:List Int),∀r∈l.map Zat,∀g∈r,noV g:=λl r hr g hg=>by obtain ⟨x,_,rfl⟩:=YaW.1 hr;rcases Yay.1 hg with rfl;trivial
 refine ⟨N.length,_,rfl,gm h2,?_⟩;refine .inl ?_;refine .inr (ZmL (.inl rfl) (Zeu (cs[N.length].vars.map Zat) (by rw[Yab];exact hv)) (noI _) ?_);refine .inl ?_;refine .inr (Zy2 4 0 1 3 rfl rfl rfl rfl (λv=>Zd2 1 3 v (Zew 3 cs[N.length].vars) rfl Yac rfl ⟨rfl,rfl,rfl⟩ (Ze2 ?_)));have la:(cs[N.length].arrays.map ZhF).length=cs[N.length].arrays.length:=by simp
 refine ZaL (ι:=List Value) (λvs=>[(22,.g (.int (vs.length:Int))),(3,.row 0),(6,.ptr 1 0)]) (λvs=>[.row (N.map CN.g) 92 2,.blk [.g (.raw v),.row 2] 92,.row (vs.map λa=>[.raw a]) 30 1,
   .many (Zbi 3 N (cs.take N.length)++(v,Zew 3 cs[N.length].vars) :: List.zipWith (λv l=>(v,Zew 3 l)) vs (cs[N.length].arrays.take vs.length)) []]) (λvs=>vs.length<=cs[N.length].arrays.length) (λvs=>cs[N.length].arrays.length - vs.length)
  ⟨[],[.old 0,.old 4,.nil 30 1,.old 1],⟨rfl,.inr ⟨⟨rfl,rfl,rfl⟩,⟨rfl,.inr ⟨lk rfl,.inr rfl,trivial⟩⟩,⟨rfl,rfl,rfl⟩,⟨Yag _,rfl⟩,trivial⟩,.inr ⟨lk rfl,lk rfl,lk rfl,trivial⟩,rfl⟩,Yau _⟩ ?_
 intro Rj hRj vs hj;have lv:(vs.map λa=>[GV.raw a]).length=vs.length:=Yab _;refine ⟨λh3=>?_,λh3=>?_⟩
 ·have h4:vs.length < cs[N.length].arrays.length:=by omega
  obtain ⟨_,hb⟩:=ha _ (Yah h4);have hclone:=Zeu (cs[N.length].arrays[vs.length].map Zat) (by rw[Yab];exact hb);have hroom:(vs.map λa=>[GV.raw a]).length+1<=maxLen/\((vs.map λa=>[GV.raw a]).length+1)*24<=140737488355328:=⟨by unfold maxLen;omega,by omega⟩;refine ⟨vs.length,_,rfl,gm h4,?_⟩;refine ⟨some 60001,(.lead 0 (.lead 2 (.two (.run 1 (.run 3 (.run 4 (.run 5 (.lead 6 (.run 7 .done)))))) (.run 3 (.two (.run 1 (.run 4 (.run 5 (.lead 6 (.run 7 .done))))) (.run 4 (.run 1 (.run 5 (.lead 6 (.run 7 .done)))))))))),rfl,?_⟩;refine ⟨.inr (ZmL (.inl rfl) hclone (noI _) (ZkQ 3 4 rfl rfl (λa=>Zd2 3 4 a (Zew 3 cs[N.length].arrays[vs.length]) rfl Yac rfl ⟨rfl,rfl,rfl⟩ (Ze2 ⟨[[.raw a]],rfl,rfl,⟨rfl,trivial⟩,⟨hroom,.inl (.inl (?_))⟩⟩)))),.inr (ZmL (.inl rfl) hclone (noI _) (⟨ZkQ 3 4 rfl rfl (λa=>Zd2 3 4 a (Zew 3 cs[N.length].arrays[vs.length]) rfl Yac rfl ⟨rfl,rfl,rfl⟩ (Ze2 ⟨[[.raw a]],rfl,rfl,⟨rfl,trivial⟩,⟨hroom,.inl (.inl (?_))⟩⟩)),ZkQ 3 4 rfl rfl (λa=>Zd2 3 4 a (Zew 3 cs[N.length].arrays[vs.length]) rfl Yac rfl ⟨rfl,rfl,rfl⟩ (Ze2 ⟨[[.raw a]],rfl,rfl,⟨rfl,trivial⟩,⟨hroom,.inl (.inl (?_))⟩⟩))⟩))⟩
  all_goals
   refine ⟨_,I64.wrap (by unfold I64;omega),?_⟩;refine hRj _ _ _ ⟨vs++[a],[.old 0,.old 1,.old 6,.old 3],⟨rfl,.inr ⟨⟨rfl,rfl,rfl⟩,⟨rfl,.inl rfl⟩,⟨by rw[Yai];rfl,rfl,rfl⟩,⟨?_,rfl⟩,trivial⟩,.inr ⟨lkI (by simp),lk rfl,lk rfl,trivial⟩,rfl⟩,by simp;omega,by simp;omega⟩;rw[Yae,List.length_singleton,Zay h4,ZpE _ _ _ _ _ (by simp;omega)];simp
 ·have hjl:vs.length=cs[N.length].arrays.length:=by omega
  have hzl:(cs[N.length].arrays.take vs.length)=cs[N.length].arrays:=by rw[hjl,YaE]
  refine ⟨[[.raw v,.sl 1 (vs.map λa=>[.raw a])]],rfl,rfl,⟨rfl,rfl,trivial⟩,?_⟩;refine ⟨⟨by simp only[maxLen,List.length_cons,List.length_nil,Yab];omega,by simp only[List.length_cons,List.length_nil,Yab];omega⟩,.inl ?_⟩;refine ⟨_,I64.wrap (by unfold I64;omega),?_⟩;have hlen:N.length=(cs.take N.length).length:=by rw[Yan];omega
  refine hRd _ _ _ ⟨N++[⟨v,vs⟩],[.old 5,.old 3],⟨rfl,.inr ⟨⟨by rw[Yai];rfl,rfl,rfl⟩,⟨?_,rfl⟩,trivial⟩,.inr ⟨lkI (by simp),lk rfl,trivial⟩,rfl⟩,⟨by simp;omega,?_⟩,by simp;omega⟩
  ·rw[Yae,List.length_singleton,Zay h2,Znh _ _ _ _ _ hlen,hzl];exact Yag _
  ·rw[Yae,List.length_singleton,Zay h2];refine ⟨by simp;omega,λi hi1 hi2=>?_⟩;by_cases hin:i < N.length
   ·rw[Ybv hin,Ybv (by omega)];exact hN.ar i hin (by omega)
   ·have hie:i=N.length:=by simp at hi1;omega
    subst hie;rw[Ybp (by omega),Ybp (by omega)];simpa using hjl
abbrev CH (p:List Barb.Unit) (N:List CN) (R:Value) (s:ES) (a b:Int) (c:D):Zad :=
 [.blk [.g (.int a),.g (.int b),c] 72,.blk [.ptr 2 0] 67,.blk (rC p N 4 s.fuel) 70,.many (mz N s) [(R,2)],.row (tz s) 3 1]
theorem ZAp {C:Dm.Ctx} {h:Zad} {β:Nat->Value} {V:Nat->Prop} {w:World} {tm:Array Value} (hsz:tm.size=24) (h0:Zaa h β V w (.ptr 0 0) (tm.getD 0 undef)) (h1:Zaa h β V w (.ptr 1 0) (tm.getD 1 undef)) (hrel:RelD C h β V w) :
  Rel C 24 ⟨λk=>bif Nat.beq k 0 then .ptr 0 0 else bif Nat.beq k 1 then .ptr 1 0 else .any,h,[]⟩ { tmps:=tm,defers:=[] } w:=by
 refine ⟨hsz,rfl,β,V,hrel,λk=>?_⟩;show Zaa _ _ _ _ (bif Nat.beq k 0 then .ptr 0 0 else bif Nat.beq k 1 then .ptr 1 0 else .any) (tm.getD k undef);cases hk:Nat.beq k 0 with
 | true=>rw[Yap hk];exact h0
 | false =>
  cases hk1:Nat.beq k 1 with
  | true=>rw[Yap hk1];exact h1
  | false=>simp only[cond_false,Zaa]
theorem ZAo {C:Dm.Ctx} {h:Zad} {β:Nat->Value} {V:Nat->Prop} {w:World} {tm:Array Value} (hsz:tm.size=24) (h0:Zaa h β V w (.ptr 0 0) (tm.getD 0 undef)) (h1:Zaa h β V w (.ptr 1 0) (tm.getD 1 undef)) (h3:Zaa h β V w (.ptr 5 0) (tm.getD 3 undef)) (h4:tm.getD 4 undef=.bool true) (hrel:RelD C h β V w) :
  Rel C 24 ⟨λk=>bif Nat.beq k 0 then .ptr 0 0 else bif Nat.beq k 1 then .ptr 1 0 else bif Nat.beq k 3 then .ptr 5 0 else bif Nat.beq k 4 then .g (.bool true) else .any,h,[]⟩ { tmps:=tm,defers:=[] } w:=by
 refine ⟨hsz,rfl,β,V,hrel,λk=>?_⟩;show Zaa _ _ _ _ (bif Nat.beq k 0 then .ptr 0 0 else bif Nat.beq k 1 then .ptr 1 0 else bif Nat.beq k 3 then .ptr 5 0 else bif Nat.beq k 4 then .g (.bool true) else .any) (tm.getD k undef);cases hk:Nat.beq k 0 with
 | true=>rw[Yap hk];exact h0
 | false =>
 cases hk1:Nat.beq k 1 with
 | true=>rw[Yap hk1];exact h1
 | false =>
 cases hk3:Nat.beq k 3 with
 | true=>rw[Yap hk3];exact h3
 | false =>
 cases hk4:Nat.beq k 4 with
 | true=>rw[Yap hk4,h4];simp only[cond_false,cond_true,Zaa,ZaW]
 | false=>simp only[cond_false,Zaa]
theorem ZqW {p:List Barb.Unit} {N:List CN} {R:Value} {s:ES} {a b a2 b2:Int} {w w':World} {β β':Nat->Value} {V V':Nat->Prop} {rest:Zad} {env':Dm.Env} {a':Act} (hrel0:RelD ⟨w,ZfS (CH p N R s a b .nils) β,V,gl⟩ (CH p N R s a b .nils) β V w)
  (h0:Zaa (CH p N R s a b .nils) β V w (.ptr 0 0) (a'.tmps.getD 0 undef)) (h1:Zaa (CH p N R s a b .nils) β V w (.ptr 1 0) (a'.tmps.getD 1 undef)) (e0:env' 0=.ptr 0 0) (e1:env' 1=.ptr 1 0)
  (q1:RelD ⟨w,ZfS (CH p N R s a b .nils) β,V,gl⟩ (CH p N R s a2 b2 (.row 4)++rest) β' V' w') (q2:ZbO ⟨env',CH p N R s a2 b2 (.row 4)++rest,[]⟩ β' V' w' a') :
  ∃β'' V'',RelD ⟨w,ZfS (CH p N R s a b .nils) β,V,gl⟩ (CH p N R s a2 b2 (.row 4)) β'' V'' w'/\∀i,i < 4->Zir (CH p N R s a b .nils) (CH p N R s a2 b2 (.row 4)) β β'' i:=by
 have hE:=@Zou gl w w' (CH p N R s a b .nils) β V [0,1] 3 [some R,none] a' hrel0 ⟨Yac,trivial,trivial⟩ rfl (by simp only[Zij,Yar,YaS,Zac];exact ⟨_,_,rfl,h0,_,_,rfl,h1,rfl⟩)
  ⟨env',CH p N R s a2 b2 (.row 4)++rest,[]⟩ β' V' (λ_ h=>h=CH p N R s a2 b2 (.row 4)) (.tuple []) (.tuple ⟨[]⟩) q1 q2 (by simp only[Zaa,Zac];exact ⟨[],rfl,rfl⟩)
  (ZtF ⟨[.old 0,.old 1,.old 2,.old 3,.old 4],.tuple [],CH p N R s a2 b2 (.row 4),⟨rfl,.inl rfl,.inl (by simp only[Yar,YaS];rw[e0,e1];rfl),rfl⟩,rfl,⟨Yac,⟨trivial,rfl⟩,trivial,trivial⟩,rfl⟩)
 obtain ⟨_,h',β'',V'',rfl,r1,_,r3⟩:=hE;exact ⟨β'',V'',r1,r3⟩
theorem Ztg (p:List Barb.Unit) (N:List CN) (R:Value) (s:ES) (a b:Int) {w:World} {β:Nat->Value} {V:Nat->Prop} (v0 v1:Value) (hrel:RelD ⟨w,ZfS (CH p N R s a b .nils) β,V,gl⟩ (CH p N R s a b .nils) β V w) (h0:Zaa (CH p N R s a b .nils) β V w (.ptr 0 0) v0) (h1:Zaa (CH p N R s a b .nils) β V w (.ptr 1 0) v1) :
  CallsD Tryz.prog 46 #[v0,v1] .returning w λe u' w'=>e=.returned (.tuple #[])/\u'=.returning/\∃β' V',RelD ⟨w,ZfS (CH p N R s a b .nils) β,V,gl⟩ (CH p N R s a b (.row 4)) β' V' w'/\∀i,i < 4->Zir (CH p N R s a b .nils) (CH p N R s a b (.row 4)) β β' i:=by
 refine callsD_of_wpS Tryz.func46 rfl λc₀ cs hu=>?_;apply wpS_seq;apply wpS_seq;apply wpS_region;simp[wpOpsS,go_sem,recoverD,hu,Tryz.ntmps46,Exit.thenS];apply wpS_seq;apply wpS_region;simp[wpOpsS,go_sem,Exit.thenS];refine wpS_cond (t:=false) (by simp[Act.eval,Array.replicate]) ?_;simp only[Yb6,if_false];refine wpS_of_wp (wp_skip ?_);simp only[Exit.thenS];refine wpS_of_wp ?_;generalize hT':(#[v0,v1]++((((Array.replicate 22 undef).setIfInBounds 3 Value.nilIface).setIfInBounds 0 Value.nilIface).setIfInBounds 4 Value.nilIface).setIfInBounds 5 (Value.bool false):Array Value)=tm;have hsz:tm.size=24:=by rw[<- hT'];simp
 have ht0:tm.getD 0 undef=v0:=by rw[<- hT'];simp
 have ht1:tm.getD 1 undef=v1:=by rw[<- hT'];simp
 clear hT';rw[<- ht0] at h0;rw[<- ht1] at h1;refine Code.wp_mono ?_ (ZdF [] hT hF hM.ok _ [19,20,21,22,23] (by decide) (by decide) ⟨w,ZfS (CH p N R s a b .nils) β,V,gl⟩ _ _ w (λx st'=>x=.normal/\st'.env 0=.ptr 0 0/\st'.env 1=.ptr 1 0/\st'.df=[]/\st'.h=CH p N R s a b (.row 4)) ?_ (ZAp hsz h0 h1 hrel))
 ·rintro e a' w' ⟨hk,x,⟨env',h',df'⟩,⟨rfl,e0,e1,e2,e3⟩,hx⟩;dsimp only at e0 e1 e2 e3;subst e2;subst e3;cases e<;>try exact hx.elim
  obtain ⟨_,hdf,β',V',q1,q2⟩:=hx;obtain ⟨β'',V'',r1,r2⟩:=ZqW (rest:=[]) (a':=a') hrel (by rw[hk 0 rfl];exact h0) (by rw[hk 1 rfl];exact h1) e0 e1 q1 q2;exact ⟨hdf,.returning,by cases c₀;simp_all,_,by simp[results,Tryz.f46],rfl,rfl,β'',⟨V'',r1⟩,r2⟩
 ·exact .inl ⟨rfl,rfl,rfl,rfl,rfl⟩
theorem Zpx (v:Value) (xT:TypeId) (w:World):(Instr.typeAssert (.iface 116 v) xT 116 true).run Tryz.prog w=.ok (.tuple #[v,.bool true]) w:=by kernel_rfl
theorem Ztf (p:List Barb.Unit) (N:List CN) (R:Value) (s:ES) (a b x:Int) {w:World} {β:Nat->Value} {V:Nat->Prop} (v0 v1:Value) (hrel:RelD ⟨w,ZfS (CH p N R s a b .nils) β,V,gl⟩ (CH p N R s a b .nils) β V w) (h0:Zaa (CH p N R s a b .nils) β V w (.ptr 0 0) v0) (h1:Zaa (CH p N R s a b .nils) β V w (.ptr 1 0) v1) :
  CallsD Tryz.prog 46 #[v0,v1] (.panicking [{ v:=.iface 116 (.agg #[.int .i64 x]),recovered:=false }]) w λe u' w'=>e=.returned (.tuple #[])/\u'=.panicking [{ v:=.iface 116 (.agg #[.int .i64 x]),recovered:=true }]/\∃β' V',RelD ⟨w,ZfS (CH p N R s a b .nils) β,V,gl⟩ (CH p N R s x 0 (.row 4)) β' V' w'/\∀i,i < 4->Zir (CH p N R s a b .nils) (CH p N R s x 0 (.row 4)) β β' i:=by
 refine callsD_of_wpS Tryz.func46 rfl λc₀ cs hu=>?_;apply wpS_seq;apply wpS_seq;apply wpS_region;simp[wpOpsS,go_sem,recoverD,hu,Tryz.ntmps46,Exit.thenS];apply wpS_seq;apply wpS_region;simp[wpOpsS,go_sem,Exit.thenS];refine wpS_cond (t:=true) (by simp[Act.eval,Array.replicate]) ?_;simp only[if_true];apply wpS_seq;apply wpS_region;simp[wpOpsS,go_sem,Exit.thenS,Zpx];refine wpS_of_wp ?_;have hal:=hrel.alloc_blk [.g (.int x)] [.int .i64 x] 116 (by simp only[Zac,Zaa,ZaW];exact ⟨_,_,rfl,rfl,rfl⟩);have hle:=Zdo (CH p N R s a b .nils) β (.blk [.g (.int x)] 116) (.pointer (some ⟨w.heap.size,0,none⟩));have hmv:ZaB V w V (w.alloc (.cells #[.int .i64 x] 116)):=hrel.moved (Zd3 w _) (λk hk=>hk.elim);refine Code.wp_mono ?_ (ZdF [] hT hF hM.ok _ [13,14,15,16,17,18] (by decide) (by decide) ⟨w,ZfS (CH p N R s a b .nils) β,V,gl⟩ _ _ _ (λy st'=>y=.normal/\st'.env 0=.ptr 0 0/\st'.env 1=.ptr 1 0/\st'.df=[]/\st'.h=CH p N R s x 0 .nils++[.blk [.g (.int x)] 116]) ?_
  (ZAo (h:=CH p N R s a b .nils++[.blk [.g (.int x)] 116]) (by simp) (by simpa using Zaa.mono hle hmv _ _ h0) (by simpa using Zaa.mono hle hmv _ _ h1) ?_ (by simp) hal))
 ·rintro e a' w' ⟨hk,y,⟨env',h',df'⟩,⟨rfl,e0,e1,e2,e3⟩,hx⟩;dsimp only at e0 e1 e2 e3;subst e2;subst e3;cases e<;>try exact hx.elim
  simp only[Exit.thenS];refine wpS_of_wp ?_;have hv0:a'.tmps.getD 0 undef=v0:=(hk 0 rfl).trans (by simp);have hv1:a'.tmps.getD 1 undef=v1:=(hk 1 rfl).trans (by simp);clear hk;obtain ⟨tm,df⟩:=a';obtain ⟨hsz,hdf,β1,V1,r1,r2⟩:=hx;have hdf:df=[]:=hdf;subst hdf;have g0:=r2 0;have g1:=r2 1;rw[show (⟨env',_,[]⟩:Dm.St).env 0=.ptr 0 0 from e0] at g0;rw[show (⟨env',_,[]⟩:Dm.St).env 1=.ptr 1 0 from e1] at g1;refine Code.wp_mono ?_ (ZdF [] hT hF hM.ok _ [19,20,21,22,23] (by decide) (by decide) ⟨w,ZfS (CH p N R s a b .nils) β,V,gl⟩ _ _ w' (λx' st'=>x'=.normal/\st'.env 0=.ptr 0 0/\st'.env 1=.ptr 1 0/\st'.df=[]/\st'.h=CH p N R s x 0 (.row 4)++[.blk [.g (.int x)] 116]) ?_ (ZAp hsz g0 g1 r1))
  ·rintro e2 a2 w2 ⟨hk,x',⟨env2,h2,df2⟩,⟨rfl,f0,f1,f2,f3⟩,hx⟩;dsimp only at f0 f1 f2 f3;subst f2;subst f3;cases e2<;>try exact hx.elim
   obtain ⟨_,hdf,β',V',q1,q2⟩:=hx;obtain ⟨β'',V'',z1,z2⟩:=ZqW (a':=a2) hrel (by rw[hk 0 rfl];exact hv0▸h0) (by rw[hk 1 rfl];exact hv1▸h1) f0 f1 q1 q2;exact ⟨hdf,.panicking [{ v:=.iface 116 (.agg #[.int .i64 x]),recovered:=true }],rfl,_,by simp[results,Tryz.f46],rfl,rfl,β'',⟨V'',z1⟩,z2⟩
  ·exact .inl ⟨rfl,rfl,rfl,rfl,rfl⟩
 ·exact .inl (.inl ⟨rfl,rfl,rfl,rfl,rfl⟩)
 ·have:∀v:Value,v=.pointer (some ⟨w.heap.size,0,none⟩)->Zaa (CH p N R s a b .nils++[.blk [.g (.int x)] 116]) (upf β 5 (.pointer (some ⟨w.heap.size,0,none⟩))) V (w.alloc (.cells #[.int .i64 x] 116)) (.ptr 5 0) v:=λv hv=>by subst hv;show ∃g,upf β 5 _ 5=_/\_;exact ⟨_,Zbt _ _ _,rfl⟩
  exact this _ (by simp)
def rQ (p:List Barb.Unit) (N:List CN):RR Int->Out->Prop
 | .ok n s',out=>out=.ret (.agg [.g (.int 1),.g (.int n),.row 2]) [.blk (rC p N 2 s'.fuel) 70,.many (mz N s') [],.row (tz s') 3 1]
 | .stop e s',out=>out=.ret (.agg [.g (.int e),.g (.int 0),.row 2]) [.blk (rC p N 2 s'.fuel) 70,.many (mz N s') [],.row (tz s') 3 1]
abbrev UH (p:List Barb.Unit) (N:List CN) (s:ES) (args:List Int) (ts:List (Value × Nat)):Zad :=
 [.blk (rC p N 2 s.fuel) 70,.many (mz N s) ts,.row (tz s) 3 1,.row (args.map Zat) 3 1]
abbrev VH (p:List Barb.Unit) (N:List CN) (R:Value) (s:ES) (a b:Int):Zad :=
 [.blk (rC p N 6 s.fuel) 70,.many (mz N s) [(R,0)],.dead,.dead,.blk [.ptr 0 0] 67,.blk [.g (.int a),.g (.int b),.nils] 72,.row (tz s) 3 1]
def Zyt (p:List Barb.Unit) (N:List CN) (R:Value) (r:RR Int) (d:Deferred):Dm.Post:=λy st'=>match y with
 | .ret=>st'.df=[d]/\st'.env 0=.ptr 0 0/\st'.env 5=.ptr 4 0/\st'.env 10=.ptr 5 0/\∃n s',r=.ok n s'/\st'.h=VH p N R s' 1 n
 | .pan x=>st'.df=[d]/\st'.env 0=.ptr 0 0/\st'.env 5=.ptr 4 0/\st'.env 10=.ptr 5 0/\∃e s',r=.stop e s'/\x=ZbW e/\st'.h=VH p N R s' 0 0
 | _=>False
theorem ZtM {h:Zad} {β:Nat->Value} {V:Nat->Prop} {w:World}:∀(ds:List D) (vs:List Value),Zac h β V w ds vs->∀i,Zaa h β V w (nth .any ds i) (vs.getD i undef)
 | [],vs,_,i=>by simp only[nth,Zaa]
 | d :: ds,vs,h,i=>by
  simp only[Zac] at h;obtain ⟨v,us,rfl,h1,h2⟩:=h;cases i with
  | zero=>simpa [nth] using h1
  | succ i=>simpa [nth] using ZtM ds us h2 i
theorem Zu0 (vals:List Value) (n i:Nat):((⟨vals⟩:Array Value)++Array.replicate n undef).getD i undef=vals.getD i undef:=by
 rw[Yat,Yal];by_cases hi:i < vals.length
 ·rw[YbB (by simpa using hi)];simp
 ·rw[Ybz (by simp;omega),Ybs (by omega)];rw[Ya0];split<;>rfl
theorem Ztd {Q:Exit->Act->World->Prop} {a:Act} {w:World} (hsz:a.tmps.size=19) (hq:Q .normal { tmps:=a.tmps.setIfInBounds 11 (.func (.func 46) #[] #[a.tmps.getD 10 undef,a.tmps.getD 5 undef]),defers:={ target:=.fn (.func 46) #[a.tmps.getD 10 undef,a.tmps.getD 5 undef],args:=#[] } :: a.defers } w) :
  (match Tryz.f23.body with | some (.seq _ (.seq y _))=>y | _=>.skip).wp Tryz.prog Q a w:=by apply wp_region;simp[wpOps,go_sem,hsz];exact .inl (.inl (by simpa [hsz] using hq))
set_option maxRecDepth 20000 in
theorem ZvL {p:List Barb.Unit} {N:List CN} {g:Nat} (hC:∀R,ZzP p N R g) (u i:Nat) (args:List Int) (deep:Nat) (s:ES) (hs:OkS p N g s) (hu:u < p.length) (hi:i < (uAt p u).funcs.length) (hargs:args.length=((uAt p u).funcs.getD i noF).params.length) (hw:wds args) (hd:deep<=20) :
  CTH Tryz.prog gl 23 2 (UH p N s args []) [.ptr 0 0,.g (.int (u:Int)),.g (.int (i:Int)),.row 3,.g (.int (deep:Int))] (rQ p N (Zb6 p (evS p g) u i args deep s)):=by
 suffices H:∀r,Zb6 p (evS p g) u i args deep s=r->CTH Tryz.prog gl 23 2 (UH p N s args []) [.ptr 0 0,.g (.int (u:Int)),.g (.int (i:Int)),.row 3,.g (.int (deep:Int))] (rQ p N r) from H _ rfl
 intro r hr w β V vals hrel hvals;have hlen:vals.length=5:=by rw[<- hvals.len];rfl
 obtain ⟨R,hR⟩:∃R,β 0=R:=⟨_,rfl⟩;have hnm:=hrel.tags (m:=1) (l':=mz N s) (ts':=[(R,0)]) rfl (Yag _) (λt ht=>by
  rcases Yay.1 ht with rfl;exact .inr ⟨_,rfl,λ_=>hR⟩)
 have hle0:LeH (UH p N s args []) β (UH p N s args [(R,0)]) β:=Zcv (h:=UH p N s args []) (i:=1) (o':=.many (mz N s) [(R,0)]) rfl trivial;have hvals1:=Zac.mono hle0 (ZaB.refl V w) _ _ hvals;refine calls_of_wp_defers Tryz.func23 rfl ?_;have hr0:Rel ⟨w,ZfS (UH p N s args []) β,V,gl⟩ 19 ⟨ZeO [.ptr 0 0,.g (.int (u:Int)),.g (.int (i:Int)),.row 3,.g (.int (deep:Int))],UH p N s args [(R,0)],[]⟩ { tmps:=(⟨vals⟩:Array Value)++Array.replicate (Tryz.f23.ntmps - (⟨vals⟩:Array Value).size) undef,defers:=[] } w:=by refine ⟨by simp[hlen,Tryz.ntmps23],rfl,β,V,hnm,λj=>?_⟩;rw[Zu0];exact ZtM _ _ hvals1 j
 refine wp_seq (Code.wp_mono ?_ (ZdF [] hT hF hM.ok _ [5,10] (by decide) (by decide) ⟨w,ZfS (UH p N s args []) β,V,gl⟩ _ _ w (λy st'=>y=.normal/\st'=⟨((ZeO [.ptr 0 0,.g (.int (u:Int)),.g (.int (i:Int)),.row 3,.g (.int (deep:Int))]).set 5 (.ptr 4 0)).set 10 (.ptr 5 0),UH p N s args [(R,0)]++[.blk [.ptr 0 0] 67,.blk [.g (.int 0),.g (.int 0),.nils] 72],[]⟩) ?_ hr0))
 rotate_left
 ·exact ⟨rfl,rfl⟩
 rintro e a1 w1 ⟨hk1,y,st1,⟨rfl,rfl⟩,hx⟩;cases e<;>try exact hx.elim
 obtain ⟨hsz1,hdf1,β1,V1,r1,r2⟩:=hx;have hdf1:a1.defers=[]:=hdf1;refine wp_seq (Ztd (by exact hsz1) ?_);have hk0:a1.tmps.getD 0 undef=vals.getD 0 undef:=by rw[hk1 0 rfl];exact Zu0 _ _ _
 obtain ⟨v10,hv10⟩:∃v,a1.tmps.getD 10 undef=v:=⟨_,rfl⟩;obtain ⟨v5,hv5⟩:∃v,a1.tmps.getD 5 undef=v:=⟨_,rfl⟩;rw[hv10,hv5,hdf1];have hr1:Rel ⟨w,ZfS (UH p N s args []) β,V,gl⟩ 19 ⟨((ZeO [.ptr 0 0,.g (.int (u:Int)),.g (.int (i:Int)),.row 3,.g (.int (deep:Int))]).set 5 (.ptr 4 0)).set 10 (.ptr 5 0),UH p N s args [(R,0)]++[.blk [.ptr 0 0] 67,.blk [.g (.int 0),.g (.int 0),.nils] 72],[{ target:=.fn (.func 46) #[v10,v5],args:=#[] }]⟩
   { tmps:=a1.tmps.setIfInBounds 11 (.func (.func 46) #[] #[v10,v5]),defers:=[{ target:=.fn (.func 46) #[v10,v5],args:=#[] }] } w1:=by
  refine ⟨by simpa using hsz1,rfl,β1,V1,r1,λk=>?_⟩;by_cases hk:k=11
  ·subst hk;show Zaa _ _ _ _ .any _;simp only[Zaa]
  ·have:=r2 k;show Zaa _ _ _ _ _ ((a1.tmps.setIfInBounds 11 _).getD k undef);rw[show (a1.tmps.setIfInBounds 11 (.func (.func 46) #[] #[v10,v5])).getD k undef=a1.tmps.getD k undef by
    rw[Yat,Yat,Ycg (λe=>hk e.symm)]]
   exact this
 refine Code.wp_mono ?_ (ZdF [] hT hF hM.ok _ [12,13,14,15,16,17,18] (by decide) (by decide) ⟨w,ZfS (UH p N s args []) β,V,gl⟩ _ _ w1 (Zyt p N R r { target:=.fn (.func 46) #[v10,v5],args:=#[] }) ?_ hr1)
 rotate_left
 ·refine Zee [0,1,2,3] Zpq rfl rfl ⟨rfl,.inl rfl,.inl rfl,rfl⟩ (hC R u i args deep s hs hu hi hargs hw hd) (λd' h' hq=>?_) (λd' h' hq=>?_)
  ·rcases ZkK hq with ⟨n,s',h1,h2⟩ | ⟨e,s',h1,h2⟩
   ·injection h2 with q1 q2;subst q1;subst q2;refine .inl (.inl ⟨rfl,rfl,rfl,rfl,n,s',hr.symm.trans h1,rfl⟩)
   ·cases h2
  ·rcases ZkK hq with ⟨n,s',h1,h2⟩ | ⟨e,s',h1,h2⟩
   ·cases h2
   ·injection h2 with q1 q2;subst q1;subst q2;exact ⟨rfl,rfl,rfl,rfl,e,s',hr.symm.trans h1,rfl,rfl⟩
 have hk20:∀a2:Act,Dm.Keeps [12,13,14,15,16,17,18] { tmps:=a1.tmps.setIfInBounds 11 (.func (.func 46) #[] #[v10,v5]),defers:=[{ target:=.fn (.func 46) #[v10,v5],args:=#[] }] } a2->a2.tmps.getD 0 undef=vals.getD 0 undef/\a2.tmps.getD 5 undef=v5/\a2.tmps.getD 10 undef=v10:=λa2 hk2=>by
  have ne:∀k v,k≠11->(a1.tmps.setIfInBounds 11 v).getD k undef=a1.tmps.getD k undef:=λk v hk=>by rw[Yat,Yat,Ycg (λe=>hk e.symm)]
  exact ⟨(hk2 0 rfl).trans ((ne 0 _ (by decide)).trans hk0),(hk2 5 rfl).trans ((ne 5 _ (by decide)).trans hv5),(hk2 10 rfl).trans ((ne 10 _ (by decide)).trans hv10)⟩
 rintro e a2 w2 ⟨hk2,y,⟨env2,h2,df2⟩,hq,hx⟩;obtain ⟨k20,k25,k210⟩:=hk20 a2 hk2;have start:∀{s':ES} {a b:Int} {β2:Nat->Value} {V2:Nat->Prop} {df:List Deferred},env2 5=.ptr 4 0->env2 10=.ptr 5 0->RelD ⟨w,ZfS (UH p N s args []) β,V,gl⟩ (VH p N R s' a b) β2 V2 w2->ZbO ⟨env2,VH p N R s' a b,df⟩ β2 V2 w2 a2 ->
   ∃βc Vc,RelD ⟨w,ZfS (UH p N s args []) β,V,gl⟩ (CH p N R s' a b .nils) βc Vc w2/\Zaa (CH p N R s' a b .nils) βc Vc w2 (.ptr 0 0) v10/\Zaa (CH p N R s' a b .nils) βc Vc w2 (.ptr 1 0) v5/\βc 2=β2 0:=by intro s' a b β2 V2 df e5 e10 hrel2 he2;have ht:TurnTo (VH p N R s' a b) [.old 5,.old 4,.old 0,.old 1,.old 6] [.ptr 5 0,.ptr 4 0] (CH p N R s' a b .nils) [.ptr 0 0,.ptr 1 0]:=⟨rfl,.inl rfl,.inl rfl,rfl⟩;have g5:=he2 5;have g10:=he2 10;rw[show (⟨env2,_,df⟩:Dm.St).env 5=.ptr 4 0 from e5,k25] at g5;rw[show (⟨env2,_,df⟩:Dm.St).env 10=.ptr 5 0 from e10,k210] at g10;obtain ⟨z1,z2⟩:=ht.use hrel2 (vs:=[v10,v5]) (by simp only[Zac];exact ⟨_,_,rfl,g10,_,_,rfl,g5,rfl⟩);simp only[Zac] at z2;obtain ⟨_,_,ez,z3,_,_,ey,z4,ex⟩:=z2;injection ez with ez1 ez2;subst ez1;rw[ey] at ez2;injection ez2 with ey1 ey2;subst ey1;exact ⟨_,_,z1,z3,z4,rfl⟩
 have fin:∀{s':ES} {a b a' b':Int} {β2 βc β3:Nat->Value} {V2 Vc V3:Nat->Prop} {w3:World} {df:List Deferred},env2 0=.ptr 0 0->ZbO ⟨env2,VH p N R s' a b,df⟩ β2 V2 w2 a2->RelD ⟨w,ZfS (UH p N s args []) β,V,gl⟩ (CH p N R s' a b .nils) βc Vc w2->Zaa (CH p N R s' a b .nils) βc Vc w2 (.ptr 0 0) v10->βc 2=β2 0 ->
   RelD ⟨w2,ZfS (CH p N R s' a b .nils) βc,Vc,gl⟩ (CH p N R s' a' b' (.row 4)) β3 V3 w3->(∀i,i < 4->Zir (CH p N R s' a b .nils) (CH p N R s' a' b' (.row 4)) βc β3 i) ->
   rQ p N r (.ret (.agg [.g (.int a'),.g (.int b'),.row 2]) [.blk (rC p N 2 s'.fuel) 70,.many (mz N s') [],.row (tz s') 3 1]) ->
   Leaves Tryz.prog Tryz.f23 a2.tmps (ZzL gl (rQ p N r) 2 (UH p N s args []) β V w) [] .returning w3:=by
  intro s' a b a' b' β2 βc β3 V2 Vc V3 w3 df e0 he2 hrc h10 hβ hr3 hst hQ;have hr4:=ZkA hrc hr3;have b0:β3 0=βc 0:=(hst 0 (by decide)).2;have b2:β3 2=βc 2:=(hst 2 (by decide)).2;have h10':Zaa (CH p N R s' a' b' (.row 4)) β3 V3 w3 (.ptr 0 0) v10:=by have:∃g,βc 0=.pointer (some ⟨g,0,none⟩)/\v10=.pointer (some ⟨g,0,none⟩):=h10;obtain ⟨g,q1,q2⟩:=this;exact (⟨g,b0.trans q1,q2⟩:∃g,β3 0=.pointer (some ⟨g,0,none⟩)/\v10=.pointer (some ⟨g,0,none⟩))
  have h0':Zaa (CH p N R s' a' b' (.row 4)) β3 V3 w3 (.ptr 2 0) (a2.tmps.getD 0 undef):=by have g0:=he2 0;rw[show (⟨env2,_,df⟩:Dm.St).env 0=.ptr 0 0 from e0] at g0;have:∃g,β2 0=.pointer (some ⟨g,0,none⟩)/\a2.tmps.getD 0 undef=.pointer (some ⟨g,0,none⟩):=g0;obtain ⟨g,q1,q2⟩:=this;exact (⟨g,(b2.trans hβ).trans q1,q2⟩:∃g,β3 2=.pointer (some ⟨g,0,none⟩)/\a2.tmps.getD 0 undef=.pointer (some ⟨g,0,none⟩))
  have he3:ZbO ⟨λk=>bif Nat.beq k 0 then .ptr 2 0 else bif Nat.beq k 10 then .ptr 0 0 else .any,CH p N R s' a' b' (.row 4),[]⟩ β3 V3 w3 a2:=λk=>by
   show Zaa _ _ _ _ (bif Nat.beq k 0 then .ptr 2 0 else bif Nat.beq k 10 then .ptr 0 0 else .any) _;cases hk:Nat.beq k 0 with
   | true=>rw[Yap hk];exact h0'
   | false =>
    cases hk1:Nat.beq k 10 with
    | true=>rw[Yap hk1,k210];exact h10'
    | false=>simp only[cond_false,Zaa]
  obtain ⟨v',hv1,hv2⟩:=ZcC (fn:=Tryz.f23) (ds:=[.agg [.g (.int a'),.g (.int b'),.row 4]]) hT hr4 he3 rfl;simp only[Zac] at hv2;obtain ⟨_,_,ev,hv3,ev2⟩:=hv2;injection ev with ev1 _;subst ev1;have hr5:=hr4.tags (m:=3) (l':=mz N s') (ts':=[]) rfl (Yag _) (λt ht=>by simp at ht);have hle:LeH (CH p N R s' a' b' (.row 4)) β3 ((CH p N R s' a' b' (.row 4)).set 3 (.many (mz N s') [])) β3:=Zcv (h:=CH p N R s' a' b' (.row 4)) (i:=3) (o':=.many (mz N s') []) rfl trivial;obtain ⟨d',h',β5,V5,z1,z2,z3,z4⟩:=@Zou gl w w3 (UH p N s args []) β V [0] 1 [none] a2 hrel ⟨trivial,trivial⟩ rfl (by
    simp only[Zij,Yar,YaS,Zac];refine ⟨_,_,rfl,?_,rfl⟩;rw[k20];have:=ZtM _ _ hvals 0;exact this) ⟨_,(CH p N R s' a' b' (.row 4)).set 3 (.many (mz N s') []),[]⟩ β3 V3 (λd h=>rQ p N r (.ret d h)) _ _ hr5 (λk=>Zaa.mono hle (ZaB.refl _ _) _ _ (he3 k)) (Zaa.mono hle (ZaB.refl _ _) _ _ hv3)
    (ZtF ⟨[.old 2,.old 3,.old 4],.agg [.g (.int a'),.g (.int b'),.row 2],[.blk (rC p N 2 s'.fuel) 70,.many (mz N s') [],.row (tz s') 3 1],⟨rfl,.inl rfl,.inl rfl,rfl⟩,rfl,⟨trivial,trivial⟩,hQ⟩)
  exact ⟨_,hv1,d',h',β5,V5,z1,z2,z3,z4⟩
 have hinv:∀w',(invoke (.fn (.func 46) #[v10,v5]) #[]).run Tryz.prog w'=.ok (.enter 46 #[v10,v5]) w':=λw'=>by simp[go_sem]
 cases y with
 | normal=>exact hq.elim
 | exit _=>exact hq.elim
 | ret =>
  cases e<;>try exact hx.elim
  obtain ⟨h1,e0,e5,e10,n,s',hn,hh⟩:=hq;dsimp only at h1 e0 e5 e10 hh;subst h1;subst hh;obtain ⟨_,hdf2,β2,V2,hrel2,he2⟩:=hx;have hdf2:a2.defers=[{ target:=.fn (.func 46) #[v10,v5],args:=#[] }]:=hdf2;obtain ⟨βc,Vc,c1,c2,c3,c4⟩:=start e5 e10 hrel2 he2;show Leaves Tryz.prog _ a2.tmps _ a2.defers .returning w2;rw[hdf2];refine leaves_cons (by simp) (hinv _) ((Ztg p N R s' 1 n v10 v5 (ZdD c1) c2 c3).mono ?_);rintro _ _ w3 ⟨rfl,rfl,β3,V3,q1,q2⟩;exact fin e0 he2 c1 c2 c4 q1 q2 (by rw[hn];rfl)
 | pan x =>
  cases e<;>try exact hx.elim
  obtain ⟨h1,e0,e5,e10,c,s',hn,hxx,hh⟩:=hq;dsimp only at h1 e0 e5 e10 hh;subst h1;subst hh;subst hxx;obtain ⟨t,u',rfl,_,hdf2,β2,V2,hrel2,he2,hd2⟩:=hx;have hdf2:a2.defers=[{ target:=.fn (.func 46) #[v10,v5],args:=#[] }]:=hdf2;simp only[Zaa] at hd2;obtain ⟨u2,e1,us,rfl,hus⟩:=hd2;injection e1 with e1 e2;subst e1;subst e2;simp only[Zac,Zaa,ZaW] at hus;obtain ⟨v',us',rfl,rfl,rfl⟩:=hus;obtain ⟨βc,Vc,c1,c2,c3,c4⟩:=start e5 e10 hrel2 he2;show Leaves Tryz.prog _ a2.tmps _ a2.defers (.panicking _) w2;rw[hdf2];refine leaves_cons (by simp) (hinv _) ((Ztf p N R s' 0 0 c v10 v5 (ZdD c1) c2 c3).mono ?_);rintro _ _ w3 ⟨rfl,rfl,β3,V3,q1,q2⟩;exact fin e0 he2 c1 c2 c4 q1 q2 (by rw[hn];rfl)
end ZN
namespace Go.Dm
open Go Go.Eng Go.RowKit Barb
section
variable {V V':Nat->Prop} {w:World} {t:Nat}
end
section
variable {G:Gl} {n:Nat}
end
end Go.Dm
namespace ZN
open Go Go.Dm Go.Eng Go.RowKit Barb
set_option maxRecDepth 20000 in
theorem Zur {p:List Barb.Unit} {N:List CN} {R:Value}:Zsp p N R 0:=by
 intro c el s x hs hc he hx hxI;have h0:s.fuel=0:=by have:=hs.fuel;omega
 rw[ZjM p _ c _ x s h0];refine ZhQ [] hT hF hM Tryz.func97 rfl 114 rfl (by kernel_rfl) [.tmp 4] rfl [.ptr 0 0,.agg x.d] rfl (XH p N R s c el) [0] rfl rfl rfl 2 [some R,none] tgX _ ?_;refine Zhe [.blk x.d 132] (by omega) rfl rfl (λh0=>?_) (λh1=>absurd h0 h1);exact ⟨rfl,.inl (Zb2 (s':=s) (el':=el) (ZbW 3) [.old 0,.old 1,.old 2,.old 3,.old 6] rfl rfl rfl (.inl rfl) rfl rfl rfl (Yag _) rfl)⟩
set_option maxRecDepth 20000 in
theorem ZsW {p:List Barb.Unit} {N:List CN} {R:Value}:Zu5 p N R 0:=by
 intro c el s x hs hc he hx hxI;have h0:s.fuel=0:=by have:=hs.fuel;omega
 rw[Zi9 p _ c x _ s h0];refine ZhQ [] hT hF hM Tryz.func84 rfl 121 rfl (by kernel_rfl) [] rfl [.ptr 0 0,.agg x.d] rfl (XH p N R s c el) [0] rfl rfl rfl 2 [some R,none] tgX _ ?_;refine Zhe [.blk x.d 135] (by omega) rfl rfl (λh0=>?_) (λh1=>absurd h0 h1);exact ⟨rfl,.inl (Zb2 (s':=s) (el':=el) (ZbW 3) [.old 0,.old 1,.old 2,.old 3,.old 6] rfl rfl rfl (.inl rfl) rfl rfl rfl (Yag _) ⟨el,rfl⟩)⟩
theorem Zu3 {p:List Barb.Unit} (hp:PI p) (hpI:Zj7 p) (N:List CN) (R:Value):∀g,Zsp p N R g/\Zu5 p N R g
 | 0=>⟨Zur,ZsW⟩
 | g+1=>by obtain ⟨h1,h2⟩:=Zu3 hp hpI N R g;have h3:=Zkr hp h2;exact ⟨ZwH hp h1 (Zq0 hp hpI h3),Zvz hp h1 h3⟩
theorem Zys:fnOk Tryz.prog 23=true:=by kernel_rfl
set_option maxRecDepth 20000 in
theorem Zxf (p:List Barb.Unit) (hpI:Zj7 p) (cs:List Cells) (hI:∀c∈cs,Cells.I c) (hl:cs.length*48<=140737488351232) (hc:Zds p cs=0) (un fn:Str) (u i:Nat) (hu:u < p.length) (hun:Zba p un=(u:Int)) (hi:i < (uAt p u).funcs.length) (hfn:Zbz (uAt p u) fn=(i:Int))
  (args:List Int) (ha:args.length=((uAt p u).funcs.getD i noF).params.length) (hw:wds args) (deep fuel:Nat) (hd:deep<=19) (hf:fuel<=100000) :
  CT Tryz.prog gl 7 [.g (.sl 4 (p.map Unit.g)),.g (.sl 2 (cs.map Cells.g)),.g (.str un),.g (.str fn),.g (.sl 1 (args.map Zat)),.g (.int (deep:Int)),.g (.int (fuel:Int))] (Is (Zzu (ZuP p cs u i args deep fuel))):=by
 obtain ⟨hpe,hlen,hcok⟩:=Zfp hc;have hp:=PI.of hpe;have hal4:args.length<=4:=by rw[ha];exact (ZbL ((Zau (hp.unit _ (Zdm hu))).2.2.2.2.2.2 _ (ZnC hi))).2.1
 have hcs:=Zfy p hpI cs hI hl;rw[hc] at hcs;have hU:=Zdx p (by have:=hp.few;omega) un;rw[hun] at hU;have hFn:=ZcU (uAt p u) (by have:=(Zau (hp.unit _ (Zdm hu))).2.2.2.1;omega) fn;rw[hfn] at hFn;have hgm:(p.map Unit.g)[u]?=some [.str (uAt p u).name,.sl 1 ((uAt p u).vars.map ZbP),.sl 2 ((uAt p u).arrays.map Arr.g),.sl 4 ((uAt p u).funcs.map Fun.g)]:=by rw[Zde hu];exact gm hu
 suffices H:∀r,ZuP p cs u i args deep fuel=r->CT Tryz.prog gl 7 [.g (.sl 4 (p.map Unit.g)),.g (.sl 2 (cs.map Cells.g)),.g (.str un),.g (.str fn),.g (.sl 1 (args.map Zat)),.g (.int (deep:Int)),.g (.int (fuel:Int))] (Is (Zzu r)) from H _ rfl
 intro r hr;refine ZqM [13,14] hT hF hM Tryz.func7 rfl 110 rfl (by kernel_rfl) [.cell 14 36,.tmp 15,.tmp 16] rfl [.g (.sl 4 (p.map Unit.g)),.g (.sl 2 (cs.map Cells.g)),.g (.str un),.g (.str fn),.g (.sl 1 (args.map Zat)),.g (.int (deep:Int)),.g (.int (fuel:Int))] rfl _ ?_;refine Zae (.inl rfl) hcs ?_;refine ⟨λh=>absurd rfl h,λ_=>?_⟩;refine Zae (.inl rfl) hU ?_;refine ⟨λh=>absurd h (by omega),λh=>?_⟩;refine ⟨u,_,rfl,hgm,?_⟩;have hfg:((uAt p u).funcs.map Fun.g)[i]?=some [.str (uAt p u).funcs[i].name,.bool (uAt p u).funcs[i].isOpen,.sl 1 ((uAt p u).funcs[i].params.map ZbP),.sl 5 ((uAt p u).funcs[i].body.map Stmt.g)]:=fnG hi;have hpl:((uAt p u).funcs[i].params.map ZbP).length=args.length:=by rw[Yab,ha];simp[hi]
 have hal:(args.map Zat).length=args.length:=Yab _;refine Zae (.inl rfl) hFn ?_;refine ⟨λh=>absurd h (by omega),λ_=>?_⟩;refine ⟨u,_,rfl,hgm,?_⟩;refine Zae (.inl rfl) hFn ?_;refine ⟨u,_,rfl,hgm,?_⟩;refine ⟨i,_,rfl,hfg,?_⟩;refine ⟨λh=>absurd h (by omega),λ_=>?_⟩;refine ⟨λh=>absurd h (by omega),λ_=>?_⟩;refine ⟨λh=>absurd h (by omega),λ_=>?_⟩;refine ⟨λh=>absurd h (by omega),λ_=>?_⟩;refine ⟨λh=>absurd h (by omega),λ_=>?_⟩;refine Zae (.inl rfl) (ZiZ args (by omega) _) ?_;refine ⟨λh=>absurd ⟨by omega,hw⟩ h,λ_=>?_⟩;have noI:∀(l:List Int),∀r∈l.map Zat,∀g∈r,noV g:=λl r hr g hg=>by obtain ⟨x,_,rfl⟩:=YaW.1 hr;rcases Yay.1 hg with rfl;trivial
 refine ZBm (.inl rfl) (ZpD cs hI hl) (λd h' hq=>?_) (λd hq=>?_)
 rotate_left
 ·obtain ⟨N,_,hq⟩:=hq;cases hq
 obtain ⟨N,hN,hq⟩:=hq;injection hq with q1 q2;subst q1;subst q2;refine .inl ?_;have hs:OkS p N fuel ⟨fuel,[],cs⟩:=⟨⟨hlen,hcok,Yau _,λ_ h=>by simp at h⟩,⟨hN.len.trans hlen,λj h1 h2=>by
  have h3:j < cs.length:=by omega
  rw[hN.ar j h1 h3];exact (hcok j h3 h2).1.2⟩,Yax _,by omega⟩
 refine Zcu [.old 3,.old 2,.nil 3 1,.old 0] [(14,.ptr 3 0),(20,.ptr 0 0)] [.blk (rC p N 2 fuel) 70,.many (mz N ⟨fuel,[],cs⟩) [],.row (tz ⟨fuel,[],cs⟩) 3 1,.blk [.g (.int 0),.g (.int 0),.nils,.nils,.nils] 36]
  ⟨rfl,.inr ⟨⟨rfl,.inr ⟨lk rfl,lk rfl,.inr rfl,lk rfl,trivial⟩⟩,⟨Yag _,rfl⟩,⟨rfl,rfl,rfl⟩,⟨rfl,.inl rfl⟩,trivial⟩,.inl rfl,rfl⟩ ?_
 refine .inr (ZmL (.inl rfl) (Zeu (args.map Zat) (by omega)) (noI _) ?_);refine Zee [0,1,2,4] Zys rfl rfl ⟨rfl,.inl rfl,.inl rfl,rfl⟩ (ZvL (λR=>Zq0 hp hpI (Zkr hp (Zu3 hp hpI N R fuel).2)) u i args deep ⟨fuel,[],cs⟩ hs hu hi ha hw (by omega)) (λd' h' hq=>?_) (λd' h' hq=>?_)
 rotate_left
 ·change rQ p N (ZuP p cs u i args deep fuel) _ at hq;rw[hr] at hq;cases r<;>cases hq
 change rQ p N (ZuP p cs u i args deep fuel) _ at hq;rw[hr] at hq;have hI2:=Zmf hp (ZdT hp fuel).2 hu hi ha hw deep hs.si;rw[show Zb6 p (evS p fuel) u i args deep ⟨fuel,[],cs⟩=r from hr] at hI2;cases r with
 | ok n s' =>
  injection hq with q1 q2;subst q1;subst q2;refine .inl ?_;refine ZpM (m:=1) (j:=0) (off:=1) rfl rfl rfl (hs.np.ni hI2.1) (ZmE ?_);refine ⟨some 60001,(.lead 0 (.lead 2 (.lead 4 (.lead 7 (.lead 8 (.lead 9 (.two (.run 1 (.two (.run 3 (.two (.run 5 (.two (.run 6 (.two (.run 10 (.run 11 (.lead 12 (.lead 13 .done)))) (.run 11 (.run 10 (.lead 12 (.lead 13 .done)))))) (.run 10 (.run 6 (.run 11 (.lead 12 (.lead 13 .done))))))) (.run 10 (.run 5 (.run 6 (.run 11 (.lead 12 (.lead 13 .done)))))))) (.two (.run 5 (.two (.run 3 (.two (.run 6 (.two (.run 10 (.run 11 (.lead 12 (.lead 13 .done)))) (.run 11 (.run 10 (.lead 12 (.lead 13 .done)))))) (.run 10 (.run 6 (.run 11 (.lead 12 (.lead 13 .done))))))) (.run 10 (.run 3 (.run 6 (.run 11 (.lead 12 (.lead 13 .done)))))))) (.run 10 (.two (.run 3 (.run 5 (.run 6 (.run 11 (.lead 12 (.lead 13 .done)))))) (.run 5 (.run 3 (.run 6 (.run 11 (.lead 12 (.lead 13 .done))))))))))) (.two (.run 3 (.two (.run 1 (.two (.run 5 (.two (.run 6 (.two (.run 10 (.run 11 (.lead 12 (.lead 13 .done)))) (.run 11 (.run 10 (.lead 12 (.lead 13 .done)))))) (.run 10 (.run 6 (.run 11 (.lead 12 (.lead 13 .done))))))) (.run 10 (.run 5 (.run 6 (.run 11 (.lead 12 (.lead 13 .done)))))))) (.two (.run 5 (.two (.run 1 (.two (.run 6 (.two (.run 10 (.run 11 (.lead 12 (.lead 13 .done)))) (.run 11 (.run 10 (.lead 12 (.lead 13 .done)))))) (.run 10 (.run 6 (.run 11 (.lead 12 (.lead 13 .done))))))) (.run 10 (.run 1 (.run 6 (.run 11 (.lead 12 (.lead 13 .done)))))))) (.run 10 (.two (.run 1 (.run 5 (.run 6 (.run 11 (.lead 12 (.lead 13 .done)))))) (.run 5 (.run 1 (.run 6 (.run 11 (.lead 12 (.lead 13 .done))))))))))) (.two (.run 5 (.two (.run 1 (.two (.run 3 (.two (.run 6 (.two (.run 10 (.run 11 (.lead 12 (.lead 13 .done)))) (.run 11 (.run 10 (.lead 12 (.lead 13 .done)))))) (.run 10 (.run 6 (.run 11 (.lead 12 (.lead 13 .done))))))) (.run 10 (.run 3 (.run 6 (.run 11 (.lead 12 (.lead 13 .done)))))))) (.two (.run 3 (.two (.run 1 (.two (.run 6 (.two (.run 10 (.run 11 (.lead 12 (.lead 13 .done)))) (.run 11 (.run 10 (.lead 12 (.lead 13 .done)))))) (.run 10 (.run 6 (.run 11 (.lead 12 (.lead 13 .done))))))) (.run 10 (.run 1 (.run 6 (.run 11 (.lead 12 (.lead 13 .done)))))))) (.run 10 (.two (.run 1 (.run 3 (.run 6 (.run 11 (.lead 12 (.lead 13 .done)))))) (.run 3 (.run 1 (.run 6 (.run 11 (.lead 12 (.lead 13 .done))))))))))) (.run 10 (.two (.run 1 (.two (.run 3 (.run 5 (.run 6 (.run 11 (.lead 12 (.lead 13 .done)))))) (.run 5 (.run 3 (.run 6 (.run 11 (.lead 12 (.lead 13 .done)))))))) (.two (.run 3 (.two (.run 1 (.run 5 (.run 6 (.run 11 (.lead 12 (.lead 13 .done)))))) (.run 5 (.run 1 (.run 6 (.run 11 (.lead 12 (.lead 13 .done)))))))) (.run 5 (.two (.run 1 (.run 3 (.run 6 (.run 11 (.lead 12 (.lead 13 .done)))))) (.run 3 (.run 1 (.run 6 (.run 11 (.lead 12 (.lead 13 .done)))))))))))))))))))),rfl,?_⟩;refine ⟨⟨⟨⟨⟨?_,?_⟩,?_⟩,?_⟩,⟨⟨⟨⟨?_,?_⟩,?_⟩,?_⟩,⟨?_,?_⟩⟩⟩,⟨⟨⟨⟨⟨?_,?_⟩,?_⟩,?_⟩,⟨⟨⟨⟨?_,?_⟩,?_⟩,?_⟩,⟨?_,?_⟩⟩⟩,⟨⟨⟨⟨⟨?_,?_⟩,?_⟩,?_⟩,⟨⟨⟨⟨?_,?_⟩,?_⟩,?_⟩,⟨?_,?_⟩⟩⟩,⟨⟨?_,?_⟩,⟨⟨?_,?_⟩,⟨?_,?_⟩⟩⟩⟩⟩⟩
  all_goals exact ⟨rfl,Zbl (.inr (.inr ⟨.inr ⟨lk rfl,lk rfl,lk rfl,.inr rfl,.inr rfl,trivial⟩,lk rfl,lk rfl,trivial⟩))⟩
 | stop e s' =>
  injection hq with q1 q2;subst q1;subst q2;refine .inl ?_;refine ZpM (m:=1) (j:=0) (off:=1) rfl rfl rfl (hs.np.ni hI2.1) (ZmE ?_);refine ⟨some 60001,(.lead 0 (.lead 2 (.lead 4 (.lead 7 (.lead 8 (.lead 9 (.two (.run 1 (.two (.run 3 (.two (.run 5 (.two (.run 6 (.two (.run 10 (.run 11 (.lead 12 (.lead 13 .done)))) (.run 11 (.run 10 (.lead 12 (.lead 13 .done)))))) (.run 10 (.run 6 (.run 11 (.lead 12 (.lead 13 .done))))))) (.run 10 (.run 5 (.run 6 (.run 11 (.lead 12 (.lead 13 .done)))))))) (.two (.run 5 (.two (.run 3 (.two (.run 6 (.two (.run 10 (.run 11 (.lead 12 (.lead 13 .done)))) (.run 11 (.run 10 (.lead 12 (.lead 13 .done)))))) (.run 10 (.run 6 (.run 11 (.lead 12 (.lead 13 .done))))))) (.run 10 (.run 3 (.run 6 (.run 11 (.lead 12 (.lead 13 .done)))))))) (.run 10 (.two (.run 3 (.run 5 (.run 6 (.run 11 (.lead 12 (.lead 13 .done)))))) (.run 5 (.run 3 (.run 6 (.run 11 (.lead 12 (.lead 13 .done))))))))))) (.two (.run 3 (.two (.run 1 (.two (.run 5 (.two (.run 6 (.two (.run 10 (.run 11 (.lead 12 (.lead 13 .done)))) (.run 11 (.run 10 (.lead 12 (.lead 13 .done)))))) (.run 10 (.run 6 (.run 11 (.lead 12 (.lead 13 .done))))))) (.run 10 (.run 5 (.run 6 (.run 11 (.lead 12 (.lead 13 .done)))))))) (.two (.run 5 (.two (.run 1 (.two (.run 6 (.two (.run 10 (.run 11 (.lead 12 (.lead 13 .done)))) (.run 11 (.run 10 (.lead 12 (.lead 13 .done)))))) (.run 10 (.run 6 (.run 11 (.lead 12 (.lead 13 .done))))))) (.run 10 (.run 1 (.run 6 (.run 11 (.lead 12 (.lead 13 .done)))))))) (.run 10 (.two (.run 1 (.run 5 (.run 6 (.run 11 (.lead 12 (.lead 13 .done)))))) (.run 5 (.run 1 (.run 6 (.run 11 (.lead 12 (.lead 13 .done))))))))))) (.two (.run 5 (.two (.run 1 (.two (.run 3 (.two (.run 6 (.two (.run 10 (.run 11 (.lead 12 (.lead 13 .done)))) (.run 11 (.run 10 (.lead 12 (.lead 13 .done)))))) (.run 10 (.run 6 (.run 11 (.lead 12 (.lead 13 .done))))))) (.run 10 (.run 3 (.run 6 (.run 11 (.lead 12 (.lead 13 .done)))))))) (.two (.run 3 (.two (.run 1 (.two (.run 6 (.two (.run 10 (.run 11 (.lead 12 (.lead 13 .done)))) (.run 11 (.run 10 (.lead 12 (.lead 13 .done)))))) (.run 10 (.run 6 (.run 11 (.lead 12 (.lead 13 .done))))))) (.run 10 (.run 1 (.run 6 (.run 11 (.lead 12 (.lead 13 .done)))))))) (.run 10 (.two (.run 1 (.run 3 (.run 6 (.run 11 (.lead 12 (.lead 13 .done)))))) (.run 3 (.run 1 (.run 6 (.run 11 (.lead 12 (.lead 13 .done))))))))))) (.run 10 (.two (.run 1 (.two (.run 3 (.run 5 (.run 6 (.run 11 (.lead 12 (.lead 13 .done)))))) (.run 5 (.run 3 (.run 6 (.run 11 (.lead 12 (.lead 13 .done)))))))) (.two (.run 3 (.two (.run 1 (.run 5 (.run 6 (.run 11 (.lead 12 (.lead 13 .done)))))) (.run 5 (.run 1 (.run 6 (.run 11 (.lead 12 (.lead 13 .done)))))))) (.run 5 (.two (.run 1 (.run 3 (.run 6 (.run 11 (.lead 12 (.lead 13 .done)))))) (.run 3 (.run 1 (.run 6 (.run 11 (.lead 12 (.lead 13 .done)))))))))))))))))))),rfl,?_⟩;refine ⟨⟨⟨⟨⟨?_,?_⟩,?_⟩,?_⟩,⟨⟨⟨⟨?_,?_⟩,?_⟩,?_⟩,⟨?_,?_⟩⟩⟩,⟨⟨⟨⟨⟨?_,?_⟩,?_⟩,?_⟩,⟨⟨⟨⟨?_,?_⟩,?_⟩,?_⟩,⟨?_,?_⟩⟩⟩,⟨⟨⟨⟨⟨?_,?_⟩,?_⟩,?_⟩,⟨⟨⟨⟨?_,?_⟩,?_⟩,?_⟩,⟨?_,?_⟩⟩⟩,⟨⟨?_,?_⟩,⟨⟨?_,?_⟩,⟨?_,?_⟩⟩⟩⟩⟩⟩
  all_goals exact ⟨rfl,Zbl (.inr (.inr ⟨.inr ⟨lk rfl,lk rfl,lk rfl,.inr rfl,.inr rfl,trivial⟩,lk rfl,lk rfl,trivial⟩))⟩
end ZN
