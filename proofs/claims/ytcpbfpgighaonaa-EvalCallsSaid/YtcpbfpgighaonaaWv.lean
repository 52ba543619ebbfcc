/-
  barbicanref: the mill's methods are called.
-/
import Derived.Test.YtcpbfpgighaonaaWh
import Derived.Test.YtcpbfpgighaonaaEy
namespace Go.Proofs.Ytcpbfpgighaonaa
open Go Go.Dm Go.Eng Go.RowKit Barb
abbrev YFr (p:List Barb.Unit) (N:List CN) (s:ES) (c:EC) (el:EL) (f e:Int) (r:Heap):Heap :=
 .blk (kC p N 4 f e) 65 :: .blk (lC 3 c el) 91 :: .many (mz N s) [] :: .row (el.ps.map intG) 3 1 :: .row (tz s) 3 1 :: r
abbrev YFd (p:List Barb.Unit) (N:List CN) (s:ES) (c:EC) (el:EL) (f e:Int) (r:Heap):Heap :=
 .blk (kC p N (1+(r.length+5)) f e) 65 :: .blk (lC (0+(r.length+5)) c el) 91 :: .many (mz N s) [] :: .dead :: .dead :: (r++[.row (el.ps.map intG) 3 1,.row (tz s) 3 1])
abbrev YFb (p:List Barb.Unit) (N:List CN) (s:ES) (c:EC) (el:EL) (f e:Int) (r:Heap):Heap :=
 .blk (kC p N (0+(r.length+5)) f e) 65 :: .blk (lC 3 c el) 91 :: .many (mz N s) [] :: .row (el.ps.map intG) 3 1 :: .dead :: (r++[.row (tz s) 3 1])
theorem putO_rest04 (b:Nat) (f:Nat→Nat) (h':Heap):∀ (r:Heap) (q:Nat),putO [.old 0,.old 4] b f h' (q+5) r=r
 | [],_=>rfl
 | x :: r,q=>by
  simp only[putO]
  rw[show q+5+1=q+1+5 from by omega,putO_rest04 b f h' r (q+1)]
  congr 1
theorem putY (p:List Barb.Unit) (N:List CN) (s s':ES) (c:EC) (el el':EL) (f e f' e':Int) (r:Heap):putH (YFr p N s c el f e r) [0,1,2,3,4] 3 (YF p N s' c el' f' e')=YFd p N s' c el' f' e' r:=by
 unfold putH
 simp only[List.map_cons,List.map_nil,putO]
 rw[show (0+1+1+1+1+1:Nat)=0+5 from rfl,putO_rest5]
 rfl
theorem putYB (p:List Barb.Unit) (N:List CN) (s:ES) (c:EC) (el:EL) (f e f' e':Int) (r:Heap):putH (YFr p N s c el f e r) [0,4] 1 (BY p N f' e' s.told)=YFb p N s c el f' e' r:=by
 unfold putH
 simp only[List.map_cons,List.map_nil,putO]
 rw[show (0+1+1+1+1+1:Nat)=0+5 from rfl,putO_rest04]
 rfl
theorem turnY (p:List Barb.Unit) (N:List CN) (s:ES) (c:EC) (el:EL) (f e:Int) (r:Heap) (l:List D) (hn:l.map (conv (YFr p N s c el f e r) [.old 0,.old 1,.old 2,.old 3,.old 4] 4)=l):TurnTo (YFr p N s c el f e r) [.old 0,.old 1,.old 2,.old 3,.old 4] (.ptr 0 0 :: .ptr 1 0 :: l) (YF p N s c el f e) (.ptr 0 0 :: .ptr 1 0 :: l) :=
 ⟨rfl,.inl rfl,.inl (by rw[List.map_cons,List.map_cons,hn];rfl),rfl⟩
theorem callBurnt {all:List D} {h:Heap} {K Qp:KD} {p:List Barb.Unit} {N:List CN} {s:ES} {c:EC} {el:EL} (r:Heap) (hf:s.fuel≤200000)
  (hh:h=YFr p N s c el (s.fuel:Int) 0 r) (ha:all=[.ptr 0 0])
  (hno:s.fuel=0→K (.pb ((3:Int)=0)) (YFb p N s c el (-1) 3 r)) (hyes:s.fuel≠0→∀ s1:ES,s1={ s with fuel:=s.fuel - 1 }→K (.pb ((0:Int)=0)) (YFb p N s1 c el (s1.fuel:Int) 0 r)) :
  fnOk Try.prog 75=true∧(OwnCall Try.prog [] 75 all h K Qp∨SemCall Try.prog [] 75 all h K Qp):=by
 subst hh;subst ha
 refine callO [0,4] burnt_fn rfl rfl ⟨rfl,.inl rfl,.inl rfl,rfl⟩ (burnt_any p N s.fuel s.told hf) (fun d' h' hq=>?_) (fun d' h' hq=>?_)
 ·split at hq
  ·rename_i h0
   injection hq with e1 e2;subst e1;subst e2
   rw[putYB];exact hno h0
  ·rename_i h0
   injection hq with e1 e2;subst e1;subst e2
   rw[putYB];exact hyes h0 _ rfl
 ·split at hq<;>cases hq
def yQ (p:List Barb.Unit) (N:List CN) (c:EC) (el:EL):RR Int→Out→Prop
 | .ok n s',out=>out=.ret (.g (.int n)) (YH p N s' c el)
 | .stop e s',out=>∃ v f,out=.ret (.g (.int v)) (YF p N s' c el f e)
def zQ (p:List Barb.Unit) (N:List CN):RR Int→Out→Prop
 | .ok n s',out=>out=.ret (.g (.int n)) (ZH p N s')
 | .stop e s',out=>∃ v f,out=.ret (.g (.int v)) (ZF p N s' f e)
def ValC (p:List Barb.Unit) (N:List CN) (g:Nat):Prop:=∀ (c:EC) (el:EL) (s:ES) (x:Barb.Expr),OkS p N g s→CI p c→ELI c el→XI p c x→x.I →
 CTH Try.prog [] 76 3 (YH p N s c el) [.ptr 0 0,.ptr 1 0,.agg x.d] (yQ p N c el (evE p g c el.ps x s))
def CalledC (p:List Barb.Unit) (N:List CN) (g:Nat):Prop:=∀ (u i:Nat) (args:List Int) (deep:Nat) (s:ES),OkS p N g s→u < p.length→i < (uAt p u).funcs.length→args.length=((uAt p u).funcs.getD i noF).params.length→wds args→deep≤20 →
 CTH Try.prog [] 25 2 (ZH p N s++[.row (args.map intG) 3 1]) [.ptr 0 0,.g (.int (u:Int)),.g (.int (i:Int)),.row 3,.g (.int (deep:Int))] (zQ p N (callF p (evS p g) u i args deep s))
theorem value_fn:fnOk Try.prog 76=true:=by kernel_rfl
theorem called_fn:fnOk Try.prog 25=true:=by kernel_rfl
theorem callV {all:List D} {h:Heap} {K Qp:KD} {p:List Barb.Unit} {N:List CN} {g:Nat} (hV:ValC p N g) {s:ES} {c:EC} {el:EL} {x:Barb.Expr} (r:Heap) (hs:OkS p N g s) (hc:CI p c) (he:ELI c el) (hx:XI p c x) (hxI:x.I) (hp:PI p)
  (hh:h=YFr p N s c el (s.fuel:Int) 0 r) (ha:all=[.ptr 0 0,.ptr 1 0,.agg x.d])
  (hgo:∀ n s',evE p g c el.ps x s=.ok n s'→OkS p N g s'→s'.fuel≤s.fuel→wd n→K (.g (.int n)) (YFd p N s' c el (s'.fuel:Int) 0 r))
  (hno:∀ e s' v f,evE p g c el.ps x s=.stop e s'→2≤e→K (.g (.int v)) (YFd p N s' c el f e r)) :
  fnOk Try.prog 76=true∧(OwnCall Try.prog [] 76 all h K Qp∨SemCall Try.prog [] 76 all h K Qp):=by
 subst hh;subst ha
 have hI:=(evP_I hp g).1 c el.ps x s hc hs.si he.2.1 hx
 have hct:=hV c el s x hs hc he hx hxI
 have hI:RI p s wd (evE p g c el.ps x s):=hI
 generalize hr:evE p g c el.ps x s=R at hI hct
 refine callO [0,1,2,3,4] value_fn rfl rfl (turnY p N s c el (s.fuel:Int) 0 r [.agg x.d] rfl) hct (fun d' h' hq=>?_) (fun d' h' hq=>?_)
 ·cases R with
  | ok n s' =>
   injection hq with e1 e2;subst e1;subst e2
   rw[putY]
   exact hgo n s' hr ⟨hI.1,hs.np,Nat.le_trans hI.2.1.1 hs.fuel,hs.g⟩ hI.2.1.1 hI.2.2
  | stop e s' =>
   obtain ⟨v,f,hq⟩:=hq
   injection hq with e1 e2;subst e1;subst e2
   rw[putY]
   exact hno e s' v f hr hI.2.2.1
 ·cases R with
  | ok n s'=>cases hq
  | stop e s'=>obtain ⟨v,f,hq⟩:=hq;cases hq
end Go.Proofs.Ytcpbfpgighaonaa
