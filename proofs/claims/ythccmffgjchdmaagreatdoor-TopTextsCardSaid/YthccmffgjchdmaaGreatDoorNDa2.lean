import Derived.Test.YthccmffgjchdmaaGreatDoorNDa1
import Derived.Orders
namespace Go.Dm
open Go Go.Eng Go.RowKit
section
variable {P:Program} {T:Tab} {F:FuncId->Bool} {C:Ctx} {st:St} {a:Act} {w:World} {β:Nat->Value} {V:Nat->Prop} {K:KD} {Qp:KD} {next:Value->World->Prop} {qp:List PanicEntry->World->Prop}
section
variable (hr:RelD C st.h β V w) (he:ZbS st β V w a) (hN:Nx C st.h β V w K next)
include hr he hN
theorem ZAx (hT:TabOk P T) {t:TypeId} {x:Operand} {o:Oper} (ho:o.op=.load t x) (h:ZaN P T F C.G (.load t x) st K Qp):Zbu P next qp ((execOp a.eval o).run P w):=by
 simp only[ZaN,ZsU] at h;have hx:=he.eval hr.gl x;cases ht:T t with
 | none=>rw[ht] at h;exact h.elim
 | some i =>
  rw[ht] at h;simp only at h;have hi:=hT t i ht;have fin:∀(b:Addr) (v:Value) (d:D),a.eval x=.pointer (some b)->(loadVar t b).run P w=.ok v w->K d st.h->Zab st.h β V w d v->Zbu P next qp ((execOp a.eval o).run P w):=by intro b v d hb hl hk hd;exact Zdf hN hr (x:=Instr.loadAt t (a.eval x)) (by simp[execOp,ho]) (by simp[hb,Instr.loadAt,Instr.sureAddr,hl]) hk hd
  split at h
  ·rename_i j off ex;rw[ex] at hx;split at h
   ·rename_i cs ty hj;simp only[Zab,hj] at hx;obtain ⟨g,hb,hv⟩:=hx;obtain ⟨g',vs,au,hg,aU⟩:=hr.obj j _ hj;have e:g'=g:=by rw[hb] at au;injection au with au;injection au with au;injection au with au;exact au.symm
    subst e;cases bw:i.agg with
    | false =>rw[bw] at h;simp only at h;obtain ⟨d,hd,h⟩:=Zuz h;obtain ⟨v,cF,cu⟩:=aU.get hd;refine fin _ v d hv (ZdO hi bw ?_) h cu;rw[cell_of_row w _ _ _ _ _ hg];simpa using cF
    | true =>
     rw[bw] at h;simp only at h;cases c7:Nat.ble (off+i.size) cs.length with
     | false=>rw[c7] at h;exact h.elim
     | true =>
      rw[c7] at h;have hle:=Yau c7;have hlen:=aU.len;refine fin _ (.agg ⟨List.take i.size (vs.drop off)⟩) _ hv (ZdP hi bw (vs:=List.take i.size (vs.drop off)) (by simp;omega) ?_) h (by simp only[Zab];exact ⟨_,rfl,(aU.drop off).take i.size⟩);intro k v hk;rw[Zb8,cell_of_row w _ _ _ _ _ hg];have aB:k < i.size:=by have:=(Yac.1 hk).1;simp at this;omega
      rw[Yaw aB,YaT] at hk;simpa using hk
   ·exact h.elim
  ·rename_i j k off ex;rw[ex] at hx;split at h
   ·rename_i xs e sz hj;obtain ⟨r,hk,ru⟩:=h;simp only[Zab,hj] at hx;obtain ⟨_,g,n,c,hb,hv⟩:=hx;obtain ⟨vs,ew,fa,bu⟩:=Zw6 hr hj hk hb;obtain ⟨d,v,ae,hd,al⟩:=Zum (β:=β) (V:=V) (h:=st.h) hi ru ew bu;rw[Zb8] at al;exact fin _ v d hv al ae hd
   ·exact h.elim
  ·rename_i r off ex;rw[ex] at hx;simp only[Zab] at hx;obtain ⟨ad,hv,hV,aF⟩:=hx;obtain ⟨vs,ew,hl,bu⟩:=Zav.cells r 0 aF;obtain ⟨d,v,ae,hd,al⟩:=Zum (β:=β) (V:=V) (h:=st.h) hi h ew (λj v hj=>by simpa using bu j v hj);exact fin _ v d hv al ae hd
  ·exact h.elim
theorem ZyN (hT:TabOk P T) {t:TypeId} {x y:Operand} {o:Oper} (ho:o.op=.store t x y) (h:ZaN P T F C.G (.store t x y) st K Qp):Zbu P next qp ((execOp a.eval o).run P w):=by
 simp only[ZaN,ZoH] at h;have hx:=he.eval hr.gl x;have hy:=he.eval hr.gl y;cases ht:T t with
 | none=>rw[ht] at h;exact h.elim
 | some i =>
  rw[ht] at h;simp only at h;have hi:=hT t i ht;split at h
  ·exact h.elim
  ·rename_i ds jg;obtain ⟨ba,oD⟩:=Zh8 hr.obj jg hy;cases rY:Nat.beq ds.length i.size with
   | false=>rw[rY] at h;exact h.elim
   | true =>
    rw[rY] at h;simp only[cond_true] at h;have hlen:(ZaG (a.eval y)).length=i.size:=by rw[<- ba.len];exact Yaq rY
    have run:∀(g off:Nat) (cur:Array Value) (t':TypeId),a.eval x=.pointer (some ⟨g,off,none⟩)->w.heap[g]?=some (.cells cur t' (0,0))->off+(ZaG (a.eval y)).length<=cur.size ->
      (execOp a.eval o).run P w=.ok .skip (w.setRow g (cur.toList.take off++ZaG (a.eval y)++cur.toList.drop (off+(ZaG (a.eval y)).length)).toArray):=by intro g off cur t' hb mj gJ;have al:=Zjx (P:=P) hi hlen oD mj gJ;simp only[execOp,ho,Instr.storeAt,hb,Instr.sureAddr,Sem.run_bind,Sem.run_pure,Result.andThen_ok,al]
    split at h
    ·rename_i j off ex;rw[ex] at hx;split at h
     ·rename_i cs ty hj;cases c7:Nat.ble (off+i.size) cs.length with
      | false=>rw[c7] at h;exact h.elim
      | true =>
       rw[c7] at h;simp only[cond_true] at h;have hle:=Yau c7;simp only[Zab,hj] at hx;obtain ⟨g,hb,hv⟩:=hx;obtain ⟨g',vs,au,hg,aU⟩:=hr.obj j _ hj;have e:g'=g:=by rw[hb] at au;injection au with au;injection au with au;injection au with au;exact au.symm
       subst e;have kB:=aU.len;rw[run g' off ⟨vs⟩ ty hv hg (by simp;omega)];have bq:=ZiR _ _ _ _ off aU ba;rw[ZlE _ _ _ (by omega)] at bq;have aL:=hr.set_blk hj hb (ZdI cs off ds) _ bq;refine hN _ _ undef _ _ _ h aL (by simp only[Zab]) (Zc4 hj trivial) (hr.moved (Fr.setRow w g' _) (λk hk=>⟨j,_,hj,rfl,by subst hk;rw[hb];rfl⟩))
     ·exact h.elim
    ·rename_i j k off ex;rw[ex] at hx;split at h
     ·rename_i xs e sz hj;obtain ⟨r,gs,hk,cX,gJ,fB,hK⟩:=h;simp only[Zab,hj] at hx;obtain ⟨aB,g,n,c,hb,hv⟩:=hx;obtain ⟨vs,ak,ew,eu,h0⟩:=hr.obj j _ hj;have fa:r.length=sz:=eu r (YaL hk);rcases ak.2 with ⟨jY,_⟩ | ⟨g',cap,cur,dh,cP,hh,dH,iu,ah,dn⟩
      ·rw[jY] at hb;cases hb
      ·have eg:g'=g:=by rw[dh] at hb;injection hb with e1 _ _;injection e1 with e1;injection e1
       subst eg;have kB:vs.length=xs.length*sz:=ak.1;have lW:k*sz+sz<=xs.length*sz:=by rw[<- YaW];exact YaJ _ aB
       have bt:xs.length*sz<=cur.toList.length:=by rw[Array.length_toList (xs:=cur),ah];exact YaJ _ dH
       have eT:cur.toList.length=cur.size:=Array.length_toList;rw[run g' (k*sz+off) cur e hv hh (by omega)];have nV:=Zf7 hr (ZcT ds);have pW:=Zft hr (l:=ZcT ds) cX ba (λj hj=>hj);have l0:(Zb4 st.h (ZcT ds))[j]?=some (.row xs e sz):=by
        have hl:j < (Zb4 st.h (ZcT ds)).length:=by rw[Zcv];exact (Yac.1 hj).1
        rcases ZfF (ZcT ds) st.h j _ (Yak hl) with ⟨e1,_⟩ | ⟨_,e1⟩
        ·exfalso;have key:∀(l:List Nat) (h:Zae) (ob:Go.Dm.Obj),j ∉ l->h[j]?=some ob->(Zb4 h l)[j]?=some ob:=by
          intro l
          induction l with
          | nil=>intro h ob _ ho;exact ho
          | cons a l ih =>intro h ob hn ho;simp only[Yav,not_or] at hn;exact ih _ _ hn.2 (by rw[YaV (λe=>hn.1 e.symm)];exact ho)
         have:=key _ _ _ fB hj;rw[Yak hl,e1] at this;cases this
        ·rw[hj] at e1;rw[Yak hl];exact e1.symm
       have tK:gs.length=i.size:=by rw[pW.len,hlen]
       have qA:Zbg (ZhQ st.h (ZcT ds) β V) w xs.flatten vs:=Zbg.move (Zb1 _ _ _ _ _) _ _ ew;have ja:(xs.set k (ZdI r off gs)).flatten=ZdI xs.flatten (k*sz+off) gs:=by
        have key:∀(xs:List (List GV)) (k:Nat),(∀r∈xs,r.length=sz)->xs[k]?=some r->(xs.set k (ZdI r off gs)).flatten=ZdI xs.flatten (k*sz+off) gs:=by
         have qn:∀(gs:List GV) (u l:List GV) (o:Nat),ZdI (u++l) (u.length+o) gs=u++ZdI l o gs:=by
          intro gs
          induction gs with
          | nil=>intro u l o;rfl
          | cons g gs ih =>intro u l o;simp only[ZdI];rw[Yb3 _ _ (by omega),show u.length+o - u.length=o from by omega,show u.length+o+1=u.length+(o+1) from by omega,ih]
         have qo:∀(gs:List GV) (u l:List GV) (o:Nat),o+gs.length<=u.length->ZdI (u++l) o gs=ZdI u o gs++l:=by
          intro gs
          induction gs with
          | nil=>intro u l o _;rfl
          | cons g gs ih =>intro u l o ho;simp only[List.length_cons] at ho;simp only[ZdI];rw[List.set_append_left _ _ (by omega),ih _ _ _ (by simp;omega)]
         intro xs
         induction xs with
         | nil=>intro k _ hk;simp at hk
         | cons x xs ih =>
          intro k hx hk;have fj:=hx x Yae;cases k with
          | zero =>simp at hk;subst hk;rw[List.set_cons_zero,List.flatten_cons,List.flatten_cons,Ych,YaA,qo _ _ _ _ (by omega)]
          | succ k =>rw[List.set_cons_succ,List.flatten_cons,List.flatten_cons,ih k (λr hr=>hx r (Yad _ hr)) (by simpa using hk),show (k+1)*sz+off=x.length+(k*sz+off) from by rw[fj,YaW];omega,qn]
        exact key xs k eu hk
       have jZ:=Zp2 gs (ZaG (a.eval y)) _ _ (k*sz+off) qA pW;rw[<- ja] at jZ;have aL:=nV.set_row l0 hb (xs.set k (ZdI r off gs)) (Zfs vs (k*sz+off) (ZaG (a.eval y))) jZ
        (λq hq=>by
         rcases Yce hq with hq | rfl
         ·exact eu q hq
         ·rw[ZoX];exact fa)
        (by simp) (cur.toList.take (k*sz+off)++ZaG (a.eval y)++cur.toList.drop (k*sz+off+(ZaG (a.eval y)).length)).toArray
        (λsQ gH=>by
         rw[hh] at gH;injection gH with gH;injection gH with gH;subst gH;simp;omega)
        (by
         have:=ZrB (ZaG (a.eval y)) cur.toList (xs.length*sz) (k*sz+off) bt (by omega);rw[dn] at this;simpa using this)
       have oU:∀(l:List Nat) (h:Zae) (ob:Go.Dm.Obj),j ∉ l->Zb4 (h.set j ob) l=(Zb4 h l).set j ob:=by
        intro l
        induction l with
        | nil=>intro h ob _;rfl
        | cons a l ih =>intro h ob hn;simp only[Yav,not_or] at hn;simp only[Zb4];rw[List.set_comm _ _ hn.1,ih _ _ hn.2]
       rw[oU _ _ _ fB] at hK;have rq:LeH st.h β ((Zb4 st.h (ZcT ds)).set j (.row (xs.set k (ZdI r off gs)) e sz)) β:=by
        intro i' o' bc;obtain ⟨o1,g1,g2,g3⟩:=Zf6 (ZcT ds) st.h β i' o' bc;by_cases kO:i'=j
        ·subst kO;rw[hj] at bc;injection bc with bc;subst bc;exact ⟨_,YbA (Yac.1 g1).1,⟨by simp,rfl⟩,λ_=>rfl⟩
        ·exact ⟨o1,by rw[YaV (λe=>kO e.symm)];exact g1,g2,g3⟩
       refine hN _ _ undef _ _ _ hK aL (by simp only[Zab]) rq ((Zb1 _ _ _ _ _).trans (nV.moved (Fr.setRow w g' _) (λq hq=>⟨j,_,l0,rfl,by subst hq;rw[hb];rfl⟩)))
     ·exact h.elim
    ·exact h.elim
theorem ZtA {x:Operand} {f:Nat} {o:Oper} (ho:o.op=.extract x f) (h:ZaN P T F C.G (.extract x f) st K Qp):Zbu P next qp ((execOp a.eval o).run P w):=by
 have bp:execOp a.eval o=(do pure (.value (<- Instr.extract (a.eval x) f))):=by simp[execOp,ho]
 have hx:=he.eval hr.gl x;simp only[ZaN] at h;split at h
 ·rename_i vs ex;rw[ex] at hx;simp only[Zab] at hx;obtain ⟨us,hv,ft⟩:=hx;split at h
  ·rename_i d hd;obtain ⟨v,cF,cu⟩:=ft.get hd;refine Zdf hN hr bp (v:=v) ?_ h cu;rw[hv];simp[Instr.extract,cF]
  ·exact h.elim
 ·exact h.elim
theorem ZyR {t:TypeId} {x:Operand} {f:Nat} {o:Oper} (ho:o.op=.field t x f) (h:ZaN P T F C.G (.field t x f) st K Qp):Zbu P next qp ((execOp a.eval o).run P w):=by
 have bp:execOp a.eval o=(do pure (.value (<- Instr.field t (a.eval x) f))):=by simp[execOp,ho]
 have hx:=he.eval hr.gl x;simp only[ZaN] at h;split at h
 ·rename_i cs ex;rw[ex] at hx;simp only[Zab] at hx;obtain ⟨us,hv,ft⟩:=hx;obtain ⟨off,d,⟨fields,fl,h1,h2,h3,h4⟩,hd,hk⟩:=h;obtain ⟨v,cF,cu⟩:=ft.get hd;refine Zdf hN hr bp (v:=v) ?_ hk cu;rw[hv];subst h3;simp[Instr.field,run_underlying h1,h2,part,h4,asAgg,cF,go_sem]
 ·exact h.elim
omit hN in
theorem ZzB (l:List Operand):Zaa st.h β V w (l.map (sv C.G st)) (l.map a.eval):=by
 induction l with
 | nil=>simp[Zaa]
 | cons x l ih=>simp only[Yan,Zaa];exact ⟨_,_,rfl,he.eval hr.gl x,ih⟩
theorem ZrO {fn:Fn} {first captured:Array Operand} {o:Oper} (ho:o.op=.makeFunc fn first captured) (h:ZaN P T F C.G (.makeFunc fn first captured) st K Qp):Zbu P next qp ((execOp a.eval o).run P w):=by
 have bp:execOp a.eval o=(do pure (.value (<- Instr.makeFunc fn (first.map a.eval) (captured.map a.eval)))):=by simp[execOp,ho]
 cases fn with
 | func f =>simp only[ZaN] at h;refine Zdf hN hr bp (v:=.func (.func f) (first.map a.eval) (captured.map a.eval)) rfl h ?_;simp only[Zab];exact ⟨first.toList.map a.eval,captured.toList.map a.eval,by simp[<- Array.toList_map],ZzB hr he _,ZzB hr he _⟩
 | _=>exact h.elim
theorem Zjw (hT:TabOk P T) {t:TypeId} {x:Operand} {o:Oper} (ho:o.op=.makeInterface t x) (h:ZaN P T F C.G (.makeInterface t x) st K Qp):Zbu P next qp ((execOp a.eval o).run P w):=by
 have bp:execOp a.eval o=(do pure (.value (<- Instr.makeInterface t (a.eval x)))):=by simp[execOp,ho]
 simp only[ZaN] at h;split at h
 ·exact h.elim
 ·rename_i i aC hs;obtain ⟨d,hd,aA,_⟩:=(hT t _ hs).d;have vW:∀ms,d≠.interface ms:=by
   intro ms e;subst e;obtain ⟨agg,size,bytes,zero,kind⟩:=i;cases kind<;>first | exact aC _ _ _ _ rfl | (simp[Zrb] at aA)
  refine Zdf hN hr bp (v:=.iface t (a.eval x)) ?_ h (by simp only[Zab];exact ⟨_,rfl,he.eval hr.gl x⟩);simp only[Instr.makeInterface,Sem.run_bind,run_underlying hd,Result.andThen_ok];cases d<;>first | rfl | exact absurd rfl (vW _)
 ·exact h.elim
theorem ZrN {x:Operand} {o:Oper} (ho:o.op=.nilCheck x) (h:ZaN P T F C.G (.nilCheck x) st K Qp):Zbu P next qp ((execOp a.eval o).run P w):=by
 have hx:=he.eval hr.gl x;simp only[ZaN] at h;have fin:∀(d:D),sv C.G st x=d->K d st.h->((∃b,a.eval x=.pointer (some b))\/∃f y z,a.eval x=.func (.func f) y z)->Zbu P next qp ((execOp a.eval o).run P w):=by
  intro d e hk hv;have:(execOp a.eval o).run P w=.ok (.value (a.eval x)) w:=by rcases hv with ⟨b,hv⟩ | ⟨f,y,z,hv⟩<;>simp[execOp,ho,hv]
  rw[this];rw[e] at hx;exact hN.same hr hk hx
 split at h
 ·rename_i i o' e;split at h
  ·rename_i cs ty hi;refine fin _ e h (.inl ?_);rw[e] at hx;simp only[Zab,hi] at hx;obtain ⟨g,_,hv⟩:=hx;exact ⟨_,hv⟩
  ·exact h.elim
 ·rename_i i j o' e;split at h
  ·rename_i xs ty sz hi;refine fin _ e h (.inl ?_);rw[e] at hx;simp only[Zab,hi] at hx;obtain ⟨_,g,_,_,_,hv⟩:=hx;exact ⟨_,hv⟩
  ·exact h.elim
 ·rename_i r o' e;refine fin _ e h (.inl ?_);rw[e] at hx;simp only[Zab] at hx;obtain ⟨ad,hv,_⟩:=hx;exact ⟨_,hv⟩
 ·rename_i f fs cs e;refine fin _ e h (.inr ?_);rw[e] at hx;simp only[Zab] at hx;obtain ⟨us,ts,hv,_⟩:=hx;exact ⟨_,_,_,hv⟩
 ·exact h.elim
omit hN in
theorem ZyP {x:Operand} {o:Oper} (ho:o.op=.panic x) (h:ZaN P T F C.G (.panic x) st K Qp) (hP:Px C st.h β V w Qp qp):Zbu P next qp ((execOp a.eval o).run P w):=by
 have hx:=he.eval hr.gl x;simp only[ZaN] at h;split at h
 ·rename_i t d e;rw[e] at hx;have de:=hx;simp only[Zab] at de;obtain ⟨u,hv,_⟩:=de;rw[hv] at hx;have:(execOp a.eval o).run P w=.halt (.panic (.iface t u)) w:=by simp[execOp,ho,hv,run_panic_iface]
  rw[this];exact hP _ _ _ _ _ _ _ h hr hx (LeH.refl _ _) (ZaI.refl _ _)
 ·exact h.elim
theorem ZBZ (hT:TabOk P T) {args:Array Operand} {ts:Array TypeId} {o:Oper} (ho:o.op=.call { callee:=.builtin .len,args:=args,argTypes:=ts }) (h:ZaN P T F C.G (.call { callee:=.builtin .len,args:=args,argTypes:=ts }) st K Qp):Zbu P next qp ((execOp a.eval o).run P w):=by
 simp only[ZaN] at h;split at h
 ·rename_i t x cG cq;have fu:ts=#[t]:=by rw[<- Array.toArray_toList (xs:=ts),cG]
  have da:args=#[x]:=by rw[<- Array.toArray_toList (xs:=args),cq]
  subst fu;subst da;have hx:=he.eval hr.gl x;split at h
  ·rename_i i iH;have key:∀n:Int,(Builtin.len_ #[t] o.type #[a.eval x]).run P w=.ok (.int .i64 n) w->K (.g (.int n)) st.h->Zbu P next qp ((execOp a.eval o).run P w):=by
    intro n hv hk;have:(execOp a.eval o).run P w=.ok (.value (.int .i64 n)) w:=by simp[execOp,ho,resolve,invoke,builtin,hv]
    rw[this];exact hN.same hr hk (Zp8 n)
   unfold ZmR at h;split at h
   ·rename_i e k xs hk ex;rw[ex] at hx;simp only[Zab,ZaS] at hx;obtain ⟨A,cap,hv,_⟩:=hx;refine key _ ?_ h;rw[hv];exact ZeB hT iH hk A xs.length cap o.type w
   ·rename_i e hk ex;rw[ex] at hx;simp only[Zab] at hx;refine key _ ?_ h;rw[hx];exact ZeB hT iH hk none 0 0 o.type w
   ·rename_i e j hk ex;rw[ex] at hx;split at h
    ·rename_i xs ty sz hj;simp only[Zab,hj] at hx;obtain ⟨vs,ak,_⟩:=hr.obj j _ hj;refine key _ ?_ h;rcases ak.2 with ⟨hn,h0⟩ | ⟨g,cap,cur,cH,_⟩
     ·rw[hx,hn,h0];exact ZeB hT iH hk none 0 0 o.type w
     ·rw[hx,cH];exact ZeB hT iH hk _ xs.length cap o.type w
    ·exact h.elim
   ·rename_i e j lo n hk ex;rw[ex] at hx;split at h
    ·rename_i xs ty sz hj;simp only[Zab,hj] at hx;obtain ⟨_,A,m,cap,_,hv⟩:=hx;refine key _ ?_ h;rw[hv];exact ZeB hT iH hk _ n _ o.type w
    ·exact h.elim
   ·rename_i s hk ex;rw[ex] at hx;simp only[Zab,ZaS] at hx;refine key _ ?_ h;rw[hx];exact Zo2 hT iH hk _ o.type w
   ·exact h.elim
  ·exact h.elim
 ·exact h.elim
theorem ZBY {args:Array Operand} {ts:Array TypeId} {o:Oper} (ho:o.op=.call { callee:=.builtin .max,args:=args,argTypes:=ts }) (h:ZaN P T F C.G (.call { callee:=.builtin .max,args:=args,argTypes:=ts }) st K Qp):Zbu P next qp ((execOp a.eval o).run P w):=by
 simp only[ZaN] at h;split at h
 ·rename_i x y cq;have da:args=#[x,y]:=by rw[<- Array.toArray_toList (xs:=args),cq]
  subst da;have hx:=he.eval hr.gl x;have hy:=he.eval hr.gl y;split at h
  ·rename_i m n ex ey;rw[ex] at hx;rw[ey] at hy;simp only[Zab,ZaS] at hx hy;have hv:(Builtin.max_ ts o.type #[a.eval x,a.eval y]).run P w=.ok (.int .i64 (if n > m then n else m)) w:=by rw[hx,hy];rfl
   have:(execOp a.eval o).run P w=.ok (.value (.int .i64 (if n > m then n else m))) w:=by simp[execOp,ho,resolve,invoke,builtin,hv]
   rw[this];exact hN.same hr h (Zp8 _)
  ·exact h.elim
 ·exact h.elim
theorem ZBX {args:Array Operand} {ts:Array TypeId} {o:Oper} (ho:o.op=.call { callee:=.builtin .min,args:=args,argTypes:=ts }) (h:ZaN P T F C.G (.call { callee:=.builtin .min,args:=args,argTypes:=ts }) st K Qp):Zbu P next qp ((execOp a.eval o).run P w):=by
 simp only[ZaN] at h;split at h
 ·rename_i x y cq;have da:args=#[x,y]:=by rw[<- Array.toArray_toList (xs:=args),cq]
  subst da;have hx:=he.eval hr.gl x;have hy:=he.eval hr.gl y;split at h
  ·rename_i m n ex ey;rw[ex] at hx;rw[ey] at hy;simp only[Zab,ZaS] at hx hy;have hv:(Builtin.min_ ts o.type #[a.eval x,a.eval y]).run P w=.ok (.int .i64 (if n < m then n else m)) w:=by rw[hx,hy];rfl
   have:(execOp a.eval o).run P w=.ok (.value (.int .i64 (if n < m then n else m))) w:=by simp[execOp,ho,resolve,invoke,builtin,hv]
   rw[this];exact hN.same hr h (Zp8 _)
  ·exact h.elim
 ·exact h.elim
end
end
section
variable {P:Program} {T:Tab} {F:FuncId->Bool} {C:Ctx} {st:St} {a:Act} {w:World} {β:Nat->Value} {V:Nat->Prop} {K:KD} {Qp:KD} {next:Value->World->Prop} {qp:List PanicEntry->World->Prop}
theorem ZpX {h:Zae} (hr:RelD C h β V w) {sz:Nat} {y:D} {v:Value} {news:List (List GV)} (hs:ZBD h sz y=some news) (hy:Zab h β V w y v) (h0:0 < sz) :
  (news=[]/\v=.slice none 0 0)\/∃ad cap vs,v=.slice (some ad) news.length cap/\Zbg V w news.flatten vs/\(∀r∈news,r.length=sz)/\(vs.length=news.length*sz)/\∀i u,vs[i]?=some u->w.cell? (ad.add i)=some u:=by
 unfold ZBD at hs;have nv:∀(j:Nat) (ys:List (List GV)) (e aW:Nat),h[j]?=some (.row ys e aW)->aW=sz->∀(lo n:Nat),lo+n<=ys.length->∀v,ZCx (β j) lo n sz v->(n=0/\v=.slice none 0 0) \/
   ∃ad cap vs,v=.slice (some ad) n cap/\Zbg V w ((ys.drop lo).take n).flatten vs/\(∀r∈(ys.drop lo).take n,r.length=sz)/\(vs.length=n*sz)/\∀i u,vs[i]?=some u->w.cell? (ad.add i)=some u:=by
  intro j ys e aW hj ah lo n mP v hv;subst ah;obtain ⟨A,m,cap,hb,rfl⟩:=hv;obtain ⟨vs,ak,ew,eu,_⟩:=hr.obj j _ hj;rcases ak.2 with ⟨hn,bC⟩ | ⟨g,bV,cur,cH,_,_,dH,_⟩
  ·rw[hn] at hb;injection hb with e1 e2 e3;subst e1;subst e3;left;have aT:lo=0:=by omega
   have fC:n=0:=by omega
   subst aT;subst fC;exact ⟨rfl,by simp⟩
  ·rw[cH] at hb;injection hb with e1 e2 e3;subst e1;subst e3;have bu:=ak.cells (g:=g) (by rw[cH];rfl);right;have ax:∀r∈(ys.drop lo).take n,r.length=aW:=λr hr=>eu r (Ya5 (YaK hr));have bL:((ys.drop lo).take n).flatten=((ys.flatten).drop (lo*aW)).take (n*aW):=by
    have k1:∀(ys:List (List GV)) (lo:Nat),(∀r∈ys,r.length=aW)->(ys.drop lo).flatten=ys.flatten.drop (lo*aW):=by
     intro ys
     induction ys with
     | nil=>intro lo _;simp
     | cons y ys ih =>
      intro lo hy;cases lo with
      | zero=>simp
      | succ lo =>have gQ:=hy y Yae;have hd:y.drop ((lo+1)*aW)=[]:=YbM (by rw[gQ,YaW];omega);rw[Ybz,List.flatten_cons,Ycj,hd,gQ,YaW,Ya6,List.nil_append];exact ih lo (λr hr=>hy r (Yad _ hr))
    have k2:∀(ys:List (List GV)) (n:Nat),(∀r∈ys,r.length=aW)->(ys.take n).flatten=ys.flatten.take (n*aW):=by
     intro ys
     induction ys with
     | nil=>intro n _;simp
     | cons y ys ih =>
      intro n hy;cases n with
      | zero=>simp
      | succ n =>have gQ:=hy y Yae;have hd:y.take ((n+1)*aW)=y:=Yay (by rw[gQ,YaW];omega);rw[List.take_succ_cons,List.flatten_cons,List.flatten_cons,Ybr,hd,gQ,YaW,Ya6,ih n (λr hr=>hy r (Yad _ hr))]
    rw[k2 _ _ (λr hr=>eu r (Ya5 hr)),k1 _ _ eu]
   have kB:vs.length=ys.length*aW:=ak.1;have tx:lo*aW+n*aW<=ys.length*aW:=by rw[<- Ybj];exact YaJ _ mP
   refine ⟨if bV=lo then ⟨g,0,none⟩ else ⟨g,lo*aW,none⟩,bV - lo,(vs.drop (lo*aW)).take (n*aW),?_,by rw[bL];exact (ew.drop _).take _,ax,by rw[Yam,YaM];omega,λi u hi=>?_⟩
   ·by_cases hc:bV=lo
    ·simp[hc]
    ·simp[hc,Zb8]
   ·have az:i < n*aW:=by have:=(Yac.1 hi).1;simp at this;omega
    have aC:bV≠lo:=by
     intro hc;have:n=0:=by omega
     subst this;omega
    rw[if_neg aC,Zb8];rw[Yaw az,YaT] at hi;have:=bu (lo*aW+i) u hi;rw[Zb8,YaA] at this;exact this
 split at hs
 ·injection hs with hs;subst hs;simp only[Zab] at hy;exact .inl ⟨rfl,hy⟩
 ·rename_i k xs;cases hb:Nat.beq k sz with
  | false=>rw[hb] at hs;cases hs
  | true =>
   rw[hb] at hs;simp at hs;subst hs;have:=Yaq hb;subst this;simp only[Zab,ZaS] at hy;obtain ⟨A,cap,rfl,hc,ha⟩:=hy;cases A with
   | none =>
    by_cases h1:0 < xs.length
    ·obtain ⟨ad,h2,_⟩:=ha.1 h1;cases h2
    ·have dc:xs=[]:=YaP (by omega);subst dc;have:=ha.2 rfl;subst this;exact .inl ⟨rfl,rfl⟩
   | some ad =>
    right;by_cases h1:0 < xs.length
    ·obtain ⟨yM,h2,hV,av⟩:=ha.1 h1;injection h2 with h2;subst h2;obtain ⟨vs,g1,g2,g3,g4⟩:=ZaB.flat xs 0 av;exact ⟨ad,cap,vs,rfl,g1,g3,g2,λi u hi=>by simpa using g4 i u hi⟩
    ·have dc:xs=[]:=YaP (by omega);subst dc;exact ⟨ad,cap,[],rfl,trivial,λr hr=>by simp at hr,by simp,λi u hi=>by simp at hi⟩
 ·rename_i j;split at hs
  ·rename_i ys e aW hj;cases hb:Nat.beq aW sz with
   | false=>rw[hb] at hs;cases hs
   | true =>
    rw[hb] at hs;simp at hs;subst hs;have:=Yaq hb;simp only[Zab,hj] at hy;obtain ⟨vs,ak,_⟩:=hr.obj j _ hj;have eC:ZCx (β j) 0 ys.length sz v:=by
     rcases ak.2 with ⟨hn,bC⟩ | ⟨g,bV,cur,cH,_,_,dH,_⟩
     ·exact ⟨none,0,0,hn,by rw[hy,hn,bC];simp⟩
     ·refine ⟨_,_,_,cH,?_⟩;rw[hy,cH];by_cases hc:bV=0
      ·simp[hc]
      ·simp[hc,Addr.add]
    rcases nv j ys e aW hj this 0 ys.length (by omega) v eC with ⟨h1,h2⟩ | ⟨ad,cap,vs,h1,h2,h3,h4,h5⟩
    ·exact .inl ⟨YaP h1,h2⟩
    ·exact .inr ⟨ad,cap,vs,h1,by simpa using h2,by simpa using h3,h4,h5⟩
  ·cases hs
 ·rename_i j lo n;split at hs
  ·rename_i ys e aW hj;cases hb:Nat.beq aW sz with
   | false=>rw[hb] at hs;cases hs
   | true =>
    rw[hb] at hs;simp at hs;subst hs;have:=Yaq hb;simp only[Zab,hj] at hy;obtain ⟨mP,eC⟩:=hy;have hlen:((ys.drop lo).take n).length=n:=by simp;omega
    subst this;rcases nv j ys e aW hj rfl lo n mP v eC with ⟨h1,h2⟩ | ⟨ad,cap,vs,h1,h2,h3,h4,h5⟩
    ·exact .inl ⟨YaP (by omega),h2⟩
    ·exact .inr ⟨ad,cap,vs,by rw[hlen];exact h1,h2,h3,by rw[hlen];exact h4,h5⟩
  ·cases hs
 ·cases hs
end
section
variable {P:Program} {T:Tab} {F:FuncId->Bool} {C:Ctx} {st:St} {a:Act} {w:World} {β:Nat->Value} {V:Nat->Prop} {K:KD} {Qp:KD} {next:Value->World->Prop} {qp:List PanicEntry->World->Prop}
theorem Zwd {V:Nat->Prop} {w:World} {g:GV} {v:Value} (h:ZaS V w g v):v.oneCell'=true:=by
 cases g with
 | sl k xs=>simp only[ZaS] at h;obtain ⟨A,cap,rfl,_⟩:=h;rfl
 | raw u=>simp only[ZaS] at h;exact h.2.1
 | _=>simp only[ZaS] at h;subst h;rfl
theorem Zg1 {V:Nat->Prop} {w:World}:∀{gs:List GV} {vs:List Value},Zbg V w gs vs->∀v∈vs,v.oneCell'=true
 | [],[],_,v,hv=>by simp at hv
 | [],_ :: _,h,_,_=>h.elim
 | _ :: _,[],h,_,_=>h.elim
 | _ :: _,u :: vs,h,v,hv=>by
  rcases Yav.1 hv with rfl | hv
  ·exact Zwd h.1
  ·exact Zg1 h.2 v hv
theorem Zpl (h:Zae) (β:Nat->Value) (i:Nat) (o:Obj) (v:Value):LeH h β (h.set i .dead++[o]) (upf β h.length v):=by
 intro j oj hj;have aD:j < h.length:=(Yac.1 hj).1;by_cases cL:j=i
 ·subst cL;exact ⟨.dead,by rw[Yal (by simpa using aD)];simp[aD],by cases oj<;>trivial,λh=>by cases h⟩
 ·exact ⟨oj,by rw[Yal (by simpa using aD),YaV (λe=>cL e.symm)];exact hj,OLe.refl _,λ_=>ZdA (by omega)⟩
theorem Zh9 (hT:TabOk P T) {t e:TypeId} {i ei:TI} (hs:T t=some i) (hk:i.kind=.slice e) (aO:T e=some ei) (h0:0 < ei.size) {v y:Value} {n:Nat} {xs:List Value} (ak:w.ownsRow 0 e ei.size v n xs)
  {news:List (List GV)} (iN:(news=[]/\y=.slice none 0 0)\/∃ad cap vs,y=.slice (some ad) news.length cap/\Zbg V w news.flatten vs/\(∀r∈news,r.length=ei.size)/\(vs.length=news.length*ei.size)/\∀i u,vs[i]?=some u->w.cell? (ad.add i)=some u)
  (pr:n+news.length<=maxLen) (jB:(n+news.length)*ei.bytes<=140737488355328) (ty:TypeId) :
  ∃v' w' vs,(Builtin.append_ #[t,t] ty #[v,y]).run P w=.ok v' w'/\Zbg V w news.flatten vs/\(∀r∈news,r.length=ei.size)/\w'.ownsRow 0 e ei.size v' (n+news.length) (xs++vs)/\w.grownBy w' v.ownBlock /\
   (v'.ownBlock=v.ownBlock\/v'.ownBlock=some w.heap.size):=by
 obtain ⟨d,hd,aA,_⟩:=(hT t _ hs).d;rw[hk] at aA;have aA:d=.slice e:=aA;subst aA;obtain ⟨inf,z,aJ,ah,rX,hz,gy⟩:=(hT e ei aO).inf;have fX:ei.zero.length=ei.size:=(hT e ei aO).zsize;rcases iN with ⟨fC,hy⟩ | ⟨ad,cap,vs,hy,hv,hx,hl,hc⟩
 ·subst fC;rw[hy];exact ⟨v,w,[],run_append_owned_none (P:=P) w 0 t ty e inf ei.size hd aJ v n xs ak,trivial,λr hr=>by simp at hr,by simpa using ak,World.grownBy.refl w _,.inl rfl⟩
 ·rw[hy];obtain ⟨v',w',h1,h2,h3,_,h5⟩:=run_append_own_at (P:=P) w 0 t ty e inf z ei.size ei.bytes hd aJ hz ah rX (by rw[gy];simpa using fX) h0 v n xs ak ad news.length cap vs hl hc (Zg1 hv) pr jB (Yat _);exact ⟨v',w',vs,h1,hv,hx,h2,h3,h5⟩
theorem Zv7 (hr:RelD C st.h β V w) (he:ZbS st β V w a) (hN:Nx C st.h β V w K next) (hT:TabOk P T) {args:Array Operand} {ts:Array TypeId} {o:Oper} (ho:o.op=.call { callee:=.builtin .append,args:=args,argTypes:=ts }) (h:ZaN P T F C.G (.call { callee:=.builtin .append,args:=args,argTypes:=ts }) st K Qp):Zbu P next qp ((execOp a.eval o).run P w):=by
 simp only[ZaN] at h;split at h
 ·rename_i t t' x y cG cq;have fu:ts=#[t,t']:=by rw[<- Array.toArray_toList (xs:=ts),cG]
  have da:args=#[x,y]:=by rw[<- Array.toArray_toList (xs:=args),cq]
  subst fu;subst da;cases hb:Nat.beq t t' with
  | false=>rw[hb] at h;exact h.elim
  | true =>
   rw[hb] at h;have vA:t=t':=Yaq hb;subst vA;simp only[cond_true] at h;unfold Zlt at h;have hx:=he.eval hr.gl x;have hy:=he.eval hr.gl y;split at h
   ·rename_i e hs;split at h
    ·exact h.elim
    ·rename_i ei aO;split at h
     ·exact h.elim
     ·rename_i news iN;cases cw:Nat.blt 0 ei.size with
      | false=>rw[cw] at h;exact h.elim
      | true =>
       rw[cw] at h;simp only[cond_true] at h;have h0:0 < ei.size:=Yau cw;have iM:=ZpX hr iN hy h0;have fin:∀(v':Value) (w':World),(Builtin.append_ #[t,t] o.type #[a.eval x,a.eval y]).run P w=.ok v' w'->(execOp a.eval o).run P w=.ok (.value v') w':=by intro v' w' al;simp[execOp,ho,resolve,invoke,builtin,al]
       have nE:∀(xs:List (List GV)),(xs++news).flatten=xs.flatten++news.flatten:=λxs=>YbS;split at h
       ·rename_i ex;rw[ex] at hx;simp only[Zab] at hx;obtain ⟨aK,hk⟩:=h;rw[hx] at fin;obtain ⟨v',w',vs,al,hv,hm,ak,hg,bm⟩:=Zh9 hT hs rfl aO h0 (World.ownsRow_nil w 0 e ei.size) iM (by rw[YaA];exact aK.1) (by rw[YaA];exact aK.2) o.type;rw[fin v' w' al];rw[YaA,List.nil_append] at ak;have aL:=hr.grow_nil news vs v' e ei.size hv hm h0 ak hg bm;refine hN _ _ _ _ _ _ hk aL ?_ (ZdS _ _ _ _) (hr.moved (G:=λ_=>False) ⟨hg.os,hg.tape,hg.output,hg.size,λk hk hn=>hg.block k hk (by simp[Value.ownBlock])⟩ (λk hk=>hk.elim));simp only[Zab];rw[Yaj (Yas _)];simp only[Ybq,List.getElem?_cons_zero];exact (ZbT _ _ _).symm
       ·rename_i j ex;rw[ex] at hx;split at h
        ·rename_i xs e' aW hj;cases jj:Nat.beq e' e && Nat.beq aW ei.size with
         | false=>rw[jj] at h;exact h.elim
         | true =>rw[jj] at h;simp only[cond_true] at h;simp only[Yag] at jj;have e1:=Yaq jj.1;have e2:=Yaq jj.2;subst e1;subst e2;obtain ⟨aK,hk⟩:=h;simp only[Zab,hj] at hx;rw[hx] at fin;obtain ⟨mF,cd,dN,dc,_⟩:=hr.obj j _ hj;obtain ⟨v',w',vs,al,hv,hm,ak,hg,bm⟩:=Zh9 hT hs rfl aO h0 cd iM aK.1 aK.2 o.type;rw[fin v' w' al];have aL:=hr.grow_row hj (xs++news) (mF++vs) v' e' ei.size (by rw[nE];exact dN.append hv) (λr hr=>by rcases Yar.1 hr with hr | hr;exact dc r hr;exact hm r hr) h0 (by rw[Yab];exact ak) hg bm;refine hN _ _ _ _ _ _ hk aL ?_ (Zpl _ _ _ _ _) (hr.moved (G:=λk=>some k=(β j).ownBlock) ⟨hg.os,hg.tape,hg.output,hg.size,λk hk hn=>hg.block k hk hn⟩ (λk hk=>⟨j,_,hj,rfl,ZgM cd hk.symm⟩));simp only[Zab];rw[Yaj (by simp)];simp only[Ybw,Ybq,List.getElem?_cons_zero];exact (ZbT _ _ _).symm
        ·exact h.elim
       ·rename_i j n ex;rw[ex] at hx;split at h
        ·rename_i xs e' aW hj;cases jj:Nat.beq e' e && Nat.beq aW ei.size with
         | false=>rw[jj] at h;exact h.elim
         | true =>
          rw[jj] at h;simp only[cond_true] at h;simp only[Yag] at jj;have e1:=Yaq jj.1;have e2:=Yaq jj.2;subst e1;subst e2;obtain ⟨iX,aK,hk⟩:=h;simp only[Zab,hj] at hx;obtain ⟨_,A,m,cap,hb,s5⟩:=hx;obtain ⟨mF,cd,dN,dc,_⟩:=hr.obj j _ hj;have aS:w.ownsRow 0 e' ei.size (a.eval x) n (mF.take (n*ei.size))/\(a.eval x).ownBlock=(β j).ownBlock:=by
           rcases cd.2 with ⟨hn,bC⟩ | ⟨g,bV,cur,cH,q1,q2,q3,q4,q5,q6⟩
           ·rw[hn] at hb;injection hb with e1 e2 e3;subst e1;subst e3;have fC:n=0:=by omega
            subst fC;rw[s5,hn];exact ⟨by simpa using World.ownsRow_nil w 0 e' ei.size,by simp[Value.ownBlock]⟩
           ·rw[cH] at hb;injection hb with e1 e2 e3;subst e1;subst e3;have qv:a.eval x=.slice (some ⟨g,0,none⟩) n bV:=by
             rw[s5];by_cases hc:bV=0
             ·simp[hc]
             ·simp[hc,Addr.add]
            rw[qv,cH];have hl:=cd.1;have hmul:n*ei.size<=xs.length*ei.size:=YaJ _ iX;refine ⟨⟨by rw[Yam];omega,.inr ⟨g,bV,cur,rfl,q1,q2,by omega,q4,q5,?_⟩⟩,rfl⟩;rw[<- q6,YbK,Ybd hmul]
          obtain ⟨v',w',vs,al,hv,hm,ak,hg,bm⟩:=Zh9 hT hs rfl aO h0 aS.1 iM aK.1 aK.2 o.type;rw[fin v' w' al];rw[aS.2] at hg bm;have qH:(xs.take n).flatten=xs.flatten.take (n*ei.size):=by
           have k2:∀(ys:List (List GV)) (n:Nat),(∀r∈ys,r.length=ei.size)->(ys.take n).flatten=ys.flatten.take (n*ei.size):=by
            intro ys
            induction ys with
            | nil=>intro n _;simp
            | cons y ys ih =>
             intro n hy;cases n with
             | zero=>simp
             | succ n =>have gQ:=hy y Yae;have hd:y.take ((n+1)*ei.size)=y:=Yay (by rw[gQ,YaW];omega);rw[List.take_succ_cons,List.flatten_cons,List.flatten_cons,Ybr,hd,gQ,YaW,Ya6,ih n (λr hr=>hy r (Yad _ hr))]
           exact k2 xs n dc
          have aL:=hr.grow_row hj (xs.take n++news) (mF.take (n*ei.size)++vs) v' e' ei.size (by rw[nE,qH];exact (dN.take _).append hv) (λr hr=>by rcases Yar.1 hr with hr | hr;exact dc r (YaK hr);exact hm r hr) h0 (by rw[Yab,Yam,Ybd iX];exact ak) hg bm;refine hN _ _ _ _ _ _ hk aL ?_ (Zpl _ _ _ _ _) (hr.moved (G:=λk=>some k=(β j).ownBlock) ⟨hg.os,hg.tape,hg.output,hg.size,λk hk hn=>hg.block k hk hn⟩ (λk hk=>⟨j,_,hj,rfl,ZgM cd hk.symm⟩));simp only[Zab];rw[Yaj (by simp)];simp only[Ybw,Ybq,List.getElem?_cons_zero];exact (ZbT _ _ _).symm
        ·exact h.elim
       ·exact h.elim
   ·exact h.elim
 ·exact h.elim
theorem ZAy (hr:RelD C st.h β V w) (he:ZbS st β V w a) (hN:Nx C st.h β V w K next) (hT:TabOk P T) {args:Array Operand} {ts:Array TypeId} {o:Oper} (ho:o.op=.call { callee:=.builtin .copy,args:=args,argTypes:=ts }) (h:ZaN P T F C.G (.call { callee:=.builtin .copy,args:=args,argTypes:=ts }) st K Qp):Zbu P next qp ((execOp a.eval o).run P w):=by
 simp only[ZaN] at h;split at h
 ·rename_i t t' x y cG cq;have fu:ts=#[t,t']:=by rw[<- Array.toArray_toList (xs:=ts),cG]
  have da:args=#[x,y]:=by rw[<- Array.toArray_toList (xs:=args),cq]
  subst fu;subst da;unfold Zxu at h;have hx:=he.eval hr.gl x;have hy:=he.eval hr.gl y;split at h
  ·rename_i agg size bytes z e hs;split at h
   ·rename_i ei aO;cases bG:Nat.beq ei.size 1 with
    | false=>rw[bG] at h;exact h.elim
    | true =>
     rw[bG] at h;simp only[cond_true] at h;have iJ:=Yaq bG;split at h
     ·rename_i i o' n news ex iN;rw[ex] at hx;split at h
      ·rename_i cs ty hi;cases cE:Nat.ble (o'+n) cs.length with
       | false=>rw[cE] at h;exact h.elim
       | true =>
        rw[cE] at h;simp only[cond_true] at h;have hle:=Yau cE;obtain ⟨cN,rfl,hk⟩:=h;simp only[Zab,hi] at hx;obtain ⟨g,c,hb,hv⟩:=hx;obtain ⟨g',vs,au,hg,aU⟩:=hr.obj i _ hi;have e:g'=g:=by rw[hb] at au;injection au with au;injection au with au;injection au with au;exact au.symm
        subst e;obtain ⟨d,hd,aA,_⟩:=(hT t _ hs).d;have aA:d=.slice e:=aA;subst aA;obtain ⟨inf,zv,aJ,ah,_⟩:=(hT e ei aO).inf;have iO:(P.info? e).map (·.size)=some 1:=by rw[aJ];simp[ah,iJ]
        have kB:=aU.len;have run:∀(us:List Value) (sl:Nat),(Builtin.copy_ #[t,t'] o.type #[a.eval x,a.eval y]).run P w=.ok (goInt (us.length:Int)) (w.setRow g' ((⟨vs⟩:Array Value).toList.take o'++us++(⟨vs⟩:Array Value).toList.drop (o'+us.length)).toArray)->Zbg V w ((news.take n).flatten) us->us.length=min news.length n->Zbu P next qp ((execOp a.eval o).run P w):=by
         intro us sl al ba vv;have:(execOp a.eval o).run P w=.ok (.value (goInt (us.length:Int))) (w.setRow g' ((⟨vs⟩:Array Value).toList.take o'++us++(⟨vs⟩:Array Value).toList.drop (o'+us.length)).toArray):=by simp[execOp,ho,resolve,invoke,builtin,al]
         rw[this];have bq:=ZiR _ _ _ _ o' aU ((Zic (h:=st.h) (β:=β) _ _).2 ba);rw[ZlE _ _ _ (by omega)] at bq;have aL:=hr.set_blk hi hb _ _ bq;refine hN _ _ _ _ _ _ hk aL ?_ (Zc4 hi trivial) (hr.moved (Fr.setRow w g' _) (λk hk=>⟨i,_,hi,rfl,by subst hk;show bk (β i)=_;rw[hb];rfl⟩));rw[<- vv];exact Zp8 _
        rcases ZpX hr iN hy (by omega) with ⟨fC,vh⟩ | ⟨ad,cap,us,vg,ba,hm,hl,hc⟩
        ·subst fC;refine run [] 0 ?_ (by simp[Zbg]) (by simp);rw[hv,vh,run_copy_nil P w t t' o.type e _ n c hd (by rw[aJ];rfl)];simp only[List.length_nil,YaF,Nat.add_zero,Ya7];rw[setRow_self w g' _ _ _ hg];rfl
        ·have dZ:us.length=news.length:=by rw[hl,Nat.mul_one]
         have bL:∀(l:List (List GV)) (n:Nat),(∀r∈l,r.length=1)->(l.take n).flatten=l.flatten.take n:=by
          intro l
          induction l with
          | nil=>intro n _;simp
          | cons r l ih =>
           intro n hr;have h1:=hr r Yae;cases n with
           | zero=>simp
           | succ n =>
            match r,h1 with
            | [x],_=>simp[ih n (λr h=>hr r (List.mem_cons_of_mem _ h))]
         have al:=run_copy_row (P:=P) w t t' o.type e g' o' n c ad news.length cap ⟨vs⟩ ty (us.take n) hd iO hg (by rw[Yam,dZ];exact Nat.min_comm _ _) (λj v hj=>hc j v (by
          have aD:j < n:=by have:=(Yac.1 hj).1;simp at this;omega
          rwa [Yaw aD] at hj)) (by simp;omega) (λv hv=>Zg1 ba v (YaK hv))
         refine run (us.take n) 0 ?_ ?_ (by rw[Yam,dZ,Nat.min_comm])
         ·rw[hv,vg];exact al
         ·rw[bL news n (λr hr=>hm r hr)];exact ba.take n
      ·exact h.elim
     ·exact h.elim
   ·exact h.elim
  ·exact h.elim
 ·exact h.elim
theorem ZyS (hr:RelD C st.h β V w) (he:ZbS st β V w a) (hN:Nx C st.h β V w K next) (hT:TabOk P T) {args:Array Operand} {ts:Array TypeId} {o:Oper} (ho:o.op=.call { callee:=.builtin .clear,args:=args,argTypes:=ts }) (h:ZaN P T F C.G (.call { callee:=.builtin .clear,args:=args,argTypes:=ts }) st K Qp):Zbu P next qp ((execOp a.eval o).run P w):=by
 simp only[ZaN] at h;split at h
 ·rename_i t x cG cq;have fu:ts=#[t]:=by rw[<- Array.toArray_toList (xs:=ts),cG]
  have da:args=#[x]:=by rw[<- Array.toArray_toList (xs:=args),cq]
  subst fu;subst da;unfold ZsY at h;have hx:=he.eval hr.gl x;split at h
  ·rename_i agg size bytes z0 e hs;split at h
   ·rename_i ei i lo n aO ex;rw[ex] at hx;split at h
    ·rename_i xs e' sz hi;cases hb:(Nat.beq e' e && Nat.beq sz ei.size) with
     | false=>rw[hb] at h;exact h.elim
     | true =>
      rw[hb] at h;simp only[Yag] at hb;have bp:=Yaq hb.1;have iK:=Yaq hb.2;subst bp;obtain ⟨hn,hle,z,cX,hk⟩:=h;simp only[Zab,hi] at hx;obtain ⟨_,A,m,cap,hA,hv⟩:=hx;obtain ⟨vs,ak,ew,eu,h0⟩:=hr.obj i _ hi;obtain ⟨d,hd,aA,_⟩:=(hT t _ hs).d;have aA:d=.slice e':=aA;subst aA;obtain ⟨inf,zv,aJ,ah,jB,hz,gy⟩:=(hT e' ei aO).inf;have fX:ei.zero.length=ei.size:=(hT e' ei aO).zsize;rcases ak.2 with ⟨jY,fC⟩ | ⟨g,bV,cur,dh,cP,hh,dH,iu,oR,dn⟩
      ·omega
      ·rw[hA] at dh;injection dh with e1 e2 e3;subst e1;subst e3;have aC:¬cap=lo:=by omega
       rw[if_neg aC] at hv;have mH:a.eval x=.slice (some ⟨g,lo*sz,none⟩) n (cap - lo):=by rw[hv];simp[Addr.add]<;>omega
       have fi:Zbg V w z ei.zero:=by have h0:RelD ⟨w,λ_=>False,V,[]⟩ [] (λ_=>undef) V w:=⟨λi o h=>by simp at h,λi j o o' k h=>by simp at h,λi o k h=>by simp at h,λi o k h=>by simp at h,hr.vlt,λk hk=>hk,λk hk=>.inl hk,Fr.refl _ _,λp hp=>by simp at hp⟩;have:=Zft h0 (l:=ZcT (ei.zero.map of1)) cX (Zfw ei.zero) (λj hj=>hj);exact Zbg.move (λk hk=>⟨by rcases hk with hk | ⟨i,o,_,h2,_⟩;exact hk;simp at h2,rfl⟩) _ _ this
       have iB:z.length=sz:=by rw[fi.len,fX,iK]
       have ba:∀n,Zbg V w (List.replicate n z).flatten (Zej ei.zero n):=by
        intro n
        induction n with
        | zero=>simp[Zej,Zbg]
        | succ n ih=>rw[List.replicate_succ,List.flatten_cons,Zej];exact fi.append ih
       have fD:∀n,(Zej ei.zero n).length=n*sz:=λn=>by rw[Ze1,fX,iK]
       have bu:(Builtin.zeroCells zv.cells n).toList=Zej ei.zero n:=by have:=ZjK ei.zero (by omega) n;unfold Builtin.zeroCells;rw[gy];rw[show (ei.zero.toArray.size)=ei.zero.length from by simp] at *;rw[this]
       have xF:∀v∈Zej ei.zero n,v.oneCell'=true:=Zg1 (ba n);have hmul:(lo+n)*sz<=xs.length*sz:=YaJ _ hle;have tu:xs.length*sz<=cap*sz:=YaJ _ dH;have aZ:=run_storeCells_at (P:=P) g (lo*sz) e' (Zej ei.zero n) 0 cur w hh (by rw[fD,oR,Ybj] at *;omega) xF;have al:(Builtin.clear_ #[t] o.type #[a.eval x]).run P w=.ok (.tuple #[]) (w.setRow g (cur.toList.take (lo*sz)++Zej ei.zero n++cur.toList.drop (lo*sz+(Zej ei.zero n).length)).toArray):=by obtain ⟨n',rfl⟩:∃n',n=n'+1:=⟨n - 1,by omega⟩;rw[mH];simp only[Nat.add_zero] at aZ;simp[Builtin.clear_,run_underlying hd,zeroValue,typeInfo,aJ,hz,bu,aZ]
       have cY:(execOp a.eval o).run P w=.ok (.value (.tuple #[])) (w.setRow g (cur.toList.take (lo*sz)++Zej ei.zero n++cur.toList.drop (lo*sz+(Zej ei.zero n).length)).toArray):=by simp[execOp,ho,resolve,invoke,builtin,al]
       rw[cY];have bt:cur.toList.length=cap*sz:=by rw[Array.length_toList,oR]
       have bL:∀(l:List (List GV)) (k:Nat),(∀r∈l,r.length=sz)->k<=l.length->(l.take k).flatten=l.flatten.take (k*sz)/\(l.drop k).flatten=l.flatten.drop (k*sz):=by
        intro l
        induction l with
        | nil=>intro k _ hk;simp at hk;subst hk;simp
        | cons r l ih =>
         intro k hr hk;have h1:=hr r Yae;cases k with
         | zero=>simp
         | succ k =>
          obtain ⟨i1,i2⟩:=ih k (λr h=>hr r (Yad _ h)) (by simpa using hk);rw[List.take_succ_cons,Ybz,List.flatten_cons,List.flatten_cons,i1,i2,YaW];refine ⟨?_,?_⟩
          ·rw[Ybr,Yay (l:=r) (by omega),show k*sz+sz - r.length=k*sz from by omega]
          ·rw[Ycj,Yct (as:=r) (by omega),show k*sz+sz - r.length=k*sz from by omega];rfl
       have kB:vs.length=xs.length*sz:=by rw[<- dn,Yam,bt];omega
       have jZ:Zbg V w (xs.take lo++(List.replicate n z++xs.drop (lo+n))).flatten (vs.take (lo*sz)++(Zej ei.zero n++vs.drop ((lo+n)*sz))):=by rw[YbS,YbS,(bL xs lo eu (by omega)).1,(bL xs (lo+n) eu hle).2];exact (ew.take _).append ((ba n).append (ew.drop _))
       have aL:=hr.set_row hi hA (xs.take lo++(List.replicate n z++xs.drop (lo+n))) (vs.take (lo*sz)++(Zej ei.zero n++vs.drop ((lo+n)*sz))) jZ
        (λq hq=>by
         rcases Yar.1 hq with hq | hq
         ·exact eu q (YaK hq)
         ·rcases Yar.1 hq with hq | hq
          ·rw[Yci hq];exact iB
          ·exact eu q (Ya5 hq))
        (by simp;omega) (cur.toList.take (lo*sz)++Zej ei.zero n++cur.toList.drop (lo*sz+(Zej ei.zero n).length)).toArray
        (λsQ gH=>by
         rw[hh] at gH;injection gH with gH;injection gH with gH;subst gH;rw[Ybj] at hmul;simp[fD];omega)
        (by
         rw[<- dn];have e1:lo*sz+n*sz=(lo+n)*sz:=by rw[Ybj]
         rw[fD,e1];apply Ybx;intro j;have dZ:(cur.toList.take (lo*sz)).length=lo*sz:=by rw[Yam,bt,Ybj] at *;omega
         have mS:((cur.toList.take (xs.length*sz)).take (lo*sz)).length=lo*sz:=by rw[Yam,Yam,bt];rw[Ybj] at hmul;omega
         rw[Ybh];simp only[Yax];rw[Ybj] at hmul e1;by_cases j1:j < lo*sz
         ·rw[if_pos (by omega),Yal (by omega),Yal (by omega),Ybh,Ybh,Ybh,if_pos j1,if_pos j1,if_pos (by omega)]
         ·rw[Yaj (l₁:=cur.toList.take (lo*sz)) (by omega),Yaj (l₁:=(cur.toList.take (xs.length*sz)).take (lo*sz)) (by omega),dZ,mS];by_cases j2:j - lo*sz < n*sz
          ·rw[if_pos (by omega),Yal (by rw[fD];exact j2),Yal (by rw[fD];exact j2)]
          ·rw[Yaj (by rw[fD];omega),Yaj (by rw[fD];omega),fD,YaT,YaT,Ybh,Ybj];by_cases j3:j < xs.length*sz
           ·rw[if_pos j3,if_pos (by omega)]
           ·rw[if_neg j3,if_neg (by omega)])
       refine hN _ _ _ _ _ _ hk aL ?_ (Zc4 hi ⟨by simp;omega,rfl⟩) (hr.moved (Fr.setRow w g _) (λk hk=>⟨i,_,hi,rfl,by subst hk;show bk (β i)=_;rw[hA];rfl⟩));simp only[Zab,Zaa];exact ⟨[],rfl,rfl⟩
    ·exact h.elim
   ·exact h.elim
  ·exact h.elim
 ·exact h.elim
theorem Zph {h h':Zae} {β β':Nat->Value} {V V':Nat->Prop} {w w':World} {m:Nat}:∀(n:Nat) (d:D) (v:Value),ZcQ n d=true->Zab h β V w d v->Zab h' β' V' w' (sh m n d) v:=by
 intro n
 induction n with
 | zero=>intro d v hf;cases hf
 | succ n ih =>
  intro d v hf hd;have list:∀(ds:List D) (vs:List Value),ds.all (ZcQ n)=true->Zaa h β V w ds vs->Zaa h' β' V' w' (ds.map (sh m n)) vs:=by
   intro ds
   induction ds with
   | nil=>intro vs _ h;simp only[Zaa,YaI] at h ⊢;exact h
   | cons d ds nF =>intro vs hf h;simp only[List.all_cons,Yag] at hf;simp only[Zaa,Yan] at h ⊢;obtain ⟨v,us,hv,h1,h2⟩:=h;exact ⟨v,us,hv,ih d v hf.1 h1,nF us hf.2 h2⟩
  cases d with
  | g x=>cases x<;>simp_all [ZcQ,sh,Zab,ZaS]
  | pb p=>simpa only[sh,Zab] using hd
  | pn p=>simpa only[sh,Zab] using hd
  | nils=>simpa only[sh,Zab] using hd
  | nilP=>simpa only[sh,Zab] using hd
  | nilF=>simpa only[sh,Zab] using hd
  | nilI=>simpa only[sh,Zab] using hd
  | tuple ds =>simp only[ZcQ] at hf;simp only[sh,Zab] at hd ⊢;obtain ⟨us,hv,h1⟩:=hd;exact ⟨us,hv,list ds us hf h1⟩
  | agg ds =>simp only[ZcQ] at hf;simp only[sh,Zab] at hd ⊢;obtain ⟨us,hv,h1⟩:=hd;exact ⟨us,hv,list ds us hf h1⟩
  | iface t x =>simp only[ZcQ] at hf;simp only[sh,Zab] at hd ⊢;obtain ⟨u,hv,h1⟩:=hd;exact ⟨u,hv,ih x u hf h1⟩
  | _=>simp[ZcQ] at hf
def ZfG (n:Nat) (β β':Nat->Value):Nat->Value:=λi=>if i < n then β i else β' (i - n)
mutual
theorem ZpZ {h h':Zae} {β β':Nat->Value} {V:Nat->Prop} {w:World}:∀(n:Nat) (d:D) (v:Value),Zab h' β' V w d v->Zab (h++h'.map (shO h.length)) (ZfG h.length β β') V w (sh h.length n d) v
 | 0,d,v,_=>by simp only[sh,Zab]
 | n+1,.g x,v,hd=>by simp only[sh,Zab] at hd ⊢;exact hd
 | n+1,.pb x,v,hd=>by simp only[sh,Zab] at hd ⊢;exact hd
 | n+1,.pn x,v,hd=>by simp only[sh,Zab] at hd ⊢;exact hd
 | n+1,.nils,v,hd=>by simp only[sh,Zab] at hd ⊢;exact hd
 | n+1,.nilP,v,hd=>by simp only[sh,Zab] at hd ⊢;exact hd
 | n+1,.nilF,v,hd=>by simp only[sh,Zab] at hd ⊢;exact hd
 | n+1,.nilI,v,hd=>by simp only[sh,Zab] at hd ⊢;exact hd
 | n+1,.fp r o,v,hd=>by simp only[sh,Zab] at hd ⊢;exact hd
 | n+1,.any,v,hd=>by simp only[sh,Zab]
 | n+1,.row i,v,hd=>by
  simp only[sh,Zab] at hd ⊢;have hB:ZfG h.length β β' (i+h.length)=β' i:=by simp[ZfG,show ¬ (i+h.length < h.length) from by omega]
  rw[Yaj (by omega),Ya6,YaE,hB];cases ho:h'[i]? with
  | none=>rw[ho] at hd;exact hd.elim
  | some o=>rw[ho] at hd;cases o<;>simp_all [shO]
 | n+1,.rs i lo k,v,hd=>by
  simp only[sh,Zab] at hd ⊢;have hB:ZfG h.length β β' (i+h.length)=β' i:=by simp[ZfG,show ¬ (i+h.length < h.length) from by omega]
  rw[Yaj (by omega),Ya6,YaE,hB];cases ho:h'[i]? with
  | none=>rw[ho] at hd;exact hd.elim
  | some o=>rw[ho] at hd;cases o<;>simp_all [shO]
 | n+1,.ptr i off,v,hd=>by
  simp only[sh,Zab] at hd ⊢;have hB:ZfG h.length β β' (i+h.length)=β' i:=by simp[ZfG,show ¬ (i+h.length < h.length) from by omega]
  rw[Yaj (by omega),Ya6,YaE,hB];cases ho:h'[i]? with
  | none=>rw[ho] at hd;exact hd.elim
  | some o=>rw[ho] at hd;cases o<;>simp_all [shO]
 | n+1,.el i j off,v,hd=>by
  simp only[sh,Zab] at hd ⊢;have hB:ZfG h.length β β' (i+h.length)=β' i:=by simp[ZfG,show ¬ (i+h.length < h.length) from by omega]
  rw[Yaj (by omega),Ya6,YaE,hB];cases ho:h'[i]? with
  | none=>rw[ho] at hd;exact hd.elim
  | some o=>rw[ho] at hd;cases o<;>simp_all [shO]
 | n+1,.fn f fs cs,v,hd=>by simp only[sh,Zab] at hd ⊢;obtain ⟨us,ts,hv,h1,h2⟩:=hd;exact ⟨us,ts,hv,ZhF n fs us h1,ZhF n cs ts h2⟩
 | n+1,.iface t x,v,hd=>by simp only[sh,Zab] at hd ⊢;obtain ⟨u,hv,h1⟩:=hd;exact ⟨u,hv,ZpZ n x u h1⟩
 | n+1,.agg cs,v,hd=>by simp only[sh,Zab] at hd ⊢;obtain ⟨us,hv,h1⟩:=hd;exact ⟨us,hv,ZhF n cs us h1⟩
 | n+1,.tuple cs,v,hd=>by simp only[sh,Zab] at hd ⊢;obtain ⟨us,hv,h1⟩:=hd;exact ⟨us,hv,ZhF n cs us h1⟩
theorem ZhF {h h':Zae} {β β':Nat->Value} {V:Nat->Prop} {w:World}:∀(n:Nat) (ds:List D) (vs:List Value),Zaa h' β' V w ds vs->Zaa (h++h'.map (shO h.length)) (ZfG h.length β β') V w (ds.map (sh h.length n)) vs
 | n,[],vs,hd=>by simp only[Zaa,YaI] at hd ⊢;exact hd
 | n,d :: ds,vs,hd=>by simp only[Zaa,Yan] at hd ⊢;obtain ⟨v,us,hv,h1,h2⟩:=hd;exact ⟨v,us,hv,ZpZ n d v h1,ZhF n ds us h2⟩
end
theorem Zmb (h h':Zae) (β β':Nat->Value):LeH h β (h++h') (ZfG h.length β β'):=by intro i o hi;have hl:i < h.length:=(Yac.1 hi).1;exact ⟨o,by rw[Yal hl];exact hi,OLe.refl o,λ_=>by simp[ZfG,hl]⟩
theorem Zf0 (m:Nat) (o:Obj):(shO m o).live=o.live:=by cases o<;>rfl
theorem ZkR (m:Nat) (o:Obj) (v:Value) (k:Nat):Bk (shO m o) v k↔Bk o v k:=by cases o<;>exact Ya3
theorem Zo4 {f:Nat->Nat}:∀{ts:List (Value × Nat)} {t:Value × Nat},t∈rnT f ts->∃q,(t.1,q)∈ts/\f q=t.2
 | [],t,h=>by simp[rnT] at h
 | (v,q) :: l,t,h=>by
  simp only[rnT] at h;rcases Yav.1 h with rfl | h
  ·exact ⟨q,Yae,rfl⟩
  ·obtain ⟨q',h1,h2⟩:=Zo4 h;exact ⟨q',Yad _ h1,h2⟩
theorem Zia {h h':Zae} {β':Nat->Value} {V V':Nat->Prop} {w':World} (hr:RelD C h β V w) (hc:RelD ⟨w,λ_=>False,V,C.G⟩ h' β' V' w'):RelD C (h++h'.map (shO h.length)) (ZfG h.length β β') V' w':=by
 have hm:ZaI V w V' w':=λk hk=>⟨hc.vin k hk,hc.fr.block k (hr.vlt k hk) (λh=>h)⟩;have left:∀(i:Nat),i < h.length->ZfG h.length β β' i=β i:=λi hi=>by simp[ZfG,hi]
 have right:∀(i:Nat),h.length<=i->ZfG h.length β β' i=β' (i - h.length):=λi hi=>by simp[ZfG,Nat.not_lt.2 hi]
 have at_:∀(i:Nat) (o:Obj),(h++h'.map (shO h.length))[i]?=some o->(i < h.length/\h[i]?=some o)\/(h.length<=i/\∃o',h'[i - h.length]?=some o'/\o=shO h.length o'):=by
  intro i o hi;by_cases hl:i < h.length
  ·rw[Yal hl] at hi;exact .inl ⟨hl,hi⟩
  ·rw[Yaj (by omega),YaE] at hi;cases ho:h'[i - h.length]? with
   | none=>rw[ho] at hi;cases hi
   | some o'=>rw[ho] at hi;simp at hi;exact .inr ⟨by omega,o',rfl,hi.symm⟩
 refine ⟨λi o hi=>?_,λi j o o' k hi hl hj bQ hk ae=>?_,λi o k hi hl hk=>?_,λi o k hi hl hk=>?_,hc.vlt,λk hk=>hc.vin k (hr.vin k hk),λk hk=>?_,?_,hc.gl⟩
 ·rcases at_ i o hi with ⟨hl,h1⟩ | ⟨hl,o',h1,rfl⟩
  ·cases fb:o.live with
   | false=>cases o<;>simp_all [Obj.live,Zco]
   | true=>exact (hr.obj i o h1).keep (Zmb h _ β β') hm (left i hl) (λk hk=>hc.fr.block k (hr.lt h1 fb hk) (λh=>h))
  ·have bB:=hc.obj _ _ h1;have hB:=right i hl;cases o' with
   | dead=>trivial
   | blk cs t =>obtain ⟨g,vs,hb,hg,aU⟩:=bB;exact ⟨g,vs,hB.trans hb,hg,ZhF 4 cs vs aU⟩
   | row xs e sz =>obtain ⟨vs,ak,rest⟩:=bB;exact ⟨vs,by rw[hB];exact ak,rest⟩
   | many l ts =>
    refine ⟨bB.1,bB.2.1,λt ht=>?_⟩;obtain ⟨q,hq,e⟩:=Zo4 ht;obtain ⟨o',aP,hb⟩:=bB.2.2 _ hq;refine ⟨shO h.length o',?_,λhl=>?_⟩
    ·rw[<- e,Yaj (by omega),Ya6,YaE,aP];rfl
    ·rw[<- e,right _ (by omega),Ya6];exact hb (by rwa [Zf0] at hl)
 ·rcases at_ i o hi with ⟨ct,h1⟩ | ⟨ct,oi,h1,rfl⟩<;>rcases at_ j o' hj with ⟨kL,g1⟩ | ⟨kL,oj,g1,rfl⟩
  ·rw[left i ct] at hk;rw[left j kL] at ae;exact hr.sep i j o o' k h1 hl g1 bQ hk ae
  ·rw[left i ct] at hk;rw[right j kL,ZkR] at ae;rw[Zf0] at bQ;have h2:=hr.lt h1 hl hk;rcases hc.mine _ _ k g1 bQ ae with h3 | h3
   ·exact absurd h2 (YbB.2 h3)
   ·exact h3.elim
  ·rw[right i ct,ZkR] at hk;rw[left j kL] at ae;rw[Zf0] at hl;have h2:=hr.lt g1 bQ ae;rcases hc.mine _ _ k h1 hl hk with h3 | h3
   ·exact absurd h2 (YbB.2 h3)
   ·exact h3.elim
  ·rw[right i ct,ZkR] at hk;rw[right j kL,ZkR] at ae;rw[Zf0] at hl bQ;have:=hc.sep _ _ oi oj k h1 hl g1 bQ hk ae;omega
 ·rcases at_ i o hi with ⟨ct,h1⟩ | ⟨ct,oi,h1,rfl⟩
  ·rw[left i ct] at hk;exact hr.mine i o k h1 hl hk
  ·rw[right i ct,ZkR] at hk;rw[Zf0] at hl;rcases hc.mine _ _ k h1 hl hk with h3 | h3
   ·exact .inl (YaC hr.fr.size h3)
   ·exact h3.elim
 ·rcases at_ i o hi with ⟨ct,h1⟩ | ⟨ct,oi,h1,rfl⟩
  ·rw[left i ct] at hk;intro hv;rcases hc.vnew k hv with h2 | h2 | h2
   ·exact hr.vout i o k h1 hl hk h2
   ·exact absurd (hr.lt h1 hl hk) (YbB.2 h2)
   ·exact h2
  ·rw[right i ct,ZkR] at hk;rw[Zf0] at hl;exact hc.vout _ _ k h1 hl hk
 ·rcases hc.vnew k hk with h2 | h2 | h2
  ·exact hr.vnew k h2
  ·exact .inr (.inl (YaC hr.fr.size h2))
  ·exact h2.elim
 ·refine ⟨hc.fr.os.trans hr.fr.os,hc.fr.tape.trans hr.fr.tape,hc.fr.output.trans hr.fr.output,YaC hr.fr.size hc.fr.size,λk hk hn=>?_⟩;rw[hc.fr.block k (YaX hk hr.fr.size) (λh=>h)];exact hr.fr.block k hk hn
theorem ZsH {h:Zae} {h':Zae} {β':Nat->Value} {Vc V':Nat->Prop} {w':World} (hr:RelD C h β V w) (hc:RelD ⟨w,λ_=>False,Vc,C.G⟩ h' β' V' w'):RelD C h β V w'/\ZaI V w V w':=by
 have hm:ZaI V w V w':=λk hk=>⟨hk,hc.fr.block k (hr.vlt k hk) (λh=>h)⟩;refine ⟨⟨λi o hi=>?_,hr.sep,hr.mine,hr.vout,λk hk=>YaX (hr.vlt k hk) hc.fr.size,hr.vin,hr.vnew,?_,hr.gl.move hm⟩,hm⟩
 ·cases fb:o.live with
  | false=>cases o<;>simp_all [Obj.live,Zco]
  | true=>exact (hr.obj i o hi).keep (LeH.refl h β) hm rfl (λk hk=>hc.fr.block k (hr.lt hi fb hk) (λh=>h))
 ·refine ⟨hc.fr.os.trans hr.fr.os,hc.fr.tape.trans hr.fr.tape,hc.fr.output.trans hr.fr.output,YaC hr.fr.size hc.fr.size,λk hk hn=>?_⟩;rw[hc.fr.block k (YaX hk hr.fr.size) (λh=>h)];exact hr.fr.block k hk hn
theorem LeH.trans {h1 h2 h3:Zae} {β1 β2 β3:Nat->Value} (a:LeH h1 β1 h2 β2) (b:LeH h2 β2 h3 β3):LeH h1 β1 h3 β3:=by
 intro i o hi;obtain ⟨o2,g1,g2,g3⟩:=a i o hi;obtain ⟨o3,k1,k2,k3⟩:=b i o2 g1;refine ⟨o3,k1,?_,λhl=>?_⟩
 ·cases o<;>cases o2<;>cases o3<;>simp_all [OLe]
 ·have:o2.live=true:=by cases o2<;>cases o3<;>simp_all [OLe,Obj.live]
  rw[k3 hl,g3 this]
theorem Zsz {all:List D} {aa:List Value} {as:List D} {g:FuncId} {Q:Out->Prop} (hr:RelD C st.h β V w) (hN:Nx C st.h β V w K next) (hP:Px C st.h β V w Qp qp) (av:Zaa st.h β V w all aa)
  (hl:Ze0 (all.map (conv st.h [] 4)) as) (ff:CT P C.G g as Q) (hk:∀d h',Q (.ret d h')->K (sh st.h.length 4 d) (after st.h (ZcT all) d h')) (hp:∀d,Q (.pan d)->Qp d (Zb4 st.h (ZcT all))) :
  Calls P g ⟨aa⟩ w fun
   | .returned v,bH=>next v bH
   | .panicked ch,bH=>qp ch bH
   | .outgrown,_=>False:=by
 have kh:=Zf7 hr (ZcT all);have an:Zaa [] (Zbd [] β) (ZhQ st.h (ZcT all) β V) w (all.map (conv st.h [] 4)) aa:=by refine Zcx (src:=[]) hr (λi=>i∈ZcT all) (λk hk=>.inl hk) (λi o k h1 h2 h3 h4=>.inr ⟨i,o,h1,h2,h3,h4⟩) 4 all aa (λd hd i hi _=>ZhT hd i hi (λj hj=>hj)) av
 have fR:Zaa [] (λ_=>undef) (ZhQ st.h (ZcT all) β V) w as aa:=by have:=Zny hl an;exact Zaa.mono (h':=[]) (λi o hi=>by simp at hi) (ZaI.refl _ _) _ _ this
 refine (ff w _ aa kh.vlt kh.gl fR).mono λe w' he=>?_;cases e with
 | returned v =>
  obtain ⟨d,h',β',V',hq,ab,hd⟩:=he;have hK:=hk d h' hq;unfold after at hK;cases pN:ZcQ 4 d && Zsd h' with
  | true =>rw[pN] at hK;simp only[cond_true] at hK;simp only[Yag] at pN;obtain ⟨h1,h2⟩:=ZsH hr ab;exact hN _ _ _ _ _ _ hK h1 (Zph 4 d v pN.1 hd) (LeH.refl _ _) h2
  | false =>
   rw[pN] at hK;simp only[cond_false] at hK;have hj:=Zia kh ab;rw[Zcv] at hj;refine hN _ _ _ _ _ _ hK hj ?_ ?_ ?_
   ·have:=ZpZ (h:=Zb4 st.h (ZcT all)) (β:=β) 4 d v hd;rw[Zcv] at this;exact this
   ·have:=Zmb (Zb4 st.h (ZcT all)) (h'.map (shO st.h.length)) β β';rw[Zcv] at this;exact (Zf6 (ZcT all) st.h β).trans this
   ·exact (Zb1 _ _ _ _ _).trans (λk hk=>⟨ab.vin k hk,ab.fr.block k (kh.vlt k hk) (λh=>h)⟩)
 | panicked ch =>
  obtain ⟨d,t,u,β',V',rfl,hq,ab,hd⟩:=he;have hj:=Zia kh ab;simp only[YaI,YaF] at hj;refine hP d _ t u w' _ _ (hp d hq) hj ?_ ?_ ((Zb1 _ _ _ _ _).trans (λk hk=>⟨ab.vin k hk,ab.fr.block k (kh.vlt k hk) (λh=>h)⟩))
  ·exact Zab.mono (λi o hi=>by simp at hi) (ZaI.refl _ _) _ _ hd
  ·have:=Zmb (Zb4 st.h (ZcT all)) [] β β';rw[YaF] at this;exact (Zf6 (ZcT all) st.h β).trans this
 | outgrown=>exact he.elim
theorem ZwO:∀(n:Nat) (d:D) (i:Nat),i∈ids n d->i∈ids (n+1) d:=by
 intro n
 induction n with
 | zero=>intro d i h;simp[ids] at h
 | succ n ih =>
  intro d i h;cases d with
  | fn f fs cs =>
   simp only[ids,Yar,Ybe] at h ⊢;rcases h with ⟨a,ha,hi⟩ | ⟨a,ha,hi⟩
   ·exact .inl ⟨a,ha,ih a i hi⟩
   ·exact .inr ⟨a,ha,ih a i hi⟩
  | iface t x=>simp only[ids] at h ⊢;exact ih x i h
  | agg cs =>simp only[ids,Ybe] at h ⊢;obtain ⟨a,ha,hi⟩:=h;exact ⟨a,ha,ih a i hi⟩
  | tuple cs =>simp only[ids,Ybe] at h ⊢;obtain ⟨a,ha,hi⟩:=h;exact ⟨a,ha,ih a i hi⟩
  | _=>first | exact h | (simp[ids] at h)
theorem Zpo {i:Nat}:∀{l:List Nat},inσ l i=true↔i∈l
 | []=>by simp[inσ]
 | a :: l=>by
  simp only[inσ,YaZ,Zpo (l:=l),Yav];constructor
  ·rintro (h | h)
   ·exact .inl (Yaq h).symm
   ·exact .inr h
  ·rintro (h | h)
   ·exact .inl (by rw[h];exact YaY a)
   ·exact .inr h
theorem ZlZ {σ:List Nat} {i:Nat} (h:i∈σ):∃k,kp (σ.map .old) 0 i=some k/\σ[k]?=some i:=by obtain ⟨j,hj,rfl⟩:=YaR h;obtain ⟨q,hq⟩:=Zsb (src:=σ.map .old) (p:=0) (i:=σ[j]) (j:=j) (by simp[hj]);refine ⟨q,hq,?_⟩;have:=(Zem hq).2;simp only[Nat.sub_zero,YaE,YaB] at this;obtain ⟨a,ha,e⟩:=this;injection e with e;rw[ha,e]
theorem ZAr {σ:List Nat} {k i:Nat} (h:kp (σ.map .old) 0 i=some k):σ[k]?=some i:=by have:=(Zem h).2;simp only[Nat.sub_zero,YaE,YaB] at this;obtain ⟨a,ha,e⟩:=this;injection e with e;rw[ha,e]
theorem ZoS {σ:List Nat} (hs:Zef (σ.map .old)=true) {a b i:Nat} (ha:σ[a]?=some i) (hb:σ[b]?=some i):a=b :=
 ZnD hs (i:=i) (by simp[ha]) (by simp[hb])
theorem Zyt {h:Zae} {σ:List Nat} (hr:RelD C h β V w) (hs:Zef (σ.map .old)=true) (bt:∀i∈σ,∃o,h[i]?=some o/\∀j∈ZCi o,j∈σ):RelD C (ZbW h (σ.map .old)) (Zbd (σ.map .old) β) V w:=by
 have at_:∀(j:Nat) (o:Obj),(ZbW h (σ.map .old))[j]?=some o->∃i,σ[j]?=some i/\o=Zbn h (σ.map .old) (.old i)/\Zbd (σ.map .old) β j=β i:=by
  intro j o hj;unfold ZbW at hj;rw[YaE,YaE] at hj;cases e9:σ[j]? with
  | none=>rw[e9] at hj;cases hj
  | some i=>rw[e9] at hj;simp at hj;exact ⟨i,rfl,hj.symm,by simp[Zbd,e9]⟩
 have old:∀(j:Nat) (o:Obj) (k:Nat),(ZbW h (σ.map .old))[j]?=some o->o.live=true->Bk o (Zbd (σ.map .old) β j) k->∃i o',σ[j]?=some i/\h[i]?=some o'/\o'.live=true/\Bk o' (β i) k:=by
  intro j o k hj hl hk;obtain ⟨i,hi,rfl,hB⟩:=at_ j o hj;rw[hB] at hk;cases ho:h[i]? with
  | none=>simp[Zbn,ho,Obj.live] at hl
  | some o' =>
   cases o' with
   | dead=>simp[Zbn,ho,Obj.live] at hl
   | blk cs t=>exact ⟨i,_,hi,ho,rfl,by simpa only[Zbn,ho,Bk] using hk⟩
   | row xs e sz=>exact ⟨i,_,hi,ho,rfl,by simpa only[Zbn,ho,Bk] using hk⟩
   | many l ts=>exact ⟨i,_,hi,ho,rfl,by simpa only[Zbn,ho,Bk] using hk⟩
 refine ⟨λj o hj=>?_,λa b o o' k ha gZ hb mQ rz kN=>?_,λj o k hj hl hk=>?_,λj o k hj hl hk=>?_,hr.vlt,hr.vin,hr.vnew,hr.fr,hr.gl⟩
 ·obtain ⟨i,hi,rfl,hB⟩:=at_ j o hj;obtain ⟨o',ho,rI⟩:=bt i (YaL hi);have bB:=hr.obj i _ ho;cases o' with
  | dead=>simp only[Zbn,ho,Zco]
  | blk cs t =>
   obtain ⟨g,vs,hb,hg,hc⟩:=bB;simp only[Zbn,ho,Zco];refine ⟨g,vs,hB.trans hb,hg,Zcx hr (λ_=>False) (λ_ hk=>hk) (λ_ _ _ hz=>hz.elim) 3 cs vs (λd hd i' bc hn=>?_) hc⟩;obtain ⟨k,hk,_⟩:=ZlZ (rI i' (ZhT hd i' (ZwO 3 d i' bc) (λj hj=>hj)));rw[hn] at hk;cases hk
  | row xs e sz =>simp only[Zbn,ho,Zco];rw[hB];exact bB
  | many l ts =>simp only[Zbn,ho,Zco];exact ⟨bB.1,bB.2.1,λt ht=>Zth bB.2.2 ht⟩
 ·obtain ⟨i,oi,mU,dK,ie,ic⟩:=old a o k ha gZ rz;obtain ⟨j,oj,pR,dt,ov,rD⟩:=old b o' k hb mQ kN;have:=hr.sep i j oi oj k dK ie dt ov ic rD;subst this;exact ZoS hs mU pR
 ·obtain ⟨i,oi,_,dK,ie,ic⟩:=old j o k hj hl hk;exact hr.mine i oi k dK ie ic
 ·obtain ⟨i,oi,_,dK,ie,ic⟩:=old j o k hj hl hk;exact hr.vout i oi k dK ie ic
section
variable {h' H:Zae} {γ β':Nat->Value} {V':Nat->Prop} {w':World} {f:Nat->Nat}
mutual
theorem Zp5 (hf:∀(i:Nat) (o:Obj),h'[i]?=some o->H[f i]?=some (rnO f o)/\γ (f i)=β' i):∀(n:Nat) (d:D) (v:Value),Zab h' β' V' w' d v->Zab H γ V' w' (rnD f n d) v
 | 0,d,v,_=>by simp only[rnD,Zab]
 | n+1,.g x,v,hd=>by simp only[rnD,Zab] at hd ⊢;exact hd
 | n+1,.pb x,v,hd=>by simp only[rnD,Zab] at hd ⊢;exact hd
 | n+1,.pn x,v,hd=>by simp only[rnD,Zab] at hd ⊢;exact hd
 | n+1,.nils,v,hd=>by simp only[rnD,Zab] at hd ⊢;exact hd
 | n+1,.nilP,v,hd=>by simp only[rnD,Zab] at hd ⊢;exact hd
 | n+1,.nilF,v,hd=>by simp only[rnD,Zab] at hd ⊢;exact hd
 | n+1,.nilI,v,hd=>by simp only[rnD,Zab] at hd ⊢;exact hd
 | n+1,.fp r o,v,hd=>by simp only[rnD,Zab] at hd ⊢;exact hd
 | n+1,.any,v,hd=>by simp only[rnD,Zab]
 | n+1,.row i,v,hd=>by
  simp only[rnD,Zab] at hd ⊢;cases ho:h'[i]? with
  | none=>rw[ho] at hd;exact hd.elim
  | some o =>
   obtain ⟨h1,h2⟩:=hf i o ho;rw[h1,h2];rw[ho] at hd;cases o<;>simp_all [rnO]
 | n+1,.rs i lo k,v,hd=>by
  simp only[rnD,Zab] at hd ⊢;cases ho:h'[i]? with
  | none=>rw[ho] at hd;exact hd.elim
  | some o =>
   obtain ⟨h1,h2⟩:=hf i o ho;rw[h1,h2];rw[ho] at hd;cases o<;>simp_all [rnO]
 | n+1,.ptr i off,v,hd=>by
  simp only[rnD,Zab] at hd ⊢;cases ho:h'[i]? with
  | none=>rw[ho] at hd;exact hd.elim
  | some o =>
   obtain ⟨h1,h2⟩:=hf i o ho;rw[h1,h2];rw[ho] at hd;cases o<;>simp_all [rnO]
 | n+1,.el i j off,v,hd=>by
  simp only[rnD,Zab] at hd ⊢;cases ho:h'[i]? with
  | none=>rw[ho] at hd;exact hd.elim
  | some o =>
   obtain ⟨h1,h2⟩:=hf i o ho;rw[h1,h2];rw[ho] at hd;cases o<;>simp_all [rnO]
 | n+1,.fn g fs cs,v,hd=>by simp only[rnD,Zab] at hd ⊢;obtain ⟨us,ts,hv,h1,h2⟩:=hd;exact ⟨us,ts,hv,ZhH hf n fs us h1,ZhH hf n cs ts h2⟩
 | n+1,.iface t x,v,hd=>by simp only[rnD,Zab] at hd ⊢;obtain ⟨u,hv,h1⟩:=hd;exact ⟨u,hv,Zp5 hf n x u h1⟩
 | n+1,.agg cs,v,hd=>by simp only[rnD,Zab] at hd ⊢;obtain ⟨us,hv,h1⟩:=hd;exact ⟨us,hv,ZhH hf n cs us h1⟩
 | n+1,.tuple cs,v,hd=>by simp only[rnD,Zab] at hd ⊢;obtain ⟨us,hv,h1⟩:=hd;exact ⟨us,hv,ZhH hf n cs us h1⟩
theorem ZhH (hf:∀(i:Nat) (o:Obj),h'[i]?=some o->H[f i]?=some (rnO f o)/\γ (f i)=β' i):∀(n:Nat) (ds:List D) (vs:List Value),Zaa h' β' V' w' ds vs->Zaa H γ V' w' (ds.map (rnD f n)) vs
 | n,[],vs,hd=>by simp only[Zaa,YaI] at hd ⊢;exact hd
 | n,d :: ds,vs,hd=>by simp only[Zaa,Yan] at hd ⊢;obtain ⟨v,us,hv,h1,h2⟩:=hd;exact ⟨v,us,hv,Zp5 hf n d v h1,ZhH hf n ds us h2⟩
end
end
theorem ZlJ {src:List Src} {b:Nat} {f:Nat->Nat} {h':Zae}:∀(l:Zae) (p j:Nat),(ZrQ src b f h' p l)[j]?=(l[j]?).map (ZBG src b f h' (p+j))
 | [],p,j=>by simp[ZrQ]
 | o :: l,p,0=>by simp[ZrQ]
 | o :: l,p,j+1=>by simp only[ZrQ,List.getElem?_cons_succ];rw[ZlJ l (p+1) j,show p+1+j=p+(j+1) from by omega]
theorem Zd5 {src:List Src} {b:Nat} {f:Nat->Nat} {h':Zae}:∀(l:Zae) (p:Nat),(ZrQ src b f h' p l).length=l.length
 | [],p=>rfl
 | o :: l,p=>by simp only[ZrQ,List.length_cons,Zd5 l (p+1)]
theorem Zoo:∀{l:List Nat} {i j:Nat},l[i]?=some j->atN l i=j
 | [],i,j,h=>by simp at h
 | a :: l,0,j,h=>by simpa [atN] using h
 | a :: l,i+1,j,h=>by simp only[atN];exact Zoo (by simpa using h)
theorem Zf3 (f:Nat->Nat) (o:Obj):(rnO f o).live=o.live:=by cases o<;>rfl
theorem ZkV (f:Nat->Nat) (o:Obj) (v:Value) (k:Nat):Bk (rnO f o) v k↔Bk o v k:=by cases o<;>exact Ya3
theorem Zi0 {h:Zae} {i:Nat} (hb:Zsf h i=true):∃cs t,h[i]?=some (.blk cs t):=by
 unfold Zsf at hb;split at hb
 ·rename_i cs t e;exact ⟨cs,t,e⟩
 ·cases hb
theorem ZBx {o o':Obj} (f:Nat->Nat) (h:OLe o o'):OLe o (rnO f o'):=by cases o<;>cases o'<;>simp_all [OLe,rnO]
theorem Zrs {h:Zae} {src:List Src} {j:Nat} {o:Obj} (hj:h[j]?=some o):OLe o (Zbn h src (.old j)):=by
 cases o<;>simp[Zbn,hj,OLe]
theorem ZhA {a b c:Obj} (h:OLe a b) (k:OLe b c) (hl:c.live=true):OLe a c:=by
 cases a<;>cases b<;>cases c<;>simp_all [OLe,Obj.live]
theorem ZtR {h:Zae} {σ:List Nat} {b:Nat} {own:Nat->Prop} {h':Zae} {β':Nat->Value} {V':Nat->Prop} {w':World} (hr:RelD C h β V w) (hs:Zef (σ.map .old)=true)
  (bt:∀i∈σ,∃o,h[i]?=some o) (ak:∀k,own k->∃i o,i∈σ/\h[i]?=some o/\o.live=true/\Bk o (β i) k)
  (hc:RelD ⟨w,own,V,C.G⟩ h' β' V' w') (hk:∀i,i < b->∃j o o',σ[i]?=some j/\h[j]?=some o/\h'[i]?=some o'/\OLe o o'/\β' i=β j) :
  RelD C (Ziy h σ b h') (λj=>if j < h.length then β j else β' (j - h.length+b)) V' w'/\LeH h β (Ziy h σ b h') (λj=>if j < h.length then β j else β' (j - h.length+b))/\ZaI V w V' w' /\
   ∀(i:Nat) (o:Obj),h'[i]?=some o->(Ziy h σ b h')[rnI σ b h.length i]?=some (rnO (rnI σ b h.length) o)/\(λj=>if j < h.length then β j else β' (j - h.length+b)) (rnI σ b h.length i)=β' i:=by
 generalize hγ:(λj=>if j < h.length then β j else β' (j - h.length+b))=γ;have left:∀j,j < h.length->γ j=β j:=λj hj=>by rw[<- hγ];simp[hj]
 have right:∀j,h.length<=j->γ j=β' (j - h.length+b):=λj hj=>by rw[<- hγ];simp[Nat.not_lt.2 hj]
 have σlt:∀{k j:Nat},σ[k]?=some j->j < h.length:=fun {k j} oq=>by obtain ⟨o,ho⟩:=bt j (YaL oq);exact (Yac.1 ho).1
 have F1:∀(i:Nat) (o:Obj),h'[i]?=some o->(Ziy h σ b h')[rnI σ b h.length i]?=some (rnO (rnI σ b h.length) o)/\γ (rnI σ b h.length i)=β' i:=by
  intro i o hi;by_cases fI:i < b
  ·obtain ⟨j,_,_,hj,_,_,_,hβ⟩:=hk i fI;have e:rnI σ b h.length i=j:=by unfold rnI;rw[show Nat.blt i b=true from Ybo fI];exact Zoo hj
   have aD:=σlt hj;obtain ⟨q,hq,lH⟩:=ZlZ (YaL hj);have:=ZoS hs lH hj;subst this;rw[e,left j aD];refine ⟨?_,hβ.symm⟩;unfold Ziy;rw[Yal (by rw[Zd5];exact aD),ZlJ,YaA,Yak aD];unfold ZBG;rw[hq];simp only[Option.map_some,show Nat.blt q b=true from Ybo fI,cond_true,hi]
  ·have e:rnI σ b h.length i=i - b+h.length:=by
    unfold rnI;rw[show Nat.blt i b=false from by
     cases hx:Nat.blt i b with
     | false=>rfl
     | true=>exact absurd (Yau hx) fI]
    rfl
   rw[e,right _ (by omega)];refine ⟨?_,by congr 1;omega⟩;unfold Ziy;rw[Yaj (by rw[Zd5];omega),Zd5,Ya6,YaE,YaT,show b+(i - b)=i from by omega,hi];rfl
 have F2:∀(j:Nat) (o:Obj),(Ziy h σ b h')[j]?=some o->(j < h.length/\j ∉ σ/\h[j]?=some o)\/o=.dead\/∃i o',h'[i]?=some o'/\o=rnO (rnI σ b h.length) o'/\j=rnI σ b h.length i/\γ j=β' i:=by
  intro j o hj;by_cases aD:j < h.length
  ·have cn:=hj;unfold Ziy at hj;rw[Yal (by rw[Zd5];exact aD),ZlJ,YaA,Yak aD] at hj;simp only[Option.map_some,Ybg] at hj;unfold ZBG at hj;cases hq:kp (σ.map .old) 0 j with
   | none =>
    rw[hq] at hj;refine .inl ⟨aD,λhm=>?_,by rw[<- hj];exact Yak aD⟩;obtain ⟨k,ae,_⟩:=ZlZ hm;rw[hq] at ae;cases ae
   | some k =>
    rw[hq] at hj;simp only at hj;cases kN:Nat.blt k b with
    | false=>rw[kN] at hj;exact .inr (.inl hj.symm)
    | true =>
     rw[kN] at hj;simp only[cond_true] at hj;have we:k < b:=Yau kN;cases ho:h'[k]? with
     | none=>rw[ho] at hj;exact .inr (.inl hj.symm)
     | some o' =>
      rw[ho] at hj;have hσ:=ZAr hq;have e:rnI σ b h.length k=j:=by unfold rnI;rw[kN];exact Zoo hσ
      exact .inr (.inr ⟨k,o',ho,hj.symm,e.symm,by rw[<- e];exact (F1 k o' ho).2⟩)
  ·unfold Ziy at hj;rw[Yaj (by rw[Zd5];omega),Zd5,YaE,YaT] at hj;cases ho:h'[b+(j - h.length)]? with
   | none=>rw[ho] at hj;cases hj
   | some o' =>
    rw[ho] at hj;simp only[Option.map_some,Ybg] at hj;refine .inr (.inr ⟨_,o',ho,hj.symm,?_,by rw[right j (by omega)];congr 1;omega⟩);unfold rnI;rw[show Nat.blt (b+(j - h.length)) b=false from by
     cases hx:Nat.blt (b+(j - h.length)) b with
     | false=>rfl
     | true=>exact absurd (Yau hx) (by omega)]
    show j=b+(j - h.length) - b+h.length;omega
 have F3:∀(i i':Nat) (o o':Obj),h'[i]?=some o->h'[i']?=some o'->rnI σ b h.length i=rnI σ b h.length i'->i=i':=by
  have val:∀i,(i < b/\∃j,σ[i]?=some j/\rnI σ b h.length i=j/\j < h.length)\/(b<=i/\rnI σ b h.length i=i - b+h.length):=λi=>by
   by_cases fI:i < b
   ·obtain ⟨j,_,_,hj,_,_,_,_⟩:=hk i fI;refine .inl ⟨fI,j,hj,?_,σlt hj⟩;unfold rnI;rw[show Nat.blt i b=true from Ybo fI];exact Zoo hj
   ·refine .inr ⟨by omega,?_⟩;unfold rnI;rw[show Nat.blt i b=false from by
     cases hx:Nat.blt i b with
     | false=>rfl
     | true=>exact absurd (Yau hx) fI]
    rfl
  intro i i' o o' _ _ e;rcases val i with ⟨_,j,hj,e1,hl⟩ | ⟨bG,e1⟩<;>rcases val i' with ⟨_,j',cn,e2,bQ⟩ | ⟨cE,e2⟩
  ·rw[e1,e2] at e;subst e;exact ZoS hs hj cn
  ·omega
  ·omega
  ·omega
 have fB:∀(j:Nat) (o:Obj) (k:Nat),j ∉ σ->h[j]?=some o->o.live=true->Bk o (β j) k->¬own k:=λj o k hj ho hl hk hw=>by obtain ⟨i,o',hi,h1,h2,h3⟩:=ak k hw;have:=hr.sep j i o o' k ho hl h1 h2 hk h3;subst this;exact hj hi
 have hm:ZaI V w V' w':=λk ae=>⟨hc.vin k ae,hc.fr.block k (hr.vlt k ae) (λhw=>by
  obtain ⟨i,o',_,h1,h2,h3⟩:=ak k hw;exact hr.vout i o' k h1 h2 h3 ae)⟩
 have hle:LeH h β (Ziy h σ b h') γ:=by
  intro j o hj;have aD:j < h.length:=(Yac.1 hj).1;have mT:j < (Ziy h σ b h').length:=by unfold Ziy;rw[Yab,Zd5];omega
  rcases F2 j _ (Yak mT) with ⟨_,_,h1⟩ | h1 | ⟨i,o',hi,h1,e,hg⟩
  ·rw[hj] at h1;injection h1 with h1;exact ⟨_,Yak mT,by rw[<- h1];exact OLe.refl o,λ_=>left j aD⟩
  ·exact ⟨_,Yak mT,by rw[h1];simp[OLe],λhl=>by rw[h1] at hl;cases hl⟩
  ·refine ⟨_,Yak mT,?_,λ_=>left j aD⟩;rw[h1];have fI:i < b:=by
    apply YaN;intro hn;have:rnI σ b h.length i=i - b+h.length:=by
     unfold rnI;rw[show Nat.blt i b=false from by
      cases hx:Nat.blt i b with
      | false=>rfl
      | true=>exact absurd (Yau hx) hn]
     rfl
    omega
   obtain ⟨j',o0,o1,cn,cE,bG,hole,_⟩:=hk i fI;have ej:j=j':=by rw[e];unfold rnI;rw[show Nat.blt i b=true from Ybo fI];exact Zoo cn
   subst ej;rw[hi] at bG;injection bG with bG;rw[hj] at cE;injection cE with cE;rw[bG,cE];exact ZBx _ hole
 refine ⟨⟨λj o hj=>?_,λj1 j2 o1 o2 k h1 l1 h2 l2 k1 k2=>?_,λj o k hj hl ae=>?_,λj o k hj hl ae=>?_,hc.vlt,λk ae=>hc.vin k (hr.vin k ae),λk ae=>?_,?_,hc.gl⟩,hle,hm,F1⟩
 ·rcases F2 j o hj with ⟨aD,hjσ,h1⟩ | rfl | ⟨i,o',hi,rfl,e,hg⟩
  ·cases fb:o.live with
   | false=>cases o<;>simp_all [Obj.live,Zco]
   | true=>exact (hr.obj j o h1).keep hle hm (left j aD) (λk ae=>hc.fr.block k (hr.lt h1 fb ae) (fB j o k hjσ h1 fb ae))
  ·trivial
  ·have bB:=hc.obj i o' hi;cases o' with
   | dead=>trivial
   | blk cs t =>obtain ⟨g,vs,hb,iZ,aU⟩:=bB;exact ⟨g,vs,hg.trans hb,iZ,ZhH F1 4 cs vs aU⟩
   | row xs e' sz =>obtain ⟨vs,cO,rest⟩:=bB;exact ⟨vs,by rw[hg];exact cO,rest⟩
   | many l ts =>refine ⟨bB.1,bB.2.1,λt ht=>?_⟩;obtain ⟨q,hq,e⟩:=Zo4 ht;obtain ⟨o',aP,hb⟩:=bB.2.2 _ hq;obtain ⟨f1,f2⟩:=F1 _ _ aP;refine ⟨_,by rw[<- e];exact f1,λhl=>?_⟩;rw[<- e];exact f2.trans (hb (by rwa [Zf3] at hl))
 ·rcases F2 j1 o1 h1 with ⟨a1,a2,a3⟩ | rfl | ⟨i,oi,hi,rfl,e1,g1⟩<;>rcases F2 j2 o2 h2 with ⟨b1,b2,b3⟩ | rfl | ⟨i',sV,bc,rfl,e2,g2⟩
  ·rw[left j1 a1] at k1;rw[left j2 b1] at k2;exact hr.sep j1 j2 o1 o2 k a3 l1 b3 l2 k1 k2
  ·cases l2
  ·rw[left j1 a1] at k1;rw[g2,ZkV] at k2;rw[Zf3] at l2;rcases hc.mine i' sV k bc l2 k2 with h3 | h3
   ·exact absurd (hr.lt a3 l1 k1) (YbB.2 h3)
   ·exact absurd h3 (fB j1 o1 k a2 a3 l1 k1)
  ·cases l1
  ·cases l1
  ·cases l1
  ·rw[left j2 b1] at k2;rw[g1,ZkV] at k1;rw[Zf3] at l1;rcases hc.mine i oi k hi l1 k1 with h3 | h3
   ·exact absurd (hr.lt b3 l2 k2) (YbB.2 h3)
   ·exact absurd h3 (fB j2 o2 k b2 b3 l2 k2)
  ·cases l2
  ·rw[g1,ZkV] at k1;rw[g2,ZkV] at k2;rw[Zf3] at l1 l2;have:=hc.sep i i' oi sV k hi l1 bc l2 k1 k2;subst this;rw[e1,e2]
 ·rcases F2 j o hj with ⟨a1,a2,a3⟩ | rfl | ⟨i,oi,hi,rfl,e1,g1⟩
  ·rw[left j a1] at ae;exact hr.mine j o k a3 hl ae
  ·cases hl
  ·rw[g1,ZkV] at ae;rw[Zf3] at hl;rcases hc.mine i oi k hi hl ae with h3 | h3
   ·exact .inl (YaC hr.fr.size h3)
   ·obtain ⟨i',o',_,q1,q2,q3⟩:=ak k h3;exact hr.mine i' o' k q1 q2 q3
 ·rcases F2 j o hj with ⟨a1,a2,a3⟩ | rfl | ⟨i,oi,hi,rfl,e1,g1⟩
  ·rw[left j a1] at ae;intro hv;rcases hc.vnew k hv with h3 | h3 | h3
   ·exact hr.vout j o k a3 hl ae h3
   ·exact absurd (hr.lt a3 hl ae) (YbB.2 h3)
   ·exact fB j o k a2 a3 hl ae h3
  ·cases hl
  ·rw[g1,ZkV] at ae;rw[Zf3] at hl;exact hc.vout i oi k hi hl ae
 ·rcases hc.vnew k ae with h3 | h3 | h3
  ·exact hr.vnew k h3
  ·exact .inr (.inl (YaC hr.fr.size h3))
  ·obtain ⟨i',o',_,q1,q2,q3⟩:=ak k h3;exact .inr (hr.mine i' o' k q1 q2 q3)
 ·refine ⟨hc.fr.os.trans hr.fr.os,hc.fr.tape.trans hr.fr.tape,hc.fr.output.trans hr.fr.output,YaC hr.fr.size hc.fr.size,λk ae hn=>?_⟩;rw[hc.fr.block k (YaX ae hr.fr.size) (λhw=>?_)]
  ·exact hr.fr.block k ae hn
  ·obtain ⟨i',o',_,q1,q2,q3⟩:=ak k hw;rcases hr.mine i' o' k q1 q2 q3 with h3 | h3
   ·omega
   ·exact hn h3
theorem Zns {h:Zae} (hr:RelD C h β V w):RelD ⟨w,ZiA h β,V,C.G⟩ h β V w :=
 ⟨hr.obj,hr.sep,λi o _ hi hl hk=>.inr ⟨i,o,hi,hl,hk⟩,hr.vout,hr.vlt,λ_ hk=>hk,λ_ hk=>.inl hk,Fr.refl _ _,hr.gl⟩
theorem Zkg {all:List D} {aa:List Value} {g:FuncId} (hr:RelD C st.h β V w) (hN:Nx C st.h β V w K next) (hP:Px C st.h β V w Qp qp) (av:Zaa st.h β V w all aa) (ho:Zdh P C.G g all st.h K Qp) :
  Calls P g ⟨aa⟩ w fun
   | .returned v,bH=>next v bH
   | .panicked ch,bH=>qp ch bH
   | .outgrown,_=>False:=by
 obtain ⟨σ,b,hin,as,Q,bt,bm,ht,ff,hk,hp⟩:=ho;simp only[ZgK,Yag,Ybf] at bt;have o7:∀j∈ZcT all,j∈σ:=λj hj=>Zpo.1 (bt.1 j hj);have eT:∀i∈σ,∃o,st.h[i]?=some o/\∀j∈ZCi o,j∈σ:=λi hi=>by
  have:=bt.2 i hi;cases ho:st.h[i]? with
  | none=>rw[ho] at this;cases this
  | some o =>rw[ho] at this;exact ⟨o,rfl,λj hj=>Zpo.1 (Ybf.1 this j hj)⟩
 have bm:=Yau bm;have eC:=Zyt hr ht.ok eT;have c6:Zky (ZjJ (σ.map .old)) (ZbW st.h (σ.map .old)) hin:=by
  rcases ht.hp with e | e
  ·rw[<- e];exact Zdd _ _
  ·exact e
 have h3:=Znx eC c6 (λj hj=>ZlU hj) (Zgz ht.nr);have h4:=Zns h3;have an:Zaa (ZbW st.h (σ.map .old)) (Zbd (σ.map .old) β) V w (all.map (conv st.h (σ.map .old) 4)) aa :=
  Zcx hr (λ_=>False) (λ_ hk=>hk) (λ_ _ _ hz=>hz.elim) 4 all aa (λd hd i hi hn=>by
   obtain ⟨k,hk,_⟩:=ZlZ (o7 i (ZhT hd i hi (λj hj=>hj)));rw[hn] at hk;cases hk) av
 have h5:=Zaa.mono (Zl5 (β:=Zbd (σ.map .old) β) c6) (ZaI.refl _ w) _ _ an;have h6:Zaa hin (Zbd (σ.map .old) β) V w as aa:=by
  rcases ht.dl with h | h
  ·rw[<- h];exact h5
  ·exact ZcR (ZiX (N:=ZjJ (σ.map .old)) (λj hj=>⟨(ZlU (h:=[]) hj).1,Zgz ht.nr j hj⟩) 4) _ _ _ h h5
 have hβ:∀{i j:Nat},σ[i]?=some j->Zbd (σ.map .old) β i=β j:=fun {i j} kO=>by simp[Zbd,kO]
 have ak:∀k,ZiA hin (Zbd (σ.map .old) β) k->∃i o,i∈σ/\st.h[i]?=some o/\o.live=true/\Bk o (β i) k:=by
  rintro k ⟨i,o,hi,hl,oY⟩;obtain ⟨o0,cU,aT⟩:=(ZcS c6).2 i o hi;have bC:=Zdc aT hl;unfold ZbW at cU;rw[YaE,YaE] at cU;cases hσ:σ[i]? with
  | none=>rw[hσ] at cU;cases cU
  | some j =>
   rw[hσ] at cU;simp only[Option.map_some,Ybg] at cU;subst cU;rw[hβ hσ] at oY;have mr:=Zf5 aT hl oY;obtain ⟨oj,lJ,_⟩:=eT j (YaL hσ);cases oj with
   | dead=>simp[Zbn,lJ,Obj.live] at bC
   | blk cs t=>exact ⟨j,_,YaL hσ,lJ,rfl,by simpa only[Zbn,lJ,Bk] using mr⟩
   | row xs e sz=>exact ⟨j,_,YaL hσ,lJ,rfl,by simpa only[Zbn,lJ,Bk] using mr⟩
   | many l ts=>exact ⟨j,_,YaL hσ,lJ,rfl,by simpa only[Zbn,lJ,Bk] using mr⟩
 have stays:∀{h':Zae} {β':Nat->Value},(∀i,i < b->Zox hin h' (Zbd (σ.map .old) β) β' i)->∀i,i < b->∃j o o',σ[i]?=some j/\st.h[j]?=some o/\h'[i]?=some o'/\OLe o o'/\β' i=β j:=fun {h' β'} eI i hi=>by
  have az:i < σ.length:=by omega
  have hσ:σ[i]?=some σ[i]:=Yak az;obtain ⟨o,ho,_⟩:=eT σ[i] (Yai az);obtain ⟨⟨oi,o',h1,h2,h3,h4⟩,h5⟩:=eI i hi;obtain ⟨o0,cU,aT⟩:=(ZcS c6).2 i oi h1;have he:o0=Zbn st.h (σ.map .old) (.old σ[i]):=by unfold ZbW at cU;rw[YaE,YaE,hσ] at cU;simp only[Option.map_some,Ybg] at cU;exact cU.symm
  refine ⟨σ[i],o,o',hσ,ho,h2,ZhA (Zrs (src:=σ.map .old) ho) (ZhA ?_ h3 h4) h4,h5.trans (hβ hσ)⟩;rw[<- he];exact Zl2 aT
 refine (ff w _ V aa h4 h6).mono λe w' he=>?_;cases e with
 | returned v =>obtain ⟨d,h',β',V',hq,ab,hd,eI⟩:=he;obtain ⟨q1,q2,q3,q4⟩:=ZtR hr ht.ok (λi hi=>by obtain ⟨o,ho,_⟩:=eT i hi;exact ⟨o,ho⟩) ak ab (stays eI);exact hN _ _ v w' _ _ (hk d h' hq) q1 (Zp5 q4 4 d v hd) q2 q3
 | panicked ch =>obtain ⟨d,h',t,u,β',V',rfl,hq,ab,hd,eI⟩:=he;obtain ⟨q1,q2,q3,q4⟩:=ZtR hr ht.ok (λi hi=>by obtain ⟨o,ho,_⟩:=eT i hi;exact ⟨o,ho⟩) ak ab (stays eI);exact hP _ _ t u w' _ _ (hp d h' hq) q1 (Zp5 q4 4 d _ hd) q2 q3
 | outgrown=>exact he.elim
theorem ZAz (hr:RelD C st.h β V w) (he:ZbS st β V w a) (hN:Nx C st.h β V w K next) (hP:Px C st.h β V w Qp qp) (hF:∀g,F g=true->fnOk P g=true) {f:Operand} {args:Array Operand} {ts:Array TypeId} {o:Oper} (ho:o.op=.call { callee:=.value f,args:=args,argTypes:=ts })
  (h:ZaN P T F C.G (.call { callee:=.value f,args:=args,argTypes:=ts }) st K Qp):Zbu P next qp ((execOp a.eval o).run P w):=by
 simp only[ZaN] at h;have hf:=he.eval hr.gl f;split at h
 ·rename_i g fs cs ef;rw[ef] at hf;simp only[Zab] at hf;obtain ⟨us,ts',wC,ft,cG⟩:=hf;have main:fnOk P g=true->(∀aa:List Value,Zaa st.h β V w (fs++(args.toList.map (sv C.G st)++cs)) aa->Calls P g ⟨aa⟩ w fun
    | .returned v,bH=>next v bH
    | .panicked ch,bH=>qp ch bH
    | .outgrown,_=>False)->Zbu P next qp ((execOp a.eval o).run P w):=by
   intro eM b7;unfold fnOk at eM;cases oF:P.funcs[g]? with
   | none=>rw[oF] at eM;cases eM
   | some fn =>
    rw[oF] at eM;simp only[Yag,YaS] at eM;obtain ⟨jw,iY⟩:=eM
    have pL : ¬ fn.name = "runtime.NumGoroutine" := by simpa using jw
    have iW:¬ fn.body=none:=by intro hb;rw[hb] at iY;cases iY
    have av:Zaa st.h β V w (fs++(args.toList.map (sv C.G st)++cs)) (us++(args.toList.map a.eval++ts')):=ft.append ((ZzB hr he _).append cG);have r4:(⟨us⟩:Array Value)++args.map a.eval++⟨ts'⟩=⟨us++(args.toList.map a.eval++ts')⟩:=by apply Ycf;simp
    have:(execOp a.eval o).run P w=.ok (.enter g ⟨us++(args.toList.map a.eval++ts')⟩) w:=by rw[<- r4];simp[execOp,ho,resolve,invoke,Deferred.ofValue,callFunc,wC,oF,pL,iW]
    rw[this];exact b7 _ av
  cases hg:F g with
  | false =>
   rw[hg] at h;simp only[cond_false,Zba] at h;rcases h with ⟨h1,h2 | h2⟩
   ·exact main h1 (λaa av=>Zkg hr hN hP av h2)
   ·refine main h1 (λaa av=>(h2 C w β V aa rfl hr av).mono λe w' he=>?_);cases e with
    | returned v=>obtain ⟨d,h',β',V',q1,q2,q3,q4,q5⟩:=he;exact hN _ _ _ _ _ _ q1 q2 q3 q4 q5
    | panicked ch=>obtain ⟨d,h',t,u,β',V',rfl,q1,q2,q3,q4,q5⟩:=he;exact hP _ _ _ _ _ _ _ q1 q2 q3 q4 q5
    | outgrown=>exact he.elim
  | true =>
   rw[hg] at h;simp only[cond_true,Zba] at h;rcases Zpe h with ⟨as,Q,hl,ff,hk,hp⟩ | h2
   ·exact main (hF g hg) (λaa av=>Zsz hr hN hP av hl ff hk hp)
   ·refine main (hF g hg) (λaa av=>(h2 C w β V aa rfl hr av).mono λe w' he=>?_);cases e with
    | returned v=>obtain ⟨d,h',β',V',q1,q2,q3,q4,q5⟩:=he;exact hN _ _ _ _ _ _ q1 q2 q3 q4 q5
    | panicked ch=>obtain ⟨d,h',t,u,β',V',rfl,q1,q2,q3,q4,q5⟩:=he;exact hP _ _ _ _ _ _ _ q1 q2 q3 q4 q5
    | outgrown=>exact he.elim
 ·exact h.elim
theorem ZjF (hT:TabOk P T) (hF:∀g,F g=true->fnOk P g=true) {o:Oper} (h:ZaN P T F C.G o.op st K Qp) (hr:RelD C st.h β V w) (he:ZbS st β V w a) (hN:Nx C st.h β V w K next) (hP:Px C st.h β V w Qp qp):Zbu P next qp ((execOp a.eval o).run P w):=by
 generalize ho:o.op=op at h;cases op with
 | move x=>exact ZxD hr he hN (.inl ho) h
 | assign x=>exact ZxD hr he hN (.inr ho) h
 | pick c x y=>exact ZAv hr he hN ho h
 | alloc t=>exact ZyU hr hN hT ho h
 | box t x=>exact ZB0 hr he hN ho h
 | build t parts=>exact ZyT hr he hN hT ho h
 | buildSlice t len parts=>exact Zm9 hr he hN hT ho h
 | makeSlice t l c=>exact ZoZ hr he hN hT ho h
 | load t x=>exact ZAx hr he hN hT ho h
 | store t x y=>exact ZyN hr he hN hT ho h
 | nilCheck x=>exact ZrN hr he hN ho h
 | binOp op t x y t'=>exact ZB1 hr he hN hT ho h
 | unOp op t x=>exact ZC0 hr he hN ho h
 | convert s t x=>exact ZtB hr he hN hT ho h
 | fieldAddr s x f=>exact Zo1 hr he hN hT ho h
 | indexAddr t x ix=>exact Zo0 hr he hN hT ho h
 | index t x ix=>exact ZyQ hr he hN hT ho h
 | slice t x lo hi mx =>
  cases mx with
  | none=>exact ZyO hr he hN hT ho h
  | some m=>exact h.elim
 | extract x i=>exact ZtA hr he hN ho h
 | field t x f=>exact ZyR hr he hN ho h
 | makeFunc fn first captured=>exact ZrO hr he hN ho h
 | makeInterface t x=>exact Zjw hr he hN hT ho h
 | panic x=>exact ZyP hr he ho h hP
 | call c =>
  obtain ⟨callee,args,ts⟩:=c;cases callee with
  | value f=>exact ZAz hr he hN hP hF ho h
  | invoke r m=>exact h.elim
  | builtin b =>
   cases b<;>first | exact ZBZ hr he hN hT ho h | exact ZBY hr he hN ho h | exact ZBX hr he hN ho h | exact Zv7 hr he hN hT ho h | exact ZAy hr he hN hT ho h | exact ZyS hr he hN hT ho h | exact h.elim
 | _=>exact h.elim
end
def closed:Nat->D->Bool
 | 0,_=>false
 | n+1,d=>match d with
  | .row _ | .rs _ _ _ | .ptr _ _ | .el _ _ _=>false
  | .fn _ fs cs=>fs.all (closed n) && cs.all (closed n)
  | .iface _ x=>closed n x
  | .agg cs=>cs.all (closed n)
  | .tuple cs=>cs.all (closed n)
  | _=>true
theorem Zh6 {h h':Zae} {β β':Nat->Value} {V V':Nat->Prop} {w w':World} (hV:ZaI V w V' w'):∀(n:Nat) (d:D) (v:Value),closed n d=true->Zab h β V w d v->Zab h' β' V' w' d v:=by
 intro n
 induction n with
 | zero=>intro d v hf;cases hf
 | succ n ih =>
  intro d v hf hd;have list:∀(ds:List D) (vs:List Value),ds.all (closed n)=true->Zaa h β V w ds vs->Zaa h' β' V' w' ds vs:=by
   intro ds
   induction ds with
   | nil=>intro vs _ h;simp only[Zaa] at h ⊢;exact h
   | cons d ds nF =>intro vs hf h;simp only[List.all_cons,Yag] at hf;simp only[Zaa] at h ⊢;obtain ⟨v,us,hv,h1,h2⟩:=h;exact ⟨v,us,hv,ih d v hf.1 h1,nF us hf.2 h2⟩
  cases d with
  | g x=>simp only[Zab] at hd ⊢;exact ZaS.move hV _ _ hd
  | fp r o=>simp only[Zab] at hd ⊢;obtain ⟨a,h1,h2,h3⟩:=hd;exact ⟨a,h1,(hV _ h2).1,Zav.move hV h2 _ _ h3⟩
  | row i=>simp[closed] at hf
  | rs i lo k=>simp[closed] at hf
  | ptr i o=>simp[closed] at hf
  | el i j o=>simp[closed] at hf
  | fn f fs cs =>simp only[closed,Yag] at hf;simp only[Zab] at hd ⊢;obtain ⟨us,ts,hv,h1,h2⟩:=hd;exact ⟨us,ts,hv,list fs us hf.1 h1,list cs ts hf.2 h2⟩
  | iface t x =>simp only[closed] at hf;simp only[Zab] at hd ⊢;obtain ⟨u,hv,h1⟩:=hd;exact ⟨u,hv,ih x u hf h1⟩
  | agg cs =>simp only[closed] at hf;simp only[Zab] at hd ⊢;obtain ⟨us,hv,h1⟩:=hd;exact ⟨us,hv,list cs us hf h1⟩
  | tuple cs =>simp only[closed] at hf;simp only[Zab] at hd ⊢;obtain ⟨us,hv,h1⟩:=hd;exact ⟨us,hv,list cs us hf h1⟩
  | any=>simp only[Zab]
  | _=>simp only[Zab] at hd ⊢;exact hd
section
variable {P:Program} {T:Tab} {F:FuncId->Bool} {G:Gl}
def Zkq:Op->Bool
 | .alloc _ | .box _ _ | .buildSlice _ _ _ | .makeSlice _ _ _ | .store _ _ _=>true
 | .call { callee:=.builtin .append,.. }=>true
 | _=>false
def Zd8:Op->Bool
 | .store _ _ _=>true
 | .buildSlice _ _ _=>true
 | .call { callee:=.builtin .append,args,.. }=>match args.toList with
  | .const (.slice none _ _) :: _=>false
  | _=>true
 | _=>false
def Ex (h h':Zae):Prop:=∀(i:Nat) (o:Obj),h[i]?=some o->h'[i]?=some o
theorem Ex.refl (h:Zae):Ex h h:=λ_ _ h=>h
theorem Ex.trans {a b c:Zae} (h:Ex a b) (k:Ex b c):Ex a c:=λi o hi=>k i o (h i o hi)
theorem Ex.app (h k:Zae):Ex h (h++k):=λi o hi=>by have hl:i < h.length:=(Yac.1 hi).1;rw[Yal hl];exact hi
def Zko (h:Zae):List Nat->Bool
 | []=>true
 | i :: l=>(match h[i]? with | some _=>true | none=>false) && Zko h l
def ZsZ (P:Program) (F:FuncId->Bool) (G:Gl) (f:Operand) (args:Array Operand) (st:St) (K:D->Prop):Prop :=
 match sv G st f with
 | .fn g fs cs=>bif F g then Zcd (fs++(args.toList.map (sv G st)++cs)) λall =>
   ∃as d,Ze0 (all.map (conv st.h [] 4)) as/\CT P G g as (Is d)/\((closed 4 d && (ZcQ 4 d || Zsd (ZcT all)) && Zko st.h (ZcT all))=true)/\K d
  else Zcd (fs++(args.toList.map (sv G st)++cs)) λall=>fnOk P g=true/\∃d,(∀h',Ex st.h h'->CTR P G g all h' d)/\K d
 | _=>False
def vcQ (P:Program) (T:Tab) (F:FuncId->Bool) (G:Gl) (o:Op) (st:St) (K:D->Prop):Prop :=
 match o with
 | .call { callee:=.value f,args,.. }=>ZsZ P F G f args st K
 | .call { callee:=.builtin .copy,.. }=>False
 | .call { callee:=.builtin .clear,.. }=>False
 | .panic _=>False
 | .binOp op t x y _=>match T t with
  | some { kind:=.bool,.. }=>ZeS op (sv G st x) (sv G st y) K
  | some { kind:=.slice _,.. }=>False
  | some { kind:=.struct _,.. }=>Zjf P t op (sv G st x) (sv G st y) K
  | _=>ZoJ op (sv G st x) (sv G st y) K
 | o=>ZaN P T F G o st (λd _=>K d) (λ_ _=>False)
def ZCS (G:Gl) (st st':St) (l:List Operand):Prop:=∀x∈l,sv G st x=sv G st' x
theorem Zot {h:Zae}:∀{l:List Nat},Zko h l=true->∀i∈l,∃o,h[i]?=some o
 | [],_,i,hi=>by simp at hi
 | a :: l,ha,i,hi=>by
  simp only[Zko,Yag] at ha;rcases Yav.1 hi with rfl | hi
  ·cases h1:h[i]? with
   | none=>rw[h1] at ha;exact absurd ha.1 (by simp)
   | some o=>exact ⟨o,rfl⟩
  ·exact Zot ha.2 i hi
theorem ZzK {h h':Zae} (hx:Ex h h'):∀(n:Nat) (d:D),(∀i∈ids n d,∃o,h[i]?=some o)->conv h' [] n d=conv h [] n d:=by
 intro n
 induction n with
 | zero=>intro d _;rfl
 | succ n ih =>
  intro d hi;have list:∀ds:List D,(∀d∈ds,∀i∈ids n d,∃o,h[i]?=some o)->ds.map (conv h' [] n)=ds.map (conv h [] n):=λds hd=>YbT (λd hm=>ih d (hd d hm));cases d with
  | row i=>obtain ⟨o,ho⟩:=hi i (by simp[ids]);simp only[conv,ho,hx _ _ ho]
  | rs i lo m=>obtain ⟨o,ho⟩:=hi i (by simp[ids]);simp only[conv,ho,hx _ _ ho]
  | ptr i off=>obtain ⟨o,ho⟩:=hi i (by simp[ids]);simp only[conv,ho,hx _ _ ho]
  | el i j off=>simp only[conv]
  | fn f fs cs =>simp only[conv];rw[list fs (λd hd i h1=>hi i (by simp only[ids,Yar,Ybe];exact .inl ⟨d,hd,h1⟩)),list cs (λd hd i h1=>hi i (by simp only[ids,Yar,Ybe];exact .inr ⟨d,hd,h1⟩))]
  | iface t x=>simp only[conv];rw[ih x (λi h1=>hi i (by simp only[ids];exact h1))]
  | agg cs=>simp only[conv];rw[list cs (λd hd i h1=>hi i (by simp only[ids,Ybe];exact ⟨d,hd,h1⟩))]
  | tuple cs=>simp only[conv];rw[list cs (λd hd i h1=>hi i (by simp only[ids,Ybe];exact ⟨d,hd,h1⟩))]
  | _=>rfl
theorem Zrg {h h':Zae} (hx:Ex h h') {all:List D} (ha:Zko h (ZcT all)=true):all.map (conv h' [] 4)=all.map (conv h [] 4) :=
 YbT (λd hd=>ZzK hx 4 d (λi hi=>Zot ha i (ZhT hd i hi (λ_ h=>h))))
theorem Zfu {h:Zae} {f f':Operand->D}:∀{l:List (Nat × Operand)},(∀p∈l,f p.2=f' p.2)->ZcP h f l=ZcP h f' l
 | [],_=>rfl
 | (i,o) :: l,hl=>by simp only[ZcP];rw[hl (i,o) Yae,Zfu (λp hp=>hl p (Yad _ hp))]
theorem ZhP {f f':Operand->D} {l:List Operand} (hl:∀x∈l,f x=f' x):l.map f=l.map f':=YbT hl
theorem ZhC {o:Op} {st st':St} (hh:st.h=st'.h) (hs:ZCS G st st' o.operands.toList) {K Qp:KD} (h:ZaN P T F G o st K Qp):ZaN P T F G o st' K Qp:=by
 have one:∀x,x∈o.operands->sv G st' x=sv G st x:=λx hx=>(hs x (by simpa using hx)).symm;have opt:∀q:Option Operand,(∀x∈q.toArray,x∈o.operands)->q.map (sv G st')=q.map (sv G st):=by
  intro q hq;cases q with
  | none=>rfl
  | some x=>simp only[Option.map_some];rw[one x (hq x (by simp))]
 cases o with
 | move x=>simp only[ZaN] at h ⊢;rw[one x (by simp[Op.operands]),<- hh];exact h
 | assign x=>simp only[ZaN] at h ⊢;rw[one x (by simp[Op.operands]),<- hh];exact h
 | pick c x y=>simp only[ZaN] at h ⊢;rw[one c (by simp[Op.operands]),one x (by simp[Op.operands]),one y (by simp[Op.operands]),<- hh];exact h
 | alloc t=>simp only[ZaN] at h ⊢;rw[<- hh];exact h
 | box t x=>simp only[ZaN] at h ⊢;rw[one x (by simp[Op.operands]),<- hh];exact h
 | build t parts =>
  have hp:ZcP st'.h (sv G st') parts.toList=ZcP st.h (sv G st) parts.toList:=by rw[<- hh];refine Zfu (λp hp=>one p.2 ?_);simp only[Op.operands];rw[List.mem_toArray];exact YaU.2 ⟨p,hp,rfl⟩
  simp only[ZaN] at h ⊢;rw[hp,<- hh];exact h
 | buildSlice t len parts =>
  have hp:ZcP st'.h (sv G st') parts.toList=ZcP st.h (sv G st) parts.toList:=by rw[<- hh];refine Zfu (λp hp=>one p.2 ?_);simp only[Op.operands];rw[List.mem_toArray];exact YaU.2 ⟨p,hp,rfl⟩
  simp only[ZaN] at h ⊢;rw[hp,<- hh];exact h
 | makeSlice t l c=>simp only[ZaN] at h ⊢;rw[one l (by simp[Op.operands]),one c (by simp[Op.operands]),<- hh];exact h
 | load t x=>simp only[ZaN] at h ⊢;rw[one x (by simp[Op.operands]),<- hh];exact h
 | store t x y=>simp only[ZaN] at h ⊢;rw[one x (by simp[Op.operands]),one y (by simp[Op.operands]),<- hh];exact h
 | nilCheck x=>simp only[ZaN] at h ⊢;rw[one x (by simp[Op.operands]),<- hh];exact h
 | binOp op t x y t'=>simp only[ZaN] at h ⊢;rw[one x (by simp[Op.operands]),one y (by simp[Op.operands]),<- hh];exact h
 | unOp op t x=>simp only[ZaN] at h ⊢;rw[one x (by simp[Op.operands]),<- hh];exact h
 | convert s t x=>simp only[ZaN] at h ⊢;rw[one x (by simp[Op.operands]),<- hh];exact h
 | fieldAddr s x f=>simp only[ZaN] at h ⊢;rw[one x (by simp[Op.operands]),<- hh];exact h
 | indexAddr t x ix=>simp only[ZaN] at h ⊢;rw[one x (by simp[Op.operands]),one ix (by simp[Op.operands]),<- hh];exact h
 | index t x ix=>simp only[ZaN] at h ⊢;rw[one x (by simp[Op.operands]),one ix (by simp[Op.operands]),<- hh];exact h
 | slice t x lo hi mx =>
  cases mx with
  | some m=>exact h.elim
  | none=>simp only[ZaN] at h ⊢;rw[one x (by simp[Op.operands]),opt lo (λy hy=>by simp[Op.operands];simp at hy;simp[hy]),opt hi (λy hy=>by simp[Op.operands];simp at hy;simp[hy]),<- hh];exact h
 | extract x i=>simp only[ZaN] at h ⊢;rw[one x (by simp[Op.operands]),<- hh];exact h
 | field t x f=>simp only[ZaN] at h ⊢;rw[one x (by simp[Op.operands]),<- hh];exact h
 | makeFunc fn first captured =>
  cases fn with
  | func f =>simp only[ZaN] at h ⊢;rw[ZhP (f:=sv G st') (f':=sv G st) (l:=first.toList) (λx hx=>one x (by simp[Op.operands];exact .inl (by simpa using hx))),ZhP (f:=sv G st') (f':=sv G st) (l:=captured.toList) (λx hx=>one x (by simp[Op.operands];exact .inr (by simpa using hx))),<- hh];exact h
  | _=>exact h.elim
 | makeInterface t x=>simp only[ZaN] at h ⊢;rw[one x (by simp[Op.operands]),<- hh];exact h
 | panic x=>simp only[ZaN] at h ⊢;rw[one x (by simp[Op.operands]),<- hh];exact h
 | call c =>
  obtain ⟨callee,args,ts⟩:=c;have an:∀x∈args,sv G st' x=sv G st x:=λx hx=>one x (by simp[Op.operands,Call.operands,hx]);cases callee with
  | value f =>simp only[ZaN] at h ⊢;rw[one f (by simp[Op.operands,Call.operands]),ZhP (f:=sv G st') (f':=sv G st) (l:=args.toList) (λx hx=>an x (by simpa using hx)),<- hh];exact h
  | invoke r m=>exact h.elim
  | builtin b =>
   cases b with
   | len =>
    simp only[ZaN] at h ⊢;split at h
    ·rename_i t x cG cq;rw[an x (by rw[<- Ybc,cq];simp),<- hh];exact h
    ·exact h.elim
   | max =>
    simp only[ZaN] at h ⊢;split at h
    ·rename_i x y cq;rw[an x (by rw[<- Ybc,cq];simp),an y (by rw[<- Ybc,cq];simp),<- hh];exact h
    ·exact h.elim
   | min =>
    simp only[ZaN] at h ⊢;split at h
    ·rename_i x y cq;rw[an x (by rw[<- Ybc,cq];simp),an y (by rw[<- Ybc,cq];simp),<- hh];exact h
    ·exact h.elim
   | append =>
    simp only[ZaN] at h ⊢;split at h
    ·rename_i t t' x y cG cq;rw[an x (by rw[<- Ybc,cq];simp),an y (by rw[<- Ybc,cq];simp),<- hh];exact h
    ·exact h.elim
   | copy =>
    simp only[ZaN] at h ⊢;split at h
    ·rename_i t t' x y cG cq;rw[an x (by rw[<- Ybc,cq];simp),an y (by rw[<- Ybc,cq];simp),<- hh];exact h
    ·exact h.elim
   | clear =>
    simp only[ZaN] at h ⊢;split at h
    ·rename_i t x cG cq;rw[an x (by rw[<- Ybc,cq];simp),<- hh];exact h
    ·exact h.elim
   | _=>exact h.elim
 | _=>exact h.elim
theorem Zs2 {op:BinOp} {x y:D} {K:D->Prop} (h:ZoJ op x y K):∃d,K d/\∀K':D->Prop,K' d->ZoJ op x y K':=by
 unfold ZoJ at h ⊢;split at h<;>first | exact h.elim | skip
 all_goals first
  | exact ⟨_,h,λK' hk=>hk⟩
  | exact ⟨_,h.2,λK' hk=>⟨h.1,hk⟩⟩
  | exact ⟨_,h.2.2,λK' hk=>⟨h.1,h.2.1,hk⟩⟩
  | (obtain ⟨c,hc,hk⟩:=h;exact ⟨_,hk,λK' hk=>⟨c,hc,hk⟩⟩)
theorem Zrz {op:BinOp} {x y:D} {K:D->Prop} (h:ZeS op x y K):∃d,K d/\∀K':D->Prop,K' d->ZeS op x y K':=by
 unfold ZeS at h ⊢;split at h<;>first | exact h.elim | exact ⟨_,h,λK' hk=>hk⟩
theorem Zrx {t:TypeId} {op:BinOp} {x y:D} {K:D->Prop} (h:Zjf P t op x y K):∃d,K d/\∀K':D->Prop,K' d->Zjf P t op x y K':=by
 unfold Zjf at h ⊢;split at h
 ·split at h
  ·exact ⟨_,h.2,λK' hk=>⟨h.1,hk⟩⟩
  ·exact h.elim
 ·split at h
  ·exact ⟨_,h.2,λK' hk=>⟨h.1,hk⟩⟩
  ·exact h.elim
 ·exact h.elim
theorem ZvD {op:UnOp} {x:D} {K:D->Prop} (h:ZAd op x K):∃d,K d/\∀K':D->Prop,K' d->ZAd op x K':=by
 unfold ZAd at h ⊢;split at h<;>first | exact h.elim | exact ⟨_,h,λK' hk=>hk⟩ | exact ⟨_,h.2,λK' hk=>⟨h.1,hk⟩⟩
theorem Zun {i:TI} {r:List GV} {off:Nat} {K:D->Prop} (h:ldG i r off K):∃d,K d/\∀K':D->Prop,K' d->ldG i r off K':=by
 unfold ldG at h ⊢;cases hi:i.agg with
 | false =>
  rw[hi] at h;simp only at h ⊢;split at h
  ·exact ⟨_,h,λK' hk=>hk⟩
  ·exact h.elim
 | true =>
  rw[hi] at h;simp only at h ⊢;cases hb:Nat.ble (off+i.size) r.length with
  | false=>rw[hb] at h;exact h.elim
  | true=>rw[hb] at h;exact ⟨_,h,λK' hk=>hk⟩
theorem Ztw {m:Nat}:∀(n:Nat) (d:D),closed n d=true->sh m n d=d:=by
 intro n
 induction n with
 | zero=>intro d h;cases h
 | succ n ih =>
  intro d h;have list:∀ds:List D,ds.all (closed n)=true->ds.map (sh m n)=ds:=by
   intro ds
   induction ds with
   | nil=>intro _;rfl
   | cons d ds nF=>intro h;simp only[List.all_cons,Yag] at h;rw[Yan,ih d h.1,nF h.2]
  cases d with
  | row i=>cases h
  | rs i lo k=>cases h
  | ptr i o=>cases h
  | el i j o=>cases h
  | fn f fs cs=>simp only[closed,Yag] at h;simp only[sh];rw[list fs h.1,list cs h.2]
  | iface t x=>simp only[closed] at h;simp only[sh];rw[ih x h]
  | agg cs=>simp only[closed] at h;simp only[sh];rw[list cs h]
  | tuple cs=>simp only[closed] at h;simp only[sh];rw[list cs h]
  | _=>rfl
theorem ZsS {o:Op} {st:St} {K:D->Prop} (ha:Zkq o=false) (h:vcQ P T F G o st K):∃d,K d/\∀(h':Zae) (K':KD),Ex st.h h'->K' d h'->ZaN P T F G o ⟨st.env,h',st.df⟩ K' (λ_ _=>False):=by
 have uP:∀(h':Zae) (x:Operand),sv G ⟨st.env,h',st.df⟩ x=sv G st x:=λh' x=>by cases x<;>rfl
 have aX:∀(h':Zae),sv G ⟨st.env,h',st.df⟩=sv G st:=λh'=>funext (uP h');cases o with
 | move x=>simp only[vcQ,ZaN] at h ⊢;exact ⟨_,h,λh' K' _ hk=>by rw[aX];exact hk⟩
 | assign x=>simp only[vcQ,ZaN] at h ⊢;exact ⟨_,h,λh' K' _ hk=>by rw[aX];exact hk⟩
 | pick c x y =>
  simp only[vcQ,ZaN] at h ⊢;unfold ZfP at h;split at h
  ·rename_i e;exact ⟨_,h,λh' K' _ hk=>by simp only[aX,e,ZfP];exact hk⟩
  ·rename_i e;exact ⟨_,h,λh' K' _ hk=>by simp only[aX,e,ZfP];exact hk⟩
  ·rename_i p e;by_cases hp:p
   ·exact ⟨_,h.1 hp,λh' K' _ hk=>by simp only[aX,e,ZfP];exact ⟨λ_=>hk,λhn=>absurd hp hn⟩⟩
   ·exact ⟨_,h.2 hp,λh' K' _ hk=>by simp only[aX,e,ZfP];exact ⟨λhn=>absurd hn hp,λ_=>hk⟩⟩
  ·rename_i p e;by_cases hp:p
   ·exact ⟨_,h.2 hp,λh' K' _ hk=>by simp only[aX,e,ZfP];exact ⟨λhn=>absurd hp hn,λ_=>hk⟩⟩
   ·exact ⟨_,h.1 hp,λh' K' _ hk=>by simp only[aX,e,ZfP];exact ⟨λ_=>hk,λhn=>absurd hn hp⟩⟩
  ·exact h.elim
 | build t parts =>
  simp only[vcQ,ZaN] at h ⊢;split at h
  ·rename_i agg size bytes z fs ht;split at h
   ·exact h.elim
   ·rename_i ps eG;split at h
    ·rename_i cs aU;refine ⟨_,h,λh' K' hx hk=>?_⟩;have key:∀(l:List (Nat × Operand)) (ps:List (Nat × List D)),ZcP st.h (sv G st) l=some ps->ZcP h' (sv G st) l=some ps:=by
      have f1:∀d,Zep st.h d=true->Zep h' d=true:=by
       intro d hd;cases d with
       | row i=>simp only[Zep] at hd ⊢;split at hd;rename_i e;rw[hx _ _ e];cases hd
       | rs i lo n=>simp only[Zep] at hd ⊢;split at hd;rename_i e;rw[hx _ _ e];cases hd
       | el i j o=>simp only[Zep] at hd ⊢;split at hd;rename_i e;rw[hx _ _ e];cases hd
       | ptr i o=>simp only[Zep] at hd ⊢;split at hd;rename_i e;rw[hx _ _ e];cases hd
       | _=>first | exact hd | rfl
      have fL:∀ds,ZhZ st.h ds=true->ZhZ h' ds=true:=by
       intro ds
       induction ds with
       | nil=>intro _;rfl
       | cons d ds ih=>intro hd;simp only[ZhZ,Yag] at hd ⊢;exact ⟨f1 d hd.1,ih hd.2⟩
      have cD:∀d ds,Zfk st.h d=some ds->Zfk h' d=some ds:=by
       intro d ds hd;unfold Zfk at hd ⊢;split at hd
       ·rename_i cs;cases hf:ZhZ st.h cs with
        | false=>rw[hf] at hd;cases hd
        | true=>rw[hf] at hd;simp only[fL cs hf];exact hd
       ·cases hf:Zep st.h d with
        | false=>rw[hf] at hd;cases hd
        | true=>rw[hf] at hd;simp only[f1 d hf];exact hd
      intro l
      induction l with
      | nil=>intro ps hp;exact hp
      | cons p l ih =>
       intro ps hp;obtain ⟨i,o⟩:=p;simp only[ZcP] at hp ⊢;split at hp
       ·rename_i ds r e1 e2;rw[cD _ _ e1,ih _ e2];exact hp
       ·cases hp
     simp only[aX,key _ _ eG,aU];exact hk
    ·exact h.elim
  ·exact h.elim
 | load t x =>
  simp only[vcQ,ZaN,ZsU] at h ⊢;split at h
  ·exact h.elim
  ·rename_i i ht;split at h
   ·rename_i j off e;split at h
    ·rename_i cs ty hj;cases bw:i.agg with
     | false =>rw[bw] at h;simp only at h;obtain ⟨d,hd,h⟩:=Zuz h;exact ⟨d,h,λh' K' hx hk=>by simp only[aX,e,hx _ _ hj];exact Zzs hd hk⟩
     | true =>
      rw[bw] at h;simp only at h;cases hb:Nat.ble (off+i.size) cs.length with
      | false=>rw[hb] at h;exact h.elim
      | true=>rw[hb] at h;exact ⟨_,h,λh' K' hx hk=>by simp only[aX,e,hx _ _ hj,hb];exact hk⟩
    ·exact h.elim
   ·rename_i j k off e;split at h
    ·rename_i xs ty sz hj;obtain ⟨r,hr,hl⟩:=h;obtain ⟨d,h2,h1⟩:=Zun hl;exact ⟨d,h2,λh' K' hx hk=>by simp only[aX,e,hx _ _ hj];exact ⟨r,hr,h1 _ hk⟩⟩
    ·exact h.elim
   ·rename_i r off e;obtain ⟨d,h2,h1⟩:=Zun h;exact ⟨d,h2,λh' K' hx hk=>by simp only[aX,e];exact h1 _ hk⟩
   ·exact h.elim
 | nilCheck x =>
  simp only[vcQ,ZaN] at h ⊢;split at h
  ·rename_i i o e;split at h
   ·rename_i cs ty hj;exact ⟨_,h,λh' K' hx hk=>by simp only[aX,e,hx _ _ hj];exact hk⟩
   ·exact h.elim
  ·rename_i i j o e;split at h
   ·rename_i xs ty sz hj;exact ⟨_,h,λh' K' hx hk=>by simp only[aX,e,hx _ _ hj];exact hk⟩
   ·exact h.elim
  ·rename_i e;exact ⟨_,h,λh' K' hx hk=>by simp only[aX,e];exact hk⟩
  ·rename_i e;exact ⟨_,h,λh' K' hx hk=>by simp only[aX,e];exact hk⟩
  ·exact h.elim
 | binOp op t x y t' =>
  simp only[vcQ,ZaN] at h ⊢;split at h
  ·rename_i ht;obtain ⟨d,h2,h1⟩:=Zrz h;exact ⟨d,h2,λh' K' _ hk=>by simp only[aX,ht];exact h1 (λv=>K' v h') hk⟩
  ·exact h.elim
  ·rename_i ht;obtain ⟨d,h2,h1⟩:=Zrx h;exact ⟨d,h2,λh' K' _ hk=>by simp only[aX,ht];exact h1 (λv=>K' v h') hk⟩
  ·rename_i hb hs aZ;obtain ⟨d,h2,h1⟩:=Zs2 h;refine ⟨d,h2,λh' K' _ hk=>?_⟩;simp only[aX];exact h1 (λv=>K' v h') hk
 | unOp op t x =>simp only[vcQ,ZaN] at h ⊢;obtain ⟨d,h2,h1⟩:=ZvD h;exact ⟨d,h2,λh' K' _ hk=>by simp only[aX];exact h1 _ hk⟩
 | convert s t x =>
  simp only[vcQ,ZaN] at h ⊢;split at h
  ·rename_i e1 e2 e3;exact ⟨_,h.2,λh' K' _ hk=>by simp only[aX,e1,e2,e3];exact ⟨h.1,hk⟩⟩
  ·rename_i e1 e2 e3;exact ⟨_,h.2,λh' K' _ hk=>by simp only[aX,e1,e2,e3];exact ⟨h.1,hk⟩⟩
  ·rename_i e1 e2 e3;exact ⟨_,h,λh' K' _ hk=>by simp only[aX,e1,e2,e3];exact hk⟩
  ·rename_i e1 e2 e3;split at h
   ·rename_i e4;exact ⟨_,h,λh' K' _ hk=>by simp only[aX,e1,e2,e3,e4];exact hk⟩
   ·exact h.elim
  ·exact h.elim
 | fieldAddr s x f =>
  simp only[vcQ,ZaN] at h ⊢;split at h
  ·rename_i ht;split at h
   ·rename_i off sz hf;split at h
    ·rename_i i o e;split at h
     ·rename_i cs ty hj;exact ⟨_,h,λh' K' hx hk=>by simp only[aX,e,hx _ _ hj];exact hk⟩
     ·exact h.elim
    ·rename_i i j o e;split at h
     ·rename_i xs ty aW hj;exact ⟨_,h,λh' K' hx hk=>by simp only[aX,e,hx _ _ hj];exact hk⟩
     ·exact h.elim
    ·rename_i e;exact ⟨_,h,λh' K' hx hk=>by simp only[aX,e];exact hk⟩
    ·exact h.elim
   ·exact h.elim
  ·exact h.elim
 | indexAddr t x ix =>
  simp only[vcQ,ZaN,Zgu] at h ⊢;split at h
  ·rename_i e ht;split at h
   ·rename_i ei k xs aO ex;cases hb:Nat.beq k ei.size with
    | false=>rw[hb] at h;exact h.elim
    | true =>rw[hb] at h;obtain ⟨j,r,h1,h2,h3⟩:=h;exact ⟨_,h3,λh' K' _ hk=>by simp only[aX,aO,ex,hb];exact ⟨j,r,h1,h2,hk⟩⟩
   ·rename_i ei u aO ex;obtain ⟨m,q,l,ts,xs,ty,j,h1,h2,h3,h4,h5,h6⟩:=h;exact ⟨_,h6,λh' K' hx hk=>by simp only[aX,aO,ex];exact ⟨m,q,l,ts,xs,ty,j,hx _ _ h1,h2,hx _ _ h3,h4,h5,hk⟩⟩
   ·rename_i ei i aO ex;split at h
    ·rename_i xs ty sz hi;cases hb:Nat.beq sz ei.size with
     | false=>rw[hb] at h;exact h.elim
     | true =>rw[hb] at h;obtain ⟨j,h1,h2,h3⟩:=h;exact ⟨_,h3,λh' K' hx hk=>by simp only[aX,aO,ex,hx _ _ hi,hb];exact ⟨j,h1,h2,hk⟩⟩
    ·exact h.elim
   ·rename_i ei i lo n aO ex;split at h
    ·rename_i xs ty sz hi;cases hb:Nat.beq sz ei.size with
     | false=>rw[hb] at h;exact h.elim
     | true =>rw[hb] at h;obtain ⟨j,h1,h2,h3⟩:=h;exact ⟨_,h3,λh' K' hx hk=>by simp only[aX,aO,ex,hx _ _ hi,hb];exact ⟨j,h1,h2,hk⟩⟩
    ·exact h.elim
   ·exact h.elim
  ·rename_i n e ht;split at h
   ·rename_i ei i o aO ex;split at h
    ·rename_i cs ty hi;obtain ⟨j,h1,h2,h3⟩:=h;exact ⟨_,h3,λh' K' hx hk=>by simp only[aX,aO,ex,hx _ _ hi];exact ⟨j,h1,h2,hk⟩⟩
    ·exact h.elim
   ·rename_i ei r o aO ex;obtain ⟨j,h1,h2,h3⟩:=h;exact ⟨_,h3,λh' K' hx hk=>by simp only[aX,aO,ex];exact ⟨j,h1,h2,hk⟩⟩
   ·rename_i ei i k o aO ex;split at h
    ·rename_i xs ty sz hi;obtain ⟨j,h1,h2,h3⟩:=h;exact ⟨_,h3,λh' K' hx hk=>by simp only[aX,aO,ex,hx _ _ hi];exact ⟨j,h1,h2,hk⟩⟩
    ·exact h.elim
   ·exact h.elim
  ·exact h.elim
 | index t x ix =>
  simp only[vcQ,ZaN] at h ⊢;split at h
  ·rename_i s ht e;obtain ⟨j,c,h1,h2,h3⟩:=h;exact ⟨_,h3,λh' K' _ hk=>by simp only[aX,ht,e];exact ⟨j,c,h1,h2,hk⟩⟩
  ·exact h.elim
 | slice t x lo hi mx =>
  cases mx with
  | some m=>exact h.elim
  | none =>
   simp only[vcQ,ZaN,ZoI] at h ⊢;simp only[aX];split at h
   ·rename_i s ht e;split at h
    ·rename_i e1 e2;exact ⟨_,h,λh' K' _ hk=>by first | exact hk | (simp only[e1,e2,e];exact hk)⟩
    ·rename_i e1 e2;obtain ⟨a,b,c,d⟩:=h;exact ⟨_,d,λh' K' _ hk=>by first | exact ⟨a,b,c,hk⟩ | (simp only[e1,e2,e];exact ⟨a,b,c,hk⟩)⟩
    ·rename_i e1 e2;obtain ⟨a,b,c,d⟩:=h;exact ⟨_,d,λh' K' _ hk=>by first | exact ⟨a,b,c,hk⟩ | (simp only[e1,e2,e];exact ⟨a,b,c,hk⟩)⟩
    ·rename_i e1 e2;obtain ⟨a,b,c,c2,c3,c4,d⟩:=h;exact ⟨_,d,λh' K' _ hk=>by first | exact ⟨a,b,c,c2,c3,c4,hk⟩ | (simp only[e1,e2,e];exact ⟨a,b,c,c2,c3,c4,hk⟩)⟩
   ·rename_i e k xs ht ex;split at h
    ·exact h.elim
    ·rename_i ei aO;cases hb:Nat.beq k ei.size with
     | false=>rw[hb] at h;exact h.elim
     | true =>
      rw[hb] at h;simp only[cond_true] at h;split at h
      ·rename_i e1 e2;exact ⟨_,h,λh' K' _ hk=>by first | exact hk | (simp only[ex,aO,hb,e1,e2];exact hk)⟩
      ·rename_i e1 e2;obtain ⟨a,b,c,d⟩:=h;exact ⟨_,d,λh' K' _ hk=>by first | exact ⟨a,b,c,hk⟩ | (simp only[ex,aO,hb,e1,e2];exact ⟨a,b,c,hk⟩)⟩
      ·rename_i e1 e2;obtain ⟨a,b,c,d⟩:=h;exact ⟨_,d,λh' K' _ hk=>by first | exact ⟨a,b,c,hk⟩ | (simp only[ex,aO,hb,e1,e2];exact ⟨a,b,c,hk⟩)⟩
      ·rename_i e1 e2;obtain ⟨a,b,c,c2,c3,c4,d⟩:=h;exact ⟨_,d,λh' K' _ hk=>by first | exact ⟨a,b,c,c2,c3,c4,hk⟩ | (simp only[ex,aO,hb,e1,e2];exact ⟨a,b,c,c2,c3,c4,hk⟩)⟩
   ·rename_i e i ht ex;split at h
    ·rename_i ei xs ty sz aO bc;cases hb:Nat.beq sz ei.size with
     | false=>rw[hb] at h;exact h.elim
     | true =>
      rw[hb] at h;simp only[cond_true] at h;split at h
      ·rename_i e1 e2;exact ⟨_,h,λh' K' hx hk=>by first | exact hk | (simp only[aO,hx _ _ bc,hb];exact hk)⟩
      ·rename_i e1 e2;obtain ⟨a,b,c,d⟩:=h;exact ⟨_,d,λh' K' hx hk=>by first | exact ⟨a,b,c,hk⟩ | (simp only[aO,hx _ _ bc,hb];exact ⟨a,b,c,hk⟩)⟩
      ·rename_i e1 e2;obtain ⟨a,b,c,d⟩:=h;exact ⟨_,d,λh' K' hx hk=>by first | exact ⟨a,b,c,hk⟩ | (simp only[aO,hx _ _ bc,hb];exact ⟨a,b,c,hk⟩)⟩
      ·rename_i e1 e2;obtain ⟨a,b,c,c2,c3,c4,d⟩:=h;exact ⟨_,d,λh' K' hx hk=>by first | exact ⟨a,b,c,c2,c3,c4,hk⟩ | (simp only[aO,hx _ _ bc,hb];exact ⟨a,b,c,c2,c3,c4,hk⟩)⟩
    ·exact h.elim
   ·rename_i n e i o' ht ex;split at h
    ·rename_i ti cs ty e1 e2 e3 bc;cases hb:Nat.ble (o'+n*ti.size) cs.length && Nat.blt 0 n with
     | false=>rw[hb] at h;exact h.elim
     | true =>rw[hb] at h;exact ⟨_,h,λh' K' hx hk=>by simp only[e1,e2,e3,hx _ _ bc,hb];exact hk⟩
    ·exact h.elim
   ·rename_i n e r ht ex;split at h
    ·rename_i p ei e1 e2 e3;obtain ⟨l,a1,a2,a3,a4,d⟩:=h;exact ⟨_,d,λh' K' _ hk=>by first | exact ⟨l,a1,a2,a3,a4,hk⟩ | (simp only[e1,e2,e3,ex];exact ⟨l,a1,a2,a3,a4,hk⟩)⟩
    ·exact h.elim
   ·exact h.elim
 | field t x f =>
  simp only[vcQ,ZaN] at h ⊢;split at h
  ·rename_i cs e;obtain ⟨off,d,h1,h2,h3⟩:=h;exact ⟨d,h3,λh' K' _ hk=>by simp only[aX,e];exact ⟨off,d,h1,h2,hk⟩⟩
  ·exact h.elim
 | extract x i =>
  simp only[vcQ,ZaN] at h ⊢;split at h
  ·rename_i vs e;split at h
   ·rename_i d hd;exact ⟨d,h,λh' K' _ hk=>by simp only[aX,e,hd];exact hk⟩
   ·exact h.elim
  ·exact h.elim
 | makeFunc fn first captured =>
  cases fn with
  | func f=>simp only[vcQ,ZaN] at h ⊢;exact ⟨_,h,λh' K' _ hk=>by rw[aX];exact hk⟩
  | _=>exact h.elim
 | makeInterface t x =>
  simp only[vcQ,ZaN] at h ⊢;split at h
  ·exact h.elim
  ·rename_i e1 e2;exact ⟨_,h,λh' K' _ hk=>by simp only[aX];exact hk⟩
  ·exact h.elim
 | call c =>
  obtain ⟨callee,args,ts⟩:=c;cases callee with
  | value f =>
   simp only[vcQ,ZsZ] at h ⊢;split at h
   ·rename_i g fs cs ef;have rd:∀(h':Zae) (K':KD) (d:D),CTR P G g (fs++(args.toList.map (sv G st)++cs)) h' d->K' d h'->ZcH P G g (fs++(args.toList.map (sv G st)++cs)) h' K' (λ_ _=>False):=by
     intro h' K' d hc hk C w β V aa hG hr hd;refine (hc C w β V aa hG hr hd).mono λe w' he=>?_;cases e with
     | returned v=>exact ⟨d,h',β,V,hk,he.1,he.2.1,LeH.refl _ _,he.2.2⟩
     | panicked ch=>exact he.elim
     | outgrown=>exact he.elim
    cases hg:F g with
    | false =>rw[hg] at h;simp only[cond_false,Zba] at h;obtain ⟨h0,d,h1,h2⟩:=h;refine ⟨d,h2,λh' K' hx hk=>?_⟩;simp only[ZaN,aX,ef,hg,cond_false,Zba];exact ⟨h0,.inr (rd h' K' d (h1 h' hx) hk)⟩
    | true =>
     rw[hg] at h;simp only[cond_true,Zba] at h;obtain ⟨as,d,h1,h2,h3,h4⟩:=h;refine ⟨d,h4,λh' K' hx hk=>?_⟩;simp only[ZaN,aX,ef,hg,cond_true,Zba];refine ZrX ?_;simp only[Yag] at h3;refine ⟨as,Is d,by rw[Zrg hx h3.2];exact h1,h2,λd' qf hq=>?_,λd' hq=>by cases hq⟩;injection hq with e1 e2;subst e1;subst e2;rw[Ztw 4 d' h3.1.1];have wW:after h' (ZcT (fs++(args.toList.map (sv G st)++cs))) d' []=h':=by
      unfold after;have h5:=h3.1.2;cases hm:ZcQ 4 d' with
      | true=>rfl
      | false =>
       rw[hm] at h5;simp only[Bool.false_or] at h5;cases hi:ZcT (fs++(args.toList.map (sv G st)++cs)) with
       | nil=>simp[Zb4]
       | cons x l=>rw[hi] at h5;cases h5
     rw[wW];exact hk
   ·exact h.elim
  | invoke r m=>exact h.elim
  | builtin b =>
   cases b with
   | len =>
    simp only[vcQ,ZaN] at h ⊢;split at h
    ·rename_i t x cG cq;split at h
     ·rename_i i hi;unfold ZmR at h;split at h
      ·rename_i e1 e2;exact ⟨_,h,λh' K' _ hk=>by simp only[aX,ZmR,e1,e2];exact hk⟩
      ·rename_i e1 e2;exact ⟨_,h,λh' K' _ hk=>by simp only[aX,ZmR,e1,e2];exact hk⟩
      ·rename_i e1 e2;split at h
       ·rename_i hj;exact ⟨_,h,λh' K' hx hk=>by simp only[aX,ZmR,e1,e2,hx _ _ hj];exact hk⟩
       ·exact h.elim
      ·rename_i e1 e2;split at h
       ·rename_i hj;exact ⟨_,h,λh' K' hx hk=>by simp only[aX,ZmR,e1,e2,hx _ _ hj];exact hk⟩
       ·exact h.elim
      ·rename_i e1 e2;exact ⟨_,h,λh' K' _ hk=>by simp only[aX,ZmR,e1,e2];exact hk⟩
      ·exact h.elim
     ·exact h.elim
    ·exact h.elim
   | max =>
    simp only[vcQ,ZaN] at h ⊢;split at h
    ·split at h
     ·rename_i e1 e2;exact ⟨_,h,λh' K' _ hk=>by simp only[aX,e1,e2];exact hk⟩
     ·exact h.elim
    ·exact h.elim
   | min =>
    simp only[vcQ,ZaN] at h ⊢;split at h
    ·split at h
     ·rename_i e1 e2;exact ⟨_,h,λh' K' _ hk=>by simp only[aX,e1,e2];exact hk⟩
     ·exact h.elim
    ·exact h.elim
   | append=>cases ha
   | _=>exact h.elim
 | alloc t=>cases ha
 | box t x=>cases ha
 | buildSlice t l p=>cases ha
 | makeSlice t l c=>cases ha
 | store t x y=>cases ha
 | _=>exact h.elim
end
section
variable {P:Program} {T:Tab} {F:FuncId->Bool} {G:Gl}
def Zmi:Op->Bool
 | .move _ | .assign _ | .pick _ _ _ | .binOp _ _ _ _ _ | .unOp _ _ _ | .convert _ _ _ | .extract _ _ | .index _ _ _ | .makeInterface _ _ | .makeFunc _ _ _=>true
 | _=>false
theorem Zyc {o:Op} {st:St} {K:D->Prop} (hl:Zmi o=true) (h:vcQ P T F G o st K):∃d,K d/\∀(h':Zae) (K':KD),K' d h'->ZaN P T F G o ⟨st.env,h',st.df⟩ K' (λ_ _=>False):=by
 have aX:∀(h':Zae),sv G ⟨st.env,h',st.df⟩=sv G st:=λh'=>funext (λx=>by cases x<;>rfl);have h0:vcQ P T F G o ⟨st.env,[],st.df⟩ K:=by
  cases o<;>first | (cases hl;done) | (simp only[vcQ,ZaN,aX] at h ⊢;exact h) | skip
  rename_i fn first captured
  cases fn<;>first | exact h.elim | (simp only[vcQ,ZaN,aX] at h ⊢;exact h)
 have ha:Zkq o=false:=by cases o<;>first | rfl | cases hl
 obtain ⟨d,h1,h2⟩:=ZsS ha h0;exact ⟨d,h1,λh' K' hk=>h2 h' K' (λi o hi=>by simp at hi) hk⟩
theorem Zt5 (n c:Nat):ofV (.slice none n c)=.nils\/ofV (.slice none n c)=.any:=by
 unfold ofV of1;cases n with
 | zero=>cases c with
  | zero=>exact .inl rfl
  | succ c=>exact .inr rfl
 | succ n=>exact .inr rfl
theorem ofV_row {n c i:Nat} (h:ofV (.slice none n c)=.row i):False:=by rcases Zt5 n c with e | e<;>rw[e] at h<;>cases h
theorem ZAR {n c i a b:Nat} (h:ofV (.slice none n c)=.rs i a b):False:=by rcases Zt5 n c with e | e<;>rw[e] at h<;>cases h
theorem ZzM {b:Bool} {X:Prop} (h:bif b then X else False):b=true/\X:=by cases b with | true=>exact ⟨rfl,h⟩ | false=>exact h.elim
theorem ZzL {b:Bool} {X:Prop} (hb:b=true) (h:X):bif b then X else False:=by subst hb;exact h
theorem ZsI {o:Op} {st:St} {K:KD} (ha:Zkq o=true) (h:ZaN P T F G o st K (λ_ _=>False)):∃d h1,K d h1/\(∀K':KD,K' d h1->ZaN P T F G o st K' (λ_ _=>False))/\(Zd8 o=false->Ex st.h h1):=by
 cases o with
 | alloc t =>
  simp only[ZaN] at h ⊢;split at h
  ·exact h.elim
  ·exact ⟨_,_,h,λK' hk=>hk,λ_=>Ex.app _ _⟩
 | box t x =>
  simp only[ZaN] at h ⊢;split at h
  ·exact h.elim
  ·exact ⟨_,_,h,λK' hk=>hk,λ_=>Ex.app _ _⟩
 | buildSlice t len parts =>
  simp only[ZaN] at h ⊢;split at h
  ·split at h
   ·rename_i ei aO;split at h
    ·exact h.elim
    ·split at h
     ·cases hb:Nat.ble (len*ei.size) 16777216 && Nat.blt 0 ei.size with
      | false=>rw[hb] at h;exact h.elim
      | true =>rw[hb] at h;obtain ⟨xs,h1,h2,h3,h4⟩:=h;exact ⟨_,_,h4,λK' hk=>⟨xs,h1,h2,h3,hk⟩,λhm=>by cases hm⟩
     ·exact h.elim
   ·exact h.elim
  ·exact h.elim
 | makeSlice t l c =>
  simp only[ZaN] at h ⊢;split at h
  ·split at h
   ·rename_i ei aO;cases hb:Nat.blt 0 ei.size with
    | false=>rw[hb] at h;exact h.elim
    | true =>rw[hb] at h;obtain ⟨len,cap,z,h1,h2,h3,h4,h5,h6,h7⟩:=h;exact ⟨_,_,h7,λK' hk=>⟨len,cap,z,h1,h2,h3,h4,h5,h6,hk⟩,λ_=>Ex.app _ _⟩
   ·exact h.elim
  ·exact h.elim
 | store t x y =>
  simp only[ZaN,ZoH] at h ⊢;split at h
  ·exact h.elim
  ·rename_i i hi;split at h
   ·exact h.elim
   ·rename_i ds jg;cases hb:Nat.beq ds.length i.size with
    | false=>rw[hb] at h;exact h.elim
    | true =>
     rw[hb] at h;simp only[cond_true] at h ⊢;split at h
     ·split at h
      ·rename_i cs ty hj;obtain ⟨hc,h⟩:=ZzM h;exact ⟨_,_,h,λK' hk=>ZzL hc hk,λhm=>by cases hm⟩
      ·exact h.elim
     ·split at h
      ·obtain ⟨r,gs,h1,h2,h3,h4,h5⟩:=h;exact ⟨_,_,h5,λK' hk=>⟨r,gs,h1,h2,h3,h4,hk⟩,λhm=>by cases hm⟩
      ·exact h.elim
     ·exact h.elim
 | call c =>
  obtain ⟨callee,args,ts⟩:=c;cases callee with
  | builtin b =>
   cases b with
   | append =>
    simp only[ZaN] at h ⊢;split at h
    ·rename_i t t' x y cG cq;cases hb:Nat.beq t t' with
     | false=>rw[hb] at h;exact h.elim
     | true =>
      rw[hb] at h;simp only[cond_true] at h ⊢;unfold Zlt at h ⊢;split at h
      ·split at h
       ·exact h.elim
       ·rename_i ei aO;split at h
        ·exact h.elim
        ·cases cw:Nat.blt 0 ei.size with
         | false=>rw[cw] at h;exact h.elim
         | true =>
          rw[cw] at h;simp only[cond_true] at h ⊢;split at h
          ·exact ⟨_,_,h.2,λK' hk=>⟨h.1,hk⟩,λ_=>Ex.app _ _⟩
          ·rename_i i ex;have lO:Zd8 (Op.call { callee:=.builtin .append,args:=args,argTypes:=ts })=false->False:=by
            intro hm;simp only[Zd8,cq] at hm;split at hm
            ·rename_i e;injection e with e1 e2;subst e1;exact ofV_row ex
            ·cases hm
           split at h
           ·obtain ⟨hc,h⟩:=ZzM h;exact ⟨_,_,h.2,λK' hk=>ZzL hc ⟨h.1,hk⟩,λhm=>(lO hm).elim⟩
           ·exact h.elim
          ·rename_i i n ex;have lO:Zd8 (Op.call { callee:=.builtin .append,args:=args,argTypes:=ts })=false->False:=by
            intro hm;simp only[Zd8,cq] at hm;split at hm
            ·rename_i e;injection e with e1 e2;subst e1;exact ZAR ex
            ·cases hm
           split at h
           ·obtain ⟨hc,h⟩:=ZzM h;exact ⟨_,_,h.2.2,λK' hk=>ZzL hc ⟨h.1,h.2.1,hk⟩,λhm=>(lO hm).elim⟩
           ·exact h.elim
          ·exact h.elim
      ·exact h.elim
    ·exact h.elim
   | _=>cases ha
  | _=>cases ha
 | _=>cases ha
end
inductive X where
 | normal
 | exit (id:Nat)
 | ret
 | pan (d:D)
abbrev Post:=X->St->Prop
def ZaW (G:Gl) (d:D) (h:Zae) (K:KD):Prop :=
 ∀(C:Ctx) (w:World) (β:Nat->Value) (V:Nat->Prop) (v:Value),C.G=G->RelD C h β V w->Zab h β V w d v->∃d' h' β' V',K d' h'/\RelD C h' β' V' w/\Zab h' β' V' w d' v/\LeH h β h' β'/\ZaI V w V' w
def ZqG (op:Op) (d:D):Bool :=
 match op with
 | .load _ _=>match d with
  | .g (.raw _)=>true
  | _=>false
 | .slice _ _ _ _ _=>match d with
  | .rs _ _ _=>true
  | _=>false
 | .store _ _ _=>true
 | .build _ _=>true
 | .call { callee:=.builtin .append,.. }=>true
 | _=>false
def Zwk (G:Gl) (op:Op) (st:St) (X:St->Prop):Prop :=
 match op with
 | .buildSlice _ _ parts=>match parts.toList with
  | [(_,.tmp s)]=>match st.env s with
   | .ptr i o=>bif ZdT st.h then ZaW G (.ptr i o) st.h (λd' h'=>X ⟨st.env.set s d',h',st.df⟩) else X st
   | .row i=>bif ZdT st.h then ZaW G (.row i) st.h (λd' h'=>X ⟨st.env.set s d',h',st.df⟩) else X st
   | _=>X st
  | _=>X st
 | _=>X st
def ZhG (P:Program) (T:Tab) (F:FuncId->Bool) (G:Gl) (op:Op) (dst:Option Nat) (st:St) (K:St->Prop) (Q:Post):Prop :=
 Zwk G op st λst=>match st with
 | ⟨env,h,df⟩=>ZaN P T F G op ⟨env,h,df⟩
   (λd h=>orS (ZqG op d && ZdT h) (Zfi d λd=>ZeH h λh=>match dst with | some i=>K ⟨env.set i d,h,df⟩ | none=>K ⟨env,h,df⟩)
    (ZaW G d h λd h=>Zfi d λd=>ZeH h λh=>match dst with | some i=>K ⟨env.set i d,h,df⟩ | none=>K ⟨env,h,df⟩))
   (λd h=>Q (.pan d) ⟨env,h,df⟩)
def Zgo (dst:Option Nat) (st:St) (K:St->Prop):Prop :=
 match st with
 | ⟨env,h,df⟩=>match dst with | some i=>K ⟨env.set i (.tuple []),h,df⟩ | none=>K ⟨env,h,df⟩
def Zjg (P:Program) (T:Tab) (F:FuncId->Bool) (G:Gl) (all:Array Oper) (o:Oper) (st:St) (K:St->Prop) (Q:Post):Prop :=
 match o with
 | ⟨dst,op,_,_,_,none⟩=>ZhG P T F G op dst st K Q
 | ⟨dst,op,_,_,_,some (j,b)⟩ =>
  match (all[j]?).bind (·.dst) with
  | none=>Zgo dst st K
  | some d =>
   match st.env d with
   | .g (.bool true)=>bif b then ZhG P T F G op dst st K Q else Zgo dst st K
   | .g (.bool false)=>bif b then Zgo dst st K else ZhG P T F G op dst st K Q
   | .tuple _=>Zgo dst st K
   | .pb p=>match st with
    | ⟨env,h,df⟩=>bif b
     then (p->ZhG P T F G op dst ⟨env.set d (.g (.bool true)),h,df⟩ K Q)/\(¬p->Zgo dst ⟨env.set d (.g (.bool false)),h,df⟩ K)
     else (p->Zgo dst ⟨env.set d (.g (.bool true)),h,df⟩ K)/\(¬p->ZhG P T F G op dst ⟨env.set d (.g (.bool false)),h,df⟩ K Q)
   | .pn p=>match st with
    | ⟨env,h,df⟩=>bif b
     then (¬p->ZhG P T F G op dst ⟨env.set d (.g (.bool true)),h,df⟩ K Q)/\(p->Zgo dst ⟨env.set d (.g (.bool false)),h,df⟩ K)
     else (¬p->Zgo dst ⟨env.set d (.g (.bool true)),h,df⟩ K)/\(p->ZhG P T F G op dst ⟨env.set d (.g (.bool false)),h,df⟩ K Q)
   | _=>False
def Zye (P:Program) (T:Tab) (F:FuncId->Bool) (G:Gl) (all:Array Oper) (K:St->Prop) (Q:Post) (l:List Oper):St->Prop :=
 List.rec (motive:=λ_=>St->Prop) K (λo _ next st=>Zjg P T F G all o st next Q) l
def ZbK:Code->List Nat
 | .region _ ops _=>ops.toList.filterMap (·.dst)
 | .seq a b=>ZbK a++ZbK b
 | .cond _ a b=>ZbK a++ZbK b
 | .block _ a=>ZbK a
 | .loop a=>ZbK a
 | _=>[]
def inL:List Nat->Nat->Bool
 | [],_=>false
 | a :: l,k=>bif Nat.beq a k then true else inL l k
def Zhx (n:Nat):List Nat->Bool
 | []=>true
 | a :: l=>Nat.blt a n && Zhx n l
theorem ZbO:∀{l:List Nat} {k:Nat},inL l k=true↔k∈l
 | [],k=>by simp[inL]
 | a :: l,k=>by
  simp only[inL,Yav];cases h:Nat.beq a k with
  | true=>simp[Nat.eq_of_beq_eq_true h]
  | false =>
   simp only[cond_false];rw[ZbO];have:¬ k=a:=λe=>by rw[e,YaY] at h;cases h
   simp[this]
def Rel (C:Ctx) (n:Nat) (st:St) (a:Act) (w:World):Prop :=
 a.tmps.size=n/\a.defers=st.df/\∃β V,RelD C st.h β V w/\ZbS st β V w a
def ZBN (C:Ctx) (st:St) (S:List Nat) (a:Act):Prop :=
 (∀k,C.V0 k->¬ C.own k)/\(∀k,C.V0 k->k < C.w0.heap.size)/\∃a0 β0,ZbS st β0 C.V0 C.w0 a0/\∀k,inL S k=false->a.tmps.getD k undef=a0.tmps.getD k undef
def Zz3 (G:Gl) (n:Nat) (B:St->Post->Prop) (S:List Nat) (st:St) (Q:Post):Prop :=
 ∃(ι:Type) (I:ι->St->Prop) (μ:ι->Nat),
  (∀C a w,C.G=G->Rel C n st a w->∃i aw,Rel C n aw a w/\I i aw) /\
  (∀i aw,I i aw->B aw (λe st'=>match e with
   | .normal=>∀C a w,C.G=G->Rel C n st' a w->ZBN C st S a->∃i' bR,Rel C n bR a w/\I i' bR/\μ i' < μ i
   | e=>Q e st'))
theorem Znh {C:Ctx} {h:Zae} {β:Nat->Value} {V:Nat->Prop} {w:World} (hr:RelD C h β V w) {h':Zae} {β':Nat->Value} {V':Nat->Prop} {w':World}
  (hc:RelD ⟨w,λk=>∃i o,h[i]?=some o/\o.live=true/\Bk o (β i) k,V,C.G⟩ h' β' V' w'):RelD C h' β' V' w':=by
 refine ⟨hc.obj,hc.sep,λi o k hi hl hk=>?_,hc.vout,hc.vlt,λk hk=>hc.vin k (hr.vin k hk),λk hk=>?_,?_,hc.gl⟩
 ·rcases hc.mine i o k hi hl hk with h1 | ⟨j,o',g1,g2,g3⟩
  ·exact .inl (YaC hr.fr.size h1)
  ·exact hr.mine j o' k g1 g2 g3
 ·rcases hc.vnew k hk with h1 | h1 | ⟨j,o',g1,g2,g3⟩
  ·exact hr.vnew k h1
  ·exact .inr (.inl (YaC hr.fr.size h1))
  ·exact .inr (hr.mine j o' k g1 g2 g3)
 ·refine ⟨hc.fr.os.trans hr.fr.os,hc.fr.tape.trans hr.fr.tape,hc.fr.output.trans hr.fr.output,YaC hr.fr.size hc.fr.size,λk hk hn=>?_⟩;rw[hc.fr.block k (YaX hk hr.fr.size) ?_]
  ·exact hr.fr.block k hk hn
  ·rintro ⟨j,o',g1,g2,g3⟩;rcases hr.mine j o' k g1 g2 g3 with h1 | h1
   ·omega
   ·exact hn h1
theorem Zgf {C:Ctx} {h:Zae} {β:Nat->Value} {V:Nat->Prop} {w:World} (hr:RelD C h β V w):RelD ⟨w,λk=>∃i o,h[i]?=some o/\o.live=true/\Bk o (β i) k,V,C.G⟩ h β V w :=
 ⟨hr.obj,hr.sep,λi o _ hi hl hk=>.inr ⟨i,o,hi,hl,hk⟩,hr.vout,hr.vlt,λ_ hk=>hk,λ_ hk=>.inl hk,Fr.refl _ _,hr.gl⟩
section
variable {P:Program} {T:Tab} {F:FuncId->Bool} {C:Ctx} {n:Nat}
def XOk (e:Exit) (x:X) (st:St) (a:Act) (w:World) (C:Ctx) (n:Nat):Prop :=
 match e,x with
 | .normal,.normal=>Rel C n st a w
 | .exit i,.exit j=>i=j/\Rel C n st a w
 | .ret,.ret=>Rel C n st a w
 | .panic ch,.pan d=>∃t u,ch=[{ v:=.iface t u,recovered:=false }]/\a.tmps.size=n/\a.defers=st.df/\∃β V,RelD C st.h β V w/\ZbS st β V w a/\Zab st.h β V w d (.iface t u)
 | _,_=>False
def ZaL (S:List Nat) (a a':Act):Prop:=∀k,inL S k=false->a'.tmps.getD k undef=a.tmps.getD k undef
theorem ZaL.refl (S:List Nat) (a:Act):ZaL S a a:=λ_ _=>rfl
theorem ZaL.trans {S:List Nat} {a b c:Act} (h:ZaL S a b) (k:ZaL S b c):ZaL S a c:=λi hi=>(k i hi).trans (h i hi)
theorem ZaL.put {S:List Nat} {a:Act} {dst:Option Nat} (h:∀d,dst=some d->inL S d=true) (v:Value):ZaL S a (a.put dst v):=by
 intro k hk;cases dst with
 | none=>rfl
 | some d =>
  have aC:d≠k:=λe=>by subst e;rw[h d rfl] at hk;cases hk
  show (a.tmps.setIfInBounds d v).getD k undef=_;simp only[Yao,Ybs];rw[if_neg aC]
theorem Zmr {st:St} {h':Zae} {β β':Nat->Value} {V V':Nat->Prop} {w w':World} {a:Act} (he:ZbS st β V w a) (ah:a.tmps.size=n) (hle:LeH st.h β h' β') (hm:ZaI V w V' w') {i:Nat} (hi:i < n) {d:D} {v:Value} (hd:Zab h' β' V' w' d v) (df:List Deferred) :
  ZbS ⟨st.env.set i d,h',df⟩ β' V' w' (a.put (some i) v):=by
 intro k;show Zab h' β' V' w' (bif Nat.beq k i then d else st.env k) ((a.tmps.setIfInBounds i v).getD k undef);by_cases hk:k=i
 ·subst hk;rw[YaY];have aG:k < a.tmps.size:=by rw[ah];exact hi
  simp only[cond_true,Array.getD,Array.size_setIfInBounds,aG];simpa using hd
 ·rw[Zc5 hk];have h2:(a.tmps.setIfInBounds i v).getD k undef=a.tmps.getD k undef:=by simp only[Yao,Ybs];rw[if_neg (λe=>hk e.symm)]
  rw[h2];exact Zab.mono hle hm _ _ (he k)
theorem Zq4 {st:St} {β:Nat->Value} {V:Nat->Prop} {w:World} {a:Act} (he:ZbS st β V w a) {i:Nat} {d:D} (hd:Zab st.h β V w d (a.tmps.getD i undef)):ZbS ⟨st.env.set i d,st.h,st.df⟩ β V w a:=by
 intro k;show Zab st.h β V w (bif Nat.beq k i then d else st.env k) (a.tmps.getD k undef);by_cases hk:k=i
 ·subst hk;rw[YaY];exact hd
 ·rw[Zc5 hk];exact he k
theorem ZtV {op:Op} {st:St} {a:Act} {w:World} {X:St->Prop} {β:Nat->Value} {V:Nat->Prop} (hr:RelD C st.h β V w) (he:ZbS st β V w a) (h:Zwk C.G op st X) :
  ∃aw β1 V1,X aw/\aw.df=st.df/\RelD C aw.h β1 V1 w/\ZbS aw β1 V1 w a:=by
 have no:X st->∃aw β1 V1,X aw/\aw.df=st.df/\RelD C aw.h β1 V1 w/\ZbS aw β1 V1 w a:=λh=>⟨st,β,V,h,rfl,hr,he⟩;unfold Zwk at h;split at h
 ·split at h
  ·rename_i s _;split at h
   ·rename_i i o e;cases hm:ZdT st.h with
    | false=>rw[hm] at h;exact no h
    | true =>
     rw[hm] at h;have hs:=he s;rw[e] at hs;obtain ⟨d',h',β',V',k1,k2,k3,k4,k5⟩:=h C w β V _ rfl hr hs;refine ⟨_,β',V',k1,rfl,k2,λk=>?_⟩;show Zab h' β' V' w (bif Nat.beq k s then d' else st.env k) (a.tmps.getD k undef);by_cases hk:k=s
     ·subst hk;rw[YaY];exact k3
     ·rw[Zc5 hk];exact Zab.mono k4 k5 _ _ (he k)
   ·rename_i i e;cases hm:ZdT st.h with
    | false=>rw[hm] at h;exact no h
    | true =>
     rw[hm] at h;have hs:=he s;rw[e] at hs;obtain ⟨d',h',β',V',k1,k2,k3,k4,k5⟩:=h C w β V _ rfl hr hs;refine ⟨_,β',V',k1,rfl,k2,λk=>?_⟩;show Zab h' β' V' w (bif Nat.beq k s then d' else st.env k) (a.tmps.getD k undef);by_cases hk:k=s
     ·subst hk;rw[YaY];exact k3
     ·rw[Zc5 hk];exact Zab.mono k4 k5 _ _ (he k)
   ·exact no h
  ·exact no h
 ·exact no h
theorem ZtE (hT:TabOk P T) (hF:∀g,F g=true->fnOk P g=true) {o:Oper} {st:St} {a:Act} {w:World} {K:St->Prop} {Q:Post} {next:Act->World->Prop} {Qa:Exit->Act->World->Prop}
  (ah:a.tmps.size=n) (bf:a.defers=st.df) {β:Nat->Value} {V:Nat->Prop} (hr:RelD C st.h β V w) (he:ZbS st β V w a) (hd:∀d,o.dst=some d->d < n) (h:ZhG P T F C.G o.op o.dst st K Q)
  (hK:∀st' v w',K st'->Rel C n st' (a.put o.dst v) w'->next (a.put o.dst v) w') (hQ:∀d st' ch w',Q (.pan d) st'->XOk (.panic ch) (.pan d) st' a w' C n->Qa (.panic ch) a w'):o.wp P a w next Qa:=by
 unfold ZhG at h;obtain ⟨aw,β1,V1,h,mh,hr,he⟩:=ZtV hr he h;rw[<- mh] at bf;obtain ⟨env,hp,df⟩:=aw;simp only[ZfJ,Zdm] at h;refine Zbu.wp (ZjF (st:=⟨env,hp,df⟩) hT hF h hr he ?_ ?_)
 ·intro d h' v w' β' V' hk aL bF hle hm;have dO:(a.put o.dst v).tmps.size=n:=by
   cases o.dst with
   | none=>exact ah
   | some i=>simp[Act.put,ah]
  have dU:(a.put o.dst v).defers=df:=by
   cases o.dst with
   | none=>exact bf
   | some i=>exact bf
  have fin:∀(d:D) (h':Zae) (β':Nat->Value) (V':Nat->Prop),(match o.dst with | some i=>K ⟨env.set i d,h',df⟩ | none=>K ⟨env,h',df⟩)->RelD C h' β' V' w'->Zab h' β' V' w' d v->LeH hp β1 h' β'->ZaI V1 w V' w'->next (a.put o.dst v) w':=by
   intro d h' β' V' hk aL bF hle hm;cases aQ:o.dst with
   | none =>rw[aQ] at hk dO dU;refine aQ▸hK ⟨env,h',df⟩ v w' hk (by rw[aQ];exact ⟨dO,dU,β',V',aL,λk=>Zab.mono hle hm _ _ (he k)⟩)
   | some i =>rw[aQ] at hk dO dU;refine aQ▸hK ⟨env.set i d,h',df⟩ v w' hk (by rw[aQ];exact ⟨dO,dU,β',V',aL,Zmr he ah hle hm (hd i aQ) bF df⟩)
  rcases Zpe hk with hk | hk
  ·exact fin d h' β' V' hk aL bF hle hm
  ·obtain ⟨d2,h2,β2,V2,k1,k2,k3,k4,k5⟩:=hk C w' β' V' v rfl aL bF;exact fin d2 h2 β2 V2 k1 k2 k3 (hle.trans k4) (hm.trans k5)
 ·intro d h' t u w' β' V' hq aL bF hle hm;exact hQ d ⟨env,h',df⟩ _ w' hq ⟨t,u,rfl,ah,bf,β',V',aL,λk=>Zab.mono hle hm _ _ (he k),bF⟩
theorem Zjc {a:Act} {ops:Array Oper} {j d:Nat} (hj:(ops[j]?).bind (·.dst)=some d) :
  yielded ops a.tmps j=(match a.tmps.getD d undef with | .bool b=>some b | _=>none):=by
 unfold yielded;rw[hj];simp only[Option.bind_some];rw[Yao];cases hd:a.tmps[d]? with
 | none=>simp only[Option.getD_none];rfl
 | some v=>simp only[Option.getD_some];cases v<;>rfl
theorem ZjG (hT:TabOk P T) (hF:∀g,F g=true->fnOk P g=true) {all:Array Oper} {o:Oper} {st:St} {a:Act} {w:World} {K:St->Prop} {Q:Post} {next:Act->World->Prop} {Qa:Exit->Act->World->Prop}
  (hr:Rel C n st a w) (hd:∀d,o.dst=some d->d < n) (h:Zjg P T F C.G all o st K Q)
  (hK:∀st' v w',K st'->Rel C n st' (a.put o.dst v) w'->next (a.put o.dst v) w') (hQ:∀d st' ch w',Q (.pan d) st'->XOk (.panic ch) (.pan d) st' a w' C n->Qa (.panic ch) a w') :
  Zvm P all o a w next Qa:=by
 obtain ⟨ah,bf,β,V,ab,he⟩:=hr;have run:∀eY:St,eY.df=st.df->eY.h=st.h->ZbS eY β V w a->ZhG P T F C.G o.op o.dst eY K Q->o.wp P a w next Qa:=by intro eY h1 h2 h3 h4;exact ZtE hT hF ah (by rw[h1];exact bf) (by rw[h2];exact ab) h3 hd h4 hK hQ
 have skip:∀eY:St,eY.df=st.df->eY.h=st.h->ZbS eY β V w a->Zgo o.dst eY K->next (a.put o.dst undef) w:=by
  intro eY h1 h2 h3 h4;obtain ⟨env,hp,df⟩:=eY;simp only at h1 h2;subst h1;subst h2;simp only[Zgo] at h4;have dO:(a.put o.dst undef).tmps.size=n:=by
   cases o.dst with
   | none=>exact ah
   | some i=>simp[Act.put,ah]
  have dU:(a.put o.dst undef).defers=st.df:=by
   cases o.dst with
   | none=>exact bf
   | some i=>exact bf
  cases aQ:o.dst with
  | none =>rw[aQ] at h4 dO dU;exact aQ▸hK _ undef w h4 (by rw[aQ];exact ⟨dO,dU,β,V,ab,h3⟩)
  | some i =>rw[aQ] at h4 dO dU;exact aQ▸hK _ undef w h4 (by rw[aQ];exact ⟨dO,dU,β,V,ab,Zmr h3 ah (LeH.refl _ _) (ZaI.refl _ _) (hd i aQ) (by simp only[Zab];exact ⟨[],rfl,by simp[Zaa]⟩) _⟩)
 obtain ⟨dst,op,ty,pos,qj,guard⟩:=o;unfold Zvm;cases guard with
 | none =>have h:ZhG P T F C.G op dst st K Q:=h;rw[if_pos (by simp[Region.wanted])];exact run st rfl rfl he h
 | some g =>
  obtain ⟨j,b⟩:=g;simp only[Zjg] at h;have iC:Region.wanted ⟨dst,op,ty,pos,qj,some (j,b)⟩ (yielded all a.tmps)=(yielded all a.tmps j == some b):=by simp[Region.wanted]
  rw[iC];split at h
  ·rename_i iW;have:yielded all a.tmps j=none:=by unfold yielded;rw[iW];rfl
   rw[this,if_neg (by simp)];exact skip st rfl rfl he h
  ·rename_i d iO;have hy:=Zjc (a:=a) iO;rw[hy];have eP:=he d;split at h
   ·rename_i e;rw[e] at eP;simp only[Zab,ZaS] at eP;rw[eP];cases b with
    | true=>rw[if_pos (by simp)];exact run st rfl rfl he h
    | false=>rw[if_neg (by simp)];exact skip st rfl rfl he h
   ·rename_i e;rw[e] at eP;simp only[Zab,ZaS] at eP;rw[eP];cases b with
    | true=>rw[if_neg (by simp)];exact skip st rfl rfl he h
    | false=>rw[if_pos (by simp)];exact run st rfl rfl he h
   ·rename_i e;rw[e] at eP;simp only[Zab] at eP;obtain ⟨us,hv,_⟩:=eP;rw[hv,if_neg (by simp)];exact skip st rfl rfl he h
   ·rename_i p e;rw[e] at eP;simp only[Zab] at eP;obtain ⟨c,hv,hc⟩:=eP;obtain ⟨env,hp,df⟩:=st;have bq:∀c':Bool,c'=c->ZbS ⟨env.set d (.g (.bool c')),hp,df⟩ β V w a:=λc' gL=>Zq4 (st:=⟨env,hp,df⟩) he (by simp only[Zab,ZaS];rw[gL];exact hv);rw[hv];cases c with
    | true =>
     have gb:=hc.1 rfl;cases b with
     | true=>rw[if_pos (by simp)];exact run ⟨env.set d (.g (.bool true)),hp,df⟩ rfl rfl (bq true rfl) (h.1 gb)
     | false=>rw[if_neg (by simp)];exact skip ⟨env.set d (.g (.bool true)),hp,df⟩ rfl rfl (bq true rfl) (h.1 gb)
    | false =>
     have gb:¬ p:=λhp=>by have:=hc.2 hp;cases this
     cases b with
     | true=>rw[if_neg (by simp)];exact skip ⟨env.set d (.g (.bool false)),hp,df⟩ rfl rfl (bq false rfl) (h.2 gb)
     | false=>rw[if_pos (by simp)];exact run ⟨env.set d (.g (.bool false)),hp,df⟩ rfl rfl (bq false rfl) (h.2 gb)
   ·rename_i p e;rw[e] at eP;simp only[Zab] at eP;obtain ⟨c,hv,hc⟩:=eP;obtain ⟨env,hp,df⟩:=st;have bq:∀c':Bool,c'=c->ZbS ⟨env.set d (.g (.bool c')),hp,df⟩ β V w a:=λc' gL=>Zq4 (st:=⟨env,hp,df⟩) he (by simp only[Zab,ZaS];rw[gL];exact hv);rw[hv];cases c with
    | true =>
     have gb:=hc.1 rfl;cases b with
     | true=>rw[if_pos (by simp)];exact run ⟨env.set d (.g (.bool true)),hp,df⟩ rfl rfl (bq true rfl) (h.1 gb)
     | false=>rw[if_neg (by simp)];exact skip ⟨env.set d (.g (.bool true)),hp,df⟩ rfl rfl (bq true rfl) (h.1 gb)
    | false =>
     have gb:p:=Yah.1 (λhp=>by have:=hc.2 hp;cases this);cases b with
     | true=>rw[if_neg (by simp)];exact skip ⟨env.set d (.g (.bool false)),hp,df⟩ rfl rfl (bq false rfl) (h.2 gb)
     | false=>rw[if_pos (by simp)];exact run ⟨env.set d (.g (.bool false)),hp,df⟩ rfl rfl (bq false rfl) (h.2 gb)
   ·exact h.elim
theorem Znu (hT:TabOk P T) (hF:∀g,F g=true->fnOk P g=true) {all:Array Oper} {S:List Nat} {K:St->Prop} {Q:Post} {Qa:Exit->Act->World->Prop} {a0:Act}
  (hK:∀st a w,K st->Rel C n st a w->ZaL S a0 a->Qa .normal a w) (hQ:∀d st ch a w,Q (.pan d) st->XOk (.panic ch) (.pan d) st a w C n->ZaL S a0 a->Qa (.panic ch) a w) :
  ∀(l:List Oper),(∀o∈l,∀d,o.dst=some d->d < n/\inL S d=true)->∀(st:St) (a:Act) (w:World),Zye P T F C.G all K Q l st->Rel C n st a w->ZaL S a0 a->wpList P all Qa l a w:=by
 intro l
 induction l with
 | nil=>intro _ st a w h hr hk;exact hK st a w h hr hk
 | cons o r ih =>
  intro hl st a w h hr hk;have gB:∀v,ZaL S a0 (a.put o.dst v):=λv=>hk.trans (ZaL.put (λd hd=>(hl o Yae d hd).2) v);have:=ZjG (next:=wpList P all Qa r) (Qa:=Qa) hT hF hr (λd hd=>(hl o Yae d hd).1) h
   (λst' v w' ae aL=>ih (λo ho=>hl o (Yad _ ho)) st' _ w' ae aL (gB v)) (λd st' ch w' hq hx=>hQ d st' ch a w' hq hx hk)
  unfold Zvm at this;unfold wpList;split
  ·rename_i hw;rw[if_pos hw] at this;exact .inl this
  ·rename_i hw;rw[if_neg hw] at this;exact this
theorem ZcA {n:Nat}:∀{l:List Nat},Zhx n l=true->∀k∈l,k < n
 | [],_,k,hk=>by simp at hk
 | a :: l,h,k,hk=>by
  simp only[Zhx,Yag] at h;rcases Yav.1 hk with rfl | hk
  ·exact Yau h.1
  ·exact ZcA h.2 k hk
end
end Go.Dm
