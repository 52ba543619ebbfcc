import Derived.Test.YtpjjkiidjofflaaGreatDoorWDa1
import Derived.Orders
namespace Go.Dm
open Go Go.Eng Go.RowKit
section
variable {P:Program} {T:Tab} {F:FuncId->Bool} {C:Ctx} {st:St} {a:Act} {w:World} {β:Nat->Value} {V:Nat->Prop} {K:KD} {Qp:KD} {next:Value->World->Prop} {qp:List PanicEntry->World->Prop}
section
variable (hr:RelD C st.h β V w) (he:ZbO st β V w a) (hN:Nx C st.h β V w K next)
include hr he hN
theorem ZAf (hT:TabOk P T) {t:TypeId} {x:Operand} {o:Oper} (ho:o.op=.load t x) (h:ZaK P T F C.G (.load t x) st K Qp):Zbj P next qp ((execOp a.eval o).run P w):=by
 simp only[ZaK,ZsA] at h;have hx:=he.eval hr.gl x;cases ht:T t with
 | none=>rw[ht] at h;exact h.elim
 | some i =>
  rw[ht] at h;simp only at h;have hi:=hT t i ht;have fin:∀(b:Addr) (v:Value) (d:D),a.eval x=.pointer (some b)->(loadVar t b).run P w=.ok v w->K d st.h->Zaa st.h β V w d v->Zbj P next qp ((execOp a.eval o).run P w):=by intro b v d hb hl hk hd;exact Zdp hN hr (x:=Instr.loadAt t (a.eval x)) (by simp[execOp,ho]) (by simp[hb,Instr.loadAt,Instr.sureAddr,hl]) hk hd
  split at h
  ·rename_i j off ex;rw[ex] at hx;split at h
   ·rename_i cs ty hj;simp only[Zaa,hj] at hx;obtain ⟨g,hb,hv⟩:=hx;obtain ⟨g',vs,hb',hg,hcs⟩:=hr.obj j _ hj;have e:g'=g:=by rw[hb] at hb';injection hb' with hb';injection hb' with hb';injection hb' with hb';exact hb'.symm
    subst e;cases hagg:i.agg with
    | false =>rw[hagg] at h;simp only at h;obtain ⟨d,hd,h⟩:=Zug h;obtain ⟨v,hv1,hv2⟩:=hcs.get hd;refine fin _ v d hv (ZdH hi hagg ?_) h hv2;rw[cell_of_row w _ _ _ _ _ hg];simpa using hv1
    | true =>
     rw[hagg] at h;simp only at h;cases hble:Nat.ble (off+i.size) cs.length with
     | false=>rw[hble] at h;exact h.elim
     | true =>
      rw[hble] at h;have hle:=Yaw hble;have hlen:=hcs.len;refine fin _ (.agg ⟨List.take i.size (vs.drop off)⟩) _ hv (ZdI hi hagg (vs:=List.take i.size (vs.drop off)) (by simp;omega) ?_) h (by simp only[Zaa];exact ⟨_,rfl,(hcs.drop off).take i.size⟩);intro k v hk;rw[Zcm,cell_of_row w _ _ _ _ _ hg];have hkl:k < i.size:=by have:=(Yaa.1 hk).1;simp at this;omega
      rw[Yaz hkl,YaX] at hk;simpa using hk
   ·exact h.elim
  ·rename_i j k off ex;rw[ex] at hx;split at h
   ·rename_i xs e sz hj;obtain ⟨r,hk,hld⟩:=h;simp only[Zaa,hj] at hx;obtain ⟨_,g,n,c,hb,hv⟩:=hx;obtain ⟨vs,hvs,hrl,hcells⟩:=ZwL hr hj hk hb;obtain ⟨d,v,hk',hd,hrun⟩:=ZtW (β:=β) (V:=V) (h:=st.h) hi hld hvs hcells;rw[Zcm] at hrun;exact fin _ v d hv hrun hk' hd
   ·exact h.elim
  ·rename_i r off ex;rw[ex] at hx;simp only[Zaa] at hx;obtain ⟨ad,hv,hV,hrow⟩:=hx;obtain ⟨vs,hvs,hl,hcells⟩:=ZaG.cells r 0 hrow;obtain ⟨d,v,hk',hd,hrun⟩:=ZtW (β:=β) (V:=V) (h:=st.h) hi h hvs (λj v hj=>by simpa using hcells j v hj);exact fin _ v d hv hrun hk' hd
  ·exact h.elim
theorem Zyl (hT:TabOk P T) {t:TypeId} {x y:Operand} {o:Oper} (ho:o.op=.store t x y) (h:ZaK P T F C.G (.store t x y) st K Qp):Zbj P next qp ((execOp a.eval o).run P w):=by
 simp only[ZaK,Zoo] at h;have hx:=he.eval hr.gl x;have hy:=he.eval hr.gl y;cases ht:T t with
 | none=>rw[ht] at h;exact h.elim
 | some i =>
  rw[ht] at h;simp only at h;have hi:=hT t i ht;split at h
  ·exact h.elim
  ·rename_i ds hds;obtain ⟨hrep,hflat⟩:=ZhV hr.obj hds hy;cases hbq:Nat.beq ds.length i.size with
   | false=>rw[hbq] at h;exact h.elim
   | true =>
    rw[hbq] at h;simp only[cond_true] at h;have hlen:(ZaF (a.eval y)).length=i.size:=by rw[<- hrep.len];exact Yap hbq
    have run:∀(g off:Nat) (cur:Array Value) (t':TypeId),a.eval x=.pointer (some ⟨g,off,none⟩)->w.heap[g]?=some (.cells cur t' (0,0))->off+(ZaF (a.eval y)).length<=cur.size ->
      (execOp a.eval o).run P w=.ok .skip (w.setRow g (cur.toList.take off++ZaF (a.eval y)++cur.toList.drop (off+(ZaF (a.eval y)).length)).toArray):=by intro g off cur t' hb hcur hfit;have hrun:=Zji (P:=P) hi hlen hflat hcur hfit;simp only[execOp,ho,Instr.storeAt,hb,Instr.sureAddr,Sem.run_bind,Sem.run_pure,Result.andThen_ok,hrun]
    split at h
    ·rename_i j off ex;rw[ex] at hx;split at h
     ·rename_i cs ty hj;cases hble:Nat.ble (off+i.size) cs.length with
      | false=>rw[hble] at h;exact h.elim
      | true =>
       rw[hble] at h;simp only[cond_true] at h;have hle:=Yaw hble;simp only[Zaa,hj] at hx;obtain ⟨g,hb,hv⟩:=hx;obtain ⟨g',vs,hb',hg,hcs⟩:=hr.obj j _ hj;have e:g'=g:=by rw[hb] at hb';injection hb' with hb';injection hb' with hb';injection hb' with hb';exact hb'.symm
       subst e;have hvl:=hcs.len;rw[run g' off ⟨vs⟩ ty hv hg (by simp;omega)];have hset:=ZiD _ _ _ _ off hcs hrep;rw[Zlo _ _ _ (by omega)] at hset;have hr':=hr.set_blk hj hb (Zdy cs off ds) _ hset;refine hN _ _ undef _ _ _ h hr' (by simp only[Zaa]) (Zcv hj trivial) (hr.moved (Fr.setRow w g' _) (λk hk=>⟨j,_,hj,rfl,by subst hk;rw[hb];rfl⟩))
     ·exact h.elim
    ·rename_i j k off ex;rw[ex] at hx;split at h
     ·rename_i xs e sz hj;obtain ⟨r,gs,hk,hsees,hfit,hnot,hK⟩:=h;simp only[Zaa,hj] at hx;obtain ⟨hkl,g,n,c,hb,hv⟩:=hx;obtain ⟨vs,hown,hvs,hxs,h0⟩:=hr.obj j _ hj;have hrl:r.length=sz:=hxs r (YaL hk);rcases hown.2 with ⟨hnil,_⟩ | ⟨g',cap,cur,hv',hb0,hh,hnc,hcm,hsz,htk⟩
      ·rw[hnil] at hb;cases hb
      ·have eg:g'=g:=by rw[hv'] at hb;injection hb with e1 _ _;injection e1 with e1;injection e1
       subst eg;have hvl:vs.length=xs.length*sz:=hown.1;have hks:k*sz+sz<=xs.length*sz:=by rw[<- YaY];exact YaQ _ hkl
       have hcl:xs.length*sz<=cur.toList.length:=by rw[Array.length_toList (xs:=cur),hsz];exact YaQ _ hnc
       have hcl':cur.toList.length=cur.size:=Array.length_toList;rw[run g' (k*sz+off) cur e hv hh (by omega)];have hrk:=ZeK hr (ZcI ds);have hgs:=Ze9 hr (l:=ZcI ds) hsees hrep (λj hj=>hj);have hjk:(ZbS st.h (ZcI ds))[j]?=some (.row xs e sz):=by
        have hl:j < (ZbS st.h (ZcI ds)).length:=by rw[Zci];exact (Yaa.1 hj).1
        rcases Zfg (ZcI ds) st.h j _ (Yaq hl) with ⟨e1,_⟩ | ⟨_,e1⟩
        ·exfalso;have key:∀(l:List Nat) (h:Zad) (ob:Go.Dm.Obj),j ∉ l->h[j]?=some ob->(ZbS h l)[j]?=some ob:=by
          intro l
          induction l with
          | nil=>intro h ob _ ho;exact ho
          | cons a l ih =>intro h ob hn ho;simp only[Yav,not_or] at hn;exact ih _ _ hn.2 (by rw[YaR (λe=>hn.1 e.symm)];exact ho)
         have:=key _ _ _ hnot hj;rw[Yaq hl,e1] at this;cases this
        ·rw[hj] at e1;rw[Yaq hl];exact e1.symm
       have hgl:gs.length=i.size:=by rw[hgs.len,hlen]
       have hvsk:Za9 (Zg3 st.h (ZcI ds) β V) w xs.flatten vs:=Za9.move (Zbw _ _ _ _ _) _ _ hvs;have hflatset:(xs.set k (Zdy r off gs)).flatten=Zdy xs.flatten (k*sz+off) gs:=by
        have key:∀(xs:List (List GV)) (k:Nat),(∀r∈xs,r.length=sz)->xs[k]?=some r->(xs.set k (Zdy r off gs)).flatten=Zdy xs.flatten (k*sz+off) gs:=by
         have sapp:∀(gs:List GV) (u l:List GV) (o:Nat),Zdy (u++l) (u.length+o) gs=u++Zdy l o gs:=by
          intro gs
          induction gs with
          | nil=>intro u l o;rfl
          | cons g gs ih =>intro u l o;simp only[Zdy];rw[YbK _ _ (by omega),show u.length+o - u.length=o from by omega,show u.length+o+1=u.length+(o+1) from by omega,ih]
         have sapl:∀(gs:List GV) (u l:List GV) (o:Nat),o+gs.length<=u.length->Zdy (u++l) o gs=Zdy u o gs++l:=by
          intro gs
          induction gs with
          | nil=>intro u l o _;rfl
          | cons g gs ih =>intro u l o ho;simp only[List.length_cons] at ho;simp only[Zdy];rw[YbR _ _ (by omega),ih _ _ _ (by simp;omega)]
         intro xs
         induction xs with
         | nil=>intro k _ hk;simp at hk
         | cons x xs ih =>
          intro k hx hk;have hxl:=hx x Yac;cases k with
          | zero =>simp at hk;subst hk;rw[List.set_cons_zero,List.flatten_cons,List.flatten_cons,Ycz,YaA,sapl _ _ _ _ (by omega)]
          | succ k =>rw[List.set_cons_succ,List.flatten_cons,List.flatten_cons,ih k (λr hr=>hx r (Yad _ hr)) (by simpa using hk),show (k+1)*sz+off=x.length+(k*sz+off) from by rw[hxl,YaY];omega,sapp]
        exact key xs k hxs hk
       have hnew:=ZpU gs (ZaF (a.eval y)) _ _ (k*sz+off) hvsk hgs;rw[<- hflatset] at hnew;have hr':=hrk.set_row hjk hb (xs.set k (Zdy r off gs)) (Ze7 vs (k*sz+off) (ZaF (a.eval y))) hnew
        (λq hq=>by
         rcases Ycv hq with hq | rfl
         ·exact hxs q hq
         ·rw[ZoF];exact hrl)
        (by simp) (cur.toList.take (k*sz+off)++ZaF (a.eval y)++cur.toList.drop (k*sz+off+(ZaF (a.eval y)).length)).toArray
        (λcur2 hh2=>by
         rw[hh] at hh2;injection hh2 with hh2;injection hh2 with hh2;subst hh2;simp;omega)
        (by
         have:=Zrl (ZaF (a.eval y)) cur.toList (xs.length*sz) (k*sz+off) hcl (by omega);rw[htk] at this;simpa using this)
       have hcomm:∀(l:List Nat) (h:Zad) (ob:Go.Dm.Obj),j ∉ l->ZbS (h.set j ob) l=(ZbS h l).set j ob:=by
        intro l
        induction l with
        | nil=>intro h ob _;rfl
        | cons a l ih =>intro h ob hn;simp only[Yav,not_or] at hn;simp only[ZbS];rw[List.set_comm _ _ hn.1,ih _ _ hn.2]
       rw[hcomm _ _ _ hnot] at hK;have hle2:LeH st.h β ((ZbS st.h (ZcI ds)).set j (.row (xs.set k (Zdy r off gs)) e sz)) β:=by
        intro i' o' hi';obtain ⟨o1,g1,g2,g3⟩:=ZeJ (ZcI ds) st.h β i' o' hi';by_cases hij:i'=j
        ·subst hij;rw[hj] at hi';injection hi' with hi';subst hi';exact ⟨_,YbH (Yaa.1 g1).1,⟨by simp,rfl⟩,λ_=>rfl⟩
        ·exact ⟨o1,by rw[YaR (λe=>hij e.symm)];exact g1,g2,g3⟩
       refine hN _ _ undef _ _ _ hK hr' (by simp only[Zaa]) hle2 ((Zbw _ _ _ _ _).trans (hrk.moved (Fr.setRow w g' _) (λq hq=>⟨j,_,hjk,rfl,by subst hq;rw[hb];rfl⟩)))
     ·exact h.elim
    ·exact h.elim
theorem Zs9 {x:Operand} {f:Nat} {o:Oper} (ho:o.op=.extract x f) (h:ZaK P T F C.G (.extract x f) st K Qp):Zbj P next qp ((execOp a.eval o).run P w):=by
 have he':execOp a.eval o=(do pure (.value (<- Instr.extract (a.eval x) f))):=by simp[execOp,ho]
 have hx:=he.eval hr.gl x;simp only[ZaK] at h;split at h
 ·rename_i vs ex;rw[ex] at hx;simp only[Zaa] at hx;obtain ⟨us,hv,hus⟩:=hx;split at h
  ·rename_i d hd;obtain ⟨v,hv1,hv2⟩:=hus.get hd;refine Zdp hN hr he' (v:=v) ?_ h hv2;rw[hv];simp[Instr.extract,hv1]
  ·exact h.elim
 ·exact h.elim
omit hN in
theorem Zzf (l:List Operand):Zac st.h β V w (l.map (sv C.G st)) (l.map a.eval):=by
 induction l with
 | nil=>simp[Zac]
 | cons x l ih=>simp only[Yar,Zac];exact ⟨_,_,rfl,he.eval hr.gl x,ih⟩
theorem Zrx {fn:Fn} {first captured:Array Operand} {o:Oper} (ho:o.op=.makeFunc fn first captured) (h:ZaK P T F C.G (.makeFunc fn first captured) st K Qp):Zbj P next qp ((execOp a.eval o).run P w):=by
 have he':execOp a.eval o=(do pure (.value (<- Instr.makeFunc fn (first.map a.eval) (captured.map a.eval)))):=by simp[execOp,ho]
 cases fn with
 | func f =>simp only[ZaK] at h;refine Zdp hN hr he' (v:=.func (.func f) (first.map a.eval) (captured.map a.eval)) rfl h ?_;simp only[Zaa];exact ⟨first.toList.map a.eval,captured.toList.map a.eval,by simp[<- Array.toList_map],Zzf hr he _,Zzf hr he _⟩
 | _=>exact h.elim
theorem Zjh (hT:TabOk P T) {t:TypeId} {x:Operand} {o:Oper} (ho:o.op=.makeInterface t x) (h:ZaK P T F C.G (.makeInterface t x) st K Qp):Zbj P next qp ((execOp a.eval o).run P w):=by
 have he':execOp a.eval o=(do pure (.value (<- Instr.makeInterface t (a.eval x)))):=by simp[execOp,ho]
 simp only[ZaK] at h;split at h
 ·exact h.elim
 ·rename_i i hne hs;obtain ⟨d,hd,hdk,_⟩:=(hT t _ hs).d;have hni:∀ms,d≠.interface ms:=by
   intro ms e;subst e;obtain ⟨agg,size,bytes,zero,kind⟩:=i;cases kind<;>first | exact hne _ _ _ _ rfl | (simp[ZqR] at hdk)
  refine Zdp hN hr he' (v:=.iface t (a.eval x)) ?_ h (by simp only[Zaa];exact ⟨_,rfl,he.eval hr.gl x⟩);simp only[Instr.makeInterface,Sem.run_bind,run_underlying hd,Result.andThen_ok];cases d<;>first | rfl | exact absurd rfl (hni _)
 ·exact h.elim
theorem Zrw {x:Operand} {o:Oper} (ho:o.op=.nilCheck x) (h:ZaK P T F C.G (.nilCheck x) st K Qp):Zbj P next qp ((execOp a.eval o).run P w):=by
 have hx:=he.eval hr.gl x;simp only[ZaK] at h;have fin:∀(d:D),sv C.G st x=d->K d st.h->((∃b,a.eval x=.pointer (some b))\/∃f y z,a.eval x=.func (.func f) y z)->Zbj P next qp ((execOp a.eval o).run P w):=by
  intro d e hk hv;have:(execOp a.eval o).run P w=.ok (.value (a.eval x)) w:=by rcases hv with ⟨b,hv⟩ | ⟨f,y,z,hv⟩<;>simp[execOp,ho,hv]
  rw[this];rw[e] at hx;exact hN.same hr hk hx
 split at h
 ·rename_i i o' e;split at h
  ·rename_i cs ty hi;refine fin _ e h (.inl ?_);rw[e] at hx;simp only[Zaa,hi] at hx;obtain ⟨g,_,hv⟩:=hx;exact ⟨_,hv⟩
  ·exact h.elim
 ·rename_i i j o' e;split at h
  ·rename_i xs ty sz hi;refine fin _ e h (.inl ?_);rw[e] at hx;simp only[Zaa,hi] at hx;obtain ⟨_,g,_,_,_,hv⟩:=hx;exact ⟨_,hv⟩
  ·exact h.elim
 ·rename_i r o' e;refine fin _ e h (.inl ?_);rw[e] at hx;simp only[Zaa] at hx;obtain ⟨ad,hv,_⟩:=hx;exact ⟨_,hv⟩
 ·rename_i f fs cs e;refine fin _ e h (.inr ?_);rw[e] at hx;simp only[Zaa] at hx;obtain ⟨us,ts,hv,_⟩:=hx;exact ⟨_,_,_,hv⟩
 ·exact h.elim
omit hN in
theorem Zyn {x:Operand} {o:Oper} (ho:o.op=.panic x) (h:ZaK P T F C.G (.panic x) st K Qp) (hP:Px C st.h β V w Qp qp):Zbj P next qp ((execOp a.eval o).run P w):=by
 have hx:=he.eval hr.gl x;simp only[ZaK] at h;split at h
 ·rename_i t d e;rw[e] at hx;have hx':=hx;simp only[Zaa] at hx';obtain ⟨u,hv,_⟩:=hx';rw[hv] at hx;have:(execOp a.eval o).run P w=.halt (.panic (.iface t u)) w:=by simp[execOp,ho,hv,run_panic_iface]
  rw[this];exact hP _ _ _ _ _ _ _ h hr hx (LeH.refl _ _) (ZaB.refl _ _)
 ·exact h.elim
theorem ZBR (hT:TabOk P T) {args:Array Operand} {ts:Array TypeId} {o:Oper} (ho:o.op=.call { callee:=.builtin .len,args:=args,argTypes:=ts }) (h:ZaK P T F C.G (.call { callee:=.builtin .len,args:=args,argTypes:=ts }) st K Qp):Zbj P next qp ((execOp a.eval o).run P w):=by
 simp only[ZaK] at h;split at h
 ·rename_i t x hts har;have hts':ts=#[t]:=by rw[<- Array.toArray_toList (xs:=ts),hts]
  have har':args=#[x]:=by rw[<- Array.toArray_toList (xs:=args),har]
  subst hts';subst har';have hx:=he.eval hr.gl x;split at h
  ·rename_i i hti;have key:∀n:Int,(Builtin.len_ #[t] o.type #[a.eval x]).run P w=.ok (.int .i64 n) w->K (.g (.int n)) st.h->Zbj P next qp ((execOp a.eval o).run P w):=by
    intro n hv hk;have:(execOp a.eval o).run P w=.ok (.value (.int .i64 n)) w:=by simp[execOp,ho,resolve,invoke,builtin,hv]
    rw[this];exact hN.same hr hk (Zp1 n)
   unfold ZmB at h;split at h
   ·rename_i e k xs hk ex;rw[ex] at hx;simp only[Zaa,ZaW] at hx;obtain ⟨A,cap,hv,_⟩:=hx;refine key _ ?_ h;rw[hv];exact Zej hT hti hk A xs.length cap o.type w
   ·rename_i e hk ex;rw[ex] at hx;simp only[Zaa] at hx;refine key _ ?_ h;rw[hx];exact Zej hT hti hk none 0 0 o.type w
   ·rename_i e j hk ex;rw[ex] at hx;split at h
    ·rename_i xs ty sz hj;simp only[Zaa,hj] at hx;obtain ⟨vs,hown,_⟩:=hr.obj j _ hj;refine key _ ?_ h;rcases hown.2 with ⟨hn,h0⟩ | ⟨g,cap,cur,hbv,_⟩
     ·rw[hx,hn,h0];exact Zej hT hti hk none 0 0 o.type w
     ·rw[hx,hbv];exact Zej hT hti hk _ xs.length cap o.type w
    ·exact h.elim
   ·rename_i e j lo n hk ex;rw[ex] at hx;split at h
    ·rename_i xs ty sz hj;simp only[Zaa,hj] at hx;obtain ⟨_,A,m,cap,_,hv⟩:=hx;refine key _ ?_ h;rw[hv];exact Zej hT hti hk _ n _ o.type w
    ·exact h.elim
   ·rename_i s hk ex;rw[ex] at hx;simp only[Zaa,ZaW] at hx;refine key _ ?_ h;rw[hx];exact ZoK hT hti hk _ o.type w
   ·exact h.elim
  ·exact h.elim
 ·exact h.elim
theorem ZBQ {args:Array Operand} {ts:Array TypeId} {o:Oper} (ho:o.op=.call { callee:=.builtin .max,args:=args,argTypes:=ts }) (h:ZaK P T F C.G (.call { callee:=.builtin .max,args:=args,argTypes:=ts }) st K Qp):Zbj P next qp ((execOp a.eval o).run P w):=by
 simp only[ZaK] at h;split at h
 ·rename_i x y har;have har':args=#[x,y]:=by rw[<- Array.toArray_toList (xs:=args),har]
  subst har';have hx:=he.eval hr.gl x;have hy:=he.eval hr.gl y;split at h
  ·rename_i m n ex ey;rw[ex] at hx;rw[ey] at hy;simp only[Zaa,ZaW] at hx hy;have hv:(Builtin.max_ ts o.type #[a.eval x,a.eval y]).run P w=.ok (.int .i64 (if n > m then n else m)) w:=by rw[hx,hy];rfl
   have:(execOp a.eval o).run P w=.ok (.value (.int .i64 (if n > m then n else m))) w:=by simp[execOp,ho,resolve,invoke,builtin,hv]
   rw[this];exact hN.same hr h (Zp1 _)
  ·exact h.elim
 ·exact h.elim
theorem ZBP {args:Array Operand} {ts:Array TypeId} {o:Oper} (ho:o.op=.call { callee:=.builtin .min,args:=args,argTypes:=ts }) (h:ZaK P T F C.G (.call { callee:=.builtin .min,args:=args,argTypes:=ts }) st K Qp):Zbj P next qp ((execOp a.eval o).run P w):=by
 simp only[ZaK] at h;split at h
 ·rename_i x y har;have har':args=#[x,y]:=by rw[<- Array.toArray_toList (xs:=args),har]
  subst har';have hx:=he.eval hr.gl x;have hy:=he.eval hr.gl y;split at h
  ·rename_i m n ex ey;rw[ex] at hx;rw[ey] at hy;simp only[Zaa,ZaW] at hx hy;have hv:(Builtin.min_ ts o.type #[a.eval x,a.eval y]).run P w=.ok (.int .i64 (if n < m then n else m)) w:=by rw[hx,hy];rfl
   have:(execOp a.eval o).run P w=.ok (.value (.int .i64 (if n < m then n else m))) w:=by simp[execOp,ho,resolve,invoke,builtin,hv]
   rw[this];exact hN.same hr h (Zp1 _)
  ·exact h.elim
 ·exact h.elim
end
end
section
variable {P:Program} {T:Tab} {F:FuncId->Bool} {C:Ctx} {st:St} {a:Act} {w:World} {β:Nat->Value} {V:Nat->Prop} {K:KD} {Qp:KD} {next:Value->World->Prop} {qp:List PanicEntry->World->Prop}
theorem ZpQ {h:Zad} (hr:RelD C h β V w) {sz:Nat} {y:D} {v:Value} {news:List (List GV)} (hs:ZBz h sz y=some news) (hy:Zaa h β V w y v) (h0:0 < sz) :
  (news=[]/\v=.slice none 0 0)\/∃ad cap vs,v=.slice (some ad) news.length cap/\Za9 V w news.flatten vs/\(∀r∈news,r.length=sz)/\(vs.length=news.length*sz)/\∀i u,vs[i]?=some u->w.cell? (ad.add i)=some u:=by
 unfold ZBz at hs;have rowc:∀(j:Nat) (ys:List (List GV)) (e sz':Nat),h[j]?=some (.row ys e sz')->sz'=sz->∀(lo n:Nat),lo+n<=ys.length->∀v,ZCl (β j) lo n sz v->(n=0/\v=.slice none 0 0) \/
   ∃ad cap vs,v=.slice (some ad) n cap/\Za9 V w ((ys.drop lo).take n).flatten vs/\(∀r∈(ys.drop lo).take n,r.length=sz)/\(vs.length=n*sz)/\∀i u,vs[i]?=some u->w.cell? (ad.add i)=some u:=by
  intro j ys e sz' hj hsz lo n hln v hv;subst hsz;obtain ⟨A,m,cap,hb,rfl⟩:=hv;obtain ⟨vs,hown,hvs,hxs,_⟩:=hr.obj j _ hj;rcases hown.2 with ⟨hn,hl0⟩ | ⟨g,cap',cur,hbv,_,_,hnc,_⟩
  ·rw[hn] at hb;injection hb with e1 e2 e3;subst e1;subst e3;left;have hlo:lo=0:=by omega
   have hn0:n=0:=by omega
   subst hlo;subst hn0;exact ⟨rfl,by simp⟩
  ·rw[hbv] at hb;injection hb with e1 e2 e3;subst e1;subst e3;have hcells:=hown.cells (g:=g) (by rw[hbv];rfl);right;have hmem:∀r∈(ys.drop lo).take n,r.length=sz':=λr hr=>hxs r (YaU (YaH hr));have hfl:((ys.drop lo).take n).flatten=((ys.flatten).drop (lo*sz')).take (n*sz'):=by
    have k1:∀(ys:List (List GV)) (lo:Nat),(∀r∈ys,r.length=sz')->(ys.drop lo).flatten=ys.flatten.drop (lo*sz'):=by
     intro ys
     induction ys with
     | nil=>intro lo _;simp
     | cons y ys ih =>
      intro lo hy;cases lo with
      | zero=>simp
      | succ lo =>have hyl:=hy y Yac;have hd:y.drop ((lo+1)*sz')=[]:=YbV (by rw[hyl,YaY];omega);rw[Ybf,List.flatten_cons,YcB,hd,hyl,YaY,Ya8,List.nil_append];exact ih lo (λr hr=>hy r (Yad _ hr))
    have k2:∀(ys:List (List GV)) (n:Nat),(∀r∈ys,r.length=sz')->(ys.take n).flatten=ys.flatten.take (n*sz'):=by
     intro ys
     induction ys with
     | nil=>intro n _;simp
     | cons y ys ih =>
      intro n hy;cases n with
      | zero=>simp
      | succ n =>have hyl:=hy y Yac;have hd:y.take ((n+1)*sz')=y:=YaJ (by rw[hyl,YaY];omega);rw[List.take_succ_cons,List.flatten_cons,List.flatten_cons,Ybu,hd,hyl,YaY,Ya8,ih n (λr hr=>hy r (Yad _ hr))]
    rw[k2 _ _ (λr hr=>hxs r (YaU hr)),k1 _ _ hxs]
   have hvl:vs.length=ys.length*sz':=hown.1;have hls:lo*sz'+n*sz'<=ys.length*sz':=by rw[<- Ybw];exact YaQ _ hln
   refine ⟨if cap'=lo then ⟨g,0,none⟩ else ⟨g,lo*sz',none⟩,cap' - lo,(vs.drop (lo*sz')).take (n*sz'),?_,by rw[hfl];exact (hvs.drop _).take _,hmem,by rw[Yan,Ya6];omega,λi u hi=>?_⟩
   ·by_cases hc:cap'=lo
    ·simp[hc]
    ·simp[hc,Zcm]
   ·have hil:i < n*sz':=by have:=(Yaa.1 hi).1;simp at this;omega
    have hne:cap'≠lo:=by
     intro hc;have:n=0:=by omega
     subst this;omega
    rw[if_neg hne,Zcm];rw[Yaz hil,YaX] at hi;have:=hcells (lo*sz'+i) u hi;rw[Zcm,YaA] at this;exact this
 split at hs
 ·injection hs with hs;subst hs;simp only[Zaa] at hy;exact .inl ⟨rfl,hy⟩
 ·rename_i k xs;cases hb:Nat.beq k sz with
  | false=>rw[hb] at hs;cases hs
  | true =>
   rw[hb] at hs;simp at hs;subst hs;have:=Yap hb;subst this;simp only[Zaa,ZaW] at hy;obtain ⟨A,cap,rfl,hc,ha⟩:=hy;cases A with
   | none =>
    by_cases h1:0 < xs.length
    ·obtain ⟨ad,h2,_⟩:=ha.1 h1;cases h2
    ·have hx0:xs=[]:=Ybi (by omega);subst hx0;have:=ha.2 rfl;subst this;exact .inl ⟨rfl,rfl⟩
   | some ad =>
    right;by_cases h1:0 < xs.length
    ·obtain ⟨ad',h2,hV,hall⟩:=ha.1 h1;injection h2 with h2;subst h2;obtain ⟨vs,g1,g2,g3,g4⟩:=Zav.flat xs 0 hall;exact ⟨ad,cap,vs,rfl,g1,g3,g2,λi u hi=>by simpa using g4 i u hi⟩
    ·have hx0:xs=[]:=Ybi (by omega);subst hx0;exact ⟨ad,cap,[],rfl,trivial,λr hr=>by simp at hr,by simp,λi u hi=>by simp at hi⟩
 ·rename_i j;split at hs
  ·rename_i ys e sz' hj;cases hb:Nat.beq sz' sz with
   | false=>rw[hb] at hs;cases hs
   | true =>
    rw[hb] at hs;simp at hs;subst hs;have:=Yap hb;simp only[Zaa,hj] at hy;obtain ⟨vs,hown,_⟩:=hr.obj j _ hj;have hsub:ZCl (β j) 0 ys.length sz v:=by
     rcases hown.2 with ⟨hn,hl0⟩ | ⟨g,cap',cur,hbv,_,_,hnc,_⟩
     ·exact ⟨none,0,0,hn,by rw[hy,hn,hl0];simp⟩
     ·refine ⟨_,_,_,hbv,?_⟩;rw[hy,hbv];by_cases hc:cap'=0
      ·simp[hc]
      ·simp[hc,Addr.add]
    rcases rowc j ys e sz' hj this 0 ys.length (by omega) v hsub with ⟨h1,h2⟩ | ⟨ad,cap,vs,h1,h2,h3,h4,h5⟩
    ·exact .inl ⟨Ybi h1,h2⟩
    ·exact .inr ⟨ad,cap,vs,h1,by simpa using h2,by simpa using h3,h4,h5⟩
  ·cases hs
 ·rename_i j lo n;split at hs
  ·rename_i ys e sz' hj;cases hb:Nat.beq sz' sz with
   | false=>rw[hb] at hs;cases hs
   | true =>
    rw[hb] at hs;simp at hs;subst hs;have:=Yap hb;simp only[Zaa,hj] at hy;obtain ⟨hln,hsub⟩:=hy;have hlen:((ys.drop lo).take n).length=n:=by simp;omega
    subst this;rcases rowc j ys e sz' hj rfl lo n hln v hsub with ⟨h1,h2⟩ | ⟨ad,cap,vs,h1,h2,h3,h4,h5⟩
    ·exact .inl ⟨Ybi (by omega),h2⟩
    ·exact .inr ⟨ad,cap,vs,by rw[hlen];exact h1,h2,h3,by rw[hlen];exact h4,h5⟩
  ·cases hs
 ·cases hs
end
section
variable {P:Program} {T:Tab} {F:FuncId->Bool} {C:Ctx} {st:St} {a:Act} {w:World} {β:Nat->Value} {V:Nat->Prop} {K:KD} {Qp:KD} {next:Value->World->Prop} {qp:List PanicEntry->World->Prop}
theorem ZvR {V:Nat->Prop} {w:World} {g:GV} {v:Value} (h:ZaW V w g v):v.oneCell'=true:=by
 cases g with
 | sl k xs=>simp only[ZaW] at h;obtain ⟨A,cap,rfl,_⟩:=h;rfl
 | raw u=>simp only[ZaW] at h;exact h.2.1
 | _=>simp only[ZaW] at h;subst h;rfl
theorem ZgO {V:Nat->Prop} {w:World}:∀{gs:List GV} {vs:List Value},Za9 V w gs vs->∀v∈vs,v.oneCell'=true
 | [],[],_,v,hv=>by simp at hv
 | [],_ :: _,h,_,_=>h.elim
 | _ :: _,[],h,_,_=>h.elim
 | _ :: _,u :: vs,h,v,hv=>by
  rcases Yav.1 hv with rfl | hv
  ·exact ZvR h.1
  ·exact ZgO h.2 v hv
theorem Zo4 (h:Zad) (β:Nat->Value) (i:Nat) (o:Obj) (v:Value):LeH h β (h.set i .dead++[o]) (upf β h.length v):=by
 intro j oj hj;have hjl:j < h.length:=(Yaa.1 hj).1;by_cases hji:j=i
 ·subst hji;exact ⟨.dead,by rw[Yaj (by simpa using hjl)];simp[hjl],by cases oj<;>trivial,λh=>by cases h⟩
 ·exact ⟨oj,by rw[Yaj (by simpa using hjl),YaR (λe=>hji e.symm)];exact hj,OLe.refl _,λ_=>Zdq (by omega)⟩
theorem ZhY (hT:TabOk P T) {t e:TypeId} {i ei:TI} (hs:T t=some i) (hk:i.kind=.slice e) (hte:T e=some ei) (h0:0 < ei.size) {v y:Value} {n:Nat} {xs:List Value} (hown:w.ownsRow 0 e ei.size v n xs)
  {news:List (List GV)} (hsrc:(news=[]/\y=.slice none 0 0)\/∃ad cap vs,y=.slice (some ad) news.length cap/\Za9 V w news.flatten vs/\(∀r∈news,r.length=ei.size)/\(vs.length=news.length*ei.size)/\∀i u,vs[i]?=some u->w.cell? (ad.add i)=some u)
  (h63:n+news.length<=maxLen) (hby:(n+news.length)*ei.bytes<=140737488355328) (ty:TypeId) :
  ∃v' w' vs,(Builtin.append_ #[t,t] ty #[v,y]).run P w=.ok v' w'/\Za9 V w news.flatten vs/\(∀r∈news,r.length=ei.size)/\w'.ownsRow 0 e ei.size v' (n+news.length) (xs++vs)/\w.grownBy w' v.ownBlock /\
   (v'.ownBlock=v.ownBlock\/v'.ownBlock=some w.heap.size):=by
 obtain ⟨d,hd,hdk,_⟩:=(hT t _ hs).d;rw[hk] at hdk;have hdk:d=.slice e:=hdk;subst hdk;obtain ⟨inf,z,hinf,hsz,hbyt,hz,hzc⟩:=(hT e ei hte).inf;have hzl:ei.zero.length=ei.size:=(hT e ei hte).zsize;rcases hsrc with ⟨hn0,hy⟩ | ⟨ad,cap,vs,hy,hv,hx,hl,hc⟩
 ·subst hn0;rw[hy];exact ⟨v,w,[],run_append_owned_none (P:=P) w 0 t ty e inf ei.size hd hinf v n xs hown,trivial,λr hr=>by simp at hr,by simpa using hown,World.grownBy.refl w _,.inl rfl⟩
 ·rw[hy];obtain ⟨v',w',h1,h2,h3,_,h5⟩:=run_append_own_at (P:=P) w 0 t ty e inf z ei.size ei.bytes hd hinf hz hsz hbyt (by rw[hzc];simpa using hzl) h0 v n xs hown ad news.length cap vs hl hc (ZgO hv) h63 hby (Yau _);exact ⟨v',w',vs,h1,hv,hx,h2,h3,h5⟩
theorem ZvJ (hr:RelD C st.h β V w) (he:ZbO st β V w a) (hN:Nx C st.h β V w K next) (hT:TabOk P T) {args:Array Operand} {ts:Array TypeId} {o:Oper} (ho:o.op=.call { callee:=.builtin .append,args:=args,argTypes:=ts }) (h:ZaK P T F C.G (.call { callee:=.builtin .append,args:=args,argTypes:=ts }) st K Qp):Zbj P next qp ((execOp a.eval o).run P w):=by
 simp only[ZaK] at h;split at h
 ·rename_i t t' x y hts har;have hts':ts=#[t,t']:=by rw[<- Array.toArray_toList (xs:=ts),hts]
  have har':args=#[x,y]:=by rw[<- Array.toArray_toList (xs:=args),har]
  subst hts';subst har';cases hb:Nat.beq t t' with
  | false=>rw[hb] at h;exact h.elim
  | true =>
   rw[hb] at h;have htt:t=t':=Yap hb;subst htt;simp only[cond_true] at h;unfold Zlg at h;have hx:=he.eval hr.gl x;have hy:=he.eval hr.gl y;split at h
   ·rename_i e hs;split at h
    ·exact h.elim
    ·rename_i ei hte;split at h
     ·exact h.elim
     ·rename_i news hsrc;cases hpos:Nat.blt 0 ei.size with
      | false=>rw[hpos] at h;exact h.elim
      | true =>
       rw[hpos] at h;simp only[cond_true] at h;have h0:0 < ei.size:=Yaw hpos;have hsrc':=ZpQ hr hsrc hy h0;have fin:∀(v':Value) (w':World),(Builtin.append_ #[t,t] o.type #[a.eval x,a.eval y]).run P w=.ok v' w'->(execOp a.eval o).run P w=.ok (.value v') w':=by intro v' w' hrun;simp[execOp,ho,resolve,invoke,builtin,hrun]
       have lenf:∀(xs:List (List GV)),(xs++news).flatten=xs.flatten++news.flatten:=λxs=>YbG;split at h
       ·rename_i ex;rw[ex] at hx;simp only[Zaa] at hx;obtain ⟨hroom,hk⟩:=h;rw[hx] at fin;obtain ⟨v',w',vs,hrun,hv,hm,hown,hg,hbk⟩:=ZhY hT hs rfl hte h0 (World.ownsRow_nil w 0 e ei.size) hsrc' (by rw[YaA];exact hroom.1) (by rw[YaA];exact hroom.2) o.type;rw[fin v' w' hrun];rw[YaA,List.nil_append] at hown;have hr':=hr.grow_nil news vs v' e ei.size hv hm h0 hown hg hbk;refine hN _ _ _ _ _ _ hk hr' ?_ (Zdo _ _ _ _) (hr.moved (G:=λ_=>False) ⟨hg.os,hg.tape,hg.output,hg.size,λk hk hn=>hg.block k hk (by simp[Value.ownBlock])⟩ (λk hk=>hk.elim));simp only[Zaa];rw[Yak (Yax _)];simp only[Ybk,List.getElem?_cons_zero];exact (Zbt _ _ _).symm
       ·rename_i j ex;rw[ex] at hx;split at h
        ·rename_i xs e' sz' hj;cases hbb:Nat.beq e' e && Nat.beq sz' ei.size with
         | false=>rw[hbb] at h;exact h.elim
         | true =>rw[hbb] at h;simp only[cond_true] at h;simp only[Yaf] at hbb;have e1:=Yap hbb.1;have e2:=Yap hbb.2;subst e1;subst e2;obtain ⟨hroom,hk⟩:=h;simp only[Zaa,hj] at hx;rw[hx] at fin;obtain ⟨vs0,hown0,hv0,hx0,_⟩:=hr.obj j _ hj;obtain ⟨v',w',vs,hrun,hv,hm,hown,hg,hbk⟩:=ZhY hT hs rfl hte h0 hown0 hsrc' hroom.1 hroom.2 o.type;rw[fin v' w' hrun];have hr':=hr.grow_row hj (xs++news) (vs0++vs) v' e' ei.size (by rw[lenf];exact hv0.append hv) (λr hr=>by rcases Yao.1 hr with hr | hr;exact hx0 r hr;exact hm r hr) h0 (by rw[Yae];exact hown) hg hbk;refine hN _ _ _ _ _ _ hk hr' ?_ (Zo4 _ _ _ _ _) (hr.moved (G:=λk=>some k=(β j).ownBlock) ⟨hg.os,hg.tape,hg.output,hg.size,λk hk hn=>hg.block k hk hn⟩ (λk hk=>⟨j,_,hj,rfl,Zgz hown0 hk.symm⟩));simp only[Zaa];rw[Yak (by simp)];simp only[Ybd,Ybk,List.getElem?_cons_zero];exact (Zbt _ _ _).symm
        ·exact h.elim
       ·rename_i j n ex;rw[ex] at hx;split at h
        ·rename_i xs e' sz' hj;cases hbb:Nat.beq e' e && Nat.beq sz' ei.size with
         | false=>rw[hbb] at h;exact h.elim
         | true =>
          rw[hbb] at h;simp only[cond_true] at h;simp only[Yaf] at hbb;have e1:=Yap hbb.1;have e2:=Yap hbb.2;subst e1;subst e2;obtain ⟨hnl,hroom,hk⟩:=h;simp only[Zaa,hj] at hx;obtain ⟨_,A,m,cap,hb,hxv⟩:=hx;obtain ⟨vs0,hown0,hv0,hx0,_⟩:=hr.obj j _ hj;have hpre:w.ownsRow 0 e' ei.size (a.eval x) n (vs0.take (n*ei.size))/\(a.eval x).ownBlock=(β j).ownBlock:=by
           rcases hown0.2 with ⟨hn,hl0⟩ | ⟨g,cap',cur,hbv,q1,q2,q3,q4,q5,q6⟩
           ·rw[hn] at hb;injection hb with e1 e2 e3;subst e1;subst e3;have hn0:n=0:=by omega
            subst hn0;rw[hxv,hn];exact ⟨by simpa using World.ownsRow_nil w 0 e' ei.size,by simp[Value.ownBlock]⟩
           ·rw[hbv] at hb;injection hb with e1 e2 e3;subst e1;subst e3;have hxv':a.eval x=.slice (some ⟨g,0,none⟩) n cap':=by
             rw[hxv];by_cases hc:cap'=0
             ·simp[hc]
             ·simp[hc,Addr.add]
            rw[hxv',hbv];have hl:=hown0.1;have hmul:n*ei.size<=xs.length*ei.size:=YaQ _ hnl;refine ⟨⟨by rw[Yan];omega,.inr ⟨g,cap',cur,rfl,q1,q2,by omega,q4,q5,?_⟩⟩,rfl⟩;rw[<- q6,YbS,Ybb hmul]
          obtain ⟨v',w',vs,hrun,hv,hm,hown,hg,hbk⟩:=ZhY hT hs rfl hte h0 hpre.1 hsrc' hroom.1 hroom.2 o.type;rw[fin v' w' hrun];rw[hpre.2] at hg hbk;have htf:(xs.take n).flatten=xs.flatten.take (n*ei.size):=by
           have k2:∀(ys:List (List GV)) (n:Nat),(∀r∈ys,r.length=ei.size)->(ys.take n).flatten=ys.flatten.take (n*ei.size):=by
            intro ys
            induction ys with
            | nil=>intro n _;simp
            | cons y ys ih =>
             intro n hy;cases n with
             | zero=>simp
             | succ n =>have hyl:=hy y Yac;have hd:y.take ((n+1)*ei.size)=y:=YaJ (by rw[hyl,YaY];omega);rw[List.take_succ_cons,List.flatten_cons,List.flatten_cons,Ybu,hd,hyl,YaY,Ya8,ih n (λr hr=>hy r (Yad _ hr))]
           exact k2 xs n hx0
          have hr':=hr.grow_row hj (xs.take n++news) (vs0.take (n*ei.size)++vs) v' e' ei.size (by rw[lenf,htf];exact (hv0.take _).append hv) (λr hr=>by rcases Yao.1 hr with hr | hr;exact hx0 r (YaH hr);exact hm r hr) h0 (by rw[Yae,Yan,Ybb hnl];exact hown) hg hbk;refine hN _ _ _ _ _ _ hk hr' ?_ (Zo4 _ _ _ _ _) (hr.moved (G:=λk=>some k=(β j).ownBlock) ⟨hg.os,hg.tape,hg.output,hg.size,λk hk hn=>hg.block k hk hn⟩ (λk hk=>⟨j,_,hj,rfl,Zgz hown0 hk.symm⟩));simp only[Zaa];rw[Yak (by simp)];simp only[Ybd,Ybk,List.getElem?_cons_zero];exact (Zbt _ _ _).symm
        ·exact h.elim
       ·exact h.elim
   ·exact h.elim
 ·exact h.elim
theorem ZAg (hr:RelD C st.h β V w) (he:ZbO st β V w a) (hN:Nx C st.h β V w K next) (hT:TabOk P T) {args:Array Operand} {ts:Array TypeId} {o:Oper} (ho:o.op=.call { callee:=.builtin .copy,args:=args,argTypes:=ts }) (h:ZaK P T F C.G (.call { callee:=.builtin .copy,args:=args,argTypes:=ts }) st K Qp):Zbj P next qp ((execOp a.eval o).run P w):=by
 simp only[ZaK] at h;split at h
 ·rename_i t t' x y hts har;have hts':ts=#[t,t']:=by rw[<- Array.toArray_toList (xs:=ts),hts]
  have har':args=#[x,y]:=by rw[<- Array.toArray_toList (xs:=args),har]
  subst hts';subst har';unfold Zxj at h;have hx:=he.eval hr.gl x;have hy:=he.eval hr.gl y;split at h
  ·rename_i agg size bytes z e hs;split at h
   ·rename_i ei hte;cases hb1:Nat.beq ei.size 1 with
    | false=>rw[hb1] at h;exact h.elim
    | true =>
     rw[hb1] at h;simp only[cond_true] at h;have hsz1:=Yap hb1;split at h
     ·rename_i i o' n news ex hsrc;rw[ex] at hx;split at h
      ·rename_i cs ty hi;cases hb2:Nat.ble (o'+n) cs.length with
       | false=>rw[hb2] at h;exact h.elim
       | true =>
        rw[hb2] at h;simp only[cond_true] at h;have hle:=Yaw hb2;obtain ⟨cs',rfl,hk⟩:=h;simp only[Zaa,hi] at hx;obtain ⟨g,c,hb,hv⟩:=hx;obtain ⟨g',vs,hb',hg,hcs⟩:=hr.obj i _ hi;have e:g'=g:=by rw[hb] at hb';injection hb' with hb';injection hb' with hb';injection hb' with hb';exact hb'.symm
        subst e;obtain ⟨d,hd,hdk,_⟩:=(hT t _ hs).d;have hdk:d=.slice e:=hdk;subst hdk;obtain ⟨inf,zv,hinf,hsz,_⟩:=(hT e ei hte).inf;have hsome:(P.info? e).map (·.size)=some 1:=by rw[hinf];simp[hsz,hsz1]
        have hvl:=hcs.len;have run:∀(us:List Value) (sl:Nat),(Builtin.copy_ #[t,t'] o.type #[a.eval x,a.eval y]).run P w=.ok (goInt (us.length:Int)) (w.setRow g' ((⟨vs⟩:Array Value).toList.take o'++us++(⟨vs⟩:Array Value).toList.drop (o'+us.length)).toArray)->Za9 V w ((news.take n).flatten) us->us.length=min news.length n->Zbj P next qp ((execOp a.eval o).run P w):=by
         intro us sl hrun hrep hul;have:(execOp a.eval o).run P w=.ok (.value (goInt (us.length:Int))) (w.setRow g' ((⟨vs⟩:Array Value).toList.take o'++us++(⟨vs⟩:Array Value).toList.drop (o'+us.length)).toArray):=by simp[execOp,ho,resolve,invoke,builtin,hrun]
         rw[this];have hset:=ZiD _ _ _ _ o' hcs ((Zh1 (h:=st.h) (β:=β) _ _).2 hrep);rw[Zlo _ _ _ (by omega)] at hset;have hr':=hr.set_blk hi hb _ _ hset;refine hN _ _ _ _ _ _ hk hr' ?_ (Zcv hi trivial) (hr.moved (Fr.setRow w g' _) (λk hk=>⟨i,_,hi,rfl,by subst hk;show bk (β i)=_;rw[hb];rfl⟩));rw[<- hul];exact Zp1 _
        rcases ZpQ hr hsrc hy (by omega) with ⟨hn0,hy0⟩ | ⟨ad,cap,us,hyv,hrep,hm,hl,hc⟩
        ·subst hn0;refine run [] 0 ?_ (by simp[Za9]) (by simp);rw[hv,hy0,run_copy_nil P w t t' o.type e _ n c hd (by rw[hinf];rfl)];simp only[List.length_nil,YaF,Nat.add_zero,Ya4];rw[setRow_self w g' _ _ _ hg];rfl
        ·have hl1:us.length=news.length:=by rw[hl,Nat.mul_one]
         have hfl:∀(l:List (List GV)) (n:Nat),(∀r∈l,r.length=1)->(l.take n).flatten=l.flatten.take n:=by
          intro l
          induction l with
          | nil=>intro n _;simp
          | cons r l ih =>
           intro n hr;have h1:=hr r Yac;cases n with
           | zero=>simp
           | succ n =>
            match r,h1 with
            | [x],_=>simp[ih n (λr h=>hr r (List.mem_cons_of_mem _ h))]
         have hrun:=run_copy_row (P:=P) w t t' o.type e g' o' n c ad news.length cap ⟨vs⟩ ty (us.take n) hd hsome hg (by rw[Yan,hl1];exact Nat.min_comm _ _) (λj v hj=>hc j v (by
          have hjl:j < n:=by have:=(Yaa.1 hj).1;simp at this;omega
          rwa [Yaz hjl] at hj)) (by simp;omega) (λv hv=>ZgO hrep v (YaH hv))
         refine run (us.take n) 0 ?_ ?_ (by rw[Yan,hl1,Nat.min_comm])
         ·rw[hv,hyv];exact hrun
         ·rw[hfl news n (λr hr=>hm r hr)];exact hrep.take n
      ·exact h.elim
     ·exact h.elim
   ·exact h.elim
  ·exact h.elim
 ·exact h.elim
theorem Zyp (hr:RelD C st.h β V w) (he:ZbO st β V w a) (hN:Nx C st.h β V w K next) (hT:TabOk P T) {args:Array Operand} {ts:Array TypeId} {o:Oper} (ho:o.op=.call { callee:=.builtin .clear,args:=args,argTypes:=ts }) (h:ZaK P T F C.G (.call { callee:=.builtin .clear,args:=args,argTypes:=ts }) st K Qp):Zbj P next qp ((execOp a.eval o).run P w):=by
 simp only[ZaK] at h;split at h
 ·rename_i t x hts har;have hts':ts=#[t]:=by rw[<- Array.toArray_toList (xs:=ts),hts]
  have har':args=#[x]:=by rw[<- Array.toArray_toList (xs:=args),har]
  subst hts';subst har';unfold ZsE at h;have hx:=he.eval hr.gl x;split at h
  ·rename_i agg size bytes z0 e hs;split at h
   ·rename_i ei i lo n hte ex;rw[ex] at hx;split at h
    ·rename_i xs e' sz hi;cases hb:(Nat.beq e' e && Nat.beq sz ei.size) with
     | false=>rw[hb] at h;exact h.elim
     | true =>
      rw[hb] at h;simp only[Yaf] at hb;have he':=Yap hb.1;have hsz':=Yap hb.2;subst he';obtain ⟨hn,hle,z,hsees,hk⟩:=h;simp only[Zaa,hi] at hx;obtain ⟨_,A,m,cap,hA,hv⟩:=hx;obtain ⟨vs,hown,hvs,hxs,h0⟩:=hr.obj i _ hi;obtain ⟨d,hd,hdk,_⟩:=(hT t _ hs).d;have hdk:d=.slice e':=hdk;subst hdk;obtain ⟨inf,zv,hinf,hsz,hby,hz,hzc⟩:=(hT e' ei hte).inf;have hzl:ei.zero.length=ei.size:=(hT e' ei hte).zsize;rcases hown.2 with ⟨hnil,hn0⟩ | ⟨g,cap',cur,hv',hb0,hh,hnc,hcm,hcsz,htk⟩
      ·omega
      ·rw[hA] at hv';injection hv' with e1 e2 e3;subst e1;subst e3;have hne:¬cap=lo:=by omega
       rw[if_neg hne] at hv;have hvv:a.eval x=.slice (some ⟨g,lo*sz,none⟩) n (cap - lo):=by rw[hv];simp[Addr.add]<;>omega
       have hz0:Za9 V w z ei.zero:=by have h0:RelD ⟨w,λ_=>False,V,[]⟩ [] (λ_=>undef) V w:=⟨λi o h=>by simp at h,λi j o o' k h=>by simp at h,λi o k h=>by simp at h,λi o k h=>by simp at h,hr.vlt,λk hk=>hk,λk hk=>.inl hk,Fr.refl _ _,λp hp=>by simp at hp⟩;have:=Ze9 h0 (l:=ZcI (ei.zero.map of1)) hsees (Zfc ei.zero) (λj hj=>hj);exact Za9.move (λk hk=>⟨by rcases hk with hk | ⟨i,o,_,h2,_⟩;exact hk;simp at h2,rfl⟩) _ _ this
       have hzlen:z.length=sz:=by rw[hz0.len,hzl,hsz']
       have hrep:∀n,Za9 V w (List.replicate n z).flatten (Zd9 ei.zero n):=by
        intro n
        induction n with
        | zero=>simp[Zd9,Za9]
        | succ n ih=>rw[List.replicate_succ,List.flatten_cons,Zd9];exact hz0.append ih
       have hlr:∀n,(Zd9 ei.zero n).length=n*sz:=λn=>by rw[ZeH,hzl,hsz']
       have hcells:(Builtin.zeroCells zv.cells n).toList=Zd9 ei.zero n:=by have:=Zju ei.zero (by omega) n;unfold Builtin.zeroCells;rw[hzc];rw[show (ei.zero.toArray.size)=ei.zero.length from by simp] at *;rw[this]
       have h1c:∀v∈Zd9 ei.zero n,v.oneCell'=true:=ZgO (hrep n);have hmul:(lo+n)*sz<=xs.length*sz:=YaQ _ hle;have hmul2:xs.length*sz<=cap*sz:=YaQ _ hnc;have hst:=run_storeCells_at (P:=P) g (lo*sz) e' (Zd9 ei.zero n) 0 cur w hh (by rw[hlr,hcsz,Ybw] at *;omega) h1c;have hrun:(Builtin.clear_ #[t] o.type #[a.eval x]).run P w=.ok (.tuple #[]) (w.setRow g (cur.toList.take (lo*sz)++Zd9 ei.zero n++cur.toList.drop (lo*sz+(Zd9 ei.zero n).length)).toArray):=by obtain ⟨n',rfl⟩:∃n',n=n'+1:=⟨n - 1,by omega⟩;rw[hvv];simp only[Nat.add_zero] at hst;simp[Builtin.clear_,run_underlying hd,zeroValue,typeInfo,hinf,hz,hcells,hst]
       have hrun2:(execOp a.eval o).run P w=.ok (.value (.tuple #[])) (w.setRow g (cur.toList.take (lo*sz)++Zd9 ei.zero n++cur.toList.drop (lo*sz+(Zd9 ei.zero n).length)).toArray):=by simp[execOp,ho,resolve,invoke,builtin,hrun]
       rw[hrun2];have hcl:cur.toList.length=cap*sz:=by rw[Array.length_toList,hcsz]
       have hfl:∀(l:List (List GV)) (k:Nat),(∀r∈l,r.length=sz)->k<=l.length->(l.take k).flatten=l.flatten.take (k*sz)/\(l.drop k).flatten=l.flatten.drop (k*sz):=by
        intro l
        induction l with
        | nil=>intro k _ hk;simp at hk;subst hk;simp
        | cons r l ih =>
         intro k hr hk;have h1:=hr r Yac;cases k with
         | zero=>simp
         | succ k =>
          obtain ⟨i1,i2⟩:=ih k (λr h=>hr r (Yad _ h)) (by simpa using hk);rw[List.take_succ_cons,Ybf,List.flatten_cons,List.flatten_cons,i1,i2,YaY];refine ⟨?_,?_⟩
          ·rw[Ybu,YaJ (l:=r) (by omega),show k*sz+sz - r.length=k*sz from by omega]
          ·rw[YcB,YcF (as:=r) (by omega),show k*sz+sz - r.length=k*sz from by omega];rfl
       have hvl:vs.length=xs.length*sz:=by rw[<- htk,Yan,hcl];omega
       have hnew:Za9 V w (xs.take lo++(List.replicate n z++xs.drop (lo+n))).flatten (vs.take (lo*sz)++(Zd9 ei.zero n++vs.drop ((lo+n)*sz))):=by rw[YbG,YbG,(hfl xs lo hxs (by omega)).1,(hfl xs (lo+n) hxs hle).2];exact (hvs.take _).append ((hrep n).append (hvs.drop _))
       have hr':=hr.set_row hi hA (xs.take lo++(List.replicate n z++xs.drop (lo+n))) (vs.take (lo*sz)++(Zd9 ei.zero n++vs.drop ((lo+n)*sz))) hnew
        (λq hq=>by
         rcases Yao.1 hq with hq | hq
         ·exact hxs q (YaH hq)
         ·rcases Yao.1 hq with hq | hq
          ·rw[YcA hq];exact hzlen
          ·exact hxs q (YaU hq))
        (by simp;omega) (cur.toList.take (lo*sz)++Zd9 ei.zero n++cur.toList.drop (lo*sz+(Zd9 ei.zero n).length)).toArray
        (λcur2 hh2=>by
         rw[hh] at hh2;injection hh2 with hh2;injection hh2 with hh2;subst hh2;rw[Ybw] at hmul;simp[hlr];omega)
        (by
         rw[<- htk];have e1:lo*sz+n*sz=(lo+n)*sz:=by rw[Ybw]
         rw[hlr,e1];apply YbD;intro j;have hl1:(cur.toList.take (lo*sz)).length=lo*sz:=by rw[Yan,hcl,Ybw] at *;omega
         have hl2:((cur.toList.take (xs.length*sz)).take (lo*sz)).length=lo*sz:=by rw[Yan,Yan,hcl];rw[Ybw] at hmul;omega
         rw[Ya3];simp only[Yas];rw[Ybw] at hmul e1;by_cases j1:j < lo*sz
         ·rw[if_pos (by omega),Yaj (by omega),Yaj (by omega),Ya3,Ya3,Ya3,if_pos j1,if_pos j1,if_pos (by omega)]
         ·rw[Yak (l₁:=cur.toList.take (lo*sz)) (by omega),Yak (l₁:=(cur.toList.take (xs.length*sz)).take (lo*sz)) (by omega),hl1,hl2];by_cases j2:j - lo*sz < n*sz
          ·rw[if_pos (by omega),Yaj (by rw[hlr];exact j2),Yaj (by rw[hlr];exact j2)]
          ·rw[Yak (by rw[hlr];omega),Yak (by rw[hlr];omega),hlr,YaX,YaX,Ya3,Ybw];by_cases j3:j < xs.length*sz
           ·rw[if_pos j3,if_pos (by omega)]
           ·rw[if_neg j3,if_neg (by omega)])
       refine hN _ _ _ _ _ _ hk hr' ?_ (Zcv hi ⟨by simp;omega,rfl⟩) (hr.moved (Fr.setRow w g _) (λk hk=>⟨i,_,hi,rfl,by subst hk;show bk (β i)=_;rw[hA];rfl⟩));simp only[Zaa,Zac];exact ⟨[],rfl,rfl⟩
    ·exact h.elim
   ·exact h.elim
  ·exact h.elim
 ·exact h.elim
theorem Zo0 {h h':Zad} {β β':Nat->Value} {V V':Nat->Prop} {w w':World} {m:Nat}:∀(n:Nat) (d:D) (v:Value),ZcF n d=true->Zaa h β V w d v->Zaa h' β' V' w' (sh m n d) v:=by
 intro n
 induction n with
 | zero=>intro d v hf;cases hf
 | succ n ih =>
  intro d v hf hd;have list:∀(ds:List D) (vs:List Value),ds.all (ZcF n)=true->Zac h β V w ds vs->Zac h' β' V' w' (ds.map (sh m n)) vs:=by
   intro ds
   induction ds with
   | nil=>intro vs _ h;simp only[Zac,YaS] at h ⊢;exact h
   | cons d ds ihd =>intro vs hf h;simp only[List.all_cons,Yaf] at hf;simp only[Zac,Yar] at h ⊢;obtain ⟨v,us,hv,h1,h2⟩:=h;exact ⟨v,us,hv,ih d v hf.1 h1,ihd us hf.2 h2⟩
  cases d with
  | g x=>cases x<;>simp_all [ZcF,sh,Zaa,ZaW]
  | pb p=>simpa only[sh,Zaa] using hd
  | pn p=>simpa only[sh,Zaa] using hd
  | nils=>simpa only[sh,Zaa] using hd
  | nilP=>simpa only[sh,Zaa] using hd
  | nilF=>simpa only[sh,Zaa] using hd
  | nilI=>simpa only[sh,Zaa] using hd
  | tuple ds =>simp only[ZcF] at hf;simp only[sh,Zaa] at hd ⊢;obtain ⟨us,hv,h1⟩:=hd;exact ⟨us,hv,list ds us hf h1⟩
  | agg ds =>simp only[ZcF] at hf;simp only[sh,Zaa] at hd ⊢;obtain ⟨us,hv,h1⟩:=hd;exact ⟨us,hv,list ds us hf h1⟩
  | iface t x =>simp only[ZcF] at hf;simp only[sh,Zaa] at hd ⊢;obtain ⟨u,hv,h1⟩:=hd;exact ⟨u,hv,ih x u hf h1⟩
  | _=>simp[ZcF] at hf
def Zfh (n:Nat) (β β':Nat->Value):Nat->Value:=λi=>if i < n then β i else β' (i - n)
mutual
theorem ZpS {h h':Zad} {β β':Nat->Value} {V:Nat->Prop} {w:World}:∀(n:Nat) (d:D) (v:Value),Zaa h' β' V w d v->Zaa (h++h'.map (shO h.length)) (Zfh h.length β β') V w (sh h.length n d) v
 | 0,d,v,_=>by simp only[sh,Zaa]
 | n+1,.g x,v,hd=>by simp only[sh,Zaa] at hd ⊢;exact hd
 | n+1,.pb x,v,hd=>by simp only[sh,Zaa] at hd ⊢;exact hd
 | n+1,.pn x,v,hd=>by simp only[sh,Zaa] at hd ⊢;exact hd
 | n+1,.nils,v,hd=>by simp only[sh,Zaa] at hd ⊢;exact hd
 | n+1,.nilP,v,hd=>by simp only[sh,Zaa] at hd ⊢;exact hd
 | n+1,.nilF,v,hd=>by simp only[sh,Zaa] at hd ⊢;exact hd
 | n+1,.nilI,v,hd=>by simp only[sh,Zaa] at hd ⊢;exact hd
 | n+1,.fp r o,v,hd=>by simp only[sh,Zaa] at hd ⊢;exact hd
 | n+1,.any,v,hd=>by simp only[sh,Zaa]
 | n+1,.row i,v,hd=>by
  simp only[sh,Zaa] at hd ⊢;have hB:Zfh h.length β β' (i+h.length)=β' i:=by simp[Zfh,show ¬ (i+h.length < h.length) from by omega]
  rw[Yak (by omega),Ya8,YaC,hB];cases ho:h'[i]? with
  | none=>rw[ho] at hd;exact hd.elim
  | some o=>rw[ho] at hd;cases o<;>simp_all [shO]
 | n+1,.rs i lo k,v,hd=>by
  simp only[sh,Zaa] at hd ⊢;have hB:Zfh h.length β β' (i+h.length)=β' i:=by simp[Zfh,show ¬ (i+h.length < h.length) from by omega]
  rw[Yak (by omega),Ya8,YaC,hB];cases ho:h'[i]? with
  | none=>rw[ho] at hd;exact hd.elim
  | some o=>rw[ho] at hd;cases o<;>simp_all [shO]
 | n+1,.ptr i off,v,hd=>by
  simp only[sh,Zaa] at hd ⊢;have hB:Zfh h.length β β' (i+h.length)=β' i:=by simp[Zfh,show ¬ (i+h.length < h.length) from by omega]
  rw[Yak (by omega),Ya8,YaC,hB];cases ho:h'[i]? with
  | none=>rw[ho] at hd;exact hd.elim
  | some o=>rw[ho] at hd;cases o<;>simp_all [shO]
 | n+1,.el i j off,v,hd=>by
  simp only[sh,Zaa] at hd ⊢;have hB:Zfh h.length β β' (i+h.length)=β' i:=by simp[Zfh,show ¬ (i+h.length < h.length) from by omega]
  rw[Yak (by omega),Ya8,YaC,hB];cases ho:h'[i]? with
  | none=>rw[ho] at hd;exact hd.elim
  | some o=>rw[ho] at hd;cases o<;>simp_all [shO]
 | n+1,.fn f fs cs,v,hd=>by simp only[sh,Zaa] at hd ⊢;obtain ⟨us,ts,hv,h1,h2⟩:=hd;exact ⟨us,ts,hv,Zhr n fs us h1,Zhr n cs ts h2⟩
 | n+1,.iface t x,v,hd=>by simp only[sh,Zaa] at hd ⊢;obtain ⟨u,hv,h1⟩:=hd;exact ⟨u,hv,ZpS n x u h1⟩
 | n+1,.agg cs,v,hd=>by simp only[sh,Zaa] at hd ⊢;obtain ⟨us,hv,h1⟩:=hd;exact ⟨us,hv,Zhr n cs us h1⟩
 | n+1,.tuple cs,v,hd=>by simp only[sh,Zaa] at hd ⊢;obtain ⟨us,hv,h1⟩:=hd;exact ⟨us,hv,Zhr n cs us h1⟩
theorem Zhr {h h':Zad} {β β':Nat->Value} {V:Nat->Prop} {w:World}:∀(n:Nat) (ds:List D) (vs:List Value),Zac h' β' V w ds vs->Zac (h++h'.map (shO h.length)) (Zfh h.length β β') V w (ds.map (sh h.length n)) vs
 | n,[],vs,hd=>by simp only[Zac,YaS] at hd ⊢;exact hd
 | n,d :: ds,vs,hd=>by simp only[Zac,Yar] at hd ⊢;obtain ⟨v,us,hv,h1,h2⟩:=hd;exact ⟨v,us,hv,ZpS n d v h1,Zhr n ds us h2⟩
end
theorem ZlO (h h':Zad) (β β':Nat->Value):LeH h β (h++h') (Zfh h.length β β'):=by intro i o hi;have hl:i < h.length:=(Yaa.1 hi).1;exact ⟨o,by rw[Yaj hl];exact hi,OLe.refl o,λ_=>by simp[Zfh,hl]⟩
theorem ZfF (m:Nat) (o:Obj):(shO m o).live=o.live:=by cases o<;>rfl
theorem Zkv (m:Nat) (o:Obj) (v:Value) (k:Nat):Bk (shO m o) v k↔Bk o v k:=by cases o<;>exact Ybg
theorem ZoM {f:Nat->Nat}:∀{ts:List (Value × Nat)} {t:Value × Nat},t∈rnT f ts->∃q,(t.1,q)∈ts/\f q=t.2
 | [],t,h=>by simp[rnT] at h
 | (v,q) :: l,t,h=>by
  simp only[rnT] at h;rcases Yav.1 h with rfl | h
  ·exact ⟨q,Yac,rfl⟩
  ·obtain ⟨q',h1,h2⟩:=ZoM h;exact ⟨q',Yad _ h1,h2⟩
theorem ZhZ {h h':Zad} {β':Nat->Value} {V V':Nat->Prop} {w':World} (hr:RelD C h β V w) (hc:RelD ⟨w,λ_=>False,V,C.G⟩ h' β' V' w'):RelD C (h++h'.map (shO h.length)) (Zfh h.length β β') V' w':=by
 have hm:ZaB V w V' w':=λk hk=>⟨hc.vin k hk,hc.fr.block k (hr.vlt k hk) (λh=>h)⟩;have left:∀(i:Nat),i < h.length->Zfh h.length β β' i=β i:=λi hi=>by simp[Zfh,hi]
 have right:∀(i:Nat),h.length<=i->Zfh h.length β β' i=β' (i - h.length):=λi hi=>by simp[Zfh,Nat.not_lt.2 hi]
 have at_:∀(i:Nat) (o:Obj),(h++h'.map (shO h.length))[i]?=some o->(i < h.length/\h[i]?=some o)\/(h.length<=i/\∃o',h'[i - h.length]?=some o'/\o=shO h.length o'):=by
  intro i o hi;by_cases hl:i < h.length
  ·rw[Yaj hl] at hi;exact .inl ⟨hl,hi⟩
  ·rw[Yak (by omega),YaC] at hi;cases ho:h'[i - h.length]? with
   | none=>rw[ho] at hi;cases hi
   | some o'=>rw[ho] at hi;simp at hi;exact .inr ⟨by omega,o',rfl,hi.symm⟩
 refine ⟨λi o hi=>?_,λi j o o' k hi hl hj hl' hk hk'=>?_,λi o k hi hl hk=>?_,λi o k hi hl hk=>?_,hc.vlt,λk hk=>hc.vin k (hr.vin k hk),λk hk=>?_,?_,hc.gl⟩
 ·rcases at_ i o hi with ⟨hl,h1⟩ | ⟨hl,o',h1,rfl⟩
  ·cases hlv:o.live with
   | false=>cases o<;>simp_all [Obj.live,Zcb]
   | true=>exact (hr.obj i o h1).keep (ZlO h _ β β') hm (left i hl) (λk hk=>hc.fr.block k (hr.lt h1 hlv hk) (λh=>h))
  ·have hob:=hc.obj _ _ h1;have hB:=right i hl;cases o' with
   | dead=>trivial
   | blk cs t =>obtain ⟨g,vs,hb,hg,hcs⟩:=hob;exact ⟨g,vs,hB.trans hb,hg,Zhr 4 cs vs hcs⟩
   | row xs e sz =>obtain ⟨vs,hown,rest⟩:=hob;exact ⟨vs,by rw[hB];exact hown,rest⟩
   | many l ts =>
    refine ⟨hob.1,hob.2.1,λt ht=>?_⟩;obtain ⟨q,hq,e⟩:=ZoM ht;obtain ⟨o',ho',hb⟩:=hob.2.2 _ hq;refine ⟨shO h.length o',?_,λhl=>?_⟩
    ·rw[<- e,Yak (by omega),Ya8,YaC,ho'];rfl
    ·rw[<- e,right _ (by omega),Ya8];exact hb (by rwa [ZfF] at hl)
 ·rcases at_ i o hi with ⟨hli,h1⟩ | ⟨hli,oi,h1,rfl⟩<;>rcases at_ j o' hj with ⟨hlj,g1⟩ | ⟨hlj,oj,g1,rfl⟩
  ·rw[left i hli] at hk;rw[left j hlj] at hk';exact hr.sep i j o o' k h1 hl g1 hl' hk hk'
  ·rw[left i hli] at hk;rw[right j hlj,Zkv] at hk';rw[ZfF] at hl';have h2:=hr.lt h1 hl hk;rcases hc.mine _ _ k g1 hl' hk' with h3 | h3
   ·exact absurd h2 (YbI.2 h3)
   ·exact h3.elim
  ·rw[right i hli,Zkv] at hk;rw[left j hlj] at hk';rw[ZfF] at hl;have h2:=hr.lt g1 hl' hk';rcases hc.mine _ _ k h1 hl hk with h3 | h3
   ·exact absurd h2 (YbI.2 h3)
   ·exact h3.elim
  ·rw[right i hli,Zkv] at hk;rw[right j hlj,Zkv] at hk';rw[ZfF] at hl hl';have:=hc.sep _ _ oi oj k h1 hl g1 hl' hk hk';omega
 ·rcases at_ i o hi with ⟨hli,h1⟩ | ⟨hli,oi,h1,rfl⟩
  ·rw[left i hli] at hk;exact hr.mine i o k h1 hl hk
  ·rw[right i hli,Zkv] at hk;rw[ZfF] at hl;rcases hc.mine _ _ k h1 hl hk with h3 | h3
   ·exact .inl (YaB hr.fr.size h3)
   ·exact h3.elim
 ·rcases at_ i o hi with ⟨hli,h1⟩ | ⟨hli,oi,h1,rfl⟩
  ·rw[left i hli] at hk;intro hv;rcases hc.vnew k hv with h2 | h2 | h2
   ·exact hr.vout i o k h1 hl hk h2
   ·exact absurd (hr.lt h1 hl hk) (YbI.2 h2)
   ·exact h2
  ·rw[right i hli,Zkv] at hk;rw[ZfF] at hl;exact hc.vout _ _ k h1 hl hk
 ·rcases hc.vnew k hk with h2 | h2 | h2
  ·exact hr.vnew k h2
  ·exact .inr (.inl (YaB hr.fr.size h2))
  ·exact h2.elim
 ·refine ⟨hc.fr.os.trans hr.fr.os,hc.fr.tape.trans hr.fr.tape,hc.fr.output.trans hr.fr.output,YaB hr.fr.size hc.fr.size,λk hk hn=>?_⟩;rw[hc.fr.block k (Ya2 hk hr.fr.size) (λh=>h)];exact hr.fr.block k hk hn
theorem Zsm {h:Zad} {h':Zad} {β':Nat->Value} {Vc V':Nat->Prop} {w':World} (hr:RelD C h β V w) (hc:RelD ⟨w,λ_=>False,Vc,C.G⟩ h' β' V' w'):RelD C h β V w'/\ZaB V w V w':=by
 have hm:ZaB V w V w':=λk hk=>⟨hk,hc.fr.block k (hr.vlt k hk) (λh=>h)⟩;refine ⟨⟨λi o hi=>?_,hr.sep,hr.mine,hr.vout,λk hk=>Ya2 (hr.vlt k hk) hc.fr.size,hr.vin,hr.vnew,?_,hr.gl.move hm⟩,hm⟩
 ·cases hlv:o.live with
  | false=>cases o<;>simp_all [Obj.live,Zcb]
  | true=>exact (hr.obj i o hi).keep (LeH.refl h β) hm rfl (λk hk=>hc.fr.block k (hr.lt hi hlv hk) (λh=>h))
 ·refine ⟨hc.fr.os.trans hr.fr.os,hc.fr.tape.trans hr.fr.tape,hc.fr.output.trans hr.fr.output,YaB hr.fr.size hc.fr.size,λk hk hn=>?_⟩;rw[hc.fr.block k (Ya2 hk hr.fr.size) (λh=>h)];exact hr.fr.block k hk hn
theorem LeH.trans {h1 h2 h3:Zad} {β1 β2 β3:Nat->Value} (a:LeH h1 β1 h2 β2) (b:LeH h2 β2 h3 β3):LeH h1 β1 h3 β3:=by
 intro i o hi;obtain ⟨o2,g1,g2,g3⟩:=a i o hi;obtain ⟨o3,k1,k2,k3⟩:=b i o2 g1;refine ⟨o3,k1,?_,λhl=>?_⟩
 ·cases o<;>cases o2<;>cases o3<;>simp_all [OLe]
 ·have:o2.live=true:=by cases o2<;>cases o3<;>simp_all [OLe,Obj.live]
  rw[k3 hl,g3 this]
theorem Zsf {all:List D} {vals:List Value} {as:List D} {g:FuncId} {Q:Out->Prop} (hr:RelD C st.h β V w) (hN:Nx C st.h β V w K next) (hP:Px C st.h β V w Qp qp) (hall:Zac st.h β V w all vals)
  (hl:ZdX (all.map (conv st.h [] 4)) as) (hct:CT P C.G g as Q) (hk:∀d h',Q (.ret d h')->K (sh st.h.length 4 d) (after st.h (ZcI all) d h')) (hp:∀d,Q (.pan d)->Qp d (ZbS st.h (ZcI all))) :
  Calls P g ⟨vals⟩ w fun
   | .returned v,w''=>next v w''
   | .panicked ch,w''=>qp ch w''
   | .outgrown,_=>False:=by
 have hck:=ZeK hr (ZcI all);have hargs:Zac [] (Za4 [] β) (Zg3 st.h (ZcI all) β V) w (all.map (conv st.h [] 4)) vals:=by refine Zcj (src:=[]) hr (λi=>i∈ZcI all) (λk hk=>.inl hk) (λi o k h1 h2 h3 h4=>.inr ⟨i,o,h1,h2,h3,h4⟩) 4 all vals (λd hd i hi _=>ZhG hd i hi (λj hj=>hj)) hall
 have hargs':Zac [] (λ_=>undef) (Zg3 st.h (ZcI all) β V) w as vals:=by have:=Znk hl hargs;exact Zac.mono (h':=[]) (λi o hi=>by simp at hi) (ZaB.refl _ _) _ _ this
 refine (hct w _ vals hck.vlt hck.gl hargs').mono λe w' he=>?_;cases e with
 | returned v =>
  obtain ⟨d,h',β',V',hq,hrel,hd⟩:=he;have hK:=hk d h' hq;unfold after at hK;cases hmf:ZcF 4 d && ZrU h' with
  | true =>rw[hmf] at hK;simp only[cond_true] at hK;simp only[Yaf] at hmf;obtain ⟨h1,h2⟩:=Zsm hr hrel;exact hN _ _ _ _ _ _ hK h1 (Zo0 4 d v hmf.1 hd) (LeH.refl _ _) h2
  | false =>
   rw[hmf] at hK;simp only[cond_false] at hK;have hj:=ZhZ hck hrel;rw[Zci] at hj;refine hN _ _ _ _ _ _ hK hj ?_ ?_ ?_
   ·have:=ZpS (h:=ZbS st.h (ZcI all)) (β:=β) 4 d v hd;rw[Zci] at this;exact this
   ·have:=ZlO (ZbS st.h (ZcI all)) (h'.map (shO st.h.length)) β β';rw[Zci] at this;exact (ZeJ (ZcI all) st.h β).trans this
   ·exact (Zbw _ _ _ _ _).trans (λk hk=>⟨hrel.vin k hk,hrel.fr.block k (hck.vlt k hk) (λh=>h)⟩)
 | panicked ch =>
  obtain ⟨d,t,u,β',V',rfl,hq,hrel,hd⟩:=he;have hj:=ZhZ hck hrel;simp only[YaS,YaF] at hj;refine hP d _ t u w' _ _ (hp d hq) hj ?_ ?_ ((Zbw _ _ _ _ _).trans (λk hk=>⟨hrel.vin k hk,hrel.fr.block k (hck.vlt k hk) (λh=>h)⟩))
  ·exact Zaa.mono (λi o hi=>by simp at hi) (ZaB.refl _ _) _ _ hd
  ·have:=ZlO (ZbS st.h (ZcI all)) [] β β';rw[YaF] at this;exact (ZeJ (ZcI all) st.h β).trans this
 | outgrown=>exact he.elim
theorem Zwq:∀(n:Nat) (d:D) (i:Nat),i∈ids n d->i∈ids (n+1) d:=by
 intro n
 induction n with
 | zero=>intro d i h;simp[ids] at h
 | succ n ih =>
  intro d i h;cases d with
  | fn f fs cs =>
   simp only[ids,Yao,Ybe] at h ⊢;rcases h with ⟨a,ha,hi⟩ | ⟨a,ha,hi⟩
   ·exact .inl ⟨a,ha,ih a i hi⟩
   ·exact .inr ⟨a,ha,ih a i hi⟩
  | iface t x=>simp only[ids] at h ⊢;exact ih x i h
  | agg cs =>simp only[ids,Ybe] at h ⊢;obtain ⟨a,ha,hi⟩:=h;exact ⟨a,ha,ih a i hi⟩
  | tuple cs =>simp only[ids,Ybe] at h ⊢;obtain ⟨a,ha,hi⟩:=h;exact ⟨a,ha,ih a i hi⟩
  | _=>first | exact h | (simp[ids] at h)
theorem Zo9 {i:Nat}:∀{l:List Nat},inσ l i=true↔i∈l
 | []=>by simp[inσ]
 | a :: l=>by
  simp only[inσ,YaV,Zo9 (l:=l),Yav];constructor
  ·rintro (h | h)
   ·exact .inl (Yap h).symm
   ·exact .inr h
  ·rintro (h | h)
   ·exact .inl (by rw[h];exact YaO a)
   ·exact .inr h
theorem ZlE {σ:List Nat} {i:Nat} (h:i∈σ):∃k,kp (σ.map .old) 0 i=some k/\σ[k]?=some i:=by obtain ⟨j,hj,rfl⟩:=YaK h;obtain ⟨q,hq⟩:=ZrQ (src:=σ.map .old) (p:=0) (i:=σ[j]) (j:=j) (by simp[hj]);refine ⟨q,hq,?_⟩;have:=(Zeb hq).2;simp only[Nat.sub_zero,YaC,YaD] at this;obtain ⟨a,ha,e⟩:=this;injection e with e;rw[ha,e]
theorem ZAa {σ:List Nat} {k i:Nat} (h:kp (σ.map .old) 0 i=some k):σ[k]?=some i:=by have:=(Zeb h).2;simp only[Nat.sub_zero,YaC,YaD] at this;obtain ⟨a,ha,e⟩:=this;injection e with e;rw[ha,e]
theorem ZoB {σ:List Nat} (hs:ZdG (σ.map .old)=true) {a b i:Nat} (ha:σ[a]?=some i) (hb:σ[b]?=some i):a=b :=
 Zno hs (i:=i) (by simp[ha]) (by simp[hb])
theorem Zx7 {h:Zad} {σ:List Nat} (hr:RelD C h β V w) (hs:ZdG (σ.map .old)=true) (hcl:∀i∈σ,∃o,h[i]?=some o/\∀j∈ZB7 o,j∈σ):RelD C (Zbu h (σ.map .old)) (Za4 (σ.map .old) β) V w:=by
 have at_:∀(j:Nat) (o:Obj),(Zbu h (σ.map .old))[j]?=some o->∃i,σ[j]?=some i/\o=Za7 h (σ.map .old) (.old i)/\Za4 (σ.map .old) β j=β i:=by
  intro j o hj;unfold Zbu at hj;rw[YaC,YaC] at hj;cases hsj:σ[j]? with
  | none=>rw[hsj] at hj;cases hj
  | some i=>rw[hsj] at hj;simp at hj;exact ⟨i,rfl,hj.symm,by simp[Za4,hsj]⟩
 have old:∀(j:Nat) (o:Obj) (k:Nat),(Zbu h (σ.map .old))[j]?=some o->o.live=true->Bk o (Za4 (σ.map .old) β j) k->∃i o',σ[j]?=some i/\h[i]?=some o'/\o'.live=true/\Bk o' (β i) k:=by
  intro j o k hj hl hk;obtain ⟨i,hi,rfl,hB⟩:=at_ j o hj;rw[hB] at hk;cases ho:h[i]? with
  | none=>simp[Za7,ho,Obj.live] at hl
  | some o' =>
   cases o' with
   | dead=>simp[Za7,ho,Obj.live] at hl
   | blk cs t=>exact ⟨i,_,hi,ho,rfl,by simpa only[Za7,ho,Bk] using hk⟩
   | row xs e sz=>exact ⟨i,_,hi,ho,rfl,by simpa only[Za7,ho,Bk] using hk⟩
   | many l ts=>exact ⟨i,_,hi,ho,rfl,by simpa only[Za7,ho,Bk] using hk⟩
 refine ⟨λj o hj=>?_,λa b o o' k ha hla hb hlb hka hkb=>?_,λj o k hj hl hk=>?_,λj o k hj hl hk=>?_,hr.vlt,hr.vin,hr.vnew,hr.fr,hr.gl⟩
 ·obtain ⟨i,hi,rfl,hB⟩:=at_ j o hj;obtain ⟨o',ho,hids⟩:=hcl i (YaL hi);have hob:=hr.obj i _ ho;cases o' with
  | dead=>simp only[Za7,ho,Zcb]
  | blk cs t =>
   obtain ⟨g,vs,hb,hg,hc⟩:=hob;simp only[Za7,ho,Zcb];refine ⟨g,vs,hB.trans hb,hg,Zcj hr (λ_=>False) (λ_ hk=>hk) (λ_ _ _ hz=>hz.elim) 3 cs vs (λd hd i' hi' hn=>?_) hc⟩;obtain ⟨k,hk,_⟩:=ZlE (hids i' (ZhG hd i' (Zwq 3 d i' hi') (λj hj=>hj)));rw[hn] at hk;cases hk
  | row xs e sz =>simp only[Za7,ho,Zcb];rw[hB];exact hob
  | many l ts =>simp only[Za7,ho,Zcb];exact ⟨hob.1,hob.2.1,λt ht=>ZsT hob.2.2 ht⟩
 ·obtain ⟨i,oi,hi1,hi2,hi3,hi4⟩:=old a o k ha hla hka;obtain ⟨j,oj,hj1,hj2,hj3,hj4⟩:=old b o' k hb hlb hkb;have:=hr.sep i j oi oj k hi2 hi3 hj2 hj3 hi4 hj4;subst this;exact ZoB hs hi1 hj1
 ·obtain ⟨i,oi,_,hi2,hi3,hi4⟩:=old j o k hj hl hk;exact hr.mine i oi k hi2 hi3 hi4
 ·obtain ⟨i,oi,_,hi2,hi3,hi4⟩:=old j o k hj hl hk;exact hr.vout i oi k hi2 hi3 hi4
section
variable {h' H:Zad} {γ β':Nat->Value} {V':Nat->Prop} {w':World} {f:Nat->Nat}
mutual
theorem ZpY (hf:∀(i:Nat) (o:Obj),h'[i]?=some o->H[f i]?=some (rnO f o)/\γ (f i)=β' i):∀(n:Nat) (d:D) (v:Value),Zaa h' β' V' w' d v->Zaa H γ V' w' (rnD f n d) v
 | 0,d,v,_=>by simp only[rnD,Zaa]
 | n+1,.g x,v,hd=>by simp only[rnD,Zaa] at hd ⊢;exact hd
 | n+1,.pb x,v,hd=>by simp only[rnD,Zaa] at hd ⊢;exact hd
 | n+1,.pn x,v,hd=>by simp only[rnD,Zaa] at hd ⊢;exact hd
 | n+1,.nils,v,hd=>by simp only[rnD,Zaa] at hd ⊢;exact hd
 | n+1,.nilP,v,hd=>by simp only[rnD,Zaa] at hd ⊢;exact hd
 | n+1,.nilF,v,hd=>by simp only[rnD,Zaa] at hd ⊢;exact hd
 | n+1,.nilI,v,hd=>by simp only[rnD,Zaa] at hd ⊢;exact hd
 | n+1,.fp r o,v,hd=>by simp only[rnD,Zaa] at hd ⊢;exact hd
 | n+1,.any,v,hd=>by simp only[rnD,Zaa]
 | n+1,.row i,v,hd=>by
  simp only[rnD,Zaa] at hd ⊢;cases ho:h'[i]? with
  | none=>rw[ho] at hd;exact hd.elim
  | some o =>
   obtain ⟨h1,h2⟩:=hf i o ho;rw[h1,h2];rw[ho] at hd;cases o<;>simp_all [rnO]
 | n+1,.rs i lo k,v,hd=>by
  simp only[rnD,Zaa] at hd ⊢;cases ho:h'[i]? with
  | none=>rw[ho] at hd;exact hd.elim
  | some o =>
   obtain ⟨h1,h2⟩:=hf i o ho;rw[h1,h2];rw[ho] at hd;cases o<;>simp_all [rnO]
 | n+1,.ptr i off,v,hd=>by
  simp only[rnD,Zaa] at hd ⊢;cases ho:h'[i]? with
  | none=>rw[ho] at hd;exact hd.elim
  | some o =>
   obtain ⟨h1,h2⟩:=hf i o ho;rw[h1,h2];rw[ho] at hd;cases o<;>simp_all [rnO]
 | n+1,.el i j off,v,hd=>by
  simp only[rnD,Zaa] at hd ⊢;cases ho:h'[i]? with
  | none=>rw[ho] at hd;exact hd.elim
  | some o =>
   obtain ⟨h1,h2⟩:=hf i o ho;rw[h1,h2];rw[ho] at hd;cases o<;>simp_all [rnO]
 | n+1,.fn g fs cs,v,hd=>by simp only[rnD,Zaa] at hd ⊢;obtain ⟨us,ts,hv,h1,h2⟩:=hd;exact ⟨us,ts,hv,Zht hf n fs us h1,Zht hf n cs ts h2⟩
 | n+1,.iface t x,v,hd=>by simp only[rnD,Zaa] at hd ⊢;obtain ⟨u,hv,h1⟩:=hd;exact ⟨u,hv,ZpY hf n x u h1⟩
 | n+1,.agg cs,v,hd=>by simp only[rnD,Zaa] at hd ⊢;obtain ⟨us,hv,h1⟩:=hd;exact ⟨us,hv,Zht hf n cs us h1⟩
 | n+1,.tuple cs,v,hd=>by simp only[rnD,Zaa] at hd ⊢;obtain ⟨us,hv,h1⟩:=hd;exact ⟨us,hv,Zht hf n cs us h1⟩
theorem Zht (hf:∀(i:Nat) (o:Obj),h'[i]?=some o->H[f i]?=some (rnO f o)/\γ (f i)=β' i):∀(n:Nat) (ds:List D) (vs:List Value),Zac h' β' V' w' ds vs->Zac H γ V' w' (ds.map (rnD f n)) vs
 | n,[],vs,hd=>by simp only[Zac,YaS] at hd ⊢;exact hd
 | n,d :: ds,vs,hd=>by simp only[Zac,Yar] at hd ⊢;obtain ⟨v,us,hv,h1,h2⟩:=hd;exact ⟨v,us,hv,ZpY hf n d v h1,Zht hf n ds us h2⟩
end
end
theorem Zlt {src:List Src} {b:Nat} {f:Nat->Nat} {h':Zad}:∀(l:Zad) (p j:Nat),(Zlu src b f h' p l)[j]?=(l[j]?).map (ZBC src b f h' (p+j))
 | [],p,j=>by simp[Zlu]
 | o :: l,p,0=>by simp[Zlu]
 | o :: l,p,j+1=>by simp only[Zlu,List.getElem?_cons_succ];rw[Zlt l (p+1) j,show p+1+j=p+(j+1) from by omega]
theorem ZdZ {src:List Src} {b:Nat} {f:Nat->Nat} {h':Zad}:∀(l:Zad) (p:Nat),(Zlu src b f h' p l).length=l.length
 | [],p=>rfl
 | o :: l,p=>by simp only[Zlu,List.length_cons,ZdZ l (p+1)]
theorem Zn8:∀{l:List Nat} {i j:Nat},l[i]?=some j->atN l i=j
 | [],i,j,h=>by simp at h
 | a :: l,0,j,h=>by simpa [atN] using h
 | a :: l,i+1,j,h=>by simp only[atN];exact Zn8 (by simpa using h)
theorem ZfI (f:Nat->Nat) (o:Obj):(rnO f o).live=o.live:=by cases o<;>rfl
theorem Zkz (f:Nat->Nat) (o:Obj) (v:Value) (k:Nat):Bk (rnO f o) v k↔Bk o v k:=by cases o<;>exact Ybg
theorem ZiN {h:Zad} {i:Nat} (hb:Zo8 h i=true):∃cs t,h[i]?=some (.blk cs t):=by
 unfold Zo8 at hb;split at hb
 ·rename_i cs t e;exact ⟨cs,t,e⟩
 ·cases hb
theorem ZBt {o o':Obj} (f:Nat->Nat) (h:OLe o o'):OLe o (rnO f o'):=by cases o<;>cases o'<;>simp_all [OLe,rnO]
theorem Zre {h:Zad} {src:List Src} {j:Nat} {o:Obj} (hj:h[j]?=some o):OLe o (Za7 h src (.old j)):=by
 cases o<;>simp[Za7,hj,OLe]
theorem Zhj {a b c:Obj} (h:OLe a b) (k:OLe b c) (hl:c.live=true):OLe a c:=by
 cases a<;>cases b<;>cases c<;>simp_all [OLe,Obj.live]
theorem Ztp {h:Zad} {σ:List Nat} {b:Nat} {own:Nat->Prop} {h':Zad} {β':Nat->Value} {V':Nat->Prop} {w':World} (hr:RelD C h β V w) (hs:ZdG (σ.map .old)=true)
  (hcl:∀i∈σ,∃o,h[i]?=some o) (hown:∀k,own k->∃i o,i∈σ/\h[i]?=some o/\o.live=true/\Bk o (β i) k)
  (hc:RelD ⟨w,own,V,C.G⟩ h' β' V' w') (hk:∀i,i < b->∃j o o',σ[i]?=some j/\h[j]?=some o/\h'[i]?=some o'/\OLe o o'/\β' i=β j) :
  RelD C (Zhv h σ b h') (λj=>if j < h.length then β j else β' (j - h.length+b)) V' w'/\LeH h β (Zhv h σ b h') (λj=>if j < h.length then β j else β' (j - h.length+b))/\ZaB V w V' w' /\
   ∀(i:Nat) (o:Obj),h'[i]?=some o->(Zhv h σ b h')[rnI σ b h.length i]?=some (rnO (rnI σ b h.length) o)/\(λj=>if j < h.length then β j else β' (j - h.length+b)) (rnI σ b h.length i)=β' i:=by
 generalize hγ:(λj=>if j < h.length then β j else β' (j - h.length+b))=γ;have left:∀j,j < h.length->γ j=β j:=λj hj=>by rw[<- hγ];simp[hj]
 have right:∀j,h.length<=j->γ j=β' (j - h.length+b):=λj hj=>by rw[<- hγ];simp[Nat.not_lt.2 hj]
 have σlt:∀{k j:Nat},σ[k]?=some j->j < h.length:=fun {k j} hkj=>by obtain ⟨o,ho⟩:=hcl j (YaL hkj);exact (Yaa.1 ho).1
 have F1:∀(i:Nat) (o:Obj),h'[i]?=some o->(Zhv h σ b h')[rnI σ b h.length i]?=some (rnO (rnI σ b h.length) o)/\γ (rnI σ b h.length i)=β' i:=by
  intro i o hi;by_cases hib:i < b
  ·obtain ⟨j,_,_,hj,_,_,_,hβ⟩:=hk i hib;have e:rnI σ b h.length i=j:=by unfold rnI;rw[show Nat.blt i b=true from Ybr hib];exact Zn8 hj
   have hjl:=σlt hj;obtain ⟨q,hq,hq'⟩:=ZlE (YaL hj);have:=ZoB hs hq' hj;subst this;rw[e,left j hjl];refine ⟨?_,hβ.symm⟩;unfold Zhv;rw[Yaj (by rw[ZdZ];exact hjl),Zlt,YaA,Yaq hjl];unfold ZBC;rw[hq];simp only[Option.map_some,show Nat.blt q b=true from Ybr hib,cond_true,hi]
  ·have e:rnI σ b h.length i=i - b+h.length:=by
    unfold rnI;rw[show Nat.blt i b=false from by
     cases hx:Nat.blt i b with
     | false=>rfl
     | true=>exact absurd (Yaw hx) hib]
    rfl
   rw[e,right _ (by omega)];refine ⟨?_,by congr 1;omega⟩;unfold Zhv;rw[Yak (by rw[ZdZ];omega),ZdZ,Ya8,YaC,YaX,show b+(i - b)=i from by omega,hi];rfl
 have F2:∀(j:Nat) (o:Obj),(Zhv h σ b h')[j]?=some o->(j < h.length/\j ∉ σ/\h[j]?=some o)\/o=.dead\/∃i o',h'[i]?=some o'/\o=rnO (rnI σ b h.length) o'/\j=rnI σ b h.length i/\γ j=β' i:=by
  intro j o hj;by_cases hjl:j < h.length
  ·have hj':=hj;unfold Zhv at hj;rw[Yaj (by rw[ZdZ];exact hjl),Zlt,YaA,Yaq hjl] at hj;simp only[Option.map_some,Ybj] at hj;unfold ZBC at hj;cases hq:kp (σ.map .old) 0 j with
   | none =>
    rw[hq] at hj;refine .inl ⟨hjl,λhm=>?_,by rw[<- hj];exact Yaq hjl⟩;obtain ⟨k,hk',_⟩:=ZlE hm;rw[hq] at hk';cases hk'
   | some k =>
    rw[hq] at hj;simp only at hj;cases hkb:Nat.blt k b with
    | false=>rw[hkb] at hj;exact .inr (.inl hj.symm)
    | true =>
     rw[hkb] at hj;simp only[cond_true] at hj;have hkb':k < b:=Yaw hkb;cases ho:h'[k]? with
     | none=>rw[ho] at hj;exact .inr (.inl hj.symm)
     | some o' =>
      rw[ho] at hj;have hσ:=ZAa hq;have e:rnI σ b h.length k=j:=by unfold rnI;rw[hkb];exact Zn8 hσ
      exact .inr (.inr ⟨k,o',ho,hj.symm,e.symm,by rw[<- e];exact (F1 k o' ho).2⟩)
  ·unfold Zhv at hj;rw[Yak (by rw[ZdZ];omega),ZdZ,YaC,YaX] at hj;cases ho:h'[b+(j - h.length)]? with
   | none=>rw[ho] at hj;cases hj
   | some o' =>
    rw[ho] at hj;simp only[Option.map_some,Ybj] at hj;refine .inr (.inr ⟨_,o',ho,hj.symm,?_,by rw[right j (by omega)];congr 1;omega⟩);unfold rnI;rw[show Nat.blt (b+(j - h.length)) b=false from by
     cases hx:Nat.blt (b+(j - h.length)) b with
     | false=>rfl
     | true=>exact absurd (Yaw hx) (by omega)]
    show j=b+(j - h.length) - b+h.length;omega
 have F3:∀(i i':Nat) (o o':Obj),h'[i]?=some o->h'[i']?=some o'->rnI σ b h.length i=rnI σ b h.length i'->i=i':=by
  have val:∀i,(i < b/\∃j,σ[i]?=some j/\rnI σ b h.length i=j/\j < h.length)\/(b<=i/\rnI σ b h.length i=i - b+h.length):=λi=>by
   by_cases hib:i < b
   ·obtain ⟨j,_,_,hj,_,_,_,_⟩:=hk i hib;refine .inl ⟨hib,j,hj,?_,σlt hj⟩;unfold rnI;rw[show Nat.blt i b=true from Ybr hib];exact Zn8 hj
   ·refine .inr ⟨by omega,?_⟩;unfold rnI;rw[show Nat.blt i b=false from by
     cases hx:Nat.blt i b with
     | false=>rfl
     | true=>exact absurd (Yaw hx) hib]
    rfl
  intro i i' o o' _ _ e;rcases val i with ⟨_,j,hj,e1,hl⟩ | ⟨hb1,e1⟩<;>rcases val i' with ⟨_,j',hj',e2,hl'⟩ | ⟨hb2,e2⟩
  ·rw[e1,e2] at e;subst e;exact ZoB hs hj hj'
  ·omega
  ·omega
  ·omega
 have hnot:∀(j:Nat) (o:Obj) (k:Nat),j ∉ σ->h[j]?=some o->o.live=true->Bk o (β j) k->¬own k:=λj o k hj ho hl hk hw=>by obtain ⟨i,o',hi,h1,h2,h3⟩:=hown k hw;have:=hr.sep j i o o' k ho hl h1 h2 hk h3;subst this;exact hj hi
 have hm:ZaB V w V' w':=λk hk'=>⟨hc.vin k hk',hc.fr.block k (hr.vlt k hk') (λhw=>by
  obtain ⟨i,o',_,h1,h2,h3⟩:=hown k hw;exact hr.vout i o' k h1 h2 h3 hk')⟩
 have hle:LeH h β (Zhv h σ b h') γ:=by
  intro j o hj;have hjl:j < h.length:=(Yaa.1 hj).1;have hjp:j < (Zhv h σ b h').length:=by unfold Zhv;rw[Yae,ZdZ];omega
  rcases F2 j _ (Yaq hjp) with ⟨_,_,h1⟩ | h1 | ⟨i,o',hi,h1,e,hg⟩
  ·rw[hj] at h1;injection h1 with h1;exact ⟨_,Yaq hjp,by rw[<- h1];exact OLe.refl o,λ_=>left j hjl⟩
  ·exact ⟨_,Yaq hjp,by rw[h1];simp[OLe],λhl=>by rw[h1] at hl;cases hl⟩
  ·refine ⟨_,Yaq hjp,?_,λ_=>left j hjl⟩;rw[h1];have hib:i < b:=by
    apply YaG;intro hn;have:rnI σ b h.length i=i - b+h.length:=by
     unfold rnI;rw[show Nat.blt i b=false from by
      cases hx:Nat.blt i b with
      | false=>rfl
      | true=>exact absurd (Yaw hx) hn]
     rfl
    omega
   obtain ⟨j',o0,o1,hj',hb2,hb1,hole,_⟩:=hk i hib;have ej:j=j':=by rw[e];unfold rnI;rw[show Nat.blt i b=true from Ybr hib];exact Zn8 hj'
   subst ej;rw[hi] at hb1;injection hb1 with hb1;rw[hj] at hb2;injection hb2 with hb2;rw[hb1,hb2];exact ZBt _ hole
 refine ⟨⟨λj o hj=>?_,λj1 j2 o1 o2 k h1 l1 h2 l2 k1 k2=>?_,λj o k hj hl hk'=>?_,λj o k hj hl hk'=>?_,hc.vlt,λk hk'=>hc.vin k (hr.vin k hk'),λk hk'=>?_,?_,hc.gl⟩,hle,hm,F1⟩
 ·rcases F2 j o hj with ⟨hjl,hjσ,h1⟩ | rfl | ⟨i,o',hi,rfl,e,hg⟩
  ·cases hlv:o.live with
   | false=>cases o<;>simp_all [Obj.live,Zcb]
   | true=>exact (hr.obj j o h1).keep hle hm (left j hjl) (λk hk'=>hc.fr.block k (hr.lt h1 hlv hk') (hnot j o k hjσ h1 hlv hk'))
  ·trivial
  ·have hob:=hc.obj i o' hi;cases o' with
   | dead=>trivial
   | blk cs t =>obtain ⟨g,vs,hb,hg',hcs⟩:=hob;exact ⟨g,vs,hg.trans hb,hg',Zht F1 4 cs vs hcs⟩
   | row xs e' sz =>obtain ⟨vs,hown',rest⟩:=hob;exact ⟨vs,by rw[hg];exact hown',rest⟩
   | many l ts =>refine ⟨hob.1,hob.2.1,λt ht=>?_⟩;obtain ⟨q,hq,e⟩:=ZoM ht;obtain ⟨o',ho',hb⟩:=hob.2.2 _ hq;obtain ⟨f1,f2⟩:=F1 _ _ ho';refine ⟨_,by rw[<- e];exact f1,λhl=>?_⟩;rw[<- e];exact f2.trans (hb (by rwa [ZfI] at hl))
 ·rcases F2 j1 o1 h1 with ⟨a1,a2,a3⟩ | rfl | ⟨i,oi,hi,rfl,e1,g1⟩<;>rcases F2 j2 o2 h2 with ⟨b1,b2,b3⟩ | rfl | ⟨i',oi',hi',rfl,e2,g2⟩
  ·rw[left j1 a1] at k1;rw[left j2 b1] at k2;exact hr.sep j1 j2 o1 o2 k a3 l1 b3 l2 k1 k2
  ·cases l2
  ·rw[left j1 a1] at k1;rw[g2,Zkz] at k2;rw[ZfI] at l2;rcases hc.mine i' oi' k hi' l2 k2 with h3 | h3
   ·exact absurd (hr.lt a3 l1 k1) (YbI.2 h3)
   ·exact absurd h3 (hnot j1 o1 k a2 a3 l1 k1)
  ·cases l1
  ·cases l1
  ·cases l1
  ·rw[left j2 b1] at k2;rw[g1,Zkz] at k1;rw[ZfI] at l1;rcases hc.mine i oi k hi l1 k1 with h3 | h3
   ·exact absurd (hr.lt b3 l2 k2) (YbI.2 h3)
   ·exact absurd h3 (hnot j2 o2 k b2 b3 l2 k2)
  ·cases l2
  ·rw[g1,Zkz] at k1;rw[g2,Zkz] at k2;rw[ZfI] at l1 l2;have:=hc.sep i i' oi oi' k hi l1 hi' l2 k1 k2;subst this;rw[e1,e2]
 ·rcases F2 j o hj with ⟨a1,a2,a3⟩ | rfl | ⟨i,oi,hi,rfl,e1,g1⟩
  ·rw[left j a1] at hk';exact hr.mine j o k a3 hl hk'
  ·cases hl
  ·rw[g1,Zkz] at hk';rw[ZfI] at hl;rcases hc.mine i oi k hi hl hk' with h3 | h3
   ·exact .inl (YaB hr.fr.size h3)
   ·obtain ⟨i',o',_,q1,q2,q3⟩:=hown k h3;exact hr.mine i' o' k q1 q2 q3
 ·rcases F2 j o hj with ⟨a1,a2,a3⟩ | rfl | ⟨i,oi,hi,rfl,e1,g1⟩
  ·rw[left j a1] at hk';intro hv;rcases hc.vnew k hv with h3 | h3 | h3
   ·exact hr.vout j o k a3 hl hk' h3
   ·exact absurd (hr.lt a3 hl hk') (YbI.2 h3)
   ·exact hnot j o k a2 a3 hl hk' h3
  ·cases hl
  ·rw[g1,Zkz] at hk';rw[ZfI] at hl;exact hc.vout i oi k hi hl hk'
 ·rcases hc.vnew k hk' with h3 | h3 | h3
  ·exact hr.vnew k h3
  ·exact .inr (.inl (YaB hr.fr.size h3))
  ·obtain ⟨i',o',_,q1,q2,q3⟩:=hown k h3;exact .inr (hr.mine i' o' k q1 q2 q3)
 ·refine ⟨hc.fr.os.trans hr.fr.os,hc.fr.tape.trans hr.fr.tape,hc.fr.output.trans hr.fr.output,YaB hr.fr.size hc.fr.size,λk hk' hn=>?_⟩;rw[hc.fr.block k (Ya2 hk' hr.fr.size) (λhw=>?_)]
  ·exact hr.fr.block k hk' hn
  ·obtain ⟨i',o',_,q1,q2,q3⟩:=hown k hw;rcases hr.mine i' o' k q1 q2 q3 with h3 | h3
   ·omega
   ·exact hn h3
theorem Zm9 {h:Zad} (hr:RelD C h β V w):RelD ⟨w,ZfS h β,V,C.G⟩ h β V w :=
 ⟨hr.obj,hr.sep,λi o _ hi hl hk=>.inr ⟨i,o,hi,hl,hk⟩,hr.vout,hr.vlt,λ_ hk=>hk,λ_ hk=>.inl hk,Fr.refl _ _,hr.gl⟩
theorem Zps {all:List D} {vals:List Value} {g:FuncId} (hr:RelD C st.h β V w) (hN:Nx C st.h β V w K next) (hP:Px C st.h β V w Qp qp) (hall:Zac st.h β V w all vals) (ho:Zb7 P C.G g all st.h K Qp) :
  Calls P g ⟨vals⟩ w fun
   | .returned v,w''=>next v w''
   | .panicked ch,w''=>qp ch w''
   | .outgrown,_=>False:=by
 obtain ⟨σ,b,hin,as,Q,hcl,hbk,ht,hct,hk,hp⟩:=ho;simp only[Zgw,Yaf,Ya7] at hcl;have hall':∀j∈ZcI all,j∈σ:=λj hj=>Zo9.1 (hcl.1 j hj);have hcl':∀i∈σ,∃o,st.h[i]?=some o/\∀j∈ZB7 o,j∈σ:=λi hi=>by
  have:=hcl.2 i hi;cases ho:st.h[i]? with
  | none=>rw[ho] at this;cases this
  | some o =>rw[ho] at this;exact ⟨o,rfl,λj hj=>Zo9.1 (Ya7.1 this j hj)⟩
 have hbk:=Yaw hbk;have hsub:=Zx7 hr ht.ok hcl';have hlike:Zj9 (Zjs (σ.map .old)) (Zbu st.h (σ.map .old)) hin:=by
  rcases ht.hp with e | e
  ·rw[<- e];exact Zc7 _ _
  ·exact e
 have h3:=Znj hsub hlike (λj hj=>ZlA hj) (Zgi ht.nr);have h4:=Zm9 h3;have hargs:Zac (Zbu st.h (σ.map .old)) (Za4 (σ.map .old) β) V w (all.map (conv st.h (σ.map .old) 4)) vals :=
  Zcj hr (λ_=>False) (λ_ hk=>hk) (λ_ _ _ hz=>hz.elim) 4 all vals (λd hd i hi hn=>by
   obtain ⟨k,hk,_⟩:=ZlE (hall' i (ZhG hd i hi (λj hj=>hj)));rw[hn] at hk;cases hk) hall
 have h5:=Zac.mono (ZlL (β:=Za4 (σ.map .old) β) hlike) (ZaB.refl _ w) _ _ hargs;have h6:Zac hin (Za4 (σ.map .old) β) V w as vals:=by
  rcases ht.dl with h | h
  ·rw[<- h];exact h5
  ·exact ZcG (ZiK (N:=Zjs (σ.map .old)) (λj hj=>⟨(ZlA (h:=[]) hj).1,Zgi ht.nr j hj⟩) 4) _ _ _ h h5
 have hβ:∀{i j:Nat},σ[i]?=some j->Za4 (σ.map .old) β i=β j:=fun {i j} hij=>by simp[Za4,hij]
 have hown:∀k,ZfS hin (Za4 (σ.map .old) β) k->∃i o,i∈σ/\st.h[i]?=some o/\o.live=true/\Bk o (β i) k:=by
  rintro k ⟨i,o,hi,hl,hbk'⟩;obtain ⟨o0,ho0,hlo⟩:=(ZcH hlike).2 i o hi;have hl0:=Zc6 hlo hl;unfold Zbu at ho0;rw[YaC,YaC] at ho0;cases hσ:σ[i]? with
  | none=>rw[hσ] at ho0;cases ho0
  | some j =>
   rw[hσ] at ho0;simp only[Option.map_some,Ybj] at ho0;subst ho0;rw[hβ hσ] at hbk';have hbk0:=ZfJ hlo hl hbk';obtain ⟨oj,hoj,_⟩:=hcl' j (YaL hσ);cases oj with
   | dead=>simp[Za7,hoj,Obj.live] at hl0
   | blk cs t=>exact ⟨j,_,YaL hσ,hoj,rfl,by simpa only[Za7,hoj,Bk] using hbk0⟩
   | row xs e sz=>exact ⟨j,_,YaL hσ,hoj,rfl,by simpa only[Za7,hoj,Bk] using hbk0⟩
   | many l ts=>exact ⟨j,_,YaL hσ,hoj,rfl,by simpa only[Za7,hoj,Bk] using hbk0⟩
 have stays:∀{h':Zad} {β':Nat->Value},(∀i,i < b->Zir hin h' (Za4 (σ.map .old) β) β' i)->∀i,i < b->∃j o o',σ[i]?=some j/\st.h[j]?=some o/\h'[i]?=some o'/\OLe o o'/\β' i=β j:=fun {h' β'} hkeep i hi=>by
  have hil:i < σ.length:=by omega
  have hσ:σ[i]?=some σ[i]:=Yaq hil;obtain ⟨o,ho,_⟩:=hcl' σ[i] (Yah hil);obtain ⟨⟨oi,o',h1,h2,h3,h4⟩,h5⟩:=hkeep i hi;obtain ⟨o0,ho0,hlo⟩:=(ZcH hlike).2 i oi h1;have he:o0=Za7 st.h (σ.map .old) (.old σ[i]):=by unfold Zbu at ho0;rw[YaC,YaC,hσ] at ho0;simp only[Option.map_some,Ybj] at ho0;exact ho0.symm
  refine ⟨σ[i],o,o',hσ,ho,h2,Zhj (Zre (src:=σ.map .old) ho) (Zhj ?_ h3 h4) h4,h5.trans (hβ hσ)⟩;rw[<- he];exact ZlI hlo
 refine (hct w _ V vals h4 h6).mono λe w' he=>?_;cases e with
 | returned v =>obtain ⟨d,h',β',V',hq,hrel,hd,hkeep⟩:=he;obtain ⟨q1,q2,q3,q4⟩:=Ztp hr ht.ok (λi hi=>by obtain ⟨o,ho,_⟩:=hcl' i hi;exact ⟨o,ho⟩) hown hrel (stays hkeep);exact hN _ _ v w' _ _ (hk d h' hq) q1 (ZpY q4 4 d v hd) q2 q3
 | panicked ch =>obtain ⟨d,h',t,u,β',V',rfl,hq,hrel,hd,hkeep⟩:=he;obtain ⟨q1,q2,q3,q4⟩:=Ztp hr ht.ok (λi hi=>by obtain ⟨o,ho,_⟩:=hcl' i hi;exact ⟨o,ho⟩) hown hrel (stays hkeep);exact hP _ _ t u w' _ _ (hp d h' hq) q1 (ZpY q4 4 d _ hd) q2 q3
 | outgrown=>exact he.elim
theorem ZAh (hr:RelD C st.h β V w) (he:ZbO st β V w a) (hN:Nx C st.h β V w K next) (hP:Px C st.h β V w Qp qp) (hF:∀g,F g=true->fnOk P g=true) {f:Operand} {args:Array Operand} {ts:Array TypeId} {o:Oper} (ho:o.op=.call { callee:=.value f,args:=args,argTypes:=ts })
  (h:ZaK P T F C.G (.call { callee:=.value f,args:=args,argTypes:=ts }) st K Qp):Zbj P next qp ((execOp a.eval o).run P w):=by
 simp only[ZaK] at h;have hf:=he.eval hr.gl f;split at h
 ·rename_i g fs cs ef;rw[ef] at hf;simp only[Zaa] at hf;obtain ⟨us,ts',hfv,hus,hts⟩:=hf;have main:fnOk P g=true->(∀vals:List Value,Zac st.h β V w (fs++(args.toList.map (sv C.G st)++cs)) vals->Calls P g ⟨vals⟩ w fun
    | .returned v,w''=>next v w''
    | .panicked ch,w''=>qp ch w''
    | .outgrown,_=>False)->Zbj P next qp ((execOp a.eval o).run P w):=by
   intro hfn hcalls;unfold fnOk at hfn;cases hfg:P.funcs[g]? with
   | none=>rw[hfg] at hfn;cases hfn
   | some fn =>
    rw[hfg] at hfn;simp only[Yaf,YaN] at hfn;obtain ⟨hn1,hn2⟩:=hfn
    have hn3 : ¬ fn.name = "runtime.NumGoroutine" := by simpa using hn1
    have hnone:¬ fn.body=none:=by intro hb;rw[hb] at hn2;cases hn2
    have hall:Zac st.h β V w (fs++(args.toList.map (sv C.G st)++cs)) (us++(args.toList.map a.eval++ts')):=hus.append ((Zzf hr he _).append hts);have harr:(⟨us⟩:Array Value)++args.map a.eval++⟨ts'⟩=⟨us++(args.toList.map a.eval++ts')⟩:=by apply YcK;simp
    have:(execOp a.eval o).run P w=.ok (.enter g ⟨us++(args.toList.map a.eval++ts')⟩) w:=by rw[<- harr];simp[execOp,ho,resolve,invoke,Deferred.ofValue,callFunc,hfv,hfg,hn3,hnone]
    rw[this];exact hcalls _ hall
  cases hg:F g with
  | false =>
   rw[hg] at h;simp only[cond_false,ZaZ] at h;rcases h with ⟨h1,h2 | h2⟩
   ·exact main h1 (λvals hall=>Zps hr hN hP hall h2)
   ·refine main h1 (λvals hall=>(h2 C w β V vals rfl hr hall).mono λe w' he=>?_);cases e with
    | returned v=>obtain ⟨d,h',β',V',q1,q2,q3,q4,q5⟩:=he;exact hN _ _ _ _ _ _ q1 q2 q3 q4 q5
    | panicked ch=>obtain ⟨d,h',t,u,β',V',rfl,q1,q2,q3,q4,q5⟩:=he;exact hP _ _ _ _ _ _ _ q1 q2 q3 q4 q5
    | outgrown=>exact he.elim
  | true =>
   rw[hg] at h;simp only[cond_true,ZaZ] at h;rcases ZoV h with ⟨as,Q,hl,hct,hk,hp⟩ | h2
   ·exact main (hF g hg) (λvals hall=>Zsf hr hN hP hall hl hct hk hp)
   ·refine main (hF g hg) (λvals hall=>(h2 C w β V vals rfl hr hall).mono λe w' he=>?_);cases e with
    | returned v=>obtain ⟨d,h',β',V',q1,q2,q3,q4,q5⟩:=he;exact hN _ _ _ _ _ _ q1 q2 q3 q4 q5
    | panicked ch=>obtain ⟨d,h',t,u,β',V',rfl,q1,q2,q3,q4,q5⟩:=he;exact hP _ _ _ _ _ _ _ q1 q2 q3 q4 q5
    | outgrown=>exact he.elim
 ·exact h.elim
theorem Zjp (hT:TabOk P T) (hF:∀g,F g=true->fnOk P g=true) {o:Oper} (h:ZaK P T F C.G o.op st K Qp) (hr:RelD C st.h β V w) (he:ZbO st β V w a) (hN:Nx C st.h β V w K next) (hP:Px C st.h β V w Qp qp):Zbj P next qp ((execOp a.eval o).run P w):=by
 generalize ho:o.op=op at h;cases op with
 | move x=>exact Zxo hr he hN (.inl ho) h
 | assign x=>exact Zxo hr he hN (.inr ho) h
 | pick c x y=>exact ZAd hr he hN ho h
 | alloc t=>exact Zyr hr hN hT ho h
 | box t x=>exact ZBS hr he hN ho h
 | build t parts=>exact Zyq hr he hN hT ho h
 | buildSlice t len parts=>exact ZmR hr he hN hT ho h
 | makeSlice t l c=>exact ZoH hr he hN hT ho h
 | load t x=>exact ZAf hr he hN hT ho h
 | store t x y=>exact Zyl hr he hN hT ho h
 | nilCheck x=>exact Zrw hr he hN ho h
 | binOp op t x y t'=>exact ZBT hr he hN hT ho h
 | unOp op t x=>exact ZCP hr he hN ho h
 | convert s t x=>exact Zta hr he hN hT ho h
 | fieldAddr s x f=>exact ZoJ hr he hN hT ho h
 | indexAddr t x ix=>exact ZoI hr he hN hT ho h
 | index t x ix=>exact Zyo hr he hN hT ho h
 | slice t x lo hi mx =>
  cases mx with
  | none=>exact Zym hr he hN hT ho h
  | some m=>exact h.elim
 | extract x i=>exact Zs9 hr he hN ho h
 | makeFunc fn first captured=>exact Zrx hr he hN ho h
 | makeInterface t x=>exact Zjh hr he hN hT ho h
 | panic x=>exact Zyn hr he ho h hP
 | call c =>
  obtain ⟨callee,args,ts⟩:=c;cases callee with
  | value f=>exact ZAh hr he hN hP hF ho h
  | invoke r m=>exact h.elim
  | builtin b =>
   cases b<;>first | exact ZBR hr he hN hT ho h | exact ZBQ hr he hN ho h | exact ZBP hr he hN ho h | exact ZvJ hr he hN hT ho h | exact ZAg hr he hN hT ho h | exact Zyp hr he hN hT ho h | exact h.elim
 | _=>exact h.elim
end
def ZbI:Nat->D->Bool
 | 0,_=>false
 | n+1,d=>match d with
  | .row _ | .rs _ _ _ | .ptr _ _ | .el _ _ _=>false
  | .fn _ fs cs=>fs.all (ZbI n) && cs.all (ZbI n)
  | .iface _ x=>ZbI n x
  | .agg cs=>cs.all (ZbI n)
  | .tuple cs=>cs.all (ZbI n)
  | _=>true
theorem ZhT {h h':Zad} {β β':Nat->Value} {V V':Nat->Prop} {w w':World} (hV:ZaB V w V' w'):∀(n:Nat) (d:D) (v:Value),ZbI n d=true->Zaa h β V w d v->Zaa h' β' V' w' d v:=by
 intro n
 induction n with
 | zero=>intro d v hf;cases hf
 | succ n ih =>
  intro d v hf hd;have list:∀(ds:List D) (vs:List Value),ds.all (ZbI n)=true->Zac h β V w ds vs->Zac h' β' V' w' ds vs:=by
   intro ds
   induction ds with
   | nil=>intro vs _ h;simp only[Zac] at h ⊢;exact h
   | cons d ds ihd =>intro vs hf h;simp only[List.all_cons,Yaf] at hf;simp only[Zac] at h ⊢;obtain ⟨v,us,hv,h1,h2⟩:=h;exact ⟨v,us,hv,ih d v hf.1 h1,ihd us hf.2 h2⟩
  cases d with
  | g x=>simp only[Zaa] at hd ⊢;exact ZaW.move hV _ _ hd
  | fp r o=>simp only[Zaa] at hd ⊢;obtain ⟨a,h1,h2,h3⟩:=hd;exact ⟨a,h1,(hV _ h2).1,ZaG.move hV h2 _ _ h3⟩
  | row i=>simp[ZbI] at hf
  | rs i lo k=>simp[ZbI] at hf
  | ptr i o=>simp[ZbI] at hf
  | el i j o=>simp[ZbI] at hf
  | fn f fs cs =>simp only[ZbI,Yaf] at hf;simp only[Zaa] at hd ⊢;obtain ⟨us,ts,hv,h1,h2⟩:=hd;exact ⟨us,ts,hv,list fs us hf.1 h1,list cs ts hf.2 h2⟩
  | iface t x =>simp only[ZbI] at hf;simp only[Zaa] at hd ⊢;obtain ⟨u,hv,h1⟩:=hd;exact ⟨u,hv,ih x u hf h1⟩
  | agg cs =>simp only[ZbI] at hf;simp only[Zaa] at hd ⊢;obtain ⟨us,hv,h1⟩:=hd;exact ⟨us,hv,list cs us hf h1⟩
  | tuple cs =>simp only[ZbI] at hf;simp only[Zaa] at hd ⊢;obtain ⟨us,hv,h1⟩:=hd;exact ⟨us,hv,list cs us hf h1⟩
  | any=>simp only[Zaa]
  | _=>simp only[Zaa] at hd ⊢;exact hd
section
variable {P:Program} {T:Tab} {F:FuncId->Bool} {G:Gl}
def Zj5:Op->Bool
 | .alloc _ | .box _ _ | .buildSlice _ _ _ | .makeSlice _ _ _ | .store _ _ _=>true
 | .call { callee:=.builtin .append,.. }=>true
 | _=>false
def Zd1:Op->Bool
 | .store _ _ _=>true
 | .buildSlice _ _ _=>true
 | .call { callee:=.builtin .append,args,.. }=>match args.toList with
  | .const (.slice none _ _) :: _=>false
  | _=>true
 | _=>false
def Ex (h h':Zad):Prop:=∀(i:Nat) (o:Obj),h[i]?=some o->h'[i]?=some o
theorem Ex.refl (h:Zad):Ex h h:=λ_ _ h=>h
theorem Ex.trans {a b c:Zad} (h:Ex a b) (k:Ex b c):Ex a c:=λi o hi=>k i o (h i o hi)
theorem Ex.app (h k:Zad):Ex h (h++k):=λi o hi=>by have hl:i < h.length:=(Yaa.1 hi).1;rw[Yaj hl];exact hi
def Zj3 (h:Zad):List Nat->Bool
 | []=>true
 | i :: l=>(match h[i]? with | some _=>true | none=>false) && Zj3 h l
def ZsF (P:Program) (F:FuncId->Bool) (G:Gl) (f:Operand) (args:Array Operand) (st:St) (K:D->Prop):Prop :=
 match sv G st f with
 | .fn g fs cs=>bif F g then Zb5 (fs++(args.toList.map (sv G st)++cs)) λall =>
   ∃as d,ZdX (all.map (conv st.h [] 4)) as/\CT P G g as (Is d)/\((ZbI 4 d && (ZcF 4 d || ZrU (ZcI all)) && Zj3 st.h (ZcI all))=true)/\K d
  else Zb5 (fs++(args.toList.map (sv G st)++cs)) λall=>fnOk P g=true/\∃d,(∀h',Ex st.h h'->CTR P G g all h' d)/\K d
 | _=>False
def vcQ (P:Program) (T:Tab) (F:FuncId->Bool) (G:Gl) (o:Op) (st:St) (K:D->Prop):Prop :=
 match o with
 | .call { callee:=.value f,args,.. }=>ZsF P F G f args st K
 | .call { callee:=.builtin .copy,.. }=>False
 | .call { callee:=.builtin .clear,.. }=>False
 | .panic _=>False
 | .binOp op t x y _=>match T t with
  | some { kind:=.bool,.. }=>Zey op (sv G st x) (sv G st y) K
  | some { kind:=.slice _,.. }=>False
  | some { kind:=.struct _,.. }=>Zi1 P t op (sv G st x) (sv G st y) K
  | _=>Zoq op (sv G st x) (sv G st y) K
 | o=>ZaK P T F G o st (λd _=>K d) (λ_ _=>False)
def ZCI (G:Gl) (st st':St) (l:List Operand):Prop:=∀x∈l,sv G st x=sv G st' x
theorem Zod {h:Zad}:∀{l:List Nat},Zj3 h l=true->∀i∈l,∃o,h[i]?=some o
 | [],_,i,hi=>by simp at hi
 | a :: l,ha,i,hi=>by
  simp only[Zj3,Yaf] at ha;rcases Yav.1 hi with rfl | hi
  ·cases h1:h[i]? with
   | none=>rw[h1] at ha;exact absurd ha.1 (by simp)
   | some o=>exact ⟨o,rfl⟩
  ·exact Zod ha.2 i hi
theorem Zzq {h h':Zad} (hx:Ex h h'):∀(n:Nat) (d:D),(∀i∈ids n d,∃o,h[i]?=some o)->conv h' [] n d=conv h [] n d:=by
 intro n
 induction n with
 | zero=>intro d _;rfl
 | succ n ih =>
  intro d hi;have list:∀ds:List D,(∀d∈ds,∀i∈ids n d,∃o,h[i]?=some o)->ds.map (conv h' [] n)=ds.map (conv h [] n):=λds hd=>Yb4 (λd hm=>ih d (hd d hm));cases d with
  | row i=>obtain ⟨o,ho⟩:=hi i (by simp[ids]);simp only[conv,ho,hx _ _ ho]
  | rs i lo m=>obtain ⟨o,ho⟩:=hi i (by simp[ids]);simp only[conv,ho,hx _ _ ho]
  | ptr i off=>obtain ⟨o,ho⟩:=hi i (by simp[ids]);simp only[conv,ho,hx _ _ ho]
  | el i j off=>simp only[conv]
  | fn f fs cs =>simp only[conv];rw[list fs (λd hd i h1=>hi i (by simp only[ids,Yao,Ybe];exact .inl ⟨d,hd,h1⟩)),list cs (λd hd i h1=>hi i (by simp only[ids,Yao,Ybe];exact .inr ⟨d,hd,h1⟩))]
  | iface t x=>simp only[conv];rw[ih x (λi h1=>hi i (by simp only[ids];exact h1))]
  | agg cs=>simp only[conv];rw[list cs (λd hd i h1=>hi i (by simp only[ids,Ybe];exact ⟨d,hd,h1⟩))]
  | tuple cs=>simp only[conv];rw[list cs (λd hd i h1=>hi i (by simp only[ids,Ybe];exact ⟨d,hd,h1⟩))]
  | _=>rfl
theorem ZqU {h h':Zad} (hx:Ex h h') {all:List D} (ha:Zj3 h (ZcI all)=true):all.map (conv h' [] 4)=all.map (conv h [] 4) :=
 Yb4 (λd hd=>Zzq hx 4 d (λi hi=>Zod ha i (ZhG hd i hi (λ_ h=>h))))
theorem Zfa {h:Zad} {f f':Operand->D}:∀{l:List (Nat × Operand)},(∀p∈l,f p.2=f' p.2)->ZcD h f l=ZcD h f' l
 | [],_=>rfl
 | (i,o) :: l,hl=>by simp only[ZcD];rw[hl (i,o) Yac,Zfa (λp hp=>hl p (Yad _ hp))]
theorem ZhC {f f':Operand->D} {l:List Operand} (hl:∀x∈l,f x=f' x):l.map f=l.map f':=Yb4 hl
theorem Zhl {o:Op} {st st':St} (hh:st.h=st'.h) (hs:ZCI G st st' o.operands.toList) {K Qp:KD} (h:ZaK P T F G o st K Qp):ZaK P T F G o st' K Qp:=by
 have one:∀x,x∈o.operands->sv G st' x=sv G st x:=λx hx=>(hs x (by simpa using hx)).symm;have opt:∀q:Option Operand,(∀x∈q.toArray,x∈o.operands)->q.map (sv G st')=q.map (sv G st):=by
  intro q hq;cases q with
  | none=>rfl
  | some x=>simp only[Option.map_some];rw[one x (hq x (by simp))]
 cases o with
 | move x=>simp only[ZaK] at h ⊢;rw[one x (by simp[Op.operands]),<- hh];exact h
 | assign x=>simp only[ZaK] at h ⊢;rw[one x (by simp[Op.operands]),<- hh];exact h
 | pick c x y=>simp only[ZaK] at h ⊢;rw[one c (by simp[Op.operands]),one x (by simp[Op.operands]),one y (by simp[Op.operands]),<- hh];exact h
 | alloc t=>simp only[ZaK] at h ⊢;rw[<- hh];exact h
 | box t x=>simp only[ZaK] at h ⊢;rw[one x (by simp[Op.operands]),<- hh];exact h
 | build t parts =>
  have hp:ZcD st'.h (sv G st') parts.toList=ZcD st.h (sv G st) parts.toList:=by rw[<- hh];refine Zfa (λp hp=>one p.2 ?_);simp only[Op.operands];rw[List.mem_toArray];exact YaW.2 ⟨p,hp,rfl⟩
  simp only[ZaK] at h ⊢;rw[hp,<- hh];exact h
 | buildSlice t len parts =>
  have hp:ZcD st'.h (sv G st') parts.toList=ZcD st.h (sv G st) parts.toList:=by rw[<- hh];refine Zfa (λp hp=>one p.2 ?_);simp only[Op.operands];rw[List.mem_toArray];exact YaW.2 ⟨p,hp,rfl⟩
  simp only[ZaK] at h ⊢;rw[hp,<- hh];exact h
 | makeSlice t l c=>simp only[ZaK] at h ⊢;rw[one l (by simp[Op.operands]),one c (by simp[Op.operands]),<- hh];exact h
 | load t x=>simp only[ZaK] at h ⊢;rw[one x (by simp[Op.operands]),<- hh];exact h
 | store t x y=>simp only[ZaK] at h ⊢;rw[one x (by simp[Op.operands]),one y (by simp[Op.operands]),<- hh];exact h
 | nilCheck x=>simp only[ZaK] at h ⊢;rw[one x (by simp[Op.operands]),<- hh];exact h
 | binOp op t x y t'=>simp only[ZaK] at h ⊢;rw[one x (by simp[Op.operands]),one y (by simp[Op.operands]),<- hh];exact h
 | unOp op t x=>simp only[ZaK] at h ⊢;rw[one x (by simp[Op.operands]),<- hh];exact h
 | convert s t x=>simp only[ZaK] at h ⊢;rw[one x (by simp[Op.operands]),<- hh];exact h
 | fieldAddr s x f=>simp only[ZaK] at h ⊢;rw[one x (by simp[Op.operands]),<- hh];exact h
 | indexAddr t x ix=>simp only[ZaK] at h ⊢;rw[one x (by simp[Op.operands]),one ix (by simp[Op.operands]),<- hh];exact h
 | index t x ix=>simp only[ZaK] at h ⊢;rw[one x (by simp[Op.operands]),one ix (by simp[Op.operands]),<- hh];exact h
 | slice t x lo hi mx =>
  cases mx with
  | some m=>exact h.elim
  | none=>simp only[ZaK] at h ⊢;rw[one x (by simp[Op.operands]),opt lo (λy hy=>by simp[Op.operands];simp at hy;simp[hy]),opt hi (λy hy=>by simp[Op.operands];simp at hy;simp[hy]),<- hh];exact h
 | extract x i=>simp only[ZaK] at h ⊢;rw[one x (by simp[Op.operands]),<- hh];exact h
 | makeFunc fn first captured =>
  cases fn with
  | func f =>simp only[ZaK] at h ⊢;rw[ZhC (f:=sv G st') (f':=sv G st) (l:=first.toList) (λx hx=>one x (by simp[Op.operands];exact .inl (by simpa using hx))),ZhC (f:=sv G st') (f':=sv G st) (l:=captured.toList) (λx hx=>one x (by simp[Op.operands];exact .inr (by simpa using hx))),<- hh];exact h
  | _=>exact h.elim
 | makeInterface t x=>simp only[ZaK] at h ⊢;rw[one x (by simp[Op.operands]),<- hh];exact h
 | panic x=>simp only[ZaK] at h ⊢;rw[one x (by simp[Op.operands]),<- hh];exact h
 | call c =>
  obtain ⟨callee,args,ts⟩:=c;have hargs:∀x∈args,sv G st' x=sv G st x:=λx hx=>one x (by simp[Op.operands,Call.operands,hx]);cases callee with
  | value f =>simp only[ZaK] at h ⊢;rw[one f (by simp[Op.operands,Call.operands]),ZhC (f:=sv G st') (f':=sv G st) (l:=args.toList) (λx hx=>hargs x (by simpa using hx)),<- hh];exact h
  | invoke r m=>exact h.elim
  | builtin b =>
   cases b with
   | len =>
    simp only[ZaK] at h ⊢;split at h
    ·rename_i t x hts har;rw[hargs x (by rw[<- Yba,har];simp),<- hh];exact h
    ·exact h.elim
   | max =>
    simp only[ZaK] at h ⊢;split at h
    ·rename_i x y har;rw[hargs x (by rw[<- Yba,har];simp),hargs y (by rw[<- Yba,har];simp),<- hh];exact h
    ·exact h.elim
   | min =>
    simp only[ZaK] at h ⊢;split at h
    ·rename_i x y har;rw[hargs x (by rw[<- Yba,har];simp),hargs y (by rw[<- Yba,har];simp),<- hh];exact h
    ·exact h.elim
   | append =>
    simp only[ZaK] at h ⊢;split at h
    ·rename_i t t' x y hts har;rw[hargs x (by rw[<- Yba,har];simp),hargs y (by rw[<- Yba,har];simp),<- hh];exact h
    ·exact h.elim
   | copy =>
    simp only[ZaK] at h ⊢;split at h
    ·rename_i t t' x y hts har;rw[hargs x (by rw[<- Yba,har];simp),hargs y (by rw[<- Yba,har];simp),<- hh];exact h
    ·exact h.elim
   | clear =>
    simp only[ZaK] at h ⊢;split at h
    ·rename_i t x hts har;rw[hargs x (by rw[<- Yba,har];simp),<- hh];exact h
    ·exact h.elim
   | _=>exact h.elim
 | _=>exact h.elim
theorem ZsI {op:BinOp} {x y:D} {K:D->Prop} (h:Zoq op x y K):∃d,K d/\∀K':D->Prop,K' d->Zoq op x y K':=by
 unfold Zoq at h ⊢;split at h<;>first | exact h.elim | skip
 all_goals first
  | exact ⟨_,h,λK' hk=>hk⟩
  | exact ⟨_,h.2,λK' hk=>⟨h.1,hk⟩⟩
  | exact ⟨_,h.2.2,λK' hk=>⟨h.1,h.2.1,hk⟩⟩
  | (obtain ⟨c,hc,hk⟩:=h;exact ⟨_,hk,λK' hk=>⟨c,hc,hk⟩⟩)
theorem Zrj {op:BinOp} {x y:D} {K:D->Prop} (h:Zey op x y K):∃d,K d/\∀K':D->Prop,K' d->Zey op x y K':=by
 unfold Zey at h ⊢;split at h<;>first | exact h.elim | exact ⟨_,h,λK' hk=>hk⟩
theorem Zrh {t:TypeId} {op:BinOp} {x y:D} {K:D->Prop} (h:Zi1 P t op x y K):∃d,K d/\∀K':D->Prop,K' d->Zi1 P t op x y K':=by
 unfold Zi1 at h ⊢;split at h
 ·split at h
  ·exact ⟨_,h.2,λK' hk=>⟨h.1,hk⟩⟩
  ·exact h.elim
 ·split at h
  ·exact ⟨_,h.2,λK' hk=>⟨h.1,hk⟩⟩
  ·exact h.elim
 ·exact h.elim
theorem Zvm {op:UnOp} {x:D} {K:D->Prop} (h:ZzX op x K):∃d,K d/\∀K':D->Prop,K' d->ZzX op x K':=by
 unfold ZzX at h ⊢;split at h<;>first | exact h.elim | exact ⟨_,h,λK' hk=>hk⟩ | exact ⟨_,h.2,λK' hk=>⟨h.1,hk⟩⟩
theorem ZtX {i:TI} {r:List GV} {off:Nat} {K:D->Prop} (h:ldG i r off K):∃d,K d/\∀K':D->Prop,K' d->ldG i r off K':=by
 unfold ldG at h ⊢;cases hi:i.agg with
 | false =>
  rw[hi] at h;simp only at h ⊢;split at h
  ·exact ⟨_,h,λK' hk=>hk⟩
  ·exact h.elim
 | true =>
  rw[hi] at h;simp only at h ⊢;cases hb:Nat.ble (off+i.size) r.length with
  | false=>rw[hb] at h;exact h.elim
  | true=>rw[hb] at h;exact ⟨_,h,λK' hk=>hk⟩
theorem Zs7 {m:Nat}:∀(n:Nat) (d:D),ZbI n d=true->sh m n d=d:=by
 intro n
 induction n with
 | zero=>intro d h;cases h
 | succ n ih =>
  intro d h;have list:∀ds:List D,ds.all (ZbI n)=true->ds.map (sh m n)=ds:=by
   intro ds
   induction ds with
   | nil=>intro _;rfl
   | cons d ds ihd=>intro h;simp only[List.all_cons,Yaf] at h;rw[Yar,ih d h.1,ihd h.2]
  cases d with
  | row i=>cases h
  | rs i lo k=>cases h
  | ptr i o=>cases h
  | el i j o=>cases h
  | fn f fs cs=>simp only[ZbI,Yaf] at h;simp only[sh];rw[list fs h.1,list cs h.2]
  | iface t x=>simp only[ZbI] at h;simp only[sh];rw[ih x h]
  | agg cs=>simp only[ZbI] at h;simp only[sh];rw[list cs h]
  | tuple cs=>simp only[ZbI] at h;simp only[sh];rw[list cs h]
  | _=>rfl
theorem Zsz {o:Op} {st:St} {K:D->Prop} (ha:Zj5 o=false) (h:vcQ P T F G o st K):∃d,K d/\∀(h':Zad) (K':KD),Ex st.h h'->K' d h'->ZaK P T F G o ⟨st.env,h',st.df⟩ K' (λ_ _=>False):=by
 have svh:∀(h':Zad) (x:Operand),sv G ⟨st.env,h',st.df⟩ x=sv G st x:=λh' x=>by cases x<;>rfl
 have svf:∀(h':Zad),sv G ⟨st.env,h',st.df⟩=sv G st:=λh'=>funext (svh h');cases o with
 | move x=>simp only[vcQ,ZaK] at h ⊢;exact ⟨_,h,λh' K' _ hk=>by rw[svf];exact hk⟩
 | assign x=>simp only[vcQ,ZaK] at h ⊢;exact ⟨_,h,λh' K' _ hk=>by rw[svf];exact hk⟩
 | pick c x y =>
  simp only[vcQ,ZaK] at h ⊢;unfold Zfs at h;split at h
  ·rename_i e;exact ⟨_,h,λh' K' _ hk=>by simp only[svf,e,Zfs];exact hk⟩
  ·rename_i e;exact ⟨_,h,λh' K' _ hk=>by simp only[svf,e,Zfs];exact hk⟩
  ·rename_i p e;by_cases hp:p
   ·exact ⟨_,h.1 hp,λh' K' _ hk=>by simp only[svf,e,Zfs];exact ⟨λ_=>hk,λhn=>absurd hp hn⟩⟩
   ·exact ⟨_,h.2 hp,λh' K' _ hk=>by simp only[svf,e,Zfs];exact ⟨λhn=>absurd hn hp,λ_=>hk⟩⟩
  ·rename_i p e;by_cases hp:p
   ·exact ⟨_,h.2 hp,λh' K' _ hk=>by simp only[svf,e,Zfs];exact ⟨λhn=>absurd hp hn,λ_=>hk⟩⟩
   ·exact ⟨_,h.1 hp,λh' K' _ hk=>by simp only[svf,e,Zfs];exact ⟨λ_=>hk,λhn=>absurd hn hp⟩⟩
  ·exact h.elim
 | build t parts =>
  simp only[vcQ,ZaK] at h ⊢;split at h
  ·rename_i agg size bytes z fs ht;split at h
   ·exact h.elim
   ·rename_i ps hps;split at h
    ·rename_i cs hcs;refine ⟨_,h,λh' K' hx hk=>?_⟩;have key:∀(l:List (Nat × Operand)) (ps:List (Nat × List D)),ZcD st.h (sv G st) l=some ps->ZcD h' (sv G st) l=some ps:=by
      have f1:∀d,Zec st.h d=true->Zec h' d=true:=by
       intro d hd;cases d with
       | row i=>simp only[Zec] at hd ⊢;split at hd;rename_i e;rw[hx _ _ e];cases hd
       | rs i lo n=>simp only[Zec] at hd ⊢;split at hd;rename_i e;rw[hx _ _ e];cases hd
       | el i j o=>simp only[Zec] at hd ⊢;split at hd;rename_i e;rw[hx _ _ e];cases hd
       | ptr i o=>simp only[Zec] at hd ⊢;split at hd;rename_i e;rw[hx _ _ e];cases hd
       | _=>first | exact hd | rfl
      have fL:∀ds,ZhL st.h ds=true->ZhL h' ds=true:=by
       intro ds
       induction ds with
       | nil=>intro _;rfl
       | cons d ds ih=>intro hd;simp only[ZhL,Yaf] at hd ⊢;exact ⟨f1 d hd.1,ih hd.2⟩
      have cD:∀d ds,ZeX st.h d=some ds->ZeX h' d=some ds:=by
       intro d ds hd;unfold ZeX at hd ⊢;split at hd
       ·rename_i cs;cases hf:ZhL st.h cs with
        | false=>rw[hf] at hd;cases hd
        | true=>rw[hf] at hd;simp only[fL cs hf];exact hd
       ·cases hf:Zec st.h d with
        | false=>rw[hf] at hd;cases hd
        | true=>rw[hf] at hd;simp only[f1 d hf];exact hd
      intro l
      induction l with
      | nil=>intro ps hp;exact hp
      | cons p l ih =>
       intro ps hp;obtain ⟨i,o⟩:=p;simp only[ZcD] at hp ⊢;split at hp
       ·rename_i ds r e1 e2;rw[cD _ _ e1,ih _ e2];exact hp
       ·cases hp
     simp only[svf,key _ _ hps,hcs];exact hk
    ·exact h.elim
  ·exact h.elim
 | load t x =>
  simp only[vcQ,ZaK,ZsA] at h ⊢;split at h
  ·exact h.elim
  ·rename_i i ht;split at h
   ·rename_i j off e;split at h
    ·rename_i cs ty hj;cases hagg:i.agg with
     | false =>rw[hagg] at h;simp only at h;obtain ⟨d,hd,h⟩:=Zug h;exact ⟨d,h,λh' K' hx hk=>by simp only[svf,e,hx _ _ hj];exact Zy3 hd hk⟩
     | true =>
      rw[hagg] at h;simp only at h;cases hb:Nat.ble (off+i.size) cs.length with
      | false=>rw[hb] at h;exact h.elim
      | true=>rw[hb] at h;exact ⟨_,h,λh' K' hx hk=>by simp only[svf,e,hx _ _ hj,hb];exact hk⟩
    ·exact h.elim
   ·rename_i j k off e;split at h
    ·rename_i xs ty sz hj;obtain ⟨r,hr,hl⟩:=h;obtain ⟨d,h2,h1⟩:=ZtX hl;exact ⟨d,h2,λh' K' hx hk=>by simp only[svf,e,hx _ _ hj];exact ⟨r,hr,h1 _ hk⟩⟩
    ·exact h.elim
   ·rename_i r off e;obtain ⟨d,h2,h1⟩:=ZtX h;exact ⟨d,h2,λh' K' hx hk=>by simp only[svf,e];exact h1 _ hk⟩
   ·exact h.elim
 | nilCheck x =>
  simp only[vcQ,ZaK] at h ⊢;split at h
  ·rename_i i o e;split at h
   ·rename_i cs ty hj;exact ⟨_,h,λh' K' hx hk=>by simp only[svf,e,hx _ _ hj];exact hk⟩
   ·exact h.elim
  ·rename_i i j o e;split at h
   ·rename_i xs ty sz hj;exact ⟨_,h,λh' K' hx hk=>by simp only[svf,e,hx _ _ hj];exact hk⟩
   ·exact h.elim
  ·rename_i e;exact ⟨_,h,λh' K' hx hk=>by simp only[svf,e];exact hk⟩
  ·rename_i e;exact ⟨_,h,λh' K' hx hk=>by simp only[svf,e];exact hk⟩
  ·exact h.elim
 | binOp op t x y t' =>
  simp only[vcQ,ZaK] at h ⊢;split at h
  ·rename_i ht;obtain ⟨d,h2,h1⟩:=Zrj h;exact ⟨d,h2,λh' K' _ hk=>by simp only[svf,ht];exact h1 (λv=>K' v h') hk⟩
  ·exact h.elim
  ·rename_i ht;obtain ⟨d,h2,h1⟩:=Zrh h;exact ⟨d,h2,λh' K' _ hk=>by simp only[svf,ht];exact h1 (λv=>K' v h') hk⟩
  ·rename_i hb hs hst;obtain ⟨d,h2,h1⟩:=ZsI h;refine ⟨d,h2,λh' K' _ hk=>?_⟩;simp only[svf];exact h1 (λv=>K' v h') hk
 | unOp op t x =>simp only[vcQ,ZaK] at h ⊢;obtain ⟨d,h2,h1⟩:=Zvm h;exact ⟨d,h2,λh' K' _ hk=>by simp only[svf];exact h1 _ hk⟩
 | convert s t x =>
  simp only[vcQ,ZaK] at h ⊢;split at h
  ·rename_i e1 e2 e3;exact ⟨_,h.2,λh' K' _ hk=>by simp only[svf,e1,e2,e3];exact ⟨h.1,hk⟩⟩
  ·rename_i e1 e2 e3;exact ⟨_,h.2,λh' K' _ hk=>by simp only[svf,e1,e2,e3];exact ⟨h.1,hk⟩⟩
  ·rename_i e1 e2 e3;exact ⟨_,h,λh' K' _ hk=>by simp only[svf,e1,e2,e3];exact hk⟩
  ·rename_i e1 e2 e3;split at h
   ·rename_i e4;exact ⟨_,h,λh' K' _ hk=>by simp only[svf,e1,e2,e3,e4];exact hk⟩
   ·exact h.elim
  ·exact h.elim
 | fieldAddr s x f =>
  simp only[vcQ,ZaK] at h ⊢;split at h
  ·rename_i ht;split at h
   ·rename_i off sz hf;split at h
    ·rename_i i o e;split at h
     ·rename_i cs ty hj;exact ⟨_,h,λh' K' hx hk=>by simp only[svf,e,hx _ _ hj];exact hk⟩
     ·exact h.elim
    ·rename_i i j o e;split at h
     ·rename_i xs ty sz' hj;exact ⟨_,h,λh' K' hx hk=>by simp only[svf,e,hx _ _ hj];exact hk⟩
     ·exact h.elim
    ·rename_i e;exact ⟨_,h,λh' K' hx hk=>by simp only[svf,e];exact hk⟩
    ·exact h.elim
   ·exact h.elim
  ·exact h.elim
 | indexAddr t x ix =>
  simp only[vcQ,ZaK,Zgb] at h ⊢;split at h
  ·rename_i e ht;split at h
   ·rename_i ei k xs hte ex;cases hb:Nat.beq k ei.size with
    | false=>rw[hb] at h;exact h.elim
    | true =>rw[hb] at h;obtain ⟨j,r,h1,h2,h3⟩:=h;exact ⟨_,h3,λh' K' _ hk=>by simp only[svf,hte,ex,hb];exact ⟨j,r,h1,h2,hk⟩⟩
   ·rename_i ei u hte ex;obtain ⟨m,q,l,ts,xs,ty,j,h1,h2,h3,h4,h5,h6⟩:=h;exact ⟨_,h6,λh' K' hx hk=>by simp only[svf,hte,ex];exact ⟨m,q,l,ts,xs,ty,j,hx _ _ h1,h2,hx _ _ h3,h4,h5,hk⟩⟩
   ·rename_i ei i hte ex;split at h
    ·rename_i xs ty sz hi;cases hb:Nat.beq sz ei.size with
     | false=>rw[hb] at h;exact h.elim
     | true =>rw[hb] at h;obtain ⟨j,h1,h2,h3⟩:=h;exact ⟨_,h3,λh' K' hx hk=>by simp only[svf,hte,ex,hx _ _ hi,hb];exact ⟨j,h1,h2,hk⟩⟩
    ·exact h.elim
   ·rename_i ei i lo n hte ex;split at h
    ·rename_i xs ty sz hi;cases hb:Nat.beq sz ei.size with
     | false=>rw[hb] at h;exact h.elim
     | true =>rw[hb] at h;obtain ⟨j,h1,h2,h3⟩:=h;exact ⟨_,h3,λh' K' hx hk=>by simp only[svf,hte,ex,hx _ _ hi,hb];exact ⟨j,h1,h2,hk⟩⟩
    ·exact h.elim
   ·exact h.elim
  ·rename_i n e ht;split at h
   ·rename_i ei i o hte ex;split at h
    ·rename_i cs ty hi;obtain ⟨j,h1,h2,h3⟩:=h;exact ⟨_,h3,λh' K' hx hk=>by simp only[svf,hte,ex,hx _ _ hi];exact ⟨j,h1,h2,hk⟩⟩
    ·exact h.elim
   ·rename_i ei r o hte ex;obtain ⟨j,h1,h2,h3⟩:=h;exact ⟨_,h3,λh' K' hx hk=>by simp only[svf,hte,ex];exact ⟨j,h1,h2,hk⟩⟩
   ·rename_i ei i k o hte ex;split at h
    ·rename_i xs ty sz hi;obtain ⟨j,h1,h2,h3⟩:=h;exact ⟨_,h3,λh' K' hx hk=>by simp only[svf,hte,ex,hx _ _ hi];exact ⟨j,h1,h2,hk⟩⟩
    ·exact h.elim
   ·exact h.elim
  ·exact h.elim
 | index t x ix =>
  simp only[vcQ,ZaK] at h ⊢;split at h
  ·rename_i s ht e;obtain ⟨j,c,h1,h2,h3⟩:=h;exact ⟨_,h3,λh' K' _ hk=>by simp only[svf,ht,e];exact ⟨j,c,h1,h2,hk⟩⟩
  ·exact h.elim
 | slice t x lo hi mx =>
  cases mx with
  | some m=>exact h.elim
  | none =>
   simp only[vcQ,ZaK,Zop] at h ⊢;simp only[svf];split at h
   ·rename_i s ht e;split at h
    ·rename_i e1 e2;exact ⟨_,h,λh' K' _ hk=>by first | exact hk | (simp only[e1,e2,e];exact hk)⟩
    ·rename_i e1 e2;obtain ⟨a,b,c,d⟩:=h;exact ⟨_,d,λh' K' _ hk=>by first | exact ⟨a,b,c,hk⟩ | (simp only[e1,e2,e];exact ⟨a,b,c,hk⟩)⟩
    ·rename_i e1 e2;obtain ⟨a,b,c,d⟩:=h;exact ⟨_,d,λh' K' _ hk=>by first | exact ⟨a,b,c,hk⟩ | (simp only[e1,e2,e];exact ⟨a,b,c,hk⟩)⟩
    ·rename_i e1 e2;obtain ⟨a,b,c,c2,c3,c4,d⟩:=h;exact ⟨_,d,λh' K' _ hk=>by first | exact ⟨a,b,c,c2,c3,c4,hk⟩ | (simp only[e1,e2,e];exact ⟨a,b,c,c2,c3,c4,hk⟩)⟩
   ·rename_i e k xs ht ex;split at h
    ·exact h.elim
    ·rename_i ei hte;cases hb:Nat.beq k ei.size with
     | false=>rw[hb] at h;exact h.elim
     | true =>
      rw[hb] at h;simp only[cond_true] at h;split at h
      ·rename_i e1 e2;exact ⟨_,h,λh' K' _ hk=>by first | exact hk | (simp only[ex,hte,hb,e1,e2];exact hk)⟩
      ·rename_i e1 e2;obtain ⟨a,b,c,d⟩:=h;exact ⟨_,d,λh' K' _ hk=>by first | exact ⟨a,b,c,hk⟩ | (simp only[ex,hte,hb,e1,e2];exact ⟨a,b,c,hk⟩)⟩
      ·rename_i e1 e2;obtain ⟨a,b,c,d⟩:=h;exact ⟨_,d,λh' K' _ hk=>by first | exact ⟨a,b,c,hk⟩ | (simp only[ex,hte,hb,e1,e2];exact ⟨a,b,c,hk⟩)⟩
      ·rename_i e1 e2;obtain ⟨a,b,c,c2,c3,c4,d⟩:=h;exact ⟨_,d,λh' K' _ hk=>by first | exact ⟨a,b,c,c2,c3,c4,hk⟩ | (simp only[ex,hte,hb,e1,e2];exact ⟨a,b,c,c2,c3,c4,hk⟩)⟩
   ·rename_i e i ht ex;split at h
    ·rename_i ei xs ty sz hte hi';cases hb:Nat.beq sz ei.size with
     | false=>rw[hb] at h;exact h.elim
     | true =>
      rw[hb] at h;simp only[cond_true] at h;split at h
      ·rename_i e1 e2;exact ⟨_,h,λh' K' hx hk=>by first | exact hk | (simp only[hte,hx _ _ hi',hb];exact hk)⟩
      ·rename_i e1 e2;obtain ⟨a,b,c,d⟩:=h;exact ⟨_,d,λh' K' hx hk=>by first | exact ⟨a,b,c,hk⟩ | (simp only[hte,hx _ _ hi',hb];exact ⟨a,b,c,hk⟩)⟩
      ·rename_i e1 e2;obtain ⟨a,b,c,d⟩:=h;exact ⟨_,d,λh' K' hx hk=>by first | exact ⟨a,b,c,hk⟩ | (simp only[hte,hx _ _ hi',hb];exact ⟨a,b,c,hk⟩)⟩
      ·rename_i e1 e2;obtain ⟨a,b,c,c2,c3,c4,d⟩:=h;exact ⟨_,d,λh' K' hx hk=>by first | exact ⟨a,b,c,c2,c3,c4,hk⟩ | (simp only[hte,hx _ _ hi',hb];exact ⟨a,b,c,c2,c3,c4,hk⟩)⟩
    ·exact h.elim
   ·rename_i n e i o' ht ex;split at h
    ·rename_i ti cs ty e1 e2 e3 hi';cases hb:Nat.ble (o'+n*ti.size) cs.length && Nat.blt 0 n with
     | false=>rw[hb] at h;exact h.elim
     | true =>rw[hb] at h;exact ⟨_,h,λh' K' hx hk=>by simp only[e1,e2,e3,hx _ _ hi',hb];exact hk⟩
    ·exact h.elim
   ·exact h.elim
 | extract x i =>
  simp only[vcQ,ZaK] at h ⊢;split at h
  ·rename_i vs e;split at h
   ·rename_i d hd;exact ⟨d,h,λh' K' _ hk=>by simp only[svf,e,hd];exact hk⟩
   ·exact h.elim
  ·exact h.elim
 | makeFunc fn first captured =>
  cases fn with
  | func f=>simp only[vcQ,ZaK] at h ⊢;exact ⟨_,h,λh' K' _ hk=>by rw[svf];exact hk⟩
  | _=>exact h.elim
 | makeInterface t x =>
  simp only[vcQ,ZaK] at h ⊢;split at h
  ·exact h.elim
  ·rename_i e1 e2;exact ⟨_,h,λh' K' _ hk=>by simp only[svf];exact hk⟩
  ·exact h.elim
 | call c =>
  obtain ⟨callee,args,ts⟩:=c;cases callee with
  | value f =>
   simp only[vcQ,ZsF] at h ⊢;split at h
   ·rename_i g fs cs ef;have rd:∀(h':Zad) (K':KD) (d:D),CTR P G g (fs++(args.toList.map (sv G st)++cs)) h' d->K' d h'->ZbB P G g (fs++(args.toList.map (sv G st)++cs)) h' K' (λ_ _=>False):=by
     intro h' K' d hc hk C w β V vals hG hr hd;refine (hc C w β V vals hG hr hd).mono λe w' he=>?_;cases e with
     | returned v=>exact ⟨d,h',β,V,hk,he.1,he.2.1,LeH.refl _ _,he.2.2⟩
     | panicked ch=>exact he.elim
     | outgrown=>exact he.elim
    cases hg:F g with
    | false =>rw[hg] at h;simp only[cond_false,ZaZ] at h;obtain ⟨h0,d,h1,h2⟩:=h;refine ⟨d,h2,λh' K' hx hk=>?_⟩;simp only[ZaK,svf,ef,hg,cond_false,ZaZ];exact ⟨h0,.inr (rd h' K' d (h1 h' hx) hk)⟩
    | true =>
     rw[hg] at h;simp only[cond_true,ZaZ] at h;obtain ⟨as,d,h1,h2,h3,h4⟩:=h;refine ⟨d,h4,λh' K' hx hk=>?_⟩;simp only[ZaK,svf,ef,hg,cond_true,ZaZ];refine ZtF ?_;simp only[Yaf] at h3;refine ⟨as,Is d,by rw[ZqU hx h3.2];exact h1,h2,λd' h'' hq=>?_,λd' hq=>by cases hq⟩;injection hq with e1 e2;subst e1;subst e2;rw[Zs7 4 d' h3.1.1];have haf:after h' (ZcI (fs++(args.toList.map (sv G st)++cs))) d' []=h':=by
      unfold after;have h5:=h3.1.2;cases hm:ZcF 4 d' with
      | true=>rfl
      | false =>
       rw[hm] at h5;simp only[Bool.false_or] at h5;cases hi:ZcI (fs++(args.toList.map (sv G st)++cs)) with
       | nil=>simp[ZbS]
       | cons x l=>rw[hi] at h5;cases h5
     rw[haf];exact hk
   ·exact h.elim
  | invoke r m=>exact h.elim
  | builtin b =>
   cases b with
   | len =>
    simp only[vcQ,ZaK] at h ⊢;split at h
    ·rename_i t x hts har;split at h
     ·rename_i i hi;unfold ZmB at h;split at h
      ·rename_i e1 e2;exact ⟨_,h,λh' K' _ hk=>by simp only[svf,ZmB,e1,e2];exact hk⟩
      ·rename_i e1 e2;exact ⟨_,h,λh' K' _ hk=>by simp only[svf,ZmB,e1,e2];exact hk⟩
      ·rename_i e1 e2;split at h
       ·rename_i hj;exact ⟨_,h,λh' K' hx hk=>by simp only[svf,ZmB,e1,e2,hx _ _ hj];exact hk⟩
       ·exact h.elim
      ·rename_i e1 e2;split at h
       ·rename_i hj;exact ⟨_,h,λh' K' hx hk=>by simp only[svf,ZmB,e1,e2,hx _ _ hj];exact hk⟩
       ·exact h.elim
      ·rename_i e1 e2;exact ⟨_,h,λh' K' _ hk=>by simp only[svf,ZmB,e1,e2];exact hk⟩
      ·exact h.elim
     ·exact h.elim
    ·exact h.elim
   | max =>
    simp only[vcQ,ZaK] at h ⊢;split at h
    ·split at h
     ·rename_i e1 e2;exact ⟨_,h,λh' K' _ hk=>by simp only[svf,e1,e2];exact hk⟩
     ·exact h.elim
    ·exact h.elim
   | min =>
    simp only[vcQ,ZaK] at h ⊢;split at h
    ·split at h
     ·rename_i e1 e2;exact ⟨_,h,λh' K' _ hk=>by simp only[svf,e1,e2];exact hk⟩
     ·exact h.elim
    ·exact h.elim
   | append=>cases ha
   | _=>exact h.elim
 | alloc t=>cases ha
 | box t x=>cases ha
 | buildSlice t l p=>cases ha
 | makeSlice t l c=>cases ha
 | store t x y=>cases ha
 | _=>exact h.elim
end
section
variable {P:Program} {T:Tab} {F:FuncId->Bool} {G:Gl}
def ZlU:Op->Bool
 | .move _ | .assign _ | .pick _ _ _ | .binOp _ _ _ _ _ | .unOp _ _ _ | .convert _ _ _ | .extract _ _ | .index _ _ _ | .makeInterface _ _ | .makeFunc _ _ _=>true
 | _=>false
theorem ZxS {o:Op} {st:St} {K:D->Prop} (hl:ZlU o=true) (h:vcQ P T F G o st K):∃d,K d/\∀(h':Zad) (K':KD),K' d h'->ZaK P T F G o ⟨st.env,h',st.df⟩ K' (λ_ _=>False):=by
 have svf:∀(h':Zad),sv G ⟨st.env,h',st.df⟩=sv G st:=λh'=>funext (λx=>by cases x<;>rfl);have h0:vcQ P T F G o ⟨st.env,[],st.df⟩ K:=by
  cases o<;>first | (cases hl;done) | (simp only[vcQ,ZaK,svf] at h ⊢;exact h) | skip
  rename_i fn first captured
  cases fn<;>first | exact h.elim | (simp only[vcQ,ZaK,svf] at h ⊢;exact h)
 have ha:Zj5 o=false:=by cases o<;>first | rfl | cases hl
 obtain ⟨d,h1,h2⟩:=Zsz ha h0;exact ⟨d,h1,λh' K' hk=>h2 h' K' (λi o hi=>by simp at hi) hk⟩
theorem ZtJ (n c:Nat):ofV (.slice none n c)=.nils\/ofV (.slice none n c)=.any:=by
 unfold ofV of1;cases n with
 | zero=>cases c with
  | zero=>exact .inl rfl
  | succ c=>exact .inr rfl
 | succ n=>exact .inr rfl
theorem ofV_row {n c i:Nat} (h:ofV (.slice none n c)=.row i):False:=by rcases ZtJ n c with e | e<;>rw[e] at h<;>cases h
theorem ZAA {n c i a b:Nat} (h:ofV (.slice none n c)=.rs i a b):False:=by rcases ZtJ n c with e | e<;>rw[e] at h<;>cases h
theorem Zzs {b:Bool} {X:Prop} (h:bif b then X else False):b=true/\X:=by cases b with | true=>exact ⟨rfl,h⟩ | false=>exact h.elim
theorem Zzr {b:Bool} {X:Prop} (hb:b=true) (h:X):bif b then X else False:=by subst hb;exact h
theorem Zsn {o:Op} {st:St} {K:KD} (ha:Zj5 o=true) (h:ZaK P T F G o st K (λ_ _=>False)):∃d h1,K d h1/\(∀K':KD,K' d h1->ZaK P T F G o st K' (λ_ _=>False))/\(Zd1 o=false->Ex st.h h1):=by
 cases o with
 | alloc t =>
  simp only[ZaK] at h ⊢;split at h
  ·exact h.elim
  ·exact ⟨_,_,h,λK' hk=>hk,λ_=>Ex.app _ _⟩
 | box t x =>
  simp only[ZaK] at h ⊢;split at h
  ·exact h.elim
  ·exact ⟨_,_,h,λK' hk=>hk,λ_=>Ex.app _ _⟩
 | buildSlice t len parts =>
  simp only[ZaK] at h ⊢;split at h
  ·split at h
   ·rename_i ei hte;split at h
    ·exact h.elim
    ·split at h
     ·cases hb:Nat.ble (len*ei.size) 16777216 && Nat.blt 0 ei.size with
      | false=>rw[hb] at h;exact h.elim
      | true =>rw[hb] at h;obtain ⟨xs,h1,h2,h3,h4⟩:=h;exact ⟨_,_,h4,λK' hk=>⟨xs,h1,h2,h3,hk⟩,λhm=>by cases hm⟩
     ·exact h.elim
   ·exact h.elim
  ·exact h.elim
 | makeSlice t l c =>
  simp only[ZaK] at h ⊢;split at h
  ·split at h
   ·rename_i ei hte;cases hb:Nat.blt 0 ei.size with
    | false=>rw[hb] at h;exact h.elim
    | true =>rw[hb] at h;obtain ⟨len,cap,z,h1,h2,h3,h4,h5,h6,h7⟩:=h;exact ⟨_,_,h7,λK' hk=>⟨len,cap,z,h1,h2,h3,h4,h5,h6,hk⟩,λ_=>Ex.app _ _⟩
   ·exact h.elim
  ·exact h.elim
 | store t x y =>
  simp only[ZaK,Zoo] at h ⊢;split at h
  ·exact h.elim
  ·rename_i i hi;split at h
   ·exact h.elim
   ·rename_i ds hds;cases hb:Nat.beq ds.length i.size with
    | false=>rw[hb] at h;exact h.elim
    | true =>
     rw[hb] at h;simp only[cond_true] at h ⊢;split at h
     ·split at h
      ·rename_i cs ty hj;obtain ⟨hc,h⟩:=Zzs h;exact ⟨_,_,h,λK' hk=>Zzr hc hk,λhm=>by cases hm⟩
      ·exact h.elim
     ·split at h
      ·obtain ⟨r,gs,h1,h2,h3,h4,h5⟩:=h;exact ⟨_,_,h5,λK' hk=>⟨r,gs,h1,h2,h3,h4,hk⟩,λhm=>by cases hm⟩
      ·exact h.elim
     ·exact h.elim
 | call c =>
  obtain ⟨callee,args,ts⟩:=c;cases callee with
  | builtin b =>
   cases b with
   | append =>
    simp only[ZaK] at h ⊢;split at h
    ·rename_i t t' x y hts har;cases hb:Nat.beq t t' with
     | false=>rw[hb] at h;exact h.elim
     | true =>
      rw[hb] at h;simp only[cond_true] at h ⊢;unfold Zlg at h ⊢;split at h
      ·split at h
       ·exact h.elim
       ·rename_i ei hte;split at h
        ·exact h.elim
        ·cases hpos:Nat.blt 0 ei.size with
         | false=>rw[hpos] at h;exact h.elim
         | true =>
          rw[hpos] at h;simp only[cond_true] at h ⊢;split at h
          ·exact ⟨_,_,h.2,λK' hk=>⟨h.1,hk⟩,λ_=>Ex.app _ _⟩
          ·rename_i i ex;have hmut:Zd1 (Op.call { callee:=.builtin .append,args:=args,argTypes:=ts })=false->False:=by
            intro hm;simp only[Zd1,har] at hm;split at hm
            ·rename_i e;injection e with e1 e2;subst e1;exact ofV_row ex
            ·cases hm
           split at h
           ·obtain ⟨hc,h⟩:=Zzs h;exact ⟨_,_,h.2,λK' hk=>Zzr hc ⟨h.1,hk⟩,λhm=>(hmut hm).elim⟩
           ·exact h.elim
          ·rename_i i n ex;have hmut:Zd1 (Op.call { callee:=.builtin .append,args:=args,argTypes:=ts })=false->False:=by
            intro hm;simp only[Zd1,har] at hm;split at hm
            ·rename_i e;injection e with e1 e2;subst e1;exact ZAA ex
            ·cases hm
           split at h
           ·obtain ⟨hc,h⟩:=Zzs h;exact ⟨_,_,h.2.2,λK' hk=>Zzr hc ⟨h.1,h.2.1,hk⟩,λhm=>(hmut hm).elim⟩
           ·exact h.elim
          ·exact h.elim
      ·exact h.elim
    ·exact h.elim
   | _=>cases ha
  | _=>cases ha
 | _=>cases ha
end
inductive X where
 | normal
 | exit (id:Nat)
 | ret
 | pan (d:D)
abbrev Post:=X->St->Prop
def ZaE (G:Gl) (d:D) (h:Zad) (K:KD):Prop :=
 ∀(C:Ctx) (w:World) (β:Nat->Value) (V:Nat->Prop) (v:Value),C.G=G->RelD C h β V w->Zaa h β V w d v->∃d' h' β' V',K d' h'/\RelD C h' β' V' w/\Zaa h' β' V' w d' v/\LeH h β h' β'/\ZaB V w V' w
def Zqq (op:Op) (d:D):Bool :=
 match op with
 | .load _ _=>match d with
  | .g (.raw _)=>true
  | _=>false
 | .slice _ _ _ _ _=>match d with
  | .rs _ _ _=>true
  | _=>false
 | .store _ _ _=>true
 | .build _ _=>true
 | .call { callee:=.builtin .append,.. }=>true
 | _=>false
def ZvW (G:Gl) (op:Op) (st:St) (X:St->Prop):Prop :=
 match op with
 | .buildSlice _ _ parts=>match parts.toList with
  | [(_,.tmp s)]=>match st.env s with
   | .ptr i o=>bif ZdO st.h then ZaE G (.ptr i o) st.h (λd' h'=>X ⟨st.env.set s d',h',st.df⟩) else X st
   | .row i=>bif ZdO st.h then ZaE G (.row i) st.h (λd' h'=>X ⟨st.env.set s d',h',st.df⟩) else X st
   | _=>X st
  | _=>X st
 | _=>X st
def Zhs (P:Program) (T:Tab) (F:FuncId->Bool) (G:Gl) (op:Op) (dst:Option Nat) (st:St) (K:St->Prop) (Q:Post):Prop :=
 ZvW G op st λst=>match st with
 | ⟨env,h,df⟩=>ZaK P T F G op ⟨env,h,df⟩
   (λd h=>orS (Zqq op d && ZdO h) (ZeW d λd=>Zep h λh=>match dst with | some i=>K ⟨env.set i d,h,df⟩ | none=>K ⟨env,h,df⟩)
    (ZaE G d h λd h=>ZeW d λd=>Zep h λh=>match dst with | some i=>K ⟨env.set i d,h,df⟩ | none=>K ⟨env,h,df⟩))
   (λd h=>Q (.pan d) ⟨env,h,df⟩)
def Zf0 (dst:Option Nat) (st:St) (K:St->Prop):Prop :=
 match st with
 | ⟨env,h,df⟩=>match dst with | some i=>K ⟨env.set i (.tuple []),h,df⟩ | none=>K ⟨env,h,df⟩
def Zi2 (P:Program) (T:Tab) (F:FuncId->Bool) (G:Gl) (all:Array Oper) (o:Oper) (st:St) (K:St->Prop) (Q:Post):Prop :=
 match o with
 | ⟨dst,op,_,_,_,none⟩=>Zhs P T F G op dst st K Q
 | ⟨dst,op,_,_,_,some (j,b)⟩ =>
  match (all[j]?).bind (·.dst) with
  | none=>Zf0 dst st K
  | some d =>
   match st.env d with
   | .g (.bool true)=>bif b then Zhs P T F G op dst st K Q else Zf0 dst st K
   | .g (.bool false)=>bif b then Zf0 dst st K else Zhs P T F G op dst st K Q
   | .tuple _=>Zf0 dst st K
   | .pb p=>match st with
    | ⟨env,h,df⟩=>bif b
     then (p->Zhs P T F G op dst ⟨env.set d (.g (.bool true)),h,df⟩ K Q)/\(¬p->Zf0 dst ⟨env.set d (.g (.bool false)),h,df⟩ K)
     else (p->Zf0 dst ⟨env.set d (.g (.bool true)),h,df⟩ K)/\(¬p->Zhs P T F G op dst ⟨env.set d (.g (.bool false)),h,df⟩ K Q)
   | .pn p=>match st with
    | ⟨env,h,df⟩=>bif b
     then (¬p->Zhs P T F G op dst ⟨env.set d (.g (.bool true)),h,df⟩ K Q)/\(p->Zf0 dst ⟨env.set d (.g (.bool false)),h,df⟩ K)
     else (¬p->Zf0 dst ⟨env.set d (.g (.bool true)),h,df⟩ K)/\(p->Zhs P T F G op dst ⟨env.set d (.g (.bool false)),h,df⟩ K Q)
   | _=>False
def ZxU (P:Program) (T:Tab) (F:FuncId->Bool) (G:Gl) (all:Array Oper) (K:St->Prop) (Q:Post) (l:List Oper):St->Prop :=
 List.rec (motive:=λ_=>St->Prop) K (λo _ next st=>Zi2 P T F G all o st next Q) l
def ZbC:Code->List Nat
 | .region _ ops _=>ops.toList.filterMap (·.dst)
 | .seq a b=>ZbC a++ZbC b
 | .cond _ a b=>ZbC a++ZbC b
 | .block _ a=>ZbC a
 | .loop a=>ZbC a
 | _=>[]
def inL:List Nat->Nat->Bool
 | [],_=>false
 | a :: l,k=>bif Nat.beq a k then true else inL l k
def Ziq (n:Nat):List Nat->Bool
 | []=>true
 | a :: l=>Nat.blt a n && Ziq n l
theorem ZbY:∀{l:List Nat} {k:Nat},inL l k=true↔k∈l
 | [],k=>by simp[inL]
 | a :: l,k=>by
  simp only[inL,Yav];cases h:Nat.beq a k with
  | true=>simp[Nat.eq_of_beq_eq_true h]
  | false =>
   simp only[cond_false];rw[ZbY];have:¬ k=a:=λe=>by rw[e,YaO] at h;cases h
   simp[this]
def Rel (C:Ctx) (n:Nat) (st:St) (a:Act) (w:World):Prop :=
 a.tmps.size=n/\a.defers=st.df/\∃β V,RelD C st.h β V w/\ZbO st β V w a
def ZBH (C:Ctx) (st:St) (S:List Nat) (a:Act):Prop :=
 (∀k,C.V0 k->¬ C.own k)/\(∀k,C.V0 k->k < C.w0.heap.size)/\∃a0 β0,ZbO st β0 C.V0 C.w0 a0/\∀k,inL S k=false->a.tmps.getD k undef=a0.tmps.getD k undef
def ZzN (G:Gl) (n:Nat) (B:St->Post->Prop) (S:List Nat) (st:St) (Q:Post):Prop :=
 ∃(ι:Type) (I:ι->St->Prop) (μ:ι->Nat),
  (∀C a w,C.G=G->Rel C n st a w->∃i st1,Rel C n st1 a w/\I i st1) /\
  (∀i st1,I i st1->B st1 (λe st'=>match e with
   | .normal=>∀C a w,C.G=G->Rel C n st' a w->ZBH C st S a->∃i' st2,Rel C n st2 a w/\I i' st2/\μ i' < μ i
   | e=>Q e st'))
theorem ZkA {C:Ctx} {h:Zad} {β:Nat->Value} {V:Nat->Prop} {w:World} (hr:RelD C h β V w) {h':Zad} {β':Nat->Value} {V':Nat->Prop} {w':World}
  (hc:RelD ⟨w,λk=>∃i o,h[i]?=some o/\o.live=true/\Bk o (β i) k,V,C.G⟩ h' β' V' w'):RelD C h' β' V' w':=by
 refine ⟨hc.obj,hc.sep,λi o k hi hl hk=>?_,hc.vout,hc.vlt,λk hk=>hc.vin k (hr.vin k hk),λk hk=>?_,?_,hc.gl⟩
 ·rcases hc.mine i o k hi hl hk with h1 | ⟨j,o',g1,g2,g3⟩
  ·exact .inl (YaB hr.fr.size h1)
  ·exact hr.mine j o' k g1 g2 g3
 ·rcases hc.vnew k hk with h1 | h1 | ⟨j,o',g1,g2,g3⟩
  ·exact hr.vnew k h1
  ·exact .inr (.inl (YaB hr.fr.size h1))
  ·exact .inr (hr.mine j o' k g1 g2 g3)
 ·refine ⟨hc.fr.os.trans hr.fr.os,hc.fr.tape.trans hr.fr.tape,hc.fr.output.trans hr.fr.output,YaB hr.fr.size hc.fr.size,λk hk hn=>?_⟩;rw[hc.fr.block k (Ya2 hk hr.fr.size) ?_]
  ·exact hr.fr.block k hk hn
  ·rintro ⟨j,o',g1,g2,g3⟩;rcases hr.mine j o' k g1 g2 g3 with h1 | h1
   ·omega
   ·exact hn h1
theorem ZdD {C:Ctx} {h:Zad} {β:Nat->Value} {V:Nat->Prop} {w:World} (hr:RelD C h β V w):RelD ⟨w,λk=>∃i o,h[i]?=some o/\o.live=true/\Bk o (β i) k,V,C.G⟩ h β V w :=
 ⟨hr.obj,hr.sep,λi o _ hi hl hk=>.inr ⟨i,o,hi,hl,hk⟩,hr.vout,hr.vlt,λ_ hk=>hk,λ_ hk=>.inl hk,Fr.refl _ _,hr.gl⟩
section
variable {P:Program} {T:Tab} {F:FuncId->Bool} {C:Ctx} {n:Nat}
def XOk (e:Exit) (x:X) (st:St) (a:Act) (w:World) (C:Ctx) (n:Nat):Prop :=
 match e,x with
 | .normal,.normal=>Rel C n st a w
 | .exit i,.exit j=>i=j/\Rel C n st a w
 | .ret,.ret=>Rel C n st a w
 | .panic ch,.pan d=>∃t u,ch=[{ v:=.iface t u,recovered:=false }]/\a.tmps.size=n/\a.defers=st.df/\∃β V,RelD C st.h β V w/\ZbO st β V w a/\Zaa st.h β V w d (.iface t u)
 | _,_=>False
def Keeps (S:List Nat) (a a':Act):Prop:=∀k,inL S k=false->a'.tmps.getD k undef=a.tmps.getD k undef
theorem Keeps.refl (S:List Nat) (a:Act):Keeps S a a:=λ_ _=>rfl
theorem Keeps.trans {S:List Nat} {a b c:Act} (h:Keeps S a b) (k:Keeps S b c):Keeps S a c:=λi hi=>(k i hi).trans (h i hi)
theorem Keeps.put {S:List Nat} {a:Act} {dst:Option Nat} (h:∀d,dst=some d->inL S d=true) (v:Value):Keeps S a (a.put dst v):=by
 intro k hk;cases dst with
 | none=>rfl
 | some d =>
  have hne:d≠k:=λe=>by subst e;rw[h d rfl] at hk;cases hk
  show (a.tmps.setIfInBounds d v).getD k undef=_;simp only[Yat,Ybl];rw[if_neg hne]
theorem Zl4 {st:St} {h':Zad} {β β':Nat->Value} {V V':Nat->Prop} {w w':World} {a:Act} (he:ZbO st β V w a) (hsz:a.tmps.size=n) (hle:LeH st.h β h' β') (hm:ZaB V w V' w') {i:Nat} (hi:i < n) {d:D} {v:Value} (hd:Zaa h' β' V' w' d v) (df:List Deferred) :
  ZbO ⟨st.env.set i d,h',df⟩ β' V' w' (a.put (some i) v):=by
 intro k;show Zaa h' β' V' w' (bif Nat.beq k i then d else st.env k) ((a.tmps.setIfInBounds i v).getD k undef);by_cases hk:k=i
 ·subst hk;rw[YaO];have hlt:k < a.tmps.size:=by rw[hsz];exact hi
  simp only[cond_true,Array.getD,Array.size_setIfInBounds,hlt];simpa using hd
 ·rw[ZcR hk];have h2:(a.tmps.setIfInBounds i v).getD k undef=a.tmps.getD k undef:=by simp only[Yat,Ybl];rw[if_neg (λe=>hk e.symm)]
  rw[h2];exact Zaa.mono hle hm _ _ (he k)
theorem ZqL {st:St} {β:Nat->Value} {V:Nat->Prop} {w:World} {a:Act} (he:ZbO st β V w a) {i:Nat} {d:D} (hd:Zaa st.h β V w d (a.tmps.getD i undef)):ZbO ⟨st.env.set i d,st.h,st.df⟩ β V w a:=by
 intro k;show Zaa st.h β V w (bif Nat.beq k i then d else st.env k) (a.tmps.getD k undef);by_cases hk:k=i
 ·subst hk;rw[YaO];exact hd
 ·rw[ZcR hk];exact he k
theorem Ztz {op:Op} {st:St} {a:Act} {w:World} {X:St->Prop} {β:Nat->Value} {V:Nat->Prop} (hr:RelD C st.h β V w) (he:ZbO st β V w a) (h:ZvW C.G op st X) :
  ∃st1 β1 V1,X st1/\st1.df=st.df/\RelD C st1.h β1 V1 w/\ZbO st1 β1 V1 w a:=by
 have no:X st->∃st1 β1 V1,X st1/\st1.df=st.df/\RelD C st1.h β1 V1 w/\ZbO st1 β1 V1 w a:=λh=>⟨st,β,V,h,rfl,hr,he⟩;unfold ZvW at h;split at h
 ·split at h
  ·rename_i s _;split at h
   ·rename_i i o e;cases hm:ZdO st.h with
    | false=>rw[hm] at h;exact no h
    | true =>
     rw[hm] at h;have hs:=he s;rw[e] at hs;obtain ⟨d',h',β',V',k1,k2,k3,k4,k5⟩:=h C w β V _ rfl hr hs;refine ⟨_,β',V',k1,rfl,k2,λk=>?_⟩;show Zaa h' β' V' w (bif Nat.beq k s then d' else st.env k) (a.tmps.getD k undef);by_cases hk:k=s
     ·subst hk;rw[YaO];exact k3
     ·rw[ZcR hk];exact Zaa.mono k4 k5 _ _ (he k)
   ·rename_i i e;cases hm:ZdO st.h with
    | false=>rw[hm] at h;exact no h
    | true =>
     rw[hm] at h;have hs:=he s;rw[e] at hs;obtain ⟨d',h',β',V',k1,k2,k3,k4,k5⟩:=h C w β V _ rfl hr hs;refine ⟨_,β',V',k1,rfl,k2,λk=>?_⟩;show Zaa h' β' V' w (bif Nat.beq k s then d' else st.env k) (a.tmps.getD k undef);by_cases hk:k=s
     ·subst hk;rw[YaO];exact k3
     ·rw[ZcR hk];exact Zaa.mono k4 k5 _ _ (he k)
   ·exact no h
  ·exact no h
 ·exact no h
theorem Ztc (hT:TabOk P T) (hF:∀g,F g=true->fnOk P g=true) {o:Oper} {st:St} {a:Act} {w:World} {K:St->Prop} {Q:Post} {next:Act->World->Prop} {Qa:Exit->Act->World->Prop}
  (hsz:a.tmps.size=n) (hdf:a.defers=st.df) {β:Nat->Value} {V:Nat->Prop} (hr:RelD C st.h β V w) (he:ZbO st β V w a) (hd:∀d,o.dst=some d->d < n) (h:Zhs P T F C.G o.op o.dst st K Q)
  (hK:∀st' v w',K st'->Rel C n st' (a.put o.dst v) w'->next (a.put o.dst v) w') (hQ:∀d st' ch w',Q (.pan d) st'->XOk (.panic ch) (.pan d) st' a w' C n->Qa (.panic ch) a w'):o.wp P a w next Qa:=by
 unfold Zhs at h;obtain ⟨st1,β1,V1,h,hdf1,hr,he⟩:=Ztz hr he h;rw[<- hdf1] at hdf;obtain ⟨env,hp,df⟩:=st1;simp only[Zfk,Zdj] at h;refine Zbj.wp (Zjp (st:=⟨env,hp,df⟩) hT hF h hr he ?_ ?_)
 ·intro d h' v w' β' V' hk hr' hd' hle hm;have hszp:(a.put o.dst v).tmps.size=n:=by
   cases o.dst with
   | none=>exact hsz
   | some i=>simp[Act.put,hsz]
  have hdfp:(a.put o.dst v).defers=df:=by
   cases o.dst with
   | none=>exact hdf
   | some i=>exact hdf
  have fin:∀(d:D) (h':Zad) (β':Nat->Value) (V':Nat->Prop),(match o.dst with | some i=>K ⟨env.set i d,h',df⟩ | none=>K ⟨env,h',df⟩)->RelD C h' β' V' w'->Zaa h' β' V' w' d v->LeH hp β1 h' β'->ZaB V1 w V' w'->next (a.put o.dst v) w':=by
   intro d h' β' V' hk hr' hd' hle hm;cases hdst:o.dst with
   | none =>rw[hdst] at hk hszp hdfp;refine hdst▸hK ⟨env,h',df⟩ v w' hk (by rw[hdst];exact ⟨hszp,hdfp,β',V',hr',λk=>Zaa.mono hle hm _ _ (he k)⟩)
   | some i =>rw[hdst] at hk hszp hdfp;refine hdst▸hK ⟨env.set i d,h',df⟩ v w' hk (by rw[hdst];exact ⟨hszp,hdfp,β',V',hr',Zl4 he hsz hle hm (hd i hdst) hd' df⟩)
  rcases ZoV hk with hk | hk
  ·exact fin d h' β' V' hk hr' hd' hle hm
  ·obtain ⟨d2,h2,β2,V2,k1,k2,k3,k4,k5⟩:=hk C w' β' V' v rfl hr' hd';exact fin d2 h2 β2 V2 k1 k2 k3 (hle.trans k4) (hm.trans k5)
 ·intro d h' t u w' β' V' hq hr' hd' hle hm;exact hQ d ⟨env,h',df⟩ _ w' hq ⟨t,u,rfl,hsz,hdf,β',V',hr',λk=>Zaa.mono hle hm _ _ (he k),hd'⟩
theorem ZiW {a:Act} {ops:Array Oper} {j d:Nat} (hj:(ops[j]?).bind (·.dst)=some d) :
  yielded ops a.tmps j=(match a.tmps.getD d undef with | .bool b=>some b | _=>none):=by
 unfold yielded;rw[hj];simp only[Option.bind_some];rw[Yat];cases hd:a.tmps[d]? with
 | none=>simp only[Option.getD_none];rfl
 | some v=>simp only[Option.getD_some];cases v<;>rfl
theorem Zjq (hT:TabOk P T) (hF:∀g,F g=true->fnOk P g=true) {all:Array Oper} {o:Oper} {st:St} {a:Act} {w:World} {K:St->Prop} {Q:Post} {next:Act->World->Prop} {Qa:Exit->Act->World->Prop}
  (hr:Rel C n st a w) (hd:∀d,o.dst=some d->d < n) (h:Zi2 P T F C.G all o st K Q)
  (hK:∀st' v w',K st'->Rel C n st' (a.put o.dst v) w'->next (a.put o.dst v) w') (hQ:∀d st' ch w',Q (.pan d) st'->XOk (.panic ch) (.pan d) st' a w' C n->Qa (.panic ch) a w') :
  Zu6 P all o a w next Qa:=by
 obtain ⟨hsz,hdf,β,V,hrel,he⟩:=hr;have run:∀st0:St,st0.df=st.df->st0.h=st.h->ZbO st0 β V w a->Zhs P T F C.G o.op o.dst st0 K Q->o.wp P a w next Qa:=by intro st0 h1 h2 h3 h4;exact Ztc hT hF hsz (by rw[h1];exact hdf) (by rw[h2];exact hrel) h3 hd h4 hK hQ
 have skip:∀st0:St,st0.df=st.df->st0.h=st.h->ZbO st0 β V w a->Zf0 o.dst st0 K->next (a.put o.dst undef) w:=by
  intro st0 h1 h2 h3 h4;obtain ⟨env,hp,df⟩:=st0;simp only at h1 h2;subst h1;subst h2;simp only[Zf0] at h4;have hszp:(a.put o.dst undef).tmps.size=n:=by
   cases o.dst with
   | none=>exact hsz
   | some i=>simp[Act.put,hsz]
  have hdfp:(a.put o.dst undef).defers=st.df:=by
   cases o.dst with
   | none=>exact hdf
   | some i=>exact hdf
  cases hdst:o.dst with
  | none =>rw[hdst] at h4 hszp hdfp;exact hdst▸hK _ undef w h4 (by rw[hdst];exact ⟨hszp,hdfp,β,V,hrel,h3⟩)
  | some i =>rw[hdst] at h4 hszp hdfp;exact hdst▸hK _ undef w h4 (by rw[hdst];exact ⟨hszp,hdfp,β,V,hrel,Zl4 h3 hsz (LeH.refl _ _) (ZaB.refl _ _) (hd i hdst) (by simp only[Zaa];exact ⟨[],rfl,by simp[Zac]⟩) _⟩)
 obtain ⟨dst,op,ty,pos,aft,guard⟩:=o;unfold Zu6;cases guard with
 | none =>have h:Zhs P T F C.G op dst st K Q:=h;rw[if_pos (by simp[Region.wanted])];exact run st rfl rfl he h
 | some g =>
  obtain ⟨j,b⟩:=g;simp only[Zi2] at h;have hwant:Region.wanted ⟨dst,op,ty,pos,aft,some (j,b)⟩ (yielded all a.tmps)=(yielded all a.tmps j == some b):=by simp[Region.wanted]
  rw[hwant];split at h
  ·rename_i hnone;have:yielded all a.tmps j=none:=by unfold yielded;rw[hnone];rfl
   rw[this,if_neg (by simp)];exact skip st rfl rfl he h
  ·rename_i d hsome;have hy:=ZiW (a:=a) hsome;rw[hy];have hed:=he d;split at h
   ·rename_i e;rw[e] at hed;simp only[Zaa,ZaW] at hed;rw[hed];cases b with
    | true=>rw[if_pos (by simp)];exact run st rfl rfl he h
    | false=>rw[if_neg (by simp)];exact skip st rfl rfl he h
   ·rename_i e;rw[e] at hed;simp only[Zaa,ZaW] at hed;rw[hed];cases b with
    | true=>rw[if_neg (by simp)];exact skip st rfl rfl he h
    | false=>rw[if_pos (by simp)];exact run st rfl rfl he h
   ·rename_i e;rw[e] at hed;simp only[Zaa] at hed;obtain ⟨us,hv,_⟩:=hed;rw[hv,if_neg (by simp)];exact skip st rfl rfl he h
   ·rename_i p e;rw[e] at hed;simp only[Zaa] at hed;obtain ⟨c,hv,hc⟩:=hed;obtain ⟨env,hp,df⟩:=st;have hset:∀c':Bool,c'=c->ZbO ⟨env.set d (.g (.bool c')),hp,df⟩ β V w a:=λc' hcc=>ZqL (st:=⟨env,hp,df⟩) he (by simp only[Zaa,ZaW];rw[hcc];exact hv);rw[hv];cases c with
    | true =>
     have hpp:=hc.1 rfl;cases b with
     | true=>rw[if_pos (by simp)];exact run ⟨env.set d (.g (.bool true)),hp,df⟩ rfl rfl (hset true rfl) (h.1 hpp)
     | false=>rw[if_neg (by simp)];exact skip ⟨env.set d (.g (.bool true)),hp,df⟩ rfl rfl (hset true rfl) (h.1 hpp)
    | false =>
     have hpp:¬ p:=λhp=>by have:=hc.2 hp;cases this
     cases b with
     | true=>rw[if_neg (by simp)];exact skip ⟨env.set d (.g (.bool false)),hp,df⟩ rfl rfl (hset false rfl) (h.2 hpp)
     | false=>rw[if_pos (by simp)];exact run ⟨env.set d (.g (.bool false)),hp,df⟩ rfl rfl (hset false rfl) (h.2 hpp)
   ·rename_i p e;rw[e] at hed;simp only[Zaa] at hed;obtain ⟨c,hv,hc⟩:=hed;obtain ⟨env,hp,df⟩:=st;have hset:∀c':Bool,c'=c->ZbO ⟨env.set d (.g (.bool c')),hp,df⟩ β V w a:=λc' hcc=>ZqL (st:=⟨env,hp,df⟩) he (by simp only[Zaa,ZaW];rw[hcc];exact hv);rw[hv];cases c with
    | true =>
     have hpp:=hc.1 rfl;cases b with
     | true=>rw[if_pos (by simp)];exact run ⟨env.set d (.g (.bool true)),hp,df⟩ rfl rfl (hset true rfl) (h.1 hpp)
     | false=>rw[if_neg (by simp)];exact skip ⟨env.set d (.g (.bool true)),hp,df⟩ rfl rfl (hset true rfl) (h.1 hpp)
    | false =>
     have hpp:p:=Yam.1 (λhp=>by have:=hc.2 hp;cases this);cases b with
     | true=>rw[if_neg (by simp)];exact skip ⟨env.set d (.g (.bool false)),hp,df⟩ rfl rfl (hset false rfl) (h.2 hpp)
     | false=>rw[if_pos (by simp)];exact run ⟨env.set d (.g (.bool false)),hp,df⟩ rfl rfl (hset false rfl) (h.2 hpp)
   ·exact h.elim
theorem Zna (hT:TabOk P T) (hF:∀g,F g=true->fnOk P g=true) {all:Array Oper} {S:List Nat} {K:St->Prop} {Q:Post} {Qa:Exit->Act->World->Prop} {a0:Act}
  (hK:∀st a w,K st->Rel C n st a w->Keeps S a0 a->Qa .normal a w) (hQ:∀d st ch a w,Q (.pan d) st->XOk (.panic ch) (.pan d) st a w C n->Keeps S a0 a->Qa (.panic ch) a w) :
  ∀(l:List Oper),(∀o∈l,∀d,o.dst=some d->d < n/\inL S d=true)->∀(st:St) (a:Act) (w:World),ZxU P T F C.G all K Q l st->Rel C n st a w->Keeps S a0 a->wpList P all Qa l a w:=by
 intro l
 induction l with
 | nil=>intro _ st a w h hr hk;exact hK st a w h hr hk
 | cons o r ih =>
  intro hl st a w h hr hk;have hput:∀v,Keeps S a0 (a.put o.dst v):=λv=>hk.trans (Keeps.put (λd hd=>(hl o Yac d hd).2) v);have:=Zjq (next:=wpList P all Qa r) (Qa:=Qa) hT hF hr (λd hd=>(hl o Yac d hd).1) h
   (λst' v w' hk' hr'=>ih (λo ho=>hl o (Yad _ ho)) st' _ w' hk' hr' (hput v)) (λd st' ch w' hq hx=>hQ d st' ch a w' hq hx hk)
  unfold Zu6 at this;unfold wpList;split
  ·rename_i hw;rw[if_pos hw] at this;exact .inl this
  ·rename_i hw;rw[if_neg hw] at this;exact this
theorem ZcT {n:Nat}:∀{l:List Nat},Ziq n l=true->∀k∈l,k < n
 | [],_,k,hk=>by simp at hk
 | a :: l,h,k,hk=>by
  simp only[Ziq,Yaf] at h;rcases Yav.1 hk with rfl | hk
  ·exact Yaw h.1
  ·exact ZcT h.2 k hk
end
end Go.Dm
