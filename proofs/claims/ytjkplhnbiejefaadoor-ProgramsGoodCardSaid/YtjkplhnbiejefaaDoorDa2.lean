/-
  The second engine, eighth part: loads, stores, append, calls; and all operations at once. It holds of every program whose table of types is met.
-/
import Derived.Test.YtjkplhnbiejefaaDoorDa1
import Derived.Orders
namespace Go.Dm
open Go Go.Eng Go.RowKit

section
variable {P:Program} {T:Tab} {F:FuncId→Bool} {C:Ctx} {st:St} {a:Act} {w:World} {β:Nat→Value} {V:Nat→Prop} {K:KD} {Qp:KD} {next:Value→World→Prop} {qp:List PanicEntry→World→Prop}

section
variable (hr:RelD C st.h β V w) (he:EnvOk st β V w a) (hN:Nx C st.h β V w K next)
include hr he hN

theorem s_load (hT:TabOk P T) {t:TypeId} {x:Operand} {o:Oper} (ho:o.op=.load t x) (h:vcOp P T F C.G (.load t x) st K Qp):OpRun P next qp ((execOp a.eval o).run P w):=by
 simp only[vcOp,vcLoad] at h
 have hx:=he.eval hr.gl x
 cases ht:T t with
 | none=>rw[ht] at h;exact h.elim
 | some i =>
  rw[ht] at h
  simp only at h
  have hi:=hT t i ht
  have fin:∀ (b:Addr) (v:Value) (d:D),a.eval x=.pointer (some b)→(loadVar t b).run P w=.ok v w→K d st.h→RepD st.h β V w d v→OpRun P next qp ((execOp a.eval o).run P w):=by
   intro b v d hb hl hk hd
   exact fin_v hN hr (x:=Instr.loadAt t (a.eval x)) (by simp[execOp,ho]) (by simp[hb,Instr.loadAt,Instr.sureAddr,hl]) hk hd
  split at h
  ·rename_i j off ex
   rw[ex] at hx
   split at h
   ·rename_i cs ty hj
    simp only[RepD,hj] at hx
    obtain ⟨g,hb,hv⟩:=hx
    obtain ⟨g',vs,hb',hg,hcs⟩:=hr.obj j _ hj
    have e:g'=g:=by rw[hb] at hb';injection hb' with hb';injection hb' with hb';injection hb' with hb';exact hb'.symm
    subst e
    cases hagg:i.agg with
    | false =>
     rw[hagg] at h
     simp only at h
     obtain ⟨d,hd,h⟩:=getK_ok h
     obtain ⟨v,hv1,hv2⟩:=hcs.get hd
     refine fin _ v d hv (run_loadVar_one hi hagg ?_) h hv2
     rw[cell_of_row w _ _ _ _ _ hg]
     simpa using hv1
    | true =>
     rw[hagg] at h
     simp only at h
     cases hble:Nat.ble (off+i.size) cs.length with
     | false=>rw[hble] at h;exact h.elim
     | true =>
      rw[hble] at h
      have hle:=Nat.le_of_ble_eq_true hble
      have hlen:=hcs.len
      refine fin _ (.agg ⟨List.take i.size (vs.drop off)⟩) _ hv (run_loadVar_agg hi hagg (vs:=List.take i.size (vs.drop off)) (by simp;omega) ?_) h (by simp only[RepD];exact ⟨_,rfl,(hcs.drop off).take i.size⟩)
      intro k v hk
      rw[add_mk,cell_of_row w _ _ _ _ _ hg]
      have hkl:k < i.size:=by have:=(List.getElem?_eq_some_iff.1 hk).1;simp at this;omega
      rw[List.getElem?_take_of_lt hkl,List.getElem?_drop] at hk
      simpa using hk
   ·exact h.elim
  ·rename_i j k off ex
   rw[ex] at hx
   split at h
   ·rename_i xs e sz hj
    obtain ⟨r,hk,hld⟩:=h
    simp only[RepD,hj] at hx
    obtain ⟨_,g,n,c,hb,hv⟩:=hx
    obtain ⟨vs,hvs,hrl,hcells⟩:=el_cells hr hj hk hb
    obtain ⟨d,v,hk',hd,hrun⟩:=ldG_run (β:=β) (V:=V) (h:=st.h) hi hld hvs hcells
    rw[add_mk] at hrun
    exact fin _ v d hv hrun hk' hd
   ·exact h.elim
  ·rename_i r off ex
   rw[ex] at hx
   simp only[RepD] at hx
   obtain ⟨ad,hv,hV,hrow⟩:=hx
   obtain ⟨vs,hvs,hl,hcells⟩:=RepRow.cells r 0 hrow
   obtain ⟨d,v,hk',hd,hrun⟩:=ldG_run (β:=β) (V:=V) (h:=st.h) hi h hvs (fun j v hj=>by simpa using hcells j v hj)
   exact fin _ v d hv hrun hk' hd
  ·exact h.elim

theorem s_store (hT:TabOk P T) {t:TypeId} {x y:Operand} {o:Oper} (ho:o.op=.store t x y) (h:vcOp P T F C.G (.store t x y) st K Qp):OpRun P next qp ((execOp a.eval o).run P w):=by
 simp only[vcOp,vcStore] at h
 have hx:=he.eval hr.gl x
 have hy:=he.eval hr.gl y
 cases ht:T t with
 | none=>rw[ht] at h;exact h.elim
 | some i =>
  rw[ht] at h
  simp only at h
  have hi:=hT t i ht
  split at h
  ·exact h.elim
  ·rename_i ds hds
   obtain ⟨hrep,hflat⟩:=cellsD_rep hr.obj hds hy
   cases hbq:Nat.beq ds.length i.size with
   | false=>rw[hbq] at h;exact h.elim
   | true =>
    rw[hbq] at h
    simp only[cond_true] at h
    have hlen:(cellsL (a.eval y)).length=i.size:=by rw[← hrep.len];exact Nat.eq_of_beq_eq_true hbq
    have run:∀ (g off:Nat) (cur:Array Value) (t':TypeId),a.eval x=.pointer (some ⟨g,off,none⟩)→w.heap[g]?=some (.cells cur t' (0,0))→off+(cellsL (a.eval y)).length≤cur.size →
      (execOp a.eval o).run P w=.ok .skip (w.setRow g (cur.toList.take off++cellsL (a.eval y)++cur.toList.drop (off+(cellsL (a.eval y)).length)).toArray):=by
     intro g off cur t' hb hcur hfit
     have hrun:=run_storeVar_at (P:=P) hi hlen hflat hcur hfit
     simp only[execOp,ho,Instr.storeAt,hb,Instr.sureAddr,Sem.run_bind,Sem.run_pure,Result.andThen_ok,hrun]
    split at h
    ·rename_i j off ex
     rw[ex] at hx
     split at h
     ·rename_i cs ty hj
      cases hble:Nat.ble (off+i.size) cs.length with
      | false=>rw[hble] at h;exact h.elim
      | true =>
       rw[hble] at h
       simp only[cond_true] at h
       have hle:=Nat.le_of_ble_eq_true hble
       simp only[RepD,hj] at hx
       obtain ⟨g,hb,hv⟩:=hx
       obtain ⟨g',vs,hb',hg,hcs⟩:=hr.obj j _ hj
       have e:g'=g:=by rw[hb] at hb';injection hb' with hb';injection hb' with hb';injection hb' with hb';exact hb'.symm
       subst e
       have hvl:=hcs.len
       rw[run g' off ⟨vs⟩ ty hv hg (by simp;omega)]
       have hset:=setL_rep _ _ _ _ off hcs hrep
       rw[setAt_eq _ _ _ (by omega)] at hset
       have hr':=hr.set_blk hj hb (setL cs off ds) _ hset
       refine hN _ _ undef _ _ _ h hr' (by simp only[RepD]) (le_set hj trivial) (hr.moved (Fr.setRow w g' _) (fun k hk=>⟨j,_,hj,rfl,by subst hk;rw[hb];rfl⟩))
     ·exact h.elim
    ·rename_i j k off ex
     rw[ex] at hx
     split at h
     ·rename_i xs e sz hj
      obtain ⟨r,gs,hk,hsees,hfit,hnot,hK⟩:=h
      simp only[RepD,hj] at hx
      obtain ⟨hkl,g,n,c,hb,hv⟩:=hx
      obtain ⟨vs,hown,hvs,hxs,h0⟩:=hr.obj j _ hj
      have hrl:r.length=sz:=hxs r (List.mem_of_getElem? hk)
      rcases hown.2 with ⟨hnil,_⟩ | ⟨g',cap,cur,hv',hb0,hh,hnc,hcm,hsz,htk⟩
      ·rw[hnil] at hb;cases hb
      ·have eg:g'=g:=by rw[hv'] at hb;injection hb with e1 _ _;injection e1 with e1;injection e1
       subst eg
       have hvl:vs.length=xs.length*sz:=hown.1
       have hks:k*sz+sz≤xs.length*sz:=by rw[← Nat.succ_mul];exact Nat.mul_le_mul_right _ hkl
       have hcl:xs.length*sz≤cur.toList.length:=by rw[Array.length_toList (xs:=cur),hsz];exact Nat.mul_le_mul_right _ hnc
       have hcl':cur.toList.length=cur.size:=Array.length_toList
       rw[run g' (k*sz+off) cur e hv hh (by omega)]
       have hrk:=kill_rel hr (idsL ds)
       have hgs:=seesL_rep hr (l:=idsL ds) hsees hrep (fun j hj=>hj)
       have hjk:(kills st.h (idsL ds))[j]?=some (.row xs e sz):=by
        have hl:j < (kills st.h (idsL ds)).length:=by rw[kills_len];exact (List.getElem?_eq_some_iff.1 hj).1
        rcases kills_get (idsL ds) st.h j _ (List.getElem?_eq_getElem hl) with ⟨e1,_⟩ | ⟨_,e1⟩
        ·exfalso
         have key:∀ (l:List Nat) (h:Heap) (ob:Go.Dm.Obj),j ∉ l→h[j]?=some ob→(kills h l)[j]?=some ob:=by
          intro l
          induction l with
          | nil=>intro h ob _ ho;exact ho
          | cons a l ih =>
           intro h ob hn ho
           simp only[List.mem_cons,not_or] at hn
           exact ih _ _ hn.2 (by rw[List.getElem?_set_ne (fun e=>hn.1 e.symm)];exact ho)
         have:=key _ _ _ hnot hj
         rw[List.getElem?_eq_getElem hl,e1] at this
         cases this
        ·rw[hj] at e1
         rw[List.getElem?_eq_getElem hl]
         exact e1.symm
       have hgl:gs.length=i.size:=by rw[hgs.len,hlen]
       have hvsk:RepL (killV st.h (idsL ds) β V) w xs.flatten vs:=RepL.move (kill_moved _ _ _ _ _) _ _ hvs
       have hflatset:(xs.set k (setL r off gs)).flatten=setL xs.flatten (k*sz+off) gs:=by
        have key:∀ (xs:List (List GV)) (k:Nat),(∀ r∈xs,r.length=sz)→xs[k]?=some r→(xs.set k (setL r off gs)).flatten=setL xs.flatten (k*sz+off) gs:=by
         have sapp:∀ (gs:List GV) (u l:List GV) (o:Nat),setL (u++l) (u.length+o) gs=u++setL l o gs:=by
          intro gs
          induction gs with
          | nil=>intro u l o;rfl
          | cons g gs ih =>
           intro u l o
           simp only[setL]
           rw[List.set_append_right _ _ (by omega),show u.length+o - u.length=o from by omega,show u.length+o+1=u.length+(o+1) from by omega,ih]
         have sapl:∀ (gs:List GV) (u l:List GV) (o:Nat),o+gs.length≤u.length→setL (u++l) o gs=setL u o gs++l:=by
          intro gs
          induction gs with
          | nil=>intro u l o _;rfl
          | cons g gs ih =>
           intro u l o ho
           simp only[List.length_cons] at ho
           simp only[setL]
           rw[List.set_append_left _ _ (by omega),ih _ _ _ (by simp;omega)]
         intro xs
         induction xs with
         | nil=>intro k _ hk;simp at hk
         | cons x xs ih =>
          intro k hx hk
          have hxl:=hx x List.mem_cons_self
          cases k with
          | zero =>
           simp at hk
           subst hk
           rw[List.set_cons_zero,List.flatten_cons,List.flatten_cons,Nat.zero_mul,Nat.zero_add,sapl _ _ _ _ (by omega)]
          | succ k =>
           rw[List.set_cons_succ,List.flatten_cons,List.flatten_cons,ih k (fun r hr=>hx r (List.mem_cons_of_mem _ hr)) (by simpa using hk),show (k+1)*sz+off=x.length+(k*sz+off) from by rw[hxl,Nat.succ_mul];omega,sapp]
        exact key xs k hxs hk
       have hnew:=setG_rep gs (cellsL (a.eval y)) _ _ (k*sz+off) hvsk hgs
       rw[← hflatset] at hnew
       have hr':=hrk.set_row hjk hb (xs.set k (setL r off gs)) (setAt vs (k*sz+off) (cellsL (a.eval y))) hnew
        (fun q hq=>by
         rcases List.mem_or_eq_of_mem_set hq with hq | rfl
         ·exact hxs q hq
         ·rw[setL_length];exact hrl)
        (by simp) (cur.toList.take (k*sz+off)++cellsL (a.eval y)++cur.toList.drop (k*sz+off+(cellsL (a.eval y)).length)).toArray
        (fun cur2 hh2=>by
         rw[hh] at hh2
         injection hh2 with hh2
         injection hh2 with hh2
         subst hh2
         simp
         omega)
        (by
         have:=take_setAt (cellsL (a.eval y)) cur.toList (xs.length*sz) (k*sz+off) hcl (by omega)
         rw[htk] at this
         simpa using this)
       have hcomm:∀ (l:List Nat) (h:Heap) (ob:Go.Dm.Obj),j ∉ l→kills (h.set j ob) l=(kills h l).set j ob:=by
        intro l
        induction l with
        | nil=>intro h ob _;rfl
        | cons a l ih =>
         intro h ob hn
         simp only[List.mem_cons,not_or] at hn
         simp only[kills]
         rw[List.set_comm _ _ hn.1,ih _ _ hn.2]
       rw[hcomm _ _ _ hnot] at hK
       have hle2:LeH st.h β ((kills st.h (idsL ds)).set j (.row (xs.set k (setL r off gs)) e sz)) β:=by
        intro i' o' hi'
        obtain ⟨o1,g1,g2,g3⟩:=kills_le (idsL ds) st.h β i' o' hi'
        by_cases hij:i'=j
        ·subst hij
         rw[hj] at hi'
         injection hi' with hi'
         subst hi'
         exact ⟨_,List.getElem?_set_self (List.getElem?_eq_some_iff.1 g1).1,⟨by simp,rfl⟩,fun _=>rfl⟩
        ·exact ⟨o1,by rw[List.getElem?_set_ne (fun e=>hij e.symm)];exact g1,g2,g3⟩
       refine hN _ _ undef _ _ _ hK hr' (by simp only[RepD]) hle2 ((kill_moved _ _ _ _ _).trans (hrk.moved (Fr.setRow w g' _) (fun q hq=>⟨j,_,hjk,rfl,by subst hq;rw[hb];rfl⟩)))
     ·exact h.elim
    ·exact h.elim

theorem s_extract {x:Operand} {f:Nat} {o:Oper} (ho:o.op=.extract x f) (h:vcOp P T F C.G (.extract x f) st K Qp):OpRun P next qp ((execOp a.eval o).run P w):=by
 have he':execOp a.eval o=(do pure (.value (← Instr.extract (a.eval x) f))):=by simp[execOp,ho]
 have hx:=he.eval hr.gl x
 simp only[vcOp] at h
 split at h
 ·rename_i vs ex
  rw[ex] at hx
  simp only[RepD] at hx
  obtain ⟨us,hv,hus⟩:=hx
  split at h
  ·rename_i d hd
   obtain ⟨v,hv1,hv2⟩:=hus.get hd
   refine fin_v hN hr he' (v:=v) ?_ h hv2
   rw[hv]
   simp[Instr.extract,hv1]
  ·exact h.elim
 ·exact h.elim

theorem s_field {t:TypeId} {x:Operand} {f:Nat} {o:Oper} (ho:o.op=.field t x f) (h:vcOp P T F C.G (.field t x f) st K Qp):OpRun P next qp ((execOp a.eval o).run P w):=by
 have he':execOp a.eval o=(do pure (.value (← Instr.field t (a.eval x) f))):=by simp[execOp,ho]
 have hx:=he.eval hr.gl x
 simp only[vcOp] at h
 split at h
 ·rename_i cs ex
  rw[ex] at hx
  simp only[RepD] at hx
  obtain ⟨us,hv,hus⟩:=hx
  obtain ⟨off,d,⟨fields,fl,h1,h2,h3,h4⟩,hd,hk⟩:=h
  obtain ⟨v,hv1,hv2⟩:=hus.get hd
  refine fin_v hN hr he' (v:=v) ?_ hk hv2
  rw[hv]
  subst h3
  simp[Instr.field,run_underlying h1,h2,part,h4,asAgg,hv1,go_sem]
 ·exact h.elim

omit hN in
theorem evalL (l:List Operand):RepDL st.h β V w (l.map (sv C.G st)) (l.map a.eval):=by
 induction l with
 | nil=>simp[RepDL]
 | cons x l ih=>simp only[List.map_cons,RepDL];exact ⟨_,_,rfl,he.eval hr.gl x,ih⟩

theorem s_makeFunc {fn:Fn} {first captured:Array Operand} {o:Oper} (ho:o.op=.makeFunc fn first captured) (h:vcOp P T F C.G (.makeFunc fn first captured) st K Qp):OpRun P next qp ((execOp a.eval o).run P w):=by
 have he':execOp a.eval o=(do pure (.value (← Instr.makeFunc fn (first.map a.eval) (captured.map a.eval)))):=by simp[execOp,ho]
 cases fn with
 | func f =>
  simp only[vcOp] at h
  refine fin_v hN hr he' (v:=.func (.func f) (first.map a.eval) (captured.map a.eval)) rfl h ?_
  simp only[RepD]
  exact ⟨first.toList.map a.eval,captured.toList.map a.eval,by simp[← Array.toList_map],evalL hr he _,evalL hr he _⟩
 | _=>exact h.elim

theorem s_makeInterface (hT:TabOk P T) {t:TypeId} {x:Operand} {o:Oper} (ho:o.op=.makeInterface t x) (h:vcOp P T F C.G (.makeInterface t x) st K Qp):OpRun P next qp ((execOp a.eval o).run P w):=by
 have he':execOp a.eval o=(do pure (.value (← Instr.makeInterface t (a.eval x)))):=by simp[execOp,ho]
 simp only[vcOp] at h
 split at h
 ·exact h.elim
 ·rename_i i hne hs
  obtain ⟨d,hd,hdk,_⟩:=(hT t _ hs).d
  have hni:∀ ms,d≠.interface ms:=by
   intro ms e
   subst e
   obtain ⟨agg,size,bytes,zero,kind⟩:=i
   cases kind<;>first | exact hne _ _ _ _ rfl | (simp[descOk] at hdk)
  refine fin_v hN hr he' (v:=.iface t (a.eval x)) ?_ h (by simp only[RepD];exact ⟨_,rfl,he.eval hr.gl x⟩)
  simp only[Instr.makeInterface,Sem.run_bind,run_underlying hd,Result.andThen_ok]
  cases d<;>first | rfl | exact absurd rfl (hni _)
 ·exact h.elim

theorem s_nilCheck {x:Operand} {o:Oper} (ho:o.op=.nilCheck x) (h:vcOp P T F C.G (.nilCheck x) st K Qp):OpRun P next qp ((execOp a.eval o).run P w):=by
 have hx:=he.eval hr.gl x
 simp only[vcOp] at h
 have fin:∀ (d:D),sv C.G st x=d→K d st.h→((∃ b,a.eval x=.pointer (some b))∨∃ f y z,a.eval x=.func (.func f) y z)→OpRun P next qp ((execOp a.eval o).run P w):=by
  intro d e hk hv
  have:(execOp a.eval o).run P w=.ok (.value (a.eval x)) w:=by
   rcases hv with ⟨b,hv⟩ | ⟨f,y,z,hv⟩<;>simp[execOp,ho,hv]
  rw[this]
  rw[e] at hx
  exact hN.same hr hk hx
 split at h
 ·rename_i i o' e
  split at h
  ·rename_i cs ty hi
   refine fin _ e h (.inl ?_)
   rw[e] at hx
   simp only[RepD,hi] at hx
   obtain ⟨g,_,hv⟩:=hx
   exact ⟨_,hv⟩
  ·exact h.elim
 ·rename_i i j o' e
  split at h
  ·rename_i xs ty sz hi
   refine fin _ e h (.inl ?_)
   rw[e] at hx
   simp only[RepD,hi] at hx
   obtain ⟨_,g,_,_,_,hv⟩:=hx
   exact ⟨_,hv⟩
  ·exact h.elim
 ·rename_i r o' e
  refine fin _ e h (.inl ?_)
  rw[e] at hx
  simp only[RepD] at hx
  obtain ⟨ad,hv,_⟩:=hx
  exact ⟨_,hv⟩
 ·rename_i f fs cs e
  refine fin _ e h (.inr ?_)
  rw[e] at hx
  simp only[RepD] at hx
  obtain ⟨us,ts,hv,_⟩:=hx
  exact ⟨_,_,_,hv⟩
 ·exact h.elim

omit hN in
theorem s_panic {x:Operand} {o:Oper} (ho:o.op=.panic x) (h:vcOp P T F C.G (.panic x) st K Qp) (hP:Px C st.h β V w Qp qp):OpRun P next qp ((execOp a.eval o).run P w):=by
 have hx:=he.eval hr.gl x
 simp only[vcOp] at h
 split at h
 ·rename_i t d e
  rw[e] at hx
  have hx':=hx
  simp only[RepD] at hx'
  obtain ⟨u,hv,_⟩:=hx'
  rw[hv] at hx
  have:(execOp a.eval o).run P w=.halt (.panic (.iface t u)) w:=by simp[execOp,ho,hv,run_panic_iface]
  rw[this]
  exact hP _ _ _ _ _ _ _ h hr hx (LeH.refl _ _) (Moved.refl _ _)
 ·exact h.elim

theorem s_len (hT:TabOk P T) {args:Array Operand} {ts:Array TypeId} {o:Oper} (ho:o.op=.call { callee:=.builtin .len,args:=args,argTypes:=ts }) (h:vcOp P T F C.G (.call { callee:=.builtin .len,args:=args,argTypes:=ts }) st K Qp):OpRun P next qp ((execOp a.eval o).run P w):=by
 simp only[vcOp] at h
 split at h
 ·rename_i t x hts har
  have hts':ts=#[t]:=by rw[← Array.toArray_toList (xs:=ts),hts]
  have har':args=#[x]:=by rw[← Array.toArray_toList (xs:=args),har]
  subst hts'
  subst har'
  have hx:=he.eval hr.gl x
  split at h
  ·rename_i i hti
   have key:∀ n:Int,(Builtin.len_ #[t] o.type #[a.eval x]).run P w=.ok (.int .i64 n) w→K (.g (.int n)) st.h→OpRun P next qp ((execOp a.eval o).run P w):=by
    intro n hv hk
    have:(execOp a.eval o).run P w=.ok (.value (.int .i64 n)) w:=by simp[execOp,ho,resolve,invoke,builtin,hv]
    rw[this]
    exact hN.same hr hk (repI n)
   unfold vcLen at h
   split at h
   ·rename_i e k xs hk ex
    rw[ex] at hx
    simp only[RepD,RepV] at hx
    obtain ⟨A,cap,hv,_⟩:=hx
    refine key _ ?_ h
    rw[hv]
    exact run_len_sl hT hti hk A xs.length cap o.type w
   ·rename_i e hk ex
    rw[ex] at hx
    simp only[RepD] at hx
    refine key _ ?_ h
    rw[hx]
    exact run_len_sl hT hti hk none 0 0 o.type w
   ·rename_i e j hk ex
    rw[ex] at hx
    split at h
    ·rename_i xs ty sz hj
     simp only[RepD,hj] at hx
     obtain ⟨vs,hown,_⟩:=hr.obj j _ hj
     refine key _ ?_ h
     rcases hown.2 with ⟨hn,h0⟩ | ⟨g,cap,cur,hbv,_⟩
     ·rw[hx,hn,h0];exact run_len_sl hT hti hk none 0 0 o.type w
     ·rw[hx,hbv];exact run_len_sl hT hti hk _ xs.length cap o.type w
    ·exact h.elim
   ·rename_i e j lo n hk ex
    rw[ex] at hx
    split at h
    ·rename_i xs ty sz hj
     simp only[RepD,hj] at hx
     obtain ⟨_,A,m,cap,_,hv⟩:=hx
     refine key _ ?_ h
     rw[hv]
     exact run_len_sl hT hti hk _ n _ o.type w
    ·exact h.elim
   ·rename_i s hk ex
    rw[ex] at hx
    simp only[RepD,RepV] at hx
    refine key _ ?_ h
    rw[hx]
    exact run_len_str hT hti hk _ o.type w
   ·exact h.elim
  ·exact h.elim
 ·exact h.elim
theorem s_max {args:Array Operand} {ts:Array TypeId} {o:Oper} (ho:o.op=.call { callee:=.builtin .max,args:=args,argTypes:=ts }) (h:vcOp P T F C.G (.call { callee:=.builtin .max,args:=args,argTypes:=ts }) st K Qp):OpRun P next qp ((execOp a.eval o).run P w):=by
 simp only[vcOp] at h
 split at h
 ·rename_i x y har
  have har':args=#[x,y]:=by rw[← Array.toArray_toList (xs:=args),har]
  subst har'
  have hx:=he.eval hr.gl x
  have hy:=he.eval hr.gl y
  split at h
  ·rename_i m n ex ey
   rw[ex] at hx
   rw[ey] at hy
   simp only[RepD,RepV] at hx hy
   have hv:(Builtin.max_ ts o.type #[a.eval x,a.eval y]).run P w=.ok (.int .i64 (if n > m then n else m)) w:=by rw[hx,hy];rfl
   have:(execOp a.eval o).run P w=.ok (.value (.int .i64 (if n > m then n else m))) w:=by simp[execOp,ho,resolve,invoke,builtin,hv]
   rw[this]
   exact hN.same hr h (repI _)
  ·exact h.elim
 ·exact h.elim
theorem s_min {args:Array Operand} {ts:Array TypeId} {o:Oper} (ho:o.op=.call { callee:=.builtin .min,args:=args,argTypes:=ts }) (h:vcOp P T F C.G (.call { callee:=.builtin .min,args:=args,argTypes:=ts }) st K Qp):OpRun P next qp ((execOp a.eval o).run P w):=by
 simp only[vcOp] at h
 split at h
 ·rename_i x y har
  have har':args=#[x,y]:=by rw[← Array.toArray_toList (xs:=args),har]
  subst har'
  have hx:=he.eval hr.gl x
  have hy:=he.eval hr.gl y
  split at h
  ·rename_i m n ex ey
   rw[ex] at hx
   rw[ey] at hy
   simp only[RepD,RepV] at hx hy
   have hv:(Builtin.min_ ts o.type #[a.eval x,a.eval y]).run P w=.ok (.int .i64 (if n < m then n else m)) w:=by rw[hx,hy];rfl
   have:(execOp a.eval o).run P w=.ok (.value (.int .i64 (if n < m then n else m))) w:=by simp[execOp,ho,resolve,invoke,builtin,hv]
   rw[this]
   exact hN.same hr h (repI _)
  ·exact h.elim
 ·exact h.elim
end
end
end Go.Dm
/-
  The second engine, ninth part: append, calls, and all operations at once. It holds of every program whose table of types is met.
-/
namespace Go.Dm
open Go Go.Eng Go.RowKit

section
variable {P:Program} {T:Tab} {F:FuncId→Bool} {C:Ctx} {st:St} {a:Act} {w:World} {β:Nat→Value} {V:Nat→Prop} {K:KD} {Qp:KD} {next:Value→World→Prop} {qp:List PanicEntry→World→Prop}

theorem srcD_rep {h:Heap} (hr:RelD C h β V w) {sz:Nat} {y:D} {v:Value} {news:List (List GV)} (hs:srcD h sz y=some news) (hy:RepD h β V w y v) (h0:0 < sz) :
  (news=[]∧v=.slice none 0 0)∨∃ ad cap vs,v=.slice (some ad) news.length cap∧RepL V w news.flatten vs∧(∀ r∈news,r.length=sz)∧(vs.length=news.length*sz)∧∀ i u,vs[i]?=some u→w.cell? (ad.add i)=some u:=by
 unfold srcD at hs
 have rowc:∀ (j:Nat) (ys:List (List GV)) (e sz':Nat),h[j]?=some (.row ys e sz')→sz'=sz→∀ (lo n:Nat),lo+n≤ys.length→∀ v,SubS (β j) lo n sz v→(n=0∧v=.slice none 0 0) ∨
   ∃ ad cap vs,v=.slice (some ad) n cap∧RepL V w ((ys.drop lo).take n).flatten vs∧(∀ r∈(ys.drop lo).take n,r.length=sz)∧(vs.length=n*sz)∧∀ i u,vs[i]?=some u→w.cell? (ad.add i)=some u:=by
  intro j ys e sz' hj hsz lo n hln v hv
  subst hsz
  obtain ⟨A,m,cap,hb,rfl⟩:=hv
  obtain ⟨vs,hown,hvs,hxs,_⟩:=hr.obj j _ hj
  rcases hown.2 with ⟨hn,hl0⟩ | ⟨g,cap',cur,hbv,_,_,hnc,_⟩
  ·rw[hn] at hb
   injection hb with e1 e2 e3
   subst e1;subst e3
   left
   have hlo:lo=0:=by omega
   have hn0:n=0:=by omega
   subst hlo
   subst hn0
   exact ⟨rfl,by simp⟩
  ·rw[hbv] at hb
   injection hb with e1 e2 e3
   subst e1;subst e3
   have hcells:=hown.cells (g:=g) (by rw[hbv];rfl)
   right
   have hmem:∀ r∈(ys.drop lo).take n,r.length=sz':=fun r hr=>hxs r (List.mem_of_mem_drop (List.mem_of_mem_take hr))
   have hfl:((ys.drop lo).take n).flatten=((ys.flatten).drop (lo*sz')).take (n*sz'):=by
    have k1:∀ (ys:List (List GV)) (lo:Nat),(∀ r∈ys,r.length=sz')→(ys.drop lo).flatten=ys.flatten.drop (lo*sz'):=by
     intro ys
     induction ys with
     | nil=>intro lo _;simp
     | cons y ys ih =>
      intro lo hy
      cases lo with
      | zero=>simp
      | succ lo =>
       have hyl:=hy y List.mem_cons_self
       have hd:y.drop ((lo+1)*sz')=[]:=List.drop_of_length_le (by rw[hyl,Nat.succ_mul];omega)
       rw[List.drop_succ_cons,List.flatten_cons,List.drop_append,hd,hyl,Nat.succ_mul,Nat.add_sub_cancel,List.nil_append]
       exact ih lo (fun r hr=>hy r (List.mem_cons_of_mem _ hr))
    have k2:∀ (ys:List (List GV)) (n:Nat),(∀ r∈ys,r.length=sz')→(ys.take n).flatten=ys.flatten.take (n*sz'):=by
     intro ys
     induction ys with
     | nil=>intro n _;simp
     | cons y ys ih =>
      intro n hy
      cases n with
      | zero=>simp
      | succ n =>
       have hyl:=hy y List.mem_cons_self
       have hd:y.take ((n+1)*sz')=y:=List.take_of_length_le (by rw[hyl,Nat.succ_mul];omega)
       rw[List.take_succ_cons,List.flatten_cons,List.flatten_cons,List.take_append,hd,hyl,Nat.succ_mul,Nat.add_sub_cancel,ih n (fun r hr=>hy r (List.mem_cons_of_mem _ hr))]
    rw[k2 _ _ (fun r hr=>hxs r (List.mem_of_mem_drop hr)),k1 _ _ hxs]
   have hvl:vs.length=ys.length*sz':=hown.1
   have hls:lo*sz'+n*sz'≤ys.length*sz':=by rw[← Nat.add_mul];exact Nat.mul_le_mul_right _ hln
   refine ⟨if cap'=lo then ⟨g,0,none⟩ else ⟨g,lo*sz',none⟩,cap' - lo,(vs.drop (lo*sz')).take (n*sz'),?_,by rw[hfl];exact (hvs.drop _).take _,hmem,by rw[List.length_take,List.length_drop];omega,fun i u hi=>?_⟩
   ·by_cases hc:cap'=lo
    ·simp[hc]
    ·simp[hc,add_mk]
   ·have hil:i < n*sz':=by have:=(List.getElem?_eq_some_iff.1 hi).1;simp at this;omega
    have hne:cap'≠lo:=by
     intro hc
     have:n=0:=by omega
     subst this
     omega
    rw[if_neg hne,add_mk]
    rw[List.getElem?_take_of_lt hil,List.getElem?_drop] at hi
    have:=hcells (lo*sz'+i) u hi
    rw[add_mk,Nat.zero_add] at this
    exact this
 split at hs
 ·injection hs with hs
  subst hs
  simp only[RepD] at hy
  exact .inl ⟨rfl,hy⟩
 ·rename_i k xs
  cases hb:Nat.beq k sz with
  | false=>rw[hb] at hs;cases hs
  | true =>
   rw[hb] at hs
   simp at hs
   subst hs
   have:=Nat.eq_of_beq_eq_true hb
   subst this
   simp only[RepD,RepV] at hy
   obtain ⟨A,cap,rfl,hc,ha⟩:=hy
   cases A with
   | none =>
    by_cases h1:0 < xs.length
    ·obtain ⟨ad,h2,_⟩:=ha.1 h1;cases h2
    ·have hx0:xs=[]:=List.eq_nil_of_length_eq_zero (by omega)
     subst hx0
     have:=ha.2 rfl
     subst this
     exact .inl ⟨rfl,rfl⟩
   | some ad =>
    right
    by_cases h1:0 < xs.length
    ·obtain ⟨ad',h2,hV,hall⟩:=ha.1 h1
     injection h2 with h2
     subst h2
     obtain ⟨vs,g1,g2,g3,g4⟩:=RepAll.flat xs 0 hall
     exact ⟨ad,cap,vs,rfl,g1,g3,g2,fun i u hi=>by simpa using g4 i u hi⟩
    ·have hx0:xs=[]:=List.eq_nil_of_length_eq_zero (by omega)
     subst hx0
     exact ⟨ad,cap,[],rfl,trivial,fun r hr=>by simp at hr,by simp,fun i u hi=>by simp at hi⟩
 ·rename_i j
  split at hs
  ·rename_i ys e sz' hj
   cases hb:Nat.beq sz' sz with
   | false=>rw[hb] at hs;cases hs
   | true =>
    rw[hb] at hs
    simp at hs
    subst hs
    have:=Nat.eq_of_beq_eq_true hb
    simp only[RepD,hj] at hy
    obtain ⟨vs,hown,_⟩:=hr.obj j _ hj
    have hsub:SubS (β j) 0 ys.length sz v:=by
     rcases hown.2 with ⟨hn,hl0⟩ | ⟨g,cap',cur,hbv,_,_,hnc,_⟩
     ·exact ⟨none,0,0,hn,by rw[hy,hn,hl0];simp⟩
     ·refine ⟨_,_,_,hbv,?_⟩
      rw[hy,hbv]
      by_cases hc:cap'=0
      ·simp[hc]
      ·simp[hc,Addr.add]
    rcases rowc j ys e sz' hj this 0 ys.length (by omega) v hsub with ⟨h1,h2⟩ | ⟨ad,cap,vs,h1,h2,h3,h4,h5⟩
    ·exact .inl ⟨List.eq_nil_of_length_eq_zero h1,h2⟩
    ·exact .inr ⟨ad,cap,vs,h1,by simpa using h2,by simpa using h3,h4,h5⟩
  ·cases hs
 ·rename_i j lo n
  split at hs
  ·rename_i ys e sz' hj
   cases hb:Nat.beq sz' sz with
   | false=>rw[hb] at hs;cases hs
   | true =>
    rw[hb] at hs
    simp at hs
    subst hs
    have:=Nat.eq_of_beq_eq_true hb
    simp only[RepD,hj] at hy
    obtain ⟨hln,hsub⟩:=hy
    have hlen:((ys.drop lo).take n).length=n:=by simp;omega
    subst this
    rcases rowc j ys e sz' hj rfl lo n hln v hsub with ⟨h1,h2⟩ | ⟨ad,cap,vs,h1,h2,h3,h4,h5⟩
    ·exact .inl ⟨List.eq_nil_of_length_eq_zero (by omega),h2⟩
    ·exact .inr ⟨ad,cap,vs,by rw[hlen];exact h1,h2,h3,by rw[hlen];exact h4,h5⟩
  ·cases hs
 ·cases hs
end
end Go.Dm
/-
  The second engine, tenth part: append, calls, and all operations at once. It holds of every program whose table of types is met.
-/
namespace Go.Dm
open Go Go.Eng Go.RowKit

section
variable {P:Program} {T:Tab} {F:FuncId→Bool} {C:Ctx} {st:St} {a:Act} {w:World} {β:Nat→Value} {V:Nat→Prop} {K:KD} {Qp:KD} {next:Value→World→Prop} {qp:List PanicEntry→World→Prop}

theorem repV_one {V:Nat→Prop} {w:World} {g:GV} {v:Value} (h:RepV V w g v):v.oneCell'=true:=by
 cases g with
 | sl k xs=>simp only[RepV] at h;obtain ⟨A,cap,rfl,_⟩:=h;rfl
 | raw u=>simp only[RepV] at h;exact h.2.1
 | _=>simp only[RepV] at h;subst h;rfl
theorem repL_flat {V:Nat→Prop} {w:World}:∀ {gs:List GV} {vs:List Value},RepL V w gs vs→∀ v∈vs,v.oneCell'=true
 | [],[],_,v,hv=>by simp at hv
 | [],_ :: _,h,_,_=>h.elim
 | _ :: _,[],h,_,_=>h.elim
 | _ :: _,u :: vs,h,v,hv=>by
  rcases List.mem_cons.1 hv with rfl | hv
  ·exact repV_one h.1
  ·exact repL_flat h.2 v hv

theorem le_grow (h:Heap) (β:Nat→Value) (i:Nat) (o:Obj) (v:Value):LeH h β (h.set i .dead++[o]) (upf β h.length v):=by
 intro j oj hj
 have hjl:j < h.length:=(List.getElem?_eq_some_iff.1 hj).1
 by_cases hji:j=i
 ·subst hji
  exact ⟨.dead,by rw[List.getElem?_append_left (by simpa using hjl)];simp[hjl],by cases oj<;>trivial,fun h=>by cases h⟩
 ·exact ⟨oj,by rw[List.getElem?_append_left (by simpa using hjl),List.getElem?_set_ne (fun e=>hji e.symm)];exact hj,OLe.refl _,fun _=>upf_ne (by omega)⟩

theorem append_run (hT:TabOk P T) {t e:TypeId} {i ei:TI} (hs:T t=some i) (hk:i.kind=.slice e) (hte:T e=some ei) (h0:0 < ei.size) {v y:Value} {n:Nat} {xs:List Value} (hown:w.ownsRow 0 e ei.size v n xs)
  {news:List (List GV)} (hsrc:(news=[]∧y=.slice none 0 0)∨∃ ad cap vs,y=.slice (some ad) news.length cap∧RepL V w news.flatten vs∧(∀ r∈news,r.length=ei.size)∧(vs.length=news.length*ei.size)∧∀ i u,vs[i]?=some u→w.cell? (ad.add i)=some u)
  (h63:n+news.length≤maxLen) (hby:(n+news.length)*ei.bytes≤140737488355328) (ty:TypeId) :
  ∃ v' w' vs,(Builtin.append_ #[t,t] ty #[v,y]).run P w=.ok v' w'∧RepL V w news.flatten vs∧(∀ r∈news,r.length=ei.size)∧w'.ownsRow 0 e ei.size v' (n+news.length) (xs++vs)∧w.grownBy w' v.ownBlock ∧
   (v'.ownBlock=v.ownBlock∨v'.ownBlock=some w.heap.size):=by
 obtain ⟨d,hd,hdk,_⟩:=(hT t _ hs).d
 rw[hk] at hdk
 have hdk:d=.slice e:=hdk
 subst hdk
 obtain ⟨inf,z,hinf,hsz,hbyt,hz,hzc⟩:=(hT e ei hte).inf
 have hzl:ei.zero.length=ei.size:=(hT e ei hte).zsize
 rcases hsrc with ⟨hn0,hy⟩ | ⟨ad,cap,vs,hy,hv,hx,hl,hc⟩
 ·subst hn0
  rw[hy]
  exact ⟨v,w,[],run_append_owned_none (P:=P) w 0 t ty e inf ei.size hd hinf v n xs hown,trivial,fun r hr=>by simp at hr,by simpa using hown,World.grownBy.refl w _,.inl rfl⟩
 ·rw[hy]
  obtain ⟨v',w',h1,h2,h3,_,h5⟩:=run_append_own_at (P:=P) w 0 t ty e inf z ei.size ei.bytes hd hinf hz hsz hbyt (by rw[hzc];simpa using hzl) h0 v n xs hown ad news.length cap vs hl hc (repL_flat hv) h63 hby (Nat.zero_le _)
  exact ⟨v',w',vs,h1,hv,hx,h2,h3,h5⟩

theorem s_append (hr:RelD C st.h β V w) (he:EnvOk st β V w a) (hN:Nx C st.h β V w K next) (hT:TabOk P T) {args:Array Operand} {ts:Array TypeId} {o:Oper} (ho:o.op=.call { callee:=.builtin .append,args:=args,argTypes:=ts }) (h:vcOp P T F C.G (.call { callee:=.builtin .append,args:=args,argTypes:=ts }) st K Qp):OpRun P next qp ((execOp a.eval o).run P w):=by
 simp only[vcOp] at h
 split at h
 ·rename_i t t' x y hts har
  have hts':ts=#[t,t']:=by rw[← Array.toArray_toList (xs:=ts),hts]
  have har':args=#[x,y]:=by rw[← Array.toArray_toList (xs:=args),har]
  subst hts'
  subst har'
  cases hb:Nat.beq t t' with
  | false=>rw[hb] at h;exact h.elim
  | true =>
   rw[hb] at h
   have htt:t=t':=Nat.eq_of_beq_eq_true hb
   subst htt
   simp only[cond_true] at h
   unfold vcAppend at h
   have hx:=he.eval hr.gl x
   have hy:=he.eval hr.gl y
   split at h
   ·rename_i e hs
    split at h
    ·exact h.elim
    ·rename_i ei hte
     split at h
     ·exact h.elim
     ·rename_i news hsrc
      cases hpos:Nat.blt 0 ei.size with
      | false=>rw[hpos] at h;exact h.elim
      | true =>
       rw[hpos] at h
       simp only[cond_true] at h
       have h0:0 < ei.size:=Nat.le_of_ble_eq_true hpos
       have hsrc':=srcD_rep hr hsrc hy h0
       have fin:∀ (v':Value) (w':World),(Builtin.append_ #[t,t] o.type #[a.eval x,a.eval y]).run P w=.ok v' w'→(execOp a.eval o).run P w=.ok (.value v') w':=by
        intro v' w' hrun
        simp[execOp,ho,resolve,invoke,builtin,hrun]
       have lenf:∀ (xs:List (List GV)),(xs++news).flatten=xs.flatten++news.flatten:=fun xs=>List.flatten_append
       split at h
       ·rename_i ex
        rw[ex] at hx
        simp only[RepD] at hx
        obtain ⟨hroom,hk⟩:=h
        rw[hx] at fin
        obtain ⟨v',w',vs,hrun,hv,hm,hown,hg,hbk⟩:=append_run hT hs rfl hte h0 (World.ownsRow_nil w 0 e ei.size) hsrc' (by rw[Nat.zero_add];exact hroom.1) (by rw[Nat.zero_add];exact hroom.2) o.type
        rw[fin v' w' hrun]
        rw[Nat.zero_add,List.nil_append] at hown
        have hr':=hr.grow_nil news vs v' e ei.size hv hm h0 hown hg hbk
        refine hN _ _ _ _ _ _ hk hr' ?_ (le_snoc _ _ _ _) (hr.moved (G:=fun _=>False) ⟨hg.os,hg.tape,hg.output,hg.size,fun k hk hn=>hg.block k hk (by simp[Value.ownBlock])⟩ (fun k hk=>hk.elim))
        simp only[RepD]
        rw[List.getElem?_append_right (Nat.le_refl _)]
        simp only[Nat.sub_self,List.getElem?_cons_zero]
        exact (upf_eq _ _ _).symm
       ·rename_i j ex
        rw[ex] at hx
        split at h
        ·rename_i xs e' sz' hj
         cases hbb:Nat.beq e' e && Nat.beq sz' ei.size with
         | false=>rw[hbb] at h;exact h.elim
         | true =>
          rw[hbb] at h
          simp only[cond_true] at h
          simp only[Bool.and_eq_true] at hbb
          have e1:=Nat.eq_of_beq_eq_true hbb.1
          have e2:=Nat.eq_of_beq_eq_true hbb.2
          subst e1
          subst e2
          obtain ⟨hroom,hk⟩:=h
          simp only[RepD,hj] at hx
          rw[hx] at fin
          obtain ⟨vs0,hown0,hv0,hx0,_⟩:=hr.obj j _ hj
          obtain ⟨v',w',vs,hrun,hv,hm,hown,hg,hbk⟩:=append_run hT hs rfl hte h0 hown0 hsrc' hroom.1 hroom.2 o.type
          rw[fin v' w' hrun]
          have hr':=hr.grow_row hj (xs++news) (vs0++vs) v' e' ei.size (by rw[lenf];exact hv0.append hv) (fun r hr=>by rcases List.mem_append.1 hr with hr | hr;exact hx0 r hr;exact hm r hr) h0 (by rw[List.length_append];exact hown) hg hbk
          refine hN _ _ _ _ _ _ hk hr' ?_ (le_grow _ _ _ _ _) (hr.moved (G:=fun k=>some k=(β j).ownBlock) ⟨hg.os,hg.tape,hg.output,hg.size,fun k hk hn=>hg.block k hk hn⟩ (fun k hk=>⟨j,_,hj,rfl,bk_owns hown0 hk.symm⟩))
          simp only[RepD]
          rw[List.getElem?_append_right (by simp)]
          simp only[List.length_set,Nat.sub_self,List.getElem?_cons_zero]
          exact (upf_eq _ _ _).symm
        ·exact h.elim
       ·rename_i j n ex
        rw[ex] at hx
        split at h
        ·rename_i xs e' sz' hj
         cases hbb:Nat.beq e' e && Nat.beq sz' ei.size with
         | false=>rw[hbb] at h;exact h.elim
         | true =>
          rw[hbb] at h
          simp only[cond_true] at h
          simp only[Bool.and_eq_true] at hbb
          have e1:=Nat.eq_of_beq_eq_true hbb.1
          have e2:=Nat.eq_of_beq_eq_true hbb.2
          subst e1
          subst e2
          obtain ⟨hnl,hroom,hk⟩:=h
          simp only[RepD,hj] at hx
          obtain ⟨_,A,m,cap,hb,hxv⟩:=hx
          obtain ⟨vs0,hown0,hv0,hx0,_⟩:=hr.obj j _ hj
          have hpre:w.ownsRow 0 e' ei.size (a.eval x) n (vs0.take (n*ei.size))∧(a.eval x).ownBlock=(β j).ownBlock:=by
           rcases hown0.2 with ⟨hn,hl0⟩ | ⟨g,cap',cur,hbv,q1,q2,q3,q4,q5,q6⟩
           ·rw[hn] at hb
            injection hb with e1 e2 e3
            subst e1;subst e3
            have hn0:n=0:=by omega
            subst hn0
            rw[hxv,hn]
            exact ⟨by simpa using World.ownsRow_nil w 0 e' ei.size,by simp[Value.ownBlock]⟩
           ·rw[hbv] at hb
            injection hb with e1 e2 e3
            subst e1;subst e3
            have hxv':a.eval x=.slice (some ⟨g,0,none⟩) n cap':=by
             rw[hxv]
             by_cases hc:cap'=0
             ·simp[hc]
             ·simp[hc,Addr.add]
            rw[hxv',hbv]
            have hl:=hown0.1
            have hmul:n*ei.size≤xs.length*ei.size:=Nat.mul_le_mul_right _ hnl
            refine ⟨⟨by rw[List.length_take];omega,.inr ⟨g,cap',cur,rfl,q1,q2,by omega,q4,q5,?_⟩⟩,rfl⟩
            rw[← q6,List.take_take,Nat.min_eq_left hmul]
          obtain ⟨v',w',vs,hrun,hv,hm,hown,hg,hbk⟩:=append_run hT hs rfl hte h0 hpre.1 hsrc' hroom.1 hroom.2 o.type
          rw[fin v' w' hrun]
          rw[hpre.2] at hg hbk
          have htf:(xs.take n).flatten=xs.flatten.take (n*ei.size):=by
           have k2:∀ (ys:List (List GV)) (n:Nat),(∀ r∈ys,r.length=ei.size)→(ys.take n).flatten=ys.flatten.take (n*ei.size):=by
            intro ys
            induction ys with
            | nil=>intro n _;simp
            | cons y ys ih =>
             intro n hy
             cases n with
             | zero=>simp
             | succ n =>
              have hyl:=hy y List.mem_cons_self
              have hd:y.take ((n+1)*ei.size)=y:=List.take_of_length_le (by rw[hyl,Nat.succ_mul];omega)
              rw[List.take_succ_cons,List.flatten_cons,List.flatten_cons,List.take_append,hd,hyl,Nat.succ_mul,Nat.add_sub_cancel,ih n (fun r hr=>hy r (List.mem_cons_of_mem _ hr))]
           exact k2 xs n hx0
          have hr':=hr.grow_row hj (xs.take n++news) (vs0.take (n*ei.size)++vs) v' e' ei.size (by rw[lenf,htf];exact (hv0.take _).append hv) (fun r hr=>by rcases List.mem_append.1 hr with hr | hr;exact hx0 r (List.mem_of_mem_take hr);exact hm r hr) h0 (by rw[List.length_append,List.length_take,Nat.min_eq_left hnl];exact hown) hg hbk
          refine hN _ _ _ _ _ _ hk hr' ?_ (le_grow _ _ _ _ _) (hr.moved (G:=fun k=>some k=(β j).ownBlock) ⟨hg.os,hg.tape,hg.output,hg.size,fun k hk hn=>hg.block k hk hn⟩ (fun k hk=>⟨j,_,hj,rfl,bk_owns hown0 hk.symm⟩))
          simp only[RepD]
          rw[List.getElem?_append_right (by simp)]
          simp only[List.length_set,Nat.sub_self,List.getElem?_cons_zero]
          exact (upf_eq _ _ _).symm
        ·exact h.elim
       ·exact h.elim
   ·exact h.elim
 ·exact h.elim

theorem s_copy (hr:RelD C st.h β V w) (he:EnvOk st β V w a) (hN:Nx C st.h β V w K next) (hT:TabOk P T) {args:Array Operand} {ts:Array TypeId} {o:Oper} (ho:o.op=.call { callee:=.builtin .copy,args:=args,argTypes:=ts }) (h:vcOp P T F C.G (.call { callee:=.builtin .copy,args:=args,argTypes:=ts }) st K Qp):OpRun P next qp ((execOp a.eval o).run P w):=by
 simp only[vcOp] at h
 split at h
 ·rename_i t t' x y hts har
  have hts':ts=#[t,t']:=by rw[← Array.toArray_toList (xs:=ts),hts]
  have har':args=#[x,y]:=by rw[← Array.toArray_toList (xs:=args),har]
  subst hts'
  subst har'
  unfold vcCopy at h
  have hx:=he.eval hr.gl x
  have hy:=he.eval hr.gl y
  split at h
  ·rename_i agg size bytes z e hs
   split at h
   ·rename_i ei hte
    cases hb1:Nat.beq ei.size 1 with
    | false=>rw[hb1] at h;exact h.elim
    | true =>
     rw[hb1] at h
     simp only[cond_true] at h
     have hsz1:=Nat.eq_of_beq_eq_true hb1
     split at h
     ·rename_i i o' n news ex hsrc
      rw[ex] at hx
      split at h
      ·rename_i cs ty hi
       cases hb2:Nat.ble (o'+n) cs.length with
       | false=>rw[hb2] at h;exact h.elim
       | true =>
        rw[hb2] at h
        simp only[cond_true] at h
        have hle:=Nat.le_of_ble_eq_true hb2
        obtain ⟨cs',rfl,hk⟩:=h
        simp only[RepD,hi] at hx
        obtain ⟨g,c,hb,hv⟩:=hx
        obtain ⟨g',vs,hb',hg,hcs⟩:=hr.obj i _ hi
        have e:g'=g:=by rw[hb] at hb';injection hb' with hb';injection hb' with hb';injection hb' with hb';exact hb'.symm
        subst e
        obtain ⟨d,hd,hdk,_⟩:=(hT t _ hs).d
        have hdk:d=.slice e:=hdk
        subst hdk
        obtain ⟨inf,zv,hinf,hsz,_⟩:=(hT e ei hte).inf
        have hsome:(P.info? e).map (·.size)=some 1:=by rw[hinf];simp[hsz,hsz1]
        have hvl:=hcs.len
        have run:∀ (us:List Value) (sl:Nat),(Builtin.copy_ #[t,t'] o.type #[a.eval x,a.eval y]).run P w=.ok (goInt (us.length:Int)) (w.setRow g' ((⟨vs⟩:Array Value).toList.take o'++us++(⟨vs⟩:Array Value).toList.drop (o'+us.length)).toArray)→RepL V w ((news.take n).flatten) us→us.length=min news.length n→OpRun P next qp ((execOp a.eval o).run P w):=by
         intro us sl hrun hrep hul
         have:(execOp a.eval o).run P w=.ok (.value (goInt (us.length:Int))) (w.setRow g' ((⟨vs⟩:Array Value).toList.take o'++us++(⟨vs⟩:Array Value).toList.drop (o'+us.length)).toArray):=by
          simp[execOp,ho,resolve,invoke,builtin,hrun]
         rw[this]
         have hset:=setL_rep _ _ _ _ o' hcs ((RepDL_g (h:=st.h) (β:=β) _ _).2 hrep)
         rw[setAt_eq _ _ _ (by omega)] at hset
         have hr':=hr.set_blk hi hb _ _ hset
         refine hN _ _ _ _ _ _ hk hr' ?_ (le_set hi trivial) (hr.moved (Fr.setRow w g' _) (fun k hk=>⟨i,_,hi,rfl,by subst hk;show bk (β i)=_;rw[hb];rfl⟩))
         rw[← hul]
         exact repI _
        rcases srcD_rep hr hsrc hy (by omega) with ⟨hn0,hy0⟩ | ⟨ad,cap,us,hyv,hrep,hm,hl,hc⟩
        ·subst hn0
         refine run [] 0 ?_ (by simp[RepL]) (by simp)
         rw[hv,hy0,run_copy_nil P w t t' o.type e _ n c hd (by rw[hinf];rfl)]
         simp only[List.length_nil,List.append_nil,Nat.add_zero,List.take_append_drop]
         rw[setRow_self w g' _ _ _ hg]
         rfl
        ·have hl1:us.length=news.length:=by rw[hl,Nat.mul_one]
         have hfl:∀ (l:List (List GV)) (n:Nat),(∀ r∈l,r.length=1)→(l.take n).flatten=l.flatten.take n:=by
          intro l
          induction l with
          | nil=>intro n _;simp
          | cons r l ih =>
           intro n hr
           have h1:=hr r List.mem_cons_self
           cases n with
           | zero=>simp
           | succ n =>
            match r,h1 with
            | [x],_=>simp[ih n (fun r h=>hr r (List.mem_cons_of_mem _ h))]
         have hrun:=run_copy_row (P:=P) w t t' o.type e g' o' n c ad news.length cap ⟨vs⟩ ty (us.take n) hd hsome hg (by rw[List.length_take,hl1];exact Nat.min_comm _ _) (fun j v hj=>hc j v (by
          have hjl:j < n:=by have:=(List.getElem?_eq_some_iff.1 hj).1;simp at this;omega
          rwa [List.getElem?_take_of_lt hjl] at hj)) (by simp;omega) (fun v hv=>repL_flat hrep v (List.mem_of_mem_take hv))
         refine run (us.take n) 0 ?_ ?_ (by rw[List.length_take,hl1,Nat.min_comm])
         ·rw[hv,hyv]
          exact hrun
         ·rw[hfl news n (fun r hr=>hm r hr)]
          exact hrep.take n
      ·exact h.elim
     ·exact h.elim
   ·exact h.elim
  ·exact h.elim
 ·exact h.elim

theorem s_clear (hr:RelD C st.h β V w) (he:EnvOk st β V w a) (hN:Nx C st.h β V w K next) (hT:TabOk P T) {args:Array Operand} {ts:Array TypeId} {o:Oper} (ho:o.op=.call { callee:=.builtin .clear,args:=args,argTypes:=ts }) (h:vcOp P T F C.G (.call { callee:=.builtin .clear,args:=args,argTypes:=ts }) st K Qp):OpRun P next qp ((execOp a.eval o).run P w):=by
 simp only[vcOp] at h
 split at h
 ·rename_i t x hts har
  have hts':ts=#[t]:=by rw[← Array.toArray_toList (xs:=ts),hts]
  have har':args=#[x]:=by rw[← Array.toArray_toList (xs:=args),har]
  subst hts'
  subst har'
  unfold vcClear at h
  have hx:=he.eval hr.gl x
  split at h
  ·rename_i agg size bytes z0 e hs
   split at h
   ·rename_i ei i lo n hte ex
    rw[ex] at hx
    split at h
    ·rename_i xs e' sz hi
     cases hb:(Nat.beq e' e && Nat.beq sz ei.size) with
     | false=>rw[hb] at h;exact h.elim
     | true =>
      rw[hb] at h
      simp only[Bool.and_eq_true] at hb
      have he':=Nat.eq_of_beq_eq_true hb.1
      have hsz':=Nat.eq_of_beq_eq_true hb.2
      subst he'
      obtain ⟨hn,hle,z,hsees,hk⟩:=h
      simp only[RepD,hi] at hx
      obtain ⟨_,A,m,cap,hA,hv⟩:=hx
      obtain ⟨vs,hown,hvs,hxs,h0⟩:=hr.obj i _ hi
      obtain ⟨d,hd,hdk,_⟩:=(hT t _ hs).d
      have hdk:d=.slice e':=hdk
      subst hdk
      obtain ⟨inf,zv,hinf,hsz,hby,hz,hzc⟩:=(hT e' ei hte).inf
      have hzl:ei.zero.length=ei.size:=(hT e' ei hte).zsize
      rcases hown.2 with ⟨hnil,hn0⟩ | ⟨g,cap',cur,hv',hb0,hh,hnc,hcm,hcsz,htk⟩
      ·omega
      ·rw[hA] at hv'
       injection hv' with e1 e2 e3
       subst e1;subst e3
       have hne:¬cap=lo:=by omega
       rw[if_neg hne] at hv
       have hvv:a.eval x=.slice (some ⟨g,lo*sz,none⟩) n (cap - lo):=by rw[hv];simp[Addr.add]<;>omega
       have hz0:RepL V w z ei.zero:=by
        have h0:RelD ⟨w,fun _=>False,V,[]⟩ [] (fun _=>undef) V w:=⟨fun i o h=>by simp at h,fun i j o o' k h=>by simp at h,fun i o k h=>by simp at h,fun i o k h=>by simp at h,hr.vlt,fun k hk=>hk,fun k hk=>.inl hk,Fr.refl _ _,fun p hp=>by simp at hp⟩
        have:=seesL_rep h0 (l:=idsL (ei.zero.map of1)) hsees (ofL_rep ei.zero) (fun j hj=>hj)
        exact RepL.move (fun k hk=>⟨by rcases hk with hk | ⟨i,o,_,h2,_⟩;exact hk;simp at h2,rfl⟩) _ _ this
       have hzlen:z.length=sz:=by rw[hz0.len,hzl,hsz']
       have hrep:∀ n,RepL V w (List.replicate n z).flatten (repL ei.zero n):=by
        intro n
        induction n with
        | zero=>simp[repL,RepL]
        | succ n ih=>rw[List.replicate_succ,List.flatten_cons,repL];exact hz0.append ih
       have hlr:∀ n,(repL ei.zero n).length=n*sz:=fun n=>by rw[length_repL,hzl,hsz']
       have hcells:(Builtin.zeroCells zv.cells n).toList=repL ei.zero n:=by
        have:=made_repL ei.zero (by omega) n
        unfold Builtin.zeroCells
        rw[hzc]
        rw[show (ei.zero.toArray.size)=ei.zero.length from by simp] at *
        rw[this]
       have h1c:∀ v∈repL ei.zero n,v.oneCell'=true:=repL_flat (hrep n)
       have hmul:(lo+n)*sz≤xs.length*sz:=Nat.mul_le_mul_right _ hle
       have hmul2:xs.length*sz≤cap*sz:=Nat.mul_le_mul_right _ hnc
       have hst:=run_storeCells_at (P:=P) g (lo*sz) e' (repL ei.zero n) 0 cur w hh (by rw[hlr,hcsz,Nat.add_mul] at *;omega) h1c
       have hrun:(Builtin.clear_ #[t] o.type #[a.eval x]).run P w=.ok (.tuple #[]) (w.setRow g (cur.toList.take (lo*sz)++repL ei.zero n++cur.toList.drop (lo*sz+(repL ei.zero n).length)).toArray):=by
        obtain ⟨n',rfl⟩:∃ n',n=n'+1:=⟨n - 1,by omega⟩
        rw[hvv]
        simp only[Nat.add_zero] at hst
        simp[Builtin.clear_,run_underlying hd,zeroValue,typeInfo,hinf,hz,hcells,hst]
       have hrun2:(execOp a.eval o).run P w=.ok (.value (.tuple #[])) (w.setRow g (cur.toList.take (lo*sz)++repL ei.zero n++cur.toList.drop (lo*sz+(repL ei.zero n).length)).toArray):=by
        simp[execOp,ho,resolve,invoke,builtin,hrun]
       rw[hrun2]
       have hcl:cur.toList.length=cap*sz:=by rw[Array.length_toList,hcsz]
       have hfl:∀ (l:List (List GV)) (k:Nat),(∀ r∈l,r.length=sz)→k≤l.length→(l.take k).flatten=l.flatten.take (k*sz)∧(l.drop k).flatten=l.flatten.drop (k*sz):=by
        intro l
        induction l with
        | nil=>intro k _ hk;simp at hk;subst hk;simp
        | cons r l ih =>
         intro k hr hk
         have h1:=hr r List.mem_cons_self
         cases k with
         | zero=>simp
         | succ k =>
          obtain ⟨i1,i2⟩:=ih k (fun r h=>hr r (List.mem_cons_of_mem _ h)) (by simpa using hk)
          rw[List.take_succ_cons,List.drop_succ_cons,List.flatten_cons,List.flatten_cons,i1,i2,Nat.succ_mul]
          refine ⟨?_,?_⟩
          ·rw[List.take_append,List.take_of_length_le (l:=r) (by omega),show k*sz+sz - r.length=k*sz from by omega]
          ·rw[List.drop_append,List.drop_eq_nil_of_le (as:=r) (by omega),show k*sz+sz - r.length=k*sz from by omega];rfl
       have hvl:vs.length=xs.length*sz:=by
        rw[← htk,List.length_take,hcl];omega
       have hnew:RepL V w (xs.take lo++(List.replicate n z++xs.drop (lo+n))).flatten (vs.take (lo*sz)++(repL ei.zero n++vs.drop ((lo+n)*sz))):=by
        rw[List.flatten_append,List.flatten_append,(hfl xs lo hxs (by omega)).1,(hfl xs (lo+n) hxs hle).2]
        exact (hvs.take _).append ((hrep n).append (hvs.drop _))
       have hr':=hr.set_row hi hA (xs.take lo++(List.replicate n z++xs.drop (lo+n))) (vs.take (lo*sz)++(repL ei.zero n++vs.drop ((lo+n)*sz))) hnew
        (fun q hq=>by
         rcases List.mem_append.1 hq with hq | hq
         ·exact hxs q (List.mem_of_mem_take hq)
         ·rcases List.mem_append.1 hq with hq | hq
          ·rw[List.eq_of_mem_replicate hq];exact hzlen
          ·exact hxs q (List.mem_of_mem_drop hq))
        (by simp;omega) (cur.toList.take (lo*sz)++repL ei.zero n++cur.toList.drop (lo*sz+(repL ei.zero n).length)).toArray
        (fun cur2 hh2=>by
         rw[hh] at hh2
         injection hh2 with hh2
         injection hh2 with hh2
         subst hh2
         rw[Nat.add_mul] at hmul
         simp[hlr]
         omega)
        (by
         rw[← htk]
         have e1:lo*sz+n*sz=(lo+n)*sz:=by rw[Nat.add_mul]
         rw[hlr,e1]
         apply List.ext_getElem?
         intro j
         have hl1:(cur.toList.take (lo*sz)).length=lo*sz:=by rw[List.length_take,hcl,Nat.add_mul] at *;omega
         have hl2:((cur.toList.take (xs.length*sz)).take (lo*sz)).length=lo*sz:=by rw[List.length_take,List.length_take,hcl];rw[Nat.add_mul] at hmul;omega
         rw[List.getElem?_take]
         simp only[List.append_assoc]
         rw[Nat.add_mul] at hmul e1
         by_cases j1:j < lo*sz
         ·rw[if_pos (by omega),List.getElem?_append_left (by omega),List.getElem?_append_left (by omega),List.getElem?_take,List.getElem?_take,List.getElem?_take,if_pos j1,if_pos j1,if_pos (by omega)]
         ·rw[List.getElem?_append_right (l₁:=cur.toList.take (lo*sz)) (by omega),List.getElem?_append_right (l₁:=(cur.toList.take (xs.length*sz)).take (lo*sz)) (by omega),hl1,hl2]
          by_cases j2:j - lo*sz < n*sz
          ·rw[if_pos (by omega),List.getElem?_append_left (by rw[hlr];exact j2),List.getElem?_append_left (by rw[hlr];exact j2)]
          ·rw[List.getElem?_append_right (by rw[hlr];omega),List.getElem?_append_right (by rw[hlr];omega),hlr,List.getElem?_drop,List.getElem?_drop,List.getElem?_take,Nat.add_mul]
           by_cases j3:j < xs.length*sz
           ·rw[if_pos j3,if_pos (by omega)]
           ·rw[if_neg j3,if_neg (by omega)])
       refine hN _ _ _ _ _ _ hk hr' ?_ (le_set hi ⟨by simp;omega,rfl⟩) (hr.moved (Fr.setRow w g _) (fun k hk=>⟨i,_,hi,rfl,by subst hk;show bk (β i)=_;rw[hA];rfl⟩))
       simp only[RepD,RepDL]
       exact ⟨[],rfl,rfl⟩
    ·exact h.elim
   ·exact h.elim
  ·exact h.elim
 ·exact h.elim

theorem memFree_rep {h h':Heap} {β β':Nat→Value} {V V':Nat→Prop} {w w':World} {m:Nat}:∀ (n:Nat) (d:D) (v:Value),memFree n d=true→RepD h β V w d v→RepD h' β' V' w' (sh m n d) v:=by
 intro n
 induction n with
 | zero=>intro d v hf;cases hf
 | succ n ih =>
  intro d v hf hd
  have list:∀ (ds:List D) (vs:List Value),ds.all (memFree n)=true→RepDL h β V w ds vs→RepDL h' β' V' w' (ds.map (sh m n)) vs:=by
   intro ds
   induction ds with
   | nil=>intro vs _ h;simp only[RepDL,List.map_nil] at h ⊢;exact h
   | cons d ds ihd =>
    intro vs hf h
    simp only[List.all_cons,Bool.and_eq_true] at hf
    simp only[RepDL,List.map_cons] at h ⊢
    obtain ⟨v,us,hv,h1,h2⟩:=h
    exact ⟨v,us,hv,ih d v hf.1 h1,ihd us hf.2 h2⟩
  cases d with
  | g x=>cases x<;>simp_all [memFree,sh,RepD,RepV]
  | pb p=>simpa only[sh,RepD] using hd
  | pn p=>simpa only[sh,RepD] using hd
  | nils=>simpa only[sh,RepD] using hd
  | nilP=>simpa only[sh,RepD] using hd
  | nilF=>simpa only[sh,RepD] using hd
  | nilI=>simpa only[sh,RepD] using hd
  | tuple ds =>
   simp only[memFree] at hf
   simp only[sh,RepD] at hd ⊢
   obtain ⟨us,hv,h1⟩:=hd
   exact ⟨us,hv,list ds us hf h1⟩
  | agg ds =>
   simp only[memFree] at hf
   simp only[sh,RepD] at hd ⊢
   obtain ⟨us,hv,h1⟩:=hd
   exact ⟨us,hv,list ds us hf h1⟩
  | iface t x =>
   simp only[memFree] at hf
   simp only[sh,RepD] at hd ⊢
   obtain ⟨u,hv,h1⟩:=hd
   exact ⟨u,hv,ih x u hf h1⟩
  | _=>simp[memFree] at hf

def joinβ (n:Nat) (β β':Nat→Value):Nat→Value:=fun i=>if i < n then β i else β' (i - n)
mutual
theorem sh_rep {h h':Heap} {β β':Nat→Value} {V:Nat→Prop} {w:World}:∀ (n:Nat) (d:D) (v:Value),RepD h' β' V w d v→RepD (h++h'.map (shO h.length)) (joinβ h.length β β') V w (sh h.length n d) v
 | 0,d,v,_=>by simp only[sh,RepD]
 | n+1,.g x,v,hd=>by simp only[sh,RepD] at hd ⊢;exact hd
 | n+1,.pb x,v,hd=>by simp only[sh,RepD] at hd ⊢;exact hd
 | n+1,.pn x,v,hd=>by simp only[sh,RepD] at hd ⊢;exact hd
 | n+1,.nils,v,hd=>by simp only[sh,RepD] at hd ⊢;exact hd
 | n+1,.nilP,v,hd=>by simp only[sh,RepD] at hd ⊢;exact hd
 | n+1,.nilF,v,hd=>by simp only[sh,RepD] at hd ⊢;exact hd
 | n+1,.nilI,v,hd=>by simp only[sh,RepD] at hd ⊢;exact hd
 | n+1,.fp r o,v,hd=>by simp only[sh,RepD] at hd ⊢;exact hd
 | n+1,.any,v,hd=>by simp only[sh,RepD]
 | n+1,.row i,v,hd=>by
  simp only[sh,RepD] at hd ⊢
  have hB:joinβ h.length β β' (i+h.length)=β' i:=by simp[joinβ,show ¬ (i+h.length < h.length) from by omega]
  rw[List.getElem?_append_right (by omega),Nat.add_sub_cancel,List.getElem?_map,hB]
  cases ho:h'[i]? with
  | none=>rw[ho] at hd;exact hd.elim
  | some o=>rw[ho] at hd;cases o<;>simp_all [shO]
 | n+1,.rs i lo k,v,hd=>by
  simp only[sh,RepD] at hd ⊢
  have hB:joinβ h.length β β' (i+h.length)=β' i:=by simp[joinβ,show ¬ (i+h.length < h.length) from by omega]
  rw[List.getElem?_append_right (by omega),Nat.add_sub_cancel,List.getElem?_map,hB]
  cases ho:h'[i]? with
  | none=>rw[ho] at hd;exact hd.elim
  | some o=>rw[ho] at hd;cases o<;>simp_all [shO]
 | n+1,.ptr i off,v,hd=>by
  simp only[sh,RepD] at hd ⊢
  have hB:joinβ h.length β β' (i+h.length)=β' i:=by simp[joinβ,show ¬ (i+h.length < h.length) from by omega]
  rw[List.getElem?_append_right (by omega),Nat.add_sub_cancel,List.getElem?_map,hB]
  cases ho:h'[i]? with
  | none=>rw[ho] at hd;exact hd.elim
  | some o=>rw[ho] at hd;cases o<;>simp_all [shO]
 | n+1,.el i j off,v,hd=>by
  simp only[sh,RepD] at hd ⊢
  have hB:joinβ h.length β β' (i+h.length)=β' i:=by simp[joinβ,show ¬ (i+h.length < h.length) from by omega]
  rw[List.getElem?_append_right (by omega),Nat.add_sub_cancel,List.getElem?_map,hB]
  cases ho:h'[i]? with
  | none=>rw[ho] at hd;exact hd.elim
  | some o=>rw[ho] at hd;cases o<;>simp_all [shO]
 | n+1,.fn f fs cs,v,hd=>by
  simp only[sh,RepD] at hd ⊢
  obtain ⟨us,ts,hv,h1,h2⟩:=hd
  exact ⟨us,ts,hv,shL_rep n fs us h1,shL_rep n cs ts h2⟩
 | n+1,.iface t x,v,hd=>by
  simp only[sh,RepD] at hd ⊢
  obtain ⟨u,hv,h1⟩:=hd
  exact ⟨u,hv,sh_rep n x u h1⟩
 | n+1,.agg cs,v,hd=>by
  simp only[sh,RepD] at hd ⊢
  obtain ⟨us,hv,h1⟩:=hd
  exact ⟨us,hv,shL_rep n cs us h1⟩
 | n+1,.tuple cs,v,hd=>by
  simp only[sh,RepD] at hd ⊢
  obtain ⟨us,hv,h1⟩:=hd
  exact ⟨us,hv,shL_rep n cs us h1⟩
theorem shL_rep {h h':Heap} {β β':Nat→Value} {V:Nat→Prop} {w:World}:∀ (n:Nat) (ds:List D) (vs:List Value),RepDL h' β' V w ds vs→RepDL (h++h'.map (shO h.length)) (joinβ h.length β β') V w (ds.map (sh h.length n)) vs
 | n,[],vs,hd=>by simp only[RepDL,List.map_nil] at hd ⊢;exact hd
 | n,d :: ds,vs,hd=>by
  simp only[RepDL,List.map_cons] at hd ⊢
  obtain ⟨v,us,hv,h1,h2⟩:=hd
  exact ⟨v,us,hv,sh_rep n d v h1,shL_rep n ds us h2⟩
end

theorem join_le (h h':Heap) (β β':Nat→Value):LeH h β (h++h') (joinβ h.length β β'):=by
 intro i o hi
 have hl:i < h.length:=(List.getElem?_eq_some_iff.1 hi).1
 exact ⟨o,by rw[List.getElem?_append_left hl];exact hi,OLe.refl o,fun _=>by simp[joinβ,hl]⟩
theorem shO_live (m:Nat) (o:Obj):(shO m o).live=o.live:=by cases o<;>rfl
theorem shO_Bk (m:Nat) (o:Obj) (v:Value) (k:Nat):Bk (shO m o) v k↔Bk o v k:=by cases o<;>exact Iff.rfl
theorem rnT_mem {f:Nat→Nat}:∀ {ts:List (Value × Nat)} {t:Value × Nat},t∈rnT f ts→∃ q,(t.1,q)∈ts∧f q=t.2
 | [],t,h=>by simp[rnT] at h
 | (v,q) :: l,t,h=>by
  simp only[rnT] at h
  rcases List.mem_cons.1 h with rfl | h
  ·exact ⟨q,List.mem_cons_self,rfl⟩
  ·obtain ⟨q',h1,h2⟩:=rnT_mem h
   exact ⟨q',List.mem_cons_of_mem _ h1,h2⟩

theorem after_join {h h':Heap} {β':Nat→Value} {V V':Nat→Prop} {w':World} (hr:RelD C h β V w) (hc:RelD ⟨w,fun _=>False,V,C.G⟩ h' β' V' w'):RelD C (h++h'.map (shO h.length)) (joinβ h.length β β') V' w':=by
 have hm:Moved V w V' w':=fun k hk=>⟨hc.vin k hk,hc.fr.block k (hr.vlt k hk) (fun h=>h)⟩
 have left:∀ (i:Nat),i < h.length→joinβ h.length β β' i=β i:=fun i hi=>by simp[joinβ,hi]
 have right:∀ (i:Nat),h.length≤i→joinβ h.length β β' i=β' (i - h.length):=fun i hi=>by simp[joinβ,Nat.not_lt.2 hi]
 have at_:∀ (i:Nat) (o:Obj),(h++h'.map (shO h.length))[i]?=some o→(i < h.length∧h[i]?=some o)∨(h.length≤i∧∃ o',h'[i - h.length]?=some o'∧o=shO h.length o'):=by
  intro i o hi
  by_cases hl:i < h.length
  ·rw[List.getElem?_append_left hl] at hi;exact .inl ⟨hl,hi⟩
  ·rw[List.getElem?_append_right (by omega),List.getElem?_map] at hi
   cases ho:h'[i - h.length]? with
   | none=>rw[ho] at hi;cases hi
   | some o'=>rw[ho] at hi;simp at hi;exact .inr ⟨by omega,o',rfl,hi.symm⟩
 refine ⟨fun i o hi=>?_,fun i j o o' k hi hl hj hl' hk hk'=>?_,fun i o k hi hl hk=>?_,fun i o k hi hl hk=>?_,hc.vlt,fun k hk=>hc.vin k (hr.vin k hk),fun k hk=>?_,?_,hc.gl⟩
 ·rcases at_ i o hi with ⟨hl,h1⟩ | ⟨hl,o',h1,rfl⟩
  ·cases hlv:o.live with
   | false=>cases o<;>simp_all [Obj.live,ObjOk]
   | true=>exact (hr.obj i o h1).keep (join_le h _ β β') hm (left i hl) (fun k hk=>hc.fr.block k (hr.lt h1 hlv hk) (fun h=>h))
  ·have hob:=hc.obj _ _ h1
   have hB:=right i hl
   cases o' with
   | dead=>trivial
   | blk cs t =>
    obtain ⟨g,vs,hb,hg,hcs⟩:=hob
    exact ⟨g,vs,hB.trans hb,hg,shL_rep 4 cs vs hcs⟩
   | row xs e sz =>
    obtain ⟨vs,hown,rest⟩:=hob
    exact ⟨vs,by rw[hB];exact hown,rest⟩
   | many l ts =>
    refine ⟨hob.1,hob.2.1,fun t ht=>?_⟩
    obtain ⟨q,hq,e⟩:=rnT_mem ht
    obtain ⟨o',ho',hb⟩:=hob.2.2 _ hq
    refine ⟨shO h.length o',?_,fun hl=>?_⟩
    ·rw[← e,List.getElem?_append_right (by omega),Nat.add_sub_cancel,List.getElem?_map,ho']
     rfl
    ·rw[← e,right _ (by omega),Nat.add_sub_cancel]
     exact hb (by rwa [shO_live] at hl)
 ·rcases at_ i o hi with ⟨hli,h1⟩ | ⟨hli,oi,h1,rfl⟩<;>rcases at_ j o' hj with ⟨hlj,g1⟩ | ⟨hlj,oj,g1,rfl⟩
  ·rw[left i hli] at hk
   rw[left j hlj] at hk'
   exact hr.sep i j o o' k h1 hl g1 hl' hk hk'
  ·rw[left i hli] at hk
   rw[right j hlj,shO_Bk] at hk'
   rw[shO_live] at hl'
   have h2:=hr.lt h1 hl hk
   rcases hc.mine _ _ k g1 hl' hk' with h3 | h3
   ·exact absurd h2 (Nat.not_lt.2 h3)
   ·exact h3.elim
  ·rw[right i hli,shO_Bk] at hk
   rw[left j hlj] at hk'
   rw[shO_live] at hl
   have h2:=hr.lt g1 hl' hk'
   rcases hc.mine _ _ k h1 hl hk with h3 | h3
   ·exact absurd h2 (Nat.not_lt.2 h3)
   ·exact h3.elim
  ·rw[right i hli,shO_Bk] at hk
   rw[right j hlj,shO_Bk] at hk'
   rw[shO_live] at hl hl'
   have:=hc.sep _ _ oi oj k h1 hl g1 hl' hk hk'
   omega
 ·rcases at_ i o hi with ⟨hli,h1⟩ | ⟨hli,oi,h1,rfl⟩
  ·rw[left i hli] at hk
   exact hr.mine i o k h1 hl hk
  ·rw[right i hli,shO_Bk] at hk
   rw[shO_live] at hl
   rcases hc.mine _ _ k h1 hl hk with h3 | h3
   ·exact .inl (Nat.le_trans hr.fr.size h3)
   ·exact h3.elim
 ·rcases at_ i o hi with ⟨hli,h1⟩ | ⟨hli,oi,h1,rfl⟩
  ·rw[left i hli] at hk
   intro hv
   rcases hc.vnew k hv with h2 | h2 | h2
   ·exact hr.vout i o k h1 hl hk h2
   ·exact absurd (hr.lt h1 hl hk) (Nat.not_lt.2 h2)
   ·exact h2
  ·rw[right i hli,shO_Bk] at hk
   rw[shO_live] at hl
   exact hc.vout _ _ k h1 hl hk
 ·rcases hc.vnew k hk with h2 | h2 | h2
  ·exact hr.vnew k h2
  ·exact .inr (.inl (Nat.le_trans hr.fr.size h2))
  ·exact h2.elim
 ·refine ⟨hc.fr.os.trans hr.fr.os,hc.fr.tape.trans hr.fr.tape,hc.fr.output.trans hr.fr.output,Nat.le_trans hr.fr.size hc.fr.size,fun k hk hn=>?_⟩
  rw[hc.fr.block k (Nat.lt_of_lt_of_le hk hr.fr.size) (fun h=>h)]
  exact hr.fr.block k hk hn

theorem after_keep {h:Heap} {h':Heap} {β':Nat→Value} {Vc V':Nat→Prop} {w':World} (hr:RelD C h β V w) (hc:RelD ⟨w,fun _=>False,Vc,C.G⟩ h' β' V' w'):RelD C h β V w'∧Moved V w V w':=by
 have hm:Moved V w V w':=fun k hk=>⟨hk,hc.fr.block k (hr.vlt k hk) (fun h=>h)⟩
 refine ⟨⟨fun i o hi=>?_,hr.sep,hr.mine,hr.vout,fun k hk=>Nat.lt_of_lt_of_le (hr.vlt k hk) hc.fr.size,hr.vin,hr.vnew,?_,hr.gl.move hm⟩,hm⟩
 ·cases hlv:o.live with
  | false=>cases o<;>simp_all [Obj.live,ObjOk]
  | true=>exact (hr.obj i o hi).keep (LeH.refl h β) hm rfl (fun k hk=>hc.fr.block k (hr.lt hi hlv hk) (fun h=>h))
 ·refine ⟨hc.fr.os.trans hr.fr.os,hc.fr.tape.trans hr.fr.tape,hc.fr.output.trans hr.fr.output,Nat.le_trans hr.fr.size hc.fr.size,fun k hk hn=>?_⟩
  rw[hc.fr.block k (Nat.lt_of_lt_of_le hk hr.fr.size) (fun h=>h)]
  exact hr.fr.block k hk hn

theorem LeH.trans {h1 h2 h3:Heap} {β1 β2 β3:Nat→Value} (a:LeH h1 β1 h2 β2) (b:LeH h2 β2 h3 β3):LeH h1 β1 h3 β3:=by
 intro i o hi
 obtain ⟨o2,g1,g2,g3⟩:=a i o hi
 obtain ⟨o3,k1,k2,k3⟩:=b i o2 g1
 refine ⟨o3,k1,?_,fun hl=>?_⟩
 ·cases o<;>cases o2<;>cases o3<;>simp_all [OLe]
 ·have:o2.live=true:=by cases o2<;>cases o3<;>simp_all [OLe,Obj.live]
  rw[k3 hl,g3 this]

theorem call_sound {all:List D} {vals:List Value} {as:List D} {g:FuncId} {Q:Out→Prop} (hr:RelD C st.h β V w) (hN:Nx C st.h β V w K next) (hP:Px C st.h β V w Qp qp) (hall:RepDL st.h β V w all vals)
  (hl:likeA (all.map (conv st.h [] 4)) as) (hct:CT P C.G g as Q) (hk:∀ d h',Q (.ret d h')→K (sh st.h.length 4 d) (after st.h (idsL all) d h')) (hp:∀ d,Q (.pan d)→Qp d (kills st.h (idsL all))) :
  Calls P g ⟨vals⟩ w fun
   | .returned v,w''=>next v w''
   | .panicked ch,w''=>qp ch w''
   | .outgrown,_=>False:=by
 have hck:=kill_rel hr (idsL all)
 have hargs:RepDL [] (turnβ [] β) (killV st.h (idsL all) β V) w (all.map (conv st.h [] 4)) vals:=by
  refine convL_rep (src:=[]) hr (fun i=>i∈idsL all) (fun k hk=>.inl hk) (fun i o k h1 h2 h3 h4=>.inr ⟨i,o,h1,h2,h3,h4⟩) 4 all vals (fun d hd i hi _=>ids_mem hd i hi (fun j hj=>hj)) hall
 have hargs':RepDL [] (fun _=>undef) (killV st.h (idsL all) β V) w as vals:=by
  have:=likeA_rep hl hargs
  exact RepDL.mono (h':=[]) (fun i o hi=>by simp at hi) (Moved.refl _ _) _ _ this
 refine (hct w _ vals hck.vlt hck.gl hargs').mono fun e w' he=>?_
 cases e with
 | returned v =>
  obtain ⟨d,h',β',V',hq,hrel,hd⟩:=he
  have hK:=hk d h' hq
  unfold after at hK
  cases hmf:memFree 4 d && isNil h' with
  | true =>
   rw[hmf] at hK
   simp only[cond_true] at hK
   simp only[Bool.and_eq_true] at hmf
   obtain ⟨h1,h2⟩:=after_keep hr hrel
   exact hN _ _ _ _ _ _ hK h1 (memFree_rep 4 d v hmf.1 hd) (LeH.refl _ _) h2
  | false =>
   rw[hmf] at hK
   simp only[cond_false] at hK
   have hj:=after_join hck hrel
   rw[kills_len] at hj
   refine hN _ _ _ _ _ _ hK hj ?_ ?_ ?_
   ·have:=sh_rep (h:=kills st.h (idsL all)) (β:=β) 4 d v hd
    rw[kills_len] at this
    exact this
   ·have:=join_le (kills st.h (idsL all)) (h'.map (shO st.h.length)) β β'
    rw[kills_len] at this
    exact (kills_le (idsL all) st.h β).trans this
   ·exact (kill_moved _ _ _ _ _).trans (fun k hk=>⟨hrel.vin k hk,hrel.fr.block k (hck.vlt k hk) (fun h=>h)⟩)
 | panicked ch =>
  obtain ⟨d,t,u,β',V',rfl,hq,hrel,hd⟩:=he
  have hj:=after_join hck hrel
  simp only[List.map_nil,List.append_nil] at hj
  refine hP d _ t u w' _ _ (hp d hq) hj ?_ ?_ ((kill_moved _ _ _ _ _).trans (fun k hk=>⟨hrel.vin k hk,hrel.fr.block k (hck.vlt k hk) (fun h=>h)⟩))
  ·exact RepD.mono (fun i o hi=>by simp at hi) (Moved.refl _ _) _ _ hd
  ·have:=join_le (kills st.h (idsL all)) [] β β'
   rw[List.append_nil] at this
   exact (kills_le (idsL all) st.h β).trans this
 | outgrown=>exact he.elim

/-! Calls that are handed memory of the caller's own. -/
theorem ids_succ:∀ (n:Nat) (d:D) (i:Nat),i∈ids n d→i∈ids (n+1) d:=by
 intro n
 induction n with
 | zero=>intro d i h;simp[ids] at h
 | succ n ih =>
  intro d i h
  cases d with
  | fn f fs cs =>
   simp only[ids,List.mem_append,List.mem_flatMap] at h ⊢
   rcases h with ⟨a,ha,hi⟩ | ⟨a,ha,hi⟩
   ·exact .inl ⟨a,ha,ih a i hi⟩
   ·exact .inr ⟨a,ha,ih a i hi⟩
  | iface t x=>simp only[ids] at h ⊢;exact ih x i h
  | agg cs =>
   simp only[ids,List.mem_flatMap] at h ⊢
   obtain ⟨a,ha,hi⟩:=h
   exact ⟨a,ha,ih a i hi⟩
  | tuple cs =>
   simp only[ids,List.mem_flatMap] at h ⊢
   obtain ⟨a,ha,hi⟩:=h
   exact ⟨a,ha,ih a i hi⟩
  | _=>first | exact h | (simp[ids] at h)
theorem inσ_iff {i:Nat}:∀ {l:List Nat},inσ l i=true↔i∈l
 | []=>by simp[inσ]
 | a :: l=>by
  simp only[inσ,Bool.or_eq_true,inσ_iff (l:=l),List.mem_cons]
  constructor
  ·rintro (h | h)
   ·exact .inl (Nat.eq_of_beq_eq_true h).symm
   ·exact .inr h
  ·rintro (h | h)
   ·exact .inl (by rw[h];exact Nat.beq_refl a)
   ·exact .inr h
theorem mem_src {σ:List Nat} {i:Nat} (h:i∈σ):∃ k,kp (σ.map .old) 0 i=some k∧σ[k]?=some i:=by
 obtain ⟨j,hj,rfl⟩:=List.getElem_of_mem h
 obtain ⟨q,hq⟩:=kp_of (src:=σ.map .old) (p:=0) (i:=σ[j]) (j:=j) (by simp[hj])
 refine ⟨q,hq,?_⟩
 have:=(kp_some hq).2
 simp only[Nat.sub_zero,List.getElem?_map,Option.map_eq_some_iff] at this
 obtain ⟨a,ha,e⟩:=this
 injection e with e
 rw[ha,e]
theorem src_at {σ:List Nat} {k i:Nat} (h:kp (σ.map .old) 0 i=some k):σ[k]?=some i:=by
 have:=(kp_some h).2
 simp only[Nat.sub_zero,List.getElem?_map,Option.map_eq_some_iff] at this
 obtain ⟨a,ha,e⟩:=this
 injection e with e
 rw[ha,e]
theorem src_inj {σ:List Nat} (hs:srcOk (σ.map .old)=true) {a b i:Nat} (ha:σ[a]?=some i) (hb:σ[b]?=some i):a=b :=
 kp_inj hs (i:=i) (by simp[ha]) (by simp[hb])
theorem sub_rel {h:Heap} {σ:List Nat} (hr:RelD C h β V w) (hs:srcOk (σ.map .old)=true) (hcl:∀ i∈σ,∃ o,h[i]?=some o∧∀ j∈idsO o,j∈σ):RelD C (turnH h (σ.map .old)) (turnβ (σ.map .old) β) V w:=by
 have at_:∀ (j:Nat) (o:Obj),(turnH h (σ.map .old))[j]?=some o→∃ i,σ[j]?=some i∧o=turnO h (σ.map .old) (.old i)∧turnβ (σ.map .old) β j=β i:=by
  intro j o hj
  unfold turnH at hj
  rw[List.getElem?_map,List.getElem?_map] at hj
  cases hsj:σ[j]? with
  | none=>rw[hsj] at hj;cases hj
  | some i=>rw[hsj] at hj;simp at hj;exact ⟨i,rfl,hj.symm,by simp[turnβ,hsj]⟩
 have old:∀ (j:Nat) (o:Obj) (k:Nat),(turnH h (σ.map .old))[j]?=some o→o.live=true→Bk o (turnβ (σ.map .old) β j) k→∃ i o',σ[j]?=some i∧h[i]?=some o'∧o'.live=true∧Bk o' (β i) k:=by
  intro j o k hj hl hk
  obtain ⟨i,hi,rfl,hB⟩:=at_ j o hj
  rw[hB] at hk
  cases ho:h[i]? with
  | none=>simp[turnO,ho,Obj.live] at hl
  | some o' =>
   cases o' with
   | dead=>simp[turnO,ho,Obj.live] at hl
   | blk cs t=>exact ⟨i,_,hi,ho,rfl,by simpa only[turnO,ho,Bk] using hk⟩
   | row xs e sz=>exact ⟨i,_,hi,ho,rfl,by simpa only[turnO,ho,Bk] using hk⟩
   | many l ts=>exact ⟨i,_,hi,ho,rfl,by simpa only[turnO,ho,Bk] using hk⟩
 refine ⟨fun j o hj=>?_,fun a b o o' k ha hla hb hlb hka hkb=>?_,fun j o k hj hl hk=>?_,fun j o k hj hl hk=>?_,hr.vlt,hr.vin,hr.vnew,hr.fr,hr.gl⟩
 ·obtain ⟨i,hi,rfl,hB⟩:=at_ j o hj
  obtain ⟨o',ho,hids⟩:=hcl i (List.mem_of_getElem? hi)
  have hob:=hr.obj i _ ho
  cases o' with
  | dead=>simp only[turnO,ho,ObjOk]
  | blk cs t =>
   obtain ⟨g,vs,hb,hg,hc⟩:=hob
   simp only[turnO,ho,ObjOk]
   refine ⟨g,vs,hB.trans hb,hg,convL_rep hr (fun _=>False) (fun _ hk=>hk) (fun _ _ _ hz=>hz.elim) 3 cs vs (fun d hd i' hi' hn=>?_) hc⟩
   obtain ⟨k,hk,_⟩:=mem_src (hids i' (ids_mem hd i' (ids_succ 3 d i' hi') (fun j hj=>hj)))
   rw[hn] at hk
   cases hk
  | row xs e sz =>
   simp only[turnO,ho,ObjOk]
   rw[hB]
   exact hob
  | many l ts =>
   simp only[turnO,ho,ObjOk]
   exact ⟨hob.1,hob.2.1,fun t ht=>tagT_ok hob.2.2 ht⟩
 ·obtain ⟨i,oi,hi1,hi2,hi3,hi4⟩:=old a o k ha hla hka
  obtain ⟨j,oj,hj1,hj2,hj3,hj4⟩:=old b o' k hb hlb hkb
  have:=hr.sep i j oi oj k hi2 hi3 hj2 hj3 hi4 hj4
  subst this
  exact src_inj hs hi1 hj1
 ·obtain ⟨i,oi,_,hi2,hi3,hi4⟩:=old j o k hj hl hk
  exact hr.mine i oi k hi2 hi3 hi4
 ·obtain ⟨i,oi,_,hi2,hi3,hi4⟩:=old j o k hj hl hk
  exact hr.vout i oi k hi2 hi3 hi4

section
variable {h' H:Heap} {γ β':Nat→Value} {V':Nat→Prop} {w':World} {f:Nat→Nat}
mutual
theorem rn_rep (hf:∀ (i:Nat) (o:Obj),h'[i]?=some o→H[f i]?=some (rnO f o)∧γ (f i)=β' i):∀ (n:Nat) (d:D) (v:Value),RepD h' β' V' w' d v→RepD H γ V' w' (rnD f n d) v
 | 0,d,v,_=>by simp only[rnD,RepD]
 | n+1,.g x,v,hd=>by simp only[rnD,RepD] at hd ⊢;exact hd
 | n+1,.pb x,v,hd=>by simp only[rnD,RepD] at hd ⊢;exact hd
 | n+1,.pn x,v,hd=>by simp only[rnD,RepD] at hd ⊢;exact hd
 | n+1,.nils,v,hd=>by simp only[rnD,RepD] at hd ⊢;exact hd
 | n+1,.nilP,v,hd=>by simp only[rnD,RepD] at hd ⊢;exact hd
 | n+1,.nilF,v,hd=>by simp only[rnD,RepD] at hd ⊢;exact hd
 | n+1,.nilI,v,hd=>by simp only[rnD,RepD] at hd ⊢;exact hd
 | n+1,.fp r o,v,hd=>by simp only[rnD,RepD] at hd ⊢;exact hd
 | n+1,.any,v,hd=>by simp only[rnD,RepD]
 | n+1,.row i,v,hd=>by
  simp only[rnD,RepD] at hd ⊢
  cases ho:h'[i]? with
  | none=>rw[ho] at hd;exact hd.elim
  | some o =>
   obtain ⟨h1,h2⟩:=hf i o ho
   rw[h1,h2]
   rw[ho] at hd;cases o<;>simp_all [rnO]
 | n+1,.rs i lo k,v,hd=>by
  simp only[rnD,RepD] at hd ⊢
  cases ho:h'[i]? with
  | none=>rw[ho] at hd;exact hd.elim
  | some o =>
   obtain ⟨h1,h2⟩:=hf i o ho
   rw[h1,h2]
   rw[ho] at hd;cases o<;>simp_all [rnO]
 | n+1,.ptr i off,v,hd=>by
  simp only[rnD,RepD] at hd ⊢
  cases ho:h'[i]? with
  | none=>rw[ho] at hd;exact hd.elim
  | some o =>
   obtain ⟨h1,h2⟩:=hf i o ho
   rw[h1,h2]
   rw[ho] at hd;cases o<;>simp_all [rnO]
 | n+1,.el i j off,v,hd=>by
  simp only[rnD,RepD] at hd ⊢
  cases ho:h'[i]? with
  | none=>rw[ho] at hd;exact hd.elim
  | some o =>
   obtain ⟨h1,h2⟩:=hf i o ho
   rw[h1,h2]
   rw[ho] at hd;cases o<;>simp_all [rnO]
 | n+1,.fn g fs cs,v,hd=>by
  simp only[rnD,RepD] at hd ⊢
  obtain ⟨us,ts,hv,h1,h2⟩:=hd
  exact ⟨us,ts,hv,rnL_rep hf n fs us h1,rnL_rep hf n cs ts h2⟩
 | n+1,.iface t x,v,hd=>by
  simp only[rnD,RepD] at hd ⊢
  obtain ⟨u,hv,h1⟩:=hd
  exact ⟨u,hv,rn_rep hf n x u h1⟩
 | n+1,.agg cs,v,hd=>by
  simp only[rnD,RepD] at hd ⊢
  obtain ⟨us,hv,h1⟩:=hd
  exact ⟨us,hv,rnL_rep hf n cs us h1⟩
 | n+1,.tuple cs,v,hd=>by
  simp only[rnD,RepD] at hd ⊢
  obtain ⟨us,hv,h1⟩:=hd
  exact ⟨us,hv,rnL_rep hf n cs us h1⟩
theorem rnL_rep (hf:∀ (i:Nat) (o:Obj),h'[i]?=some o→H[f i]?=some (rnO f o)∧γ (f i)=β' i):∀ (n:Nat) (ds:List D) (vs:List Value),RepDL h' β' V' w' ds vs→RepDL H γ V' w' (ds.map (rnD f n)) vs
 | n,[],vs,hd=>by simp only[RepDL,List.map_nil] at hd ⊢;exact hd
 | n,d :: ds,vs,hd=>by
  simp only[RepDL,List.map_cons] at hd ⊢
  obtain ⟨v,us,hv,h1,h2⟩:=hd
  exact ⟨v,us,hv,rn_rep hf n d v h1,rnL_rep hf n ds us h2⟩
end
end
theorem putO_get {src:List Src} {b:Nat} {f:Nat→Nat} {h':Heap}:∀ (l:Heap) (p j:Nat),(putO src b f h' p l)[j]?=(l[j]?).map (putE src b f h' (p+j))
 | [],p,j=>by simp[putO]
 | o :: l,p,0=>by simp[putO]
 | o :: l,p,j+1=>by
  simp only[putO,List.getElem?_cons_succ]
  rw[putO_get l (p+1) j,show p+1+j=p+(j+1) from by omega]
theorem putO_len {src:List Src} {b:Nat} {f:Nat→Nat} {h':Heap}:∀ (l:Heap) (p:Nat),(putO src b f h' p l).length=l.length
 | [],p=>rfl
 | o :: l,p=>by simp only[putO,List.length_cons,putO_len l (p+1)]
theorem atN_eq:∀ {l:List Nat} {i j:Nat},l[i]?=some j→atN l i=j
 | [],i,j,h=>by simp at h
 | a :: l,0,j,h=>by simpa [atN] using h
 | a :: l,i+1,j,h=>by simp only[atN];exact atN_eq (by simpa using h)
theorem rnO_live (f:Nat→Nat) (o:Obj):(rnO f o).live=o.live:=by cases o<;>rfl
theorem rnO_Bk (f:Nat→Nat) (o:Obj) (v:Value) (k:Nat):Bk (rnO f o) v k↔Bk o v k:=by cases o<;>exact Iff.rfl
theorem isBlk_at {h:Heap} {i:Nat} (hb:isBlk h i=true):∃ cs t,h[i]?=some (.blk cs t):=by
 unfold isBlk at hb
 split at hb
 ·rename_i cs t e;exact ⟨cs,t,e⟩
 ·cases hb

theorem OLe_rn {o o':Obj} (f:Nat→Nat) (h:OLe o o'):OLe o (rnO f o'):=by cases o<;>cases o'<;>simp_all [OLe,rnO]
theorem OLe_turn {h:Heap} {src:List Src} {j:Nat} {o:Obj} (hj:h[j]?=some o):OLe o (turnO h src (.old j)):=by
 cases o<;>simp[turnO,hj,OLe]
theorem OLe_trans {a b c:Obj} (h:OLe a b) (k:OLe b c) (hl:c.live=true):OLe a c:=by
 cases a<;>cases b<;>cases c<;>simp_all [OLe,Obj.live]
theorem put_rel {h:Heap} {σ:List Nat} {b:Nat} {own:Nat→Prop} {h':Heap} {β':Nat→Value} {V':Nat→Prop} {w':World} (hr:RelD C h β V w) (hs:srcOk (σ.map .old)=true)
  (hcl:∀ i∈σ,∃ o,h[i]?=some o) (hown:∀ k,own k→∃ i o,i∈σ∧h[i]?=some o∧o.live=true∧Bk o (β i) k)
  (hc:RelD ⟨w,own,V,C.G⟩ h' β' V' w') (hk:∀ i,i < b→∃ j o o',σ[i]?=some j∧h[j]?=some o∧h'[i]?=some o'∧OLe o o'∧β' i=β j) :
  RelD C (putH h σ b h') (fun j=>if j < h.length then β j else β' (j - h.length+b)) V' w'∧LeH h β (putH h σ b h') (fun j=>if j < h.length then β j else β' (j - h.length+b))∧Moved V w V' w' ∧
   ∀ (i:Nat) (o:Obj),h'[i]?=some o→(putH h σ b h')[rnI σ b h.length i]?=some (rnO (rnI σ b h.length) o)∧(fun j=>if j < h.length then β j else β' (j - h.length+b)) (rnI σ b h.length i)=β' i:=by
 generalize hγ:(fun j=>if j < h.length then β j else β' (j - h.length+b))=γ
 have left:∀ j,j < h.length→γ j=β j:=fun j hj=>by rw[← hγ];simp[hj]
 have right:∀ j,h.length≤j→γ j=β' (j - h.length+b):=fun j hj=>by rw[← hγ];simp[Nat.not_lt.2 hj]
 have σlt:∀ {k j:Nat},σ[k]?=some j→j < h.length:=fun {k j} hkj=>by
  obtain ⟨o,ho⟩:=hcl j (List.mem_of_getElem? hkj)
  exact (List.getElem?_eq_some_iff.1 ho).1
 have F1:∀ (i:Nat) (o:Obj),h'[i]?=some o→(putH h σ b h')[rnI σ b h.length i]?=some (rnO (rnI σ b h.length) o)∧γ (rnI σ b h.length i)=β' i:=by
  intro i o hi
  by_cases hib:i < b
  ·obtain ⟨j,_,_,hj,_,_,_,hβ⟩:=hk i hib
   have e:rnI σ b h.length i=j:=by
    unfold rnI
    rw[show Nat.blt i b=true from Nat.ble_eq_true_of_le hib]
    exact atN_eq hj
   have hjl:=σlt hj
   obtain ⟨q,hq,hq'⟩:=mem_src (List.mem_of_getElem? hj)
   have:=src_inj hs hq' hj
   subst this
   rw[e,left j hjl]
   refine ⟨?_,hβ.symm⟩
   unfold putH
   rw[List.getElem?_append_left (by rw[putO_len];exact hjl),putO_get,Nat.zero_add,List.getElem?_eq_getElem hjl]
   unfold putE
   rw[hq]
   simp only[Option.map_some,show Nat.blt q b=true from Nat.ble_eq_true_of_le hib,cond_true,hi]
  ·have e:rnI σ b h.length i=i - b+h.length:=by
    unfold rnI
    rw[show Nat.blt i b=false from by
     cases hx:Nat.blt i b with
     | false=>rfl
     | true=>exact absurd (Nat.le_of_ble_eq_true hx) hib]
    rfl
   rw[e,right _ (by omega)]
   refine ⟨?_,by congr 1;omega⟩
   unfold putH
   rw[List.getElem?_append_right (by rw[putO_len];omega),putO_len,Nat.add_sub_cancel,List.getElem?_map,List.getElem?_drop,show b+(i - b)=i from by omega,hi]
   rfl
 have F2:∀ (j:Nat) (o:Obj),(putH h σ b h')[j]?=some o→(j < h.length∧j ∉ σ∧h[j]?=some o)∨o=.dead∨∃ i o',h'[i]?=some o'∧o=rnO (rnI σ b h.length) o'∧j=rnI σ b h.length i∧γ j=β' i:=by
  intro j o hj
  by_cases hjl:j < h.length
  ·have hj':=hj
   unfold putH at hj
   rw[List.getElem?_append_left (by rw[putO_len];exact hjl),putO_get,Nat.zero_add,List.getElem?_eq_getElem hjl] at hj
   simp only[Option.map_some,Option.some.injEq] at hj
   unfold putE at hj
   cases hq:kp (σ.map .old) 0 j with
   | none =>
    rw[hq] at hj
    refine .inl ⟨hjl,fun hm=>?_,by rw[← hj];exact List.getElem?_eq_getElem hjl⟩
    obtain ⟨k,hk',_⟩:=mem_src hm
    rw[hq] at hk'
    cases hk'
   | some k =>
    rw[hq] at hj
    simp only at hj
    cases hkb:Nat.blt k b with
    | false=>rw[hkb] at hj;exact .inr (.inl hj.symm)
    | true =>
     rw[hkb] at hj
     simp only[cond_true] at hj
     have hkb':k < b:=Nat.le_of_ble_eq_true hkb
     cases ho:h'[k]? with
     | none=>rw[ho] at hj;exact .inr (.inl hj.symm)
     | some o' =>
      rw[ho] at hj
      have hσ:=src_at hq
      have e:rnI σ b h.length k=j:=by
       unfold rnI
       rw[hkb]
       exact atN_eq hσ
      exact .inr (.inr ⟨k,o',ho,hj.symm,e.symm,by rw[← e];exact (F1 k o' ho).2⟩)
  ·unfold putH at hj
   rw[List.getElem?_append_right (by rw[putO_len];omega),putO_len,List.getElem?_map,List.getElem?_drop] at hj
   cases ho:h'[b+(j - h.length)]? with
   | none=>rw[ho] at hj;cases hj
   | some o' =>
    rw[ho] at hj
    simp only[Option.map_some,Option.some.injEq] at hj
    refine .inr (.inr ⟨_,o',ho,hj.symm,?_,by rw[right j (by omega)];congr 1;omega⟩)
    unfold rnI
    rw[show Nat.blt (b+(j - h.length)) b=false from by
     cases hx:Nat.blt (b+(j - h.length)) b with
     | false=>rfl
     | true=>exact absurd (Nat.le_of_ble_eq_true hx) (by omega)]
    show j=b+(j - h.length) - b+h.length
    omega
 have F3:∀ (i i':Nat) (o o':Obj),h'[i]?=some o→h'[i']?=some o'→rnI σ b h.length i=rnI σ b h.length i'→i=i':=by
  have val:∀ i,(i < b∧∃ j,σ[i]?=some j∧rnI σ b h.length i=j∧j < h.length)∨(b≤i∧rnI σ b h.length i=i - b+h.length):=fun i=>by
   by_cases hib:i < b
   ·obtain ⟨j,_,_,hj,_,_,_,_⟩:=hk i hib
    refine .inl ⟨hib,j,hj,?_,σlt hj⟩
    unfold rnI
    rw[show Nat.blt i b=true from Nat.ble_eq_true_of_le hib]
    exact atN_eq hj
   ·refine .inr ⟨by omega,?_⟩
    unfold rnI
    rw[show Nat.blt i b=false from by
     cases hx:Nat.blt i b with
     | false=>rfl
     | true=>exact absurd (Nat.le_of_ble_eq_true hx) hib]
    rfl
  intro i i' o o' _ _ e
  rcases val i with ⟨_,j,hj,e1,hl⟩ | ⟨hb1,e1⟩<;>rcases val i' with ⟨_,j',hj',e2,hl'⟩ | ⟨hb2,e2⟩
  ·rw[e1,e2] at e
   subst e
   exact src_inj hs hj hj'
  ·omega
  ·omega
  ·omega
 have hnot:∀ (j:Nat) (o:Obj) (k:Nat),j ∉ σ→h[j]?=some o→o.live=true→Bk o (β j) k→¬own k:=fun j o k hj ho hl hk hw=>by
  obtain ⟨i,o',hi,h1,h2,h3⟩:=hown k hw
  have:=hr.sep j i o o' k ho hl h1 h2 hk h3
  subst this
  exact hj hi
 have hm:Moved V w V' w':=fun k hk'=>⟨hc.vin k hk',hc.fr.block k (hr.vlt k hk') (fun hw=>by
  obtain ⟨i,o',_,h1,h2,h3⟩:=hown k hw
  exact hr.vout i o' k h1 h2 h3 hk')⟩
 have hle:LeH h β (putH h σ b h') γ:=by
  intro j o hj
  have hjl:j < h.length:=(List.getElem?_eq_some_iff.1 hj).1
  have hjp:j < (putH h σ b h').length:=by unfold putH;rw[List.length_append,putO_len];omega
  rcases F2 j _ (List.getElem?_eq_getElem hjp) with ⟨_,_,h1⟩ | h1 | ⟨i,o',hi,h1,e,hg⟩
  ·rw[hj] at h1
   injection h1 with h1
   exact ⟨_,List.getElem?_eq_getElem hjp,by rw[← h1];exact OLe.refl o,fun _=>left j hjl⟩
  ·exact ⟨_,List.getElem?_eq_getElem hjp,by rw[h1];simp[OLe],fun hl=>by rw[h1] at hl;cases hl⟩
  ·refine ⟨_,List.getElem?_eq_getElem hjp,?_,fun _=>left j hjl⟩
   rw[h1]
   have hib:i < b:=by
    apply Classical.byContradiction
    intro hn
    have:rnI σ b h.length i=i - b+h.length:=by
     unfold rnI
     rw[show Nat.blt i b=false from by
      cases hx:Nat.blt i b with
      | false=>rfl
      | true=>exact absurd (Nat.le_of_ble_eq_true hx) hn]
     rfl
    omega
   obtain ⟨j',o0,o1,hj',hb2,hb1,hole,_⟩:=hk i hib
   have ej:j=j':=by
    rw[e]
    unfold rnI
    rw[show Nat.blt i b=true from Nat.ble_eq_true_of_le hib]
    exact atN_eq hj'
   subst ej
   rw[hi] at hb1
   injection hb1 with hb1
   rw[hj] at hb2
   injection hb2 with hb2
   rw[hb1,hb2]
   exact OLe_rn _ hole
 refine ⟨⟨fun j o hj=>?_,fun j1 j2 o1 o2 k h1 l1 h2 l2 k1 k2=>?_,fun j o k hj hl hk'=>?_,fun j o k hj hl hk'=>?_,hc.vlt,fun k hk'=>hc.vin k (hr.vin k hk'),fun k hk'=>?_,?_,hc.gl⟩,hle,hm,F1⟩
 ·rcases F2 j o hj with ⟨hjl,hjσ,h1⟩ | rfl | ⟨i,o',hi,rfl,e,hg⟩
  ·cases hlv:o.live with
   | false=>cases o<;>simp_all [Obj.live,ObjOk]
   | true=>exact (hr.obj j o h1).keep hle hm (left j hjl) (fun k hk'=>hc.fr.block k (hr.lt h1 hlv hk') (hnot j o k hjσ h1 hlv hk'))
  ·trivial
  ·have hob:=hc.obj i o' hi
   cases o' with
   | dead=>trivial
   | blk cs t =>
    obtain ⟨g,vs,hb,hg',hcs⟩:=hob
    exact ⟨g,vs,hg.trans hb,hg',rnL_rep F1 4 cs vs hcs⟩
   | row xs e' sz =>
    obtain ⟨vs,hown',rest⟩:=hob
    exact ⟨vs,by rw[hg];exact hown',rest⟩
   | many l ts =>
    refine ⟨hob.1,hob.2.1,fun t ht=>?_⟩
    obtain ⟨q,hq,e⟩:=rnT_mem ht
    obtain ⟨o',ho',hb⟩:=hob.2.2 _ hq
    obtain ⟨f1,f2⟩:=F1 _ _ ho'
    refine ⟨_,by rw[← e];exact f1,fun hl=>?_⟩
    rw[← e]
    exact f2.trans (hb (by rwa [rnO_live] at hl))
 ·rcases F2 j1 o1 h1 with ⟨a1,a2,a3⟩ | rfl | ⟨i,oi,hi,rfl,e1,g1⟩<;>rcases F2 j2 o2 h2 with ⟨b1,b2,b3⟩ | rfl | ⟨i',oi',hi',rfl,e2,g2⟩
  ·rw[left j1 a1] at k1
   rw[left j2 b1] at k2
   exact hr.sep j1 j2 o1 o2 k a3 l1 b3 l2 k1 k2
  ·cases l2
  ·rw[left j1 a1] at k1
   rw[g2,rnO_Bk] at k2
   rw[rnO_live] at l2
   rcases hc.mine i' oi' k hi' l2 k2 with h3 | h3
   ·exact absurd (hr.lt a3 l1 k1) (Nat.not_lt.2 h3)
   ·exact absurd h3 (hnot j1 o1 k a2 a3 l1 k1)
  ·cases l1
  ·cases l1
  ·cases l1
  ·rw[left j2 b1] at k2
   rw[g1,rnO_Bk] at k1
   rw[rnO_live] at l1
   rcases hc.mine i oi k hi l1 k1 with h3 | h3
   ·exact absurd (hr.lt b3 l2 k2) (Nat.not_lt.2 h3)
   ·exact absurd h3 (hnot j2 o2 k b2 b3 l2 k2)
  ·cases l2
  ·rw[g1,rnO_Bk] at k1
   rw[g2,rnO_Bk] at k2
   rw[rnO_live] at l1 l2
   have:=hc.sep i i' oi oi' k hi l1 hi' l2 k1 k2
   subst this
   rw[e1,e2]
 ·rcases F2 j o hj with ⟨a1,a2,a3⟩ | rfl | ⟨i,oi,hi,rfl,e1,g1⟩
  ·rw[left j a1] at hk'
   exact hr.mine j o k a3 hl hk'
  ·cases hl
  ·rw[g1,rnO_Bk] at hk'
   rw[rnO_live] at hl
   rcases hc.mine i oi k hi hl hk' with h3 | h3
   ·exact .inl (Nat.le_trans hr.fr.size h3)
   ·obtain ⟨i',o',_,q1,q2,q3⟩:=hown k h3
    exact hr.mine i' o' k q1 q2 q3
 ·rcases F2 j o hj with ⟨a1,a2,a3⟩ | rfl | ⟨i,oi,hi,rfl,e1,g1⟩
  ·rw[left j a1] at hk'
   intro hv
   rcases hc.vnew k hv with h3 | h3 | h3
   ·exact hr.vout j o k a3 hl hk' h3
   ·exact absurd (hr.lt a3 hl hk') (Nat.not_lt.2 h3)
   ·exact hnot j o k a2 a3 hl hk' h3
  ·cases hl
  ·rw[g1,rnO_Bk] at hk'
   rw[rnO_live] at hl
   exact hc.vout i oi k hi hl hk'
 ·rcases hc.vnew k hk' with h3 | h3 | h3
  ·exact hr.vnew k h3
  ·exact .inr (.inl (Nat.le_trans hr.fr.size h3))
  ·obtain ⟨i',o',_,q1,q2,q3⟩:=hown k h3
   exact .inr (hr.mine i' o' k q1 q2 q3)
 ·refine ⟨hc.fr.os.trans hr.fr.os,hc.fr.tape.trans hr.fr.tape,hc.fr.output.trans hr.fr.output,Nat.le_trans hr.fr.size hc.fr.size,fun k hk' hn=>?_⟩
  rw[hc.fr.block k (Nat.lt_of_lt_of_le hk' hr.fr.size) (fun hw=>?_)]
  ·exact hr.fr.block k hk' hn
  ·obtain ⟨i',o',_,q1,q2,q3⟩:=hown k hw
   rcases hr.mine i' o' k q1 q2 q3 with h3 | h3
   ·omega
   ·exact hn h3

theorem own_start {h:Heap} (hr:RelD C h β V w):RelD ⟨w,ownB h β,V,C.G⟩ h β V w :=
 ⟨hr.obj,hr.sep,fun i o _ hi hl hk=>.inr ⟨i,o,hi,hl,hk⟩,hr.vout,hr.vlt,fun _ hk=>hk,fun _ hk=>.inl hk,Fr.refl _ _,hr.gl⟩
theorem callH_sound {all:List D} {vals:List Value} {g:FuncId} (hr:RelD C st.h β V w) (hN:Nx C st.h β V w K next) (hP:Px C st.h β V w Qp qp) (hall:RepDL st.h β V w all vals) (ho:OwnCall P C.G g all st.h K Qp) :
  Calls P g ⟨vals⟩ w fun
   | .returned v,w''=>next v w''
   | .panicked ch,w''=>qp ch w''
   | .outgrown,_=>False:=by
 obtain ⟨σ,b,hin,as,Q,hcl,hbk,ht,hct,hk,hp⟩:=ho
 simp only[closedσ,Bool.and_eq_true,List.all_eq_true] at hcl
 have hall':∀ j∈idsL all,j∈σ:=fun j hj=>inσ_iff.1 (hcl.1 j hj)
 have hcl':∀ i∈σ,∃ o,st.h[i]?=some o∧∀ j∈idsO o,j∈σ:=fun i hi=>by
  have:=hcl.2 i hi
  cases ho:st.h[i]? with
  | none=>rw[ho] at this;cases this
  | some o =>
   rw[ho] at this
   exact ⟨o,rfl,fun j hj=>inσ_iff.1 (List.all_eq_true.1 this j hj)⟩
 have hbk:=Nat.le_of_ble_eq_true hbk
 have hsub:=sub_rel hr ht.ok hcl'
 have hlike:likeH (newN (σ.map .old)) (turnH st.h (σ.map .old)) hin:=by
  rcases ht.hp with e | e
  ·rw[← e];exact likeH_refl _ _
  ·exact e
 have h3:=likeH_rel hsub hlike (fun j hj=>newN_ok hj) (nrOk_at ht.nr)
 have h4:=own_start h3
 have hargs:RepDL (turnH st.h (σ.map .old)) (turnβ (σ.map .old) β) V w (all.map (conv st.h (σ.map .old) 4)) vals :=
  convL_rep hr (fun _=>False) (fun _ hk=>hk) (fun _ _ _ hz=>hz.elim) 4 all vals (fun d hd i hi hn=>by
   obtain ⟨k,hk,_⟩:=mem_src (hall' i (ids_mem hd i hi (fun j hj=>hj)))
   rw[hn] at hk
   cases hk) hall
 have h5:=RepDL.mono (likeH_le (β:=turnβ (σ.map .old) β) hlike) (Moved.refl _ w) _ _ hargs
 have h6:RepDL hin (turnβ (σ.map .old) β) V w as vals:=by
  rcases ht.dl with h | h
  ·rw[← h];exact h5
  ·exact likeL_rep (like_rep (N:=newN (σ.map .old)) (fun j hj=>⟨(newN_ok (h:=[]) hj).1,nrOk_at ht.nr j hj⟩) 4) _ _ _ h h5
 have hβ:∀ {i j:Nat},σ[i]?=some j→turnβ (σ.map .old) β i=β j:=fun {i j} hij=>by simp[turnβ,hij]
 have hown:∀ k,ownB hin (turnβ (σ.map .old) β) k→∃ i o,i∈σ∧st.h[i]?=some o∧o.live=true∧Bk o (β i) k:=by
  rintro k ⟨i,o,hi,hl,hbk'⟩
  obtain ⟨o0,ho0,hlo⟩:=(likeH_at hlike).2 i o hi
  have hl0:=likeO_live hlo hl
  unfold turnH at ho0
  rw[List.getElem?_map,List.getElem?_map] at ho0
  cases hσ:σ[i]? with
  | none=>rw[hσ] at ho0;cases ho0
  | some j =>
   rw[hσ] at ho0
   simp only[Option.map_some,Option.some.injEq] at ho0
   subst ho0
   rw[hβ hσ] at hbk'
   have hbk0:=likeO_Bk hlo hl hbk'
   obtain ⟨oj,hoj,_⟩:=hcl' j (List.mem_of_getElem? hσ)
   cases oj with
   | dead=>simp[turnO,hoj,Obj.live] at hl0
   | blk cs t=>exact ⟨j,_,List.mem_of_getElem? hσ,hoj,rfl,by simpa only[turnO,hoj,Bk] using hbk0⟩
   | row xs e sz=>exact ⟨j,_,List.mem_of_getElem? hσ,hoj,rfl,by simpa only[turnO,hoj,Bk] using hbk0⟩
   | many l ts=>exact ⟨j,_,List.mem_of_getElem? hσ,hoj,rfl,by simpa only[turnO,hoj,Bk] using hbk0⟩
 have stays:∀ {h':Heap} {β':Nat→Value},(∀ i,i < b→Stays hin h' (turnβ (σ.map .old) β) β' i)→∀ i,i < b→∃ j o o',σ[i]?=some j∧st.h[j]?=some o∧h'[i]?=some o'∧OLe o o'∧β' i=β j:=fun {h' β'} hkeep i hi=>by
  have hil:i < σ.length:=by omega
  have hσ:σ[i]?=some σ[i]:=List.getElem?_eq_getElem hil
  obtain ⟨o,ho,_⟩:=hcl' σ[i] (List.getElem_mem hil)
  obtain ⟨⟨oi,o',h1,h2,h3,h4⟩,h5⟩:=hkeep i hi
  obtain ⟨o0,ho0,hlo⟩:=(likeH_at hlike).2 i oi h1
  have he:o0=turnO st.h (σ.map .old) (.old σ[i]):=by
   unfold turnH at ho0
   rw[List.getElem?_map,List.getElem?_map,hσ] at ho0
   simp only[Option.map_some,Option.some.injEq] at ho0
   exact ho0.symm
  refine ⟨σ[i],o,o',hσ,ho,h2,OLe_trans (OLe_turn (src:=σ.map .old) ho) (OLe_trans ?_ h3 h4) h4,h5.trans (hβ hσ)⟩
  rw[← he]
  exact likeO_le hlo
 refine (hct w _ V vals h4 h6).mono fun e w' he=>?_
 cases e with
 | returned v =>
  obtain ⟨d,h',β',V',hq,hrel,hd,hkeep⟩:=he
  obtain ⟨q1,q2,q3,q4⟩:=put_rel hr ht.ok (fun i hi=>by obtain ⟨o,ho,_⟩:=hcl' i hi;exact ⟨o,ho⟩) hown hrel (stays hkeep)
  exact hN _ _ v w' _ _ (hk d h' hq) q1 (rn_rep q4 4 d v hd) q2 q3
 | panicked ch =>
  obtain ⟨d,h',t,u,β',V',rfl,hq,hrel,hd,hkeep⟩:=he
  obtain ⟨q1,q2,q3,q4⟩:=put_rel hr ht.ok (fun i hi=>by obtain ⟨o,ho,_⟩:=hcl' i hi;exact ⟨o,ho⟩) hown hrel (stays hkeep)
  exact hP _ _ t u w' _ _ (hp d h' hq) q1 (rn_rep q4 4 d _ hd) q2 q3
 | outgrown=>exact he.elim

theorem s_call (hr:RelD C st.h β V w) (he:EnvOk st β V w a) (hN:Nx C st.h β V w K next) (hP:Px C st.h β V w Qp qp) (hF:∀ g,F g=true→fnOk P g=true) {f:Operand} {args:Array Operand} {ts:Array TypeId} {o:Oper} (ho:o.op=.call { callee:=.value f,args:=args,argTypes:=ts })
  (h:vcOp P T F C.G (.call { callee:=.value f,args:=args,argTypes:=ts }) st K Qp):OpRun P next qp ((execOp a.eval o).run P w):=by
 simp only[vcOp] at h
 have hf:=he.eval hr.gl f
 split at h
 ·rename_i g fs cs ef
  rw[ef] at hf
  simp only[RepD] at hf
  obtain ⟨us,ts',hfv,hus,hts⟩:=hf
  have main:fnOk P g=true→(∀ vals:List Value,RepDL st.h β V w (fs++(args.toList.map (sv C.G st)++cs)) vals→Calls P g ⟨vals⟩ w fun
    | .returned v,w''=>next v w''
    | .panicked ch,w''=>qp ch w''
    | .outgrown,_=>False)→OpRun P next qp ((execOp a.eval o).run P w):=by
   intro hfn hcalls
   unfold fnOk at hfn
   cases hfg:P.funcs[g]? with
   | none=>rw[hfg] at hfn;cases hfn
   | some fn =>
    rw[hfg] at hfn
    simp only[Bool.and_eq_true,Bool.not_eq_true'] at hfn
    obtain ⟨hn1,hn2⟩:=hfn
    have hn3 : ¬ fn.name = "runtime.NumGoroutine" := by simpa using hn1
    have hnone:¬ fn.body=none:=by intro hb;rw[hb] at hn2;cases hn2
    have hall:RepDL st.h β V w (fs++(args.toList.map (sv C.G st)++cs)) (us++(args.toList.map a.eval++ts')):=hus.append ((evalL hr he _).append hts)
    have harr:(⟨us⟩:Array Value)++args.map a.eval++⟨ts'⟩=⟨us++(args.toList.map a.eval++ts')⟩:=by
     apply Array.ext'
     simp
    have:(execOp a.eval o).run P w=.ok (.enter g ⟨us++(args.toList.map a.eval++ts')⟩) w:=by
     rw[← harr]
     simp[execOp,ho,resolve,invoke,Deferred.ofValue,callFunc,hfv,hfg,hn3,hnone]
    rw[this]
    exact hcalls _ hall
  cases hg:F g with
  | false =>
   rw[hg] at h
   simp only[cond_false,forceDL_eq] at h
   rcases h with ⟨h1,h2 | h2⟩
   ·exact main h1 (fun vals hall=>callH_sound hr hN hP hall h2)
   ·refine main h1 (fun vals hall=>(h2 C w β V vals rfl hr hall).mono fun e w' he=>?_)
    cases e with
    | returned v=>obtain ⟨d,h',β',V',q1,q2,q3,q4,q5⟩:=he;exact hN _ _ _ _ _ _ q1 q2 q3 q4 q5
    | panicked ch=>obtain ⟨d,h',t,u,β',V',rfl,q1,q2,q3,q4,q5⟩:=he;exact hP _ _ _ _ _ _ _ q1 q2 q3 q4 q5
    | outgrown=>exact he.elim
  | true =>
   rw[hg] at h
   simp only[cond_true,forceDL_eq] at h
   rcases orS_get h with ⟨as,Q,hl,hct,hk,hp⟩ | h2
   ·exact main (hF g hg) (fun vals hall=>call_sound hr hN hP hall hl hct hk hp)
   ·refine main (hF g hg) (fun vals hall=>(h2 C w β V vals rfl hr hall).mono fun e w' he=>?_)
    cases e with
    | returned v=>obtain ⟨d,h',β',V',q1,q2,q3,q4,q5⟩:=he;exact hN _ _ _ _ _ _ q1 q2 q3 q4 q5
    | panicked ch=>obtain ⟨d,h',t,u,β',V',rfl,q1,q2,q3,q4,q5⟩:=he;exact hP _ _ _ _ _ _ _ q1 q2 q3 q4 q5
    | outgrown=>exact he.elim
 ·exact h.elim

theorem op_soundD (hT:TabOk P T) (hF:∀ g,F g=true→fnOk P g=true) {o:Oper} (h:vcOp P T F C.G o.op st K Qp) (hr:RelD C st.h β V w) (he:EnvOk st β V w a) (hN:Nx C st.h β V w K next) (hP:Px C st.h β V w Qp qp):OpRun P next qp ((execOp a.eval o).run P w):=by
 generalize ho:o.op=op at h
 cases op with
 | move x=>exact s_move hr he hN (.inl ho) h
 | assign x=>exact s_move hr he hN (.inr ho) h
 | pick c x y=>exact s_pick hr he hN ho h
 | alloc t=>exact s_alloc hr hN hT ho h
 | box t x=>exact s_box hr he hN ho h
 | build t parts=>exact s_build hr he hN hT ho h
 | buildSlice t len parts=>exact s_buildSlice hr he hN hT ho h
 | makeSlice t l c=>exact s_makeSlice hr he hN hT ho h
 | load t x=>exact s_load hr he hN hT ho h
 | store t x y=>exact s_store hr he hN hT ho h
 | nilCheck x=>exact s_nilCheck hr he hN ho h
 | binOp op t x y t'=>exact s_bin hr he hN hT ho h
 | unOp op t x=>exact s_un hr he hN ho h
 | convert s t x=>exact s_convert hr he hN hT ho h
 | fieldAddr s x f=>exact s_fieldAddr hr he hN hT ho h
 | indexAddr t x ix=>exact s_indexAddr hr he hN hT ho h
 | index t x ix=>exact s_index hr he hN hT ho h
 | slice t x lo hi mx =>
  cases mx with
  | none=>exact s_slice hr he hN hT ho h
  | some m=>exact h.elim
 | extract x i=>exact s_extract hr he hN ho h
 | field t x f=>exact s_field hr he hN ho h
 | makeFunc fn first captured=>exact s_makeFunc hr he hN ho h
 | makeInterface t x=>exact s_makeInterface hr he hN hT ho h
 | panic x=>exact s_panic hr he ho h hP
 | call c =>
  obtain ⟨callee,args,ts⟩:=c
  cases callee with
  | value f=>exact s_call hr he hN hP hF ho h
  | invoke r m=>exact h.elim
  | builtin b =>
   cases b<;>first | exact s_len hr he hN hT ho h | exact s_max hr he hN ho h | exact s_min hr he hN ho h | exact s_append hr he hN hT ho h | exact s_copy hr he hN hT ho h | exact s_clear hr he hN hT ho h | exact h.elim
 | _=>exact h.elim
end
end Go.Dm
/-
  The second engine, regions that draw their order, first part: what an operation asks hangs on its operands alone; its value is one; and a quiet one may be done in greater memory. It holds of every program.
-/
namespace Go.Dm
open Go Go.Eng Go.RowKit

def closed:Nat→D→Bool
 | 0,_=>false
 | n+1,d=>match d with
  | .row _ | .rs _ _ _ | .ptr _ _ | .el _ _ _=>false
  | .fn _ fs cs=>fs.all (closed n) && cs.all (closed n)
  | .iface _ x=>closed n x
  | .agg cs=>cs.all (closed n)
  | .tuple cs=>cs.all (closed n)
  | _=>true
theorem closed_rep {h h':Heap} {β β':Nat→Value} {V V':Nat→Prop} {w w':World} (hV:Moved V w V' w'):∀ (n:Nat) (d:D) (v:Value),closed n d=true→RepD h β V w d v→RepD h' β' V' w' d v:=by
 intro n
 induction n with
 | zero=>intro d v hf;cases hf
 | succ n ih =>
  intro d v hf hd
  have list:∀ (ds:List D) (vs:List Value),ds.all (closed n)=true→RepDL h β V w ds vs→RepDL h' β' V' w' ds vs:=by
   intro ds
   induction ds with
   | nil=>intro vs _ h;simp only[RepDL] at h ⊢;exact h
   | cons d ds ihd =>
    intro vs hf h
    simp only[List.all_cons,Bool.and_eq_true] at hf
    simp only[RepDL] at h ⊢
    obtain ⟨v,us,hv,h1,h2⟩:=h
    exact ⟨v,us,hv,ih d v hf.1 h1,ihd us hf.2 h2⟩
  cases d with
  | g x=>simp only[RepD] at hd ⊢;exact RepV.move hV _ _ hd
  | fp r o=>simp only[RepD] at hd ⊢;obtain ⟨a,h1,h2,h3⟩:=hd;exact ⟨a,h1,(hV _ h2).1,RepRow.move hV h2 _ _ h3⟩
  | row i=>simp[closed] at hf
  | rs i lo k=>simp[closed] at hf
  | ptr i o=>simp[closed] at hf
  | el i j o=>simp[closed] at hf
  | fn f fs cs =>
   simp only[closed,Bool.and_eq_true] at hf
   simp only[RepD] at hd ⊢
   obtain ⟨us,ts,hv,h1,h2⟩:=hd
   exact ⟨us,ts,hv,list fs us hf.1 h1,list cs ts hf.2 h2⟩
  | iface t x =>
   simp only[closed] at hf
   simp only[RepD] at hd ⊢
   obtain ⟨u,hv,h1⟩:=hd
   exact ⟨u,hv,ih x u hf h1⟩
  | agg cs =>
   simp only[closed] at hf
   simp only[RepD] at hd ⊢
   obtain ⟨us,hv,h1⟩:=hd
   exact ⟨us,hv,list cs us hf h1⟩
  | tuple cs =>
   simp only[closed] at hf
   simp only[RepD] at hd ⊢
   obtain ⟨us,hv,h1⟩:=hd
   exact ⟨us,hv,list cs us hf h1⟩
  | any=>simp only[RepD]
  | _=>simp only[RepD] at hd ⊢;exact hd

section
variable {P:Program} {T:Tab} {F:FuncId→Bool} {G:Gl}

def active:Op→Bool
 | .alloc _ | .box _ _ | .buildSlice _ _ _ | .makeSlice _ _ _ | .store _ _ _=>true
 | .call { callee:=.builtin .append,.. }=>true
 | _=>false
def mutating:Op→Bool
 | .store _ _ _=>true
 | .buildSlice _ _ _=>true
 | .call { callee:=.builtin .append,args,.. }=>match args.toList with
  | .const (.slice none _ _) :: _=>false
  | _=>true
 | _=>false

def Ex (h h':Heap):Prop:=∀ (i:Nat) (o:Obj),h[i]?=some o→h'[i]?=some o
theorem Ex.refl (h:Heap):Ex h h:=fun _ _ h=>h
theorem Ex.trans {a b c:Heap} (h:Ex a b) (k:Ex b c):Ex a c:=fun i o hi=>k i o (h i o hi)
theorem Ex.app (h k:Heap):Ex h (h++k):=fun i o hi=>by
 have hl:i < h.length:=(List.getElem?_eq_some_iff.1 hi).1
 rw[List.getElem?_append_left hl];exact hi

def alive (h:Heap):List Nat→Bool
 | []=>true
 | i :: l=>(match h[i]? with | some _=>true | none=>false) && alive h l

def vcCallQ (P:Program) (F:FuncId→Bool) (G:Gl) (f:Operand) (args:Array Operand) (st:St) (K:D→Prop):Prop :=
 match sv G st f with
 | .fn g fs cs=>bif F g then forceDL (fs++(args.toList.map (sv G st)++cs)) fun all =>
   ∃ as d,likeA (all.map (conv st.h [] 4)) as∧CT P G g as (Is d)∧((closed 4 d && (memFree 4 d || isNil (idsL all)) && alive st.h (idsL all))=true)∧K d
  else forceDL (fs++(args.toList.map (sv G st)++cs)) fun all=>fnOk P g=true∧∃ d,(∀ h',Ex st.h h'→CTR P G g all h' d)∧K d
 | _=>False

def vcQ (P:Program) (T:Tab) (F:FuncId→Bool) (G:Gl) (o:Op) (st:St) (K:D→Prop):Prop :=
 match o with
 | .call { callee:=.value f,args,.. }=>vcCallQ P F G f args st K
 | .call { callee:=.builtin .copy,.. }=>False
 | .call { callee:=.builtin .clear,.. }=>False
 | .panic _=>False
 | .binOp op t x y _=>match T t with
  | some { kind:=.bool,.. }=>vcBoolEq op (sv G st x) (sv G st y) K
  | some { kind:=.slice _,.. }=>False
  | some { kind:=.struct _,.. }=>vcStEq P t op (sv G st x) (sv G st y) K
  | _=>vcBin op (sv G st x) (sv G st y) K
 | o=>vcOp P T F G o st (fun d _=>K d) (fun _ _=>False)

def Same (G:Gl) (st st':St) (l:List Operand):Prop:=∀ x∈l,sv G st x=sv G st' x

theorem alive_mem {h:Heap}:∀ {l:List Nat},alive h l=true→∀ i∈l,∃ o,h[i]?=some o
 | [],_,i,hi=>by simp at hi
 | a :: l,ha,i,hi=>by
  simp only[alive,Bool.and_eq_true] at ha
  rcases List.mem_cons.1 hi with rfl | hi
  ·cases h1:h[i]? with
   | none=>rw[h1] at ha;exact absurd ha.1 (by simp)
   | some o=>exact ⟨o,rfl⟩
  ·exact alive_mem ha.2 i hi
theorem conv_ex {h h':Heap} (hx:Ex h h'):∀ (n:Nat) (d:D),(∀ i∈ids n d,∃ o,h[i]?=some o)→conv h' [] n d=conv h [] n d:=by
 intro n
 induction n with
 | zero=>intro d _;rfl
 | succ n ih =>
  intro d hi
  have list:∀ ds:List D,(∀ d∈ds,∀ i∈ids n d,∃ o,h[i]?=some o)→ds.map (conv h' [] n)=ds.map (conv h [] n):=fun ds hd=>List.map_congr_left (fun d hm=>ih d (hd d hm))
  cases d with
  | row i=>obtain ⟨o,ho⟩:=hi i (by simp[ids]);simp only[conv,ho,hx _ _ ho]
  | rs i lo m=>obtain ⟨o,ho⟩:=hi i (by simp[ids]);simp only[conv,ho,hx _ _ ho]
  | ptr i off=>obtain ⟨o,ho⟩:=hi i (by simp[ids]);simp only[conv,ho,hx _ _ ho]
  | el i j off=>simp only[conv]
  | fn f fs cs =>
   simp only[conv]
   rw[list fs (fun d hd i h1=>hi i (by simp only[ids,List.mem_append,List.mem_flatMap];exact .inl ⟨d,hd,h1⟩)),list cs (fun d hd i h1=>hi i (by simp only[ids,List.mem_append,List.mem_flatMap];exact .inr ⟨d,hd,h1⟩))]
  | iface t x=>simp only[conv];rw[ih x (fun i h1=>hi i (by simp only[ids];exact h1))]
  | agg cs=>simp only[conv];rw[list cs (fun d hd i h1=>hi i (by simp only[ids,List.mem_flatMap];exact ⟨d,hd,h1⟩))]
  | tuple cs=>simp only[conv];rw[list cs (fun d hd i h1=>hi i (by simp only[ids,List.mem_flatMap];exact ⟨d,hd,h1⟩))]
  | _=>rfl
theorem convL_ex {h h':Heap} (hx:Ex h h') {all:List D} (ha:alive h (idsL all)=true):all.map (conv h' [] 4)=all.map (conv h [] 4) :=
 List.map_congr_left (fun d hd=>conv_ex hx 4 d (fun i hi=>alive_mem ha i (ids_mem hd i hi (fun _ h=>h))))
theorem alive_ex {h h':Heap} (hx:Ex h h'):∀ {l:List Nat},alive h l=true→alive h' l=true
 | [],_=>rfl
 | a :: l,ha=>by
  simp only[alive,Bool.and_eq_true] at ha ⊢
  refine ⟨?_,alive_ex hx ha.2⟩
  cases h1:h[a]? with
  | none=>rw[h1] at ha;exact absurd ha.1 (by simp)
  | some o=>rw[hx _ _ h1]

theorem partsD_congr {h:Heap} {f f':Operand→D}:∀ {l:List (Nat × Operand)},(∀ p∈l,f p.2=f' p.2)→partsD h f l=partsD h f' l
 | [],_=>rfl
 | (i,o) :: l,hl=>by
  simp only[partsD]
  rw[hl (i,o) List.mem_cons_self,partsD_congr (fun p hp=>hl p (List.mem_cons_of_mem _ hp))]
theorem map_congr' {f f':Operand→D} {l:List Operand} (hl:∀ x∈l,f x=f' x):l.map f=l.map f':=List.map_congr_left hl

theorem vcOp_congr {o:Op} {st st':St} (hh:st.h=st'.h) (hs:Same G st st' o.operands.toList) {K Qp:KD} (h:vcOp P T F G o st K Qp):vcOp P T F G o st' K Qp:=by
 have one:∀ x,x∈o.operands→sv G st' x=sv G st x:=fun x hx=>(hs x (by simpa using hx)).symm
 have opt:∀ q:Option Operand,(∀ x∈q.toArray,x∈o.operands)→q.map (sv G st')=q.map (sv G st):=by
  intro q hq
  cases q with
  | none=>rfl
  | some x=>simp only[Option.map_some];rw[one x (hq x (by simp))]
 cases o with
 | move x=>simp only[vcOp] at h ⊢;rw[one x (by simp[Op.operands]),← hh];exact h
 | assign x=>simp only[vcOp] at h ⊢;rw[one x (by simp[Op.operands]),← hh];exact h
 | pick c x y=>simp only[vcOp] at h ⊢;rw[one c (by simp[Op.operands]),one x (by simp[Op.operands]),one y (by simp[Op.operands]),← hh];exact h
 | alloc t=>simp only[vcOp] at h ⊢;rw[← hh];exact h
 | box t x=>simp only[vcOp] at h ⊢;rw[one x (by simp[Op.operands]),← hh];exact h
 | build t parts =>
  have hp:partsD st'.h (sv G st') parts.toList=partsD st.h (sv G st) parts.toList:=by
   rw[← hh]
   refine partsD_congr (fun p hp=>one p.2 ?_)
   simp only[Op.operands]
   rw[List.mem_toArray]
   exact List.mem_map.2 ⟨p,hp,rfl⟩
  simp only[vcOp] at h ⊢
  rw[hp,← hh]
  exact h
 | buildSlice t len parts =>
  have hp:partsD st'.h (sv G st') parts.toList=partsD st.h (sv G st) parts.toList:=by
   rw[← hh]
   refine partsD_congr (fun p hp=>one p.2 ?_)
   simp only[Op.operands]
   rw[List.mem_toArray]
   exact List.mem_map.2 ⟨p,hp,rfl⟩
  simp only[vcOp] at h ⊢
  rw[hp,← hh]
  exact h
 | makeSlice t l c=>simp only[vcOp] at h ⊢;rw[one l (by simp[Op.operands]),one c (by simp[Op.operands]),← hh];exact h
 | load t x=>simp only[vcOp] at h ⊢;rw[one x (by simp[Op.operands]),← hh];exact h
 | store t x y=>simp only[vcOp] at h ⊢;rw[one x (by simp[Op.operands]),one y (by simp[Op.operands]),← hh];exact h
 | nilCheck x=>simp only[vcOp] at h ⊢;rw[one x (by simp[Op.operands]),← hh];exact h
 | binOp op t x y t'=>simp only[vcOp] at h ⊢;rw[one x (by simp[Op.operands]),one y (by simp[Op.operands]),← hh];exact h
 | unOp op t x=>simp only[vcOp] at h ⊢;rw[one x (by simp[Op.operands]),← hh];exact h
 | convert s t x=>simp only[vcOp] at h ⊢;rw[one x (by simp[Op.operands]),← hh];exact h
 | fieldAddr s x f=>simp only[vcOp] at h ⊢;rw[one x (by simp[Op.operands]),← hh];exact h
 | indexAddr t x ix=>simp only[vcOp] at h ⊢;rw[one x (by simp[Op.operands]),one ix (by simp[Op.operands]),← hh];exact h
 | index t x ix=>simp only[vcOp] at h ⊢;rw[one x (by simp[Op.operands]),one ix (by simp[Op.operands]),← hh];exact h
 | slice t x lo hi mx =>
  cases mx with
  | some m=>exact h.elim
  | none=>simp only[vcOp] at h ⊢;rw[one x (by simp[Op.operands]),opt lo (fun y hy=>by simp[Op.operands];simp at hy;simp[hy]),opt hi (fun y hy=>by simp[Op.operands];simp at hy;simp[hy]),← hh];exact h
 | extract x i=>simp only[vcOp] at h ⊢;rw[one x (by simp[Op.operands]),← hh];exact h
 | field t x f=>simp only[vcOp] at h ⊢;rw[one x (by simp[Op.operands]),← hh];exact h
 | makeFunc fn first captured =>
  cases fn with
  | func f =>
   simp only[vcOp] at h ⊢
   rw[map_congr' (f:=sv G st') (f':=sv G st) (l:=first.toList) (fun x hx=>one x (by simp[Op.operands];exact .inl (by simpa using hx))),map_congr' (f:=sv G st') (f':=sv G st) (l:=captured.toList) (fun x hx=>one x (by simp[Op.operands];exact .inr (by simpa using hx))),← hh]
   exact h
  | _=>exact h.elim
 | makeInterface t x=>simp only[vcOp] at h ⊢;rw[one x (by simp[Op.operands]),← hh];exact h
 | panic x=>simp only[vcOp] at h ⊢;rw[one x (by simp[Op.operands]),← hh];exact h
 | call c =>
  obtain ⟨callee,args,ts⟩:=c
  have hargs:∀ x∈args,sv G st' x=sv G st x:=fun x hx=>one x (by simp[Op.operands,Call.operands,hx])
  cases callee with
  | value f =>
   simp only[vcOp] at h ⊢
   rw[one f (by simp[Op.operands,Call.operands]),map_congr' (f:=sv G st') (f':=sv G st) (l:=args.toList) (fun x hx=>hargs x (by simpa using hx)),← hh]
   exact h
  | invoke r m=>exact h.elim
  | builtin b =>
   cases b with
   | len =>
    simp only[vcOp] at h ⊢
    split at h
    ·rename_i t x hts har
     rw[hargs x (by rw[← Array.mem_toList_iff,har];simp),← hh]
     exact h
    ·exact h.elim
   | max =>
    simp only[vcOp] at h ⊢
    split at h
    ·rename_i x y har
     rw[hargs x (by rw[← Array.mem_toList_iff,har];simp),hargs y (by rw[← Array.mem_toList_iff,har];simp),← hh]
     exact h
    ·exact h.elim
   | min =>
    simp only[vcOp] at h ⊢
    split at h
    ·rename_i x y har
     rw[hargs x (by rw[← Array.mem_toList_iff,har];simp),hargs y (by rw[← Array.mem_toList_iff,har];simp),← hh]
     exact h
    ·exact h.elim
   | append =>
    simp only[vcOp] at h ⊢
    split at h
    ·rename_i t t' x y hts har
     rw[hargs x (by rw[← Array.mem_toList_iff,har];simp),hargs y (by rw[← Array.mem_toList_iff,har];simp),← hh]
     exact h
    ·exact h.elim
   | copy =>
    simp only[vcOp] at h ⊢
    split at h
    ·rename_i t t' x y hts har
     rw[hargs x (by rw[← Array.mem_toList_iff,har];simp),hargs y (by rw[← Array.mem_toList_iff,har];simp),← hh]
     exact h
    ·exact h.elim
   | clear =>
    simp only[vcOp] at h ⊢
    split at h
    ·rename_i t x hts har
     rw[hargs x (by rw[← Array.mem_toList_iff,har];simp),← hh]
     exact h
    ·exact h.elim
   | _=>exact h.elim
 | _=>exact h.elim

theorem vcBin_one {op:BinOp} {x y:D} {K:D→Prop} (h:vcBin op x y K):∃ d,K d∧∀ K':D→Prop,K' d→vcBin op x y K':=by
 unfold vcBin at h ⊢
 split at h<;>first | exact h.elim | skip
 all_goals first
  | exact ⟨_,h,fun K' hk=>hk⟩
  | exact ⟨_,h.2,fun K' hk=>⟨h.1,hk⟩⟩
  | exact ⟨_,h.2.2,fun K' hk=>⟨h.1,h.2.1,hk⟩⟩
  | (obtain ⟨c,hc,hk⟩:=h;exact ⟨_,hk,fun K' hk=>⟨c,hc,hk⟩⟩)
theorem vcBool_one {op:BinOp} {x y:D} {K:D→Prop} (h:vcBoolEq op x y K):∃ d,K d∧∀ K':D→Prop,K' d→vcBoolEq op x y K':=by
 unfold vcBoolEq at h ⊢
 split at h<;>first | exact h.elim | exact ⟨_,h,fun K' hk=>hk⟩
theorem vcStEq_one {t:TypeId} {op:BinOp} {x y:D} {K:D→Prop} (h:vcStEq P t op x y K):∃ d,K d∧∀ K':D→Prop,K' d→vcStEq P t op x y K':=by
 unfold vcStEq at h ⊢
 split at h
 ·split at h
  ·exact ⟨_,h.2,fun K' hk=>⟨h.1,hk⟩⟩
  ·exact h.elim
 ·split at h
  ·exact ⟨_,h.2,fun K' hk=>⟨h.1,hk⟩⟩
  ·exact h.elim
 ·exact h.elim
theorem vcUn_one {op:UnOp} {x:D} {K:D→Prop} (h:vcUn op x K):∃ d,K d∧∀ K':D→Prop,K' d→vcUn op x K':=by
 unfold vcUn at h ⊢
 split at h<;>first | exact h.elim | exact ⟨_,h,fun K' hk=>hk⟩ | exact ⟨_,h.2,fun K' hk=>⟨h.1,hk⟩⟩
theorem ldG_one {i:TI} {r:List GV} {off:Nat} {K:D→Prop} (h:ldG i r off K):∃ d,K d∧∀ K':D→Prop,K' d→ldG i r off K':=by
 unfold ldG at h ⊢
 cases hi:i.agg with
 | false =>
  rw[hi] at h
  simp only at h ⊢
  split at h
  ·exact ⟨_,h,fun K' hk=>hk⟩
  ·exact h.elim
 | true =>
  rw[hi] at h
  simp only at h ⊢
  cases hb:Nat.ble (off+i.size) r.length with
  | false=>rw[hb] at h;exact h.elim
  | true=>rw[hb] at h;exact ⟨_,h,fun K' hk=>hk⟩

theorem sh_closed {m:Nat}:∀ (n:Nat) (d:D),closed n d=true→sh m n d=d:=by
 intro n
 induction n with
 | zero=>intro d h;cases h
 | succ n ih =>
  intro d h
  have list:∀ ds:List D,ds.all (closed n)=true→ds.map (sh m n)=ds:=by
   intro ds
   induction ds with
   | nil=>intro _;rfl
   | cons d ds ihd=>intro h;simp only[List.all_cons,Bool.and_eq_true] at h;rw[List.map_cons,ih d h.1,ihd h.2]
  cases d with
  | row i=>cases h
  | rs i lo k=>cases h
  | ptr i o=>cases h
  | el i j o=>cases h
  | fn f fs cs=>simp only[closed,Bool.and_eq_true] at h;simp only[sh];rw[list fs h.1,list cs h.2]
  | iface t x=>simp only[closed] at h;simp only[sh];rw[ih x h]
  | agg cs=>simp only[closed] at h;simp only[sh];rw[list cs h]
  | tuple cs=>simp only[closed] at h;simp only[sh];rw[list cs h]
  | _=>rfl

theorem vcQ_one {o:Op} {st:St} {K:D→Prop} (ha:active o=false) (h:vcQ P T F G o st K):∃ d,K d∧∀ (h':Heap) (K':KD),Ex st.h h'→K' d h'→vcOp P T F G o ⟨st.env,h',st.df⟩ K' (fun _ _=>False):=by
 have svh:∀ (h':Heap) (x:Operand),sv G ⟨st.env,h',st.df⟩ x=sv G st x:=fun h' x=>by cases x<;>rfl
 have svf:∀ (h':Heap),sv G ⟨st.env,h',st.df⟩=sv G st:=fun h'=>funext (svh h')
 cases o with
 | move x=>simp only[vcQ,vcOp] at h ⊢;exact ⟨_,h,fun h' K' _ hk=>by rw[svf];exact hk⟩
 | assign x=>simp only[vcQ,vcOp] at h ⊢;exact ⟨_,h,fun h' K' _ hk=>by rw[svf];exact hk⟩
 | pick c x y =>
  simp only[vcQ,vcOp] at h ⊢
  unfold bcase at h
  split at h
  ·rename_i e;exact ⟨_,h,fun h' K' _ hk=>by simp only[svf,e,bcase];exact hk⟩
  ·rename_i e;exact ⟨_,h,fun h' K' _ hk=>by simp only[svf,e,bcase];exact hk⟩
  ·rename_i p e
   by_cases hp:p
   ·exact ⟨_,h.1 hp,fun h' K' _ hk=>by simp only[svf,e,bcase];exact ⟨fun _=>hk,fun hn=>absurd hp hn⟩⟩
   ·exact ⟨_,h.2 hp,fun h' K' _ hk=>by simp only[svf,e,bcase];exact ⟨fun hn=>absurd hn hp,fun _=>hk⟩⟩
  ·rename_i p e
   by_cases hp:p
   ·exact ⟨_,h.2 hp,fun h' K' _ hk=>by simp only[svf,e,bcase];exact ⟨fun hn=>absurd hp hn,fun _=>hk⟩⟩
   ·exact ⟨_,h.1 hp,fun h' K' _ hk=>by simp only[svf,e,bcase];exact ⟨fun _=>hk,fun hn=>absurd hn hp⟩⟩
  ·exact h.elim
 | build t parts =>
  simp only[vcQ,vcOp] at h ⊢
  split at h
  ·rename_i agg size bytes z fs ht
   split at h
   ·exact h.elim
   ·rename_i ps hps
    split at h
    ·rename_i cs hcs
     refine ⟨_,h,fun h' K' hx hk=>?_⟩
     have key:∀ (l:List (Nat × Operand)) (ps:List (Nat × List D)),partsD st.h (sv G st) l=some ps→partsD h' (sv G st) l=some ps:=by
      have f1:∀ d,flat1 st.h d=true→flat1 h' d=true:=by
       intro d hd
       cases d with
       | row i=>simp only[flat1] at hd ⊢;split at hd;rename_i e;rw[hx _ _ e];cases hd
       | rs i lo n=>simp only[flat1] at hd ⊢;split at hd;rename_i e;rw[hx _ _ e];cases hd
       | el i j o=>simp only[flat1] at hd ⊢;split at hd;rename_i e;rw[hx _ _ e];cases hd
       | ptr i o=>simp only[flat1] at hd ⊢;split at hd;rename_i e;rw[hx _ _ e];cases hd
       | _=>first | exact hd | rfl
      have fL:∀ ds,flatD st.h ds=true→flatD h' ds=true:=by
       intro ds
       induction ds with
       | nil=>intro _;rfl
       | cons d ds ih=>intro hd;simp only[flatD,Bool.and_eq_true] at hd ⊢;exact ⟨f1 d hd.1,ih hd.2⟩
      have cD:∀ d ds,cellsD st.h d=some ds→cellsD h' d=some ds:=by
       intro d ds hd
       unfold cellsD at hd ⊢
       split at hd
       ·rename_i cs
        cases hf:flatD st.h cs with
        | false=>rw[hf] at hd;cases hd
        | true=>rw[hf] at hd;simp only[fL cs hf];exact hd
       ·cases hf:flat1 st.h d with
        | false=>rw[hf] at hd;cases hd
        | true=>rw[hf] at hd;simp only[f1 d hf];exact hd
      intro l
      induction l with
      | nil=>intro ps hp;exact hp
      | cons p l ih =>
       intro ps hp
       obtain ⟨i,o⟩:=p
       simp only[partsD] at hp ⊢
       split at hp
       ·rename_i ds r e1 e2
        rw[cD _ _ e1,ih _ e2]
        exact hp
       ·cases hp
     simp only[svf,key _ _ hps,hcs]
     exact hk
    ·exact h.elim
  ·exact h.elim
 | load t x =>
  simp only[vcQ,vcOp,vcLoad] at h ⊢
  split at h
  ·exact h.elim
  ·rename_i i ht
   split at h
   ·rename_i j off e
    split at h
    ·rename_i cs ty hj
     cases hagg:i.agg with
     | false =>
      rw[hagg] at h
      simp only at h
      obtain ⟨d,hd,h⟩:=getK_ok h
      exact ⟨d,h,fun h' K' hx hk=>by simp only[svf,e,hx _ _ hj];exact getK_at hd hk⟩
     | true =>
      rw[hagg] at h
      simp only at h
      cases hb:Nat.ble (off+i.size) cs.length with
      | false=>rw[hb] at h;exact h.elim
      | true=>rw[hb] at h;exact ⟨_,h,fun h' K' hx hk=>by simp only[svf,e,hx _ _ hj,hb];exact hk⟩
    ·exact h.elim
   ·rename_i j k off e
    split at h
    ·rename_i xs ty sz hj
     obtain ⟨r,hr,hl⟩:=h
     obtain ⟨d,h2,h1⟩:=ldG_one hl
     exact ⟨d,h2,fun h' K' hx hk=>by simp only[svf,e,hx _ _ hj];exact ⟨r,hr,h1 _ hk⟩⟩
    ·exact h.elim
   ·rename_i r off e
    obtain ⟨d,h2,h1⟩:=ldG_one h
    exact ⟨d,h2,fun h' K' hx hk=>by simp only[svf,e];exact h1 _ hk⟩
   ·exact h.elim
 | nilCheck x =>
  simp only[vcQ,vcOp] at h ⊢
  split at h
  ·rename_i i o e
   split at h
   ·rename_i cs ty hj;exact ⟨_,h,fun h' K' hx hk=>by simp only[svf,e,hx _ _ hj];exact hk⟩
   ·exact h.elim
  ·rename_i i j o e
   split at h
   ·rename_i xs ty sz hj;exact ⟨_,h,fun h' K' hx hk=>by simp only[svf,e,hx _ _ hj];exact hk⟩
   ·exact h.elim
  ·rename_i e;exact ⟨_,h,fun h' K' hx hk=>by simp only[svf,e];exact hk⟩
  ·rename_i e;exact ⟨_,h,fun h' K' hx hk=>by simp only[svf,e];exact hk⟩
  ·exact h.elim
 | binOp op t x y t' =>
  simp only[vcQ,vcOp] at h ⊢
  split at h
  ·rename_i ht
   obtain ⟨d,h2,h1⟩:=vcBool_one h
   exact ⟨d,h2,fun h' K' _ hk=>by simp only[svf,ht];exact h1 (fun v=>K' v h') hk⟩
  ·exact h.elim
  ·rename_i ht
   obtain ⟨d,h2,h1⟩:=vcStEq_one h
   exact ⟨d,h2,fun h' K' _ hk=>by simp only[svf,ht];exact h1 (fun v=>K' v h') hk⟩
  ·rename_i hb hs hst
   obtain ⟨d,h2,h1⟩:=vcBin_one h
   refine ⟨d,h2,fun h' K' _ hk=>?_⟩
   simp only[svf]
   exact h1 (fun v=>K' v h') hk
 | unOp op t x =>
  simp only[vcQ,vcOp] at h ⊢
  obtain ⟨d,h2,h1⟩:=vcUn_one h
  exact ⟨d,h2,fun h' K' _ hk=>by simp only[svf];exact h1 _ hk⟩
 | convert s t x =>
  simp only[vcQ,vcOp] at h ⊢
  split at h
  ·rename_i e1 e2 e3;exact ⟨_,h.2,fun h' K' _ hk=>by simp only[svf,e1,e2,e3];exact ⟨h.1,hk⟩⟩
  ·rename_i e1 e2 e3;exact ⟨_,h.2,fun h' K' _ hk=>by simp only[svf,e1,e2,e3];exact ⟨h.1,hk⟩⟩
  ·rename_i e1 e2 e3;exact ⟨_,h,fun h' K' _ hk=>by simp only[svf,e1,e2,e3];exact hk⟩
  ·rename_i e1 e2 e3
   split at h
   ·rename_i e4;exact ⟨_,h,fun h' K' _ hk=>by simp only[svf,e1,e2,e3,e4];exact hk⟩
   ·exact h.elim
  ·exact h.elim
 | fieldAddr s x f =>
  simp only[vcQ,vcOp] at h ⊢
  split at h
  ·rename_i ht
   split at h
   ·rename_i off sz hf
    split at h
    ·rename_i i o e
     split at h
     ·rename_i cs ty hj;exact ⟨_,h,fun h' K' hx hk=>by simp only[svf,e,hx _ _ hj];exact hk⟩
     ·exact h.elim
    ·rename_i i j o e
     split at h
     ·rename_i xs ty sz' hj;exact ⟨_,h,fun h' K' hx hk=>by simp only[svf,e,hx _ _ hj];exact hk⟩
     ·exact h.elim
    ·rename_i e;exact ⟨_,h,fun h' K' hx hk=>by simp only[svf,e];exact hk⟩
    ·exact h.elim
   ·exact h.elim
  ·exact h.elim
 | indexAddr t x ix =>
  simp only[vcQ,vcOp,vcIndexAddr] at h ⊢
  split at h
  ·rename_i e ht
   split at h
   ·rename_i ei k xs hte ex
    cases hb:Nat.beq k ei.size with
    | false=>rw[hb] at h;exact h.elim
    | true =>
     rw[hb] at h
     obtain ⟨j,r,h1,h2,h3⟩:=h
     exact ⟨_,h3,fun h' K' _ hk=>by simp only[svf,hte,ex,hb];exact ⟨j,r,h1,h2,hk⟩⟩
   ·rename_i ei u hte ex
    obtain ⟨m,q,l,ts,xs,ty,j,h1,h2,h3,h4,h5,h6⟩:=h
    exact ⟨_,h6,fun h' K' hx hk=>by simp only[svf,hte,ex];exact ⟨m,q,l,ts,xs,ty,j,hx _ _ h1,h2,hx _ _ h3,h4,h5,hk⟩⟩
   ·rename_i ei i hte ex
    split at h
    ·rename_i xs ty sz hi
     cases hb:Nat.beq sz ei.size with
     | false=>rw[hb] at h;exact h.elim
     | true =>
      rw[hb] at h
      obtain ⟨j,h1,h2,h3⟩:=h
      exact ⟨_,h3,fun h' K' hx hk=>by simp only[svf,hte,ex,hx _ _ hi,hb];exact ⟨j,h1,h2,hk⟩⟩
    ·exact h.elim
   ·rename_i ei i lo n hte ex
    split at h
    ·rename_i xs ty sz hi
     cases hb:Nat.beq sz ei.size with
     | false=>rw[hb] at h;exact h.elim
     | true =>
      rw[hb] at h
      obtain ⟨j,h1,h2,h3⟩:=h
      exact ⟨_,h3,fun h' K' hx hk=>by simp only[svf,hte,ex,hx _ _ hi,hb];exact ⟨j,h1,h2,hk⟩⟩
    ·exact h.elim
   ·exact h.elim
  ·rename_i n e ht
   split at h
   ·rename_i ei i o hte ex
    split at h
    ·rename_i cs ty hi
     obtain ⟨j,h1,h2,h3⟩:=h
     exact ⟨_,h3,fun h' K' hx hk=>by simp only[svf,hte,ex,hx _ _ hi];exact ⟨j,h1,h2,hk⟩⟩
    ·exact h.elim
   ·rename_i ei r o hte ex
    obtain ⟨j,h1,h2,h3⟩:=h
    exact ⟨_,h3,fun h' K' hx hk=>by simp only[svf,hte,ex];exact ⟨j,h1,h2,hk⟩⟩
   ·rename_i ei i k o hte ex
    split at h
    ·rename_i xs ty sz hi
     obtain ⟨j,h1,h2,h3⟩:=h
     exact ⟨_,h3,fun h' K' hx hk=>by simp only[svf,hte,ex,hx _ _ hi];exact ⟨j,h1,h2,hk⟩⟩
    ·exact h.elim
   ·exact h.elim
  ·exact h.elim
 | index t x ix =>
  simp only[vcQ,vcOp] at h ⊢
  split at h
  ·rename_i s ht e
   obtain ⟨j,c,h1,h2,h3⟩:=h
   exact ⟨_,h3,fun h' K' _ hk=>by simp only[svf,ht,e];exact ⟨j,c,h1,h2,hk⟩⟩
  ·exact h.elim
 | slice t x lo hi mx =>
  cases mx with
  | some m=>exact h.elim
  | none =>
   simp only[vcQ,vcOp,vcSlice] at h ⊢
   simp only[svf]
   split at h
   ·rename_i s ht e
    split at h
    ·rename_i e1 e2;exact ⟨_,h,fun h' K' _ hk=>by first | exact hk | (simp only[e1,e2,e];exact hk)⟩
    ·rename_i e1 e2;obtain ⟨a,b,c,d⟩:=h;exact ⟨_,d,fun h' K' _ hk=>by first | exact ⟨a,b,c,hk⟩ | (simp only[e1,e2,e];exact ⟨a,b,c,hk⟩)⟩
    ·rename_i e1 e2;obtain ⟨a,b,c,d⟩:=h;exact ⟨_,d,fun h' K' _ hk=>by first | exact ⟨a,b,c,hk⟩ | (simp only[e1,e2,e];exact ⟨a,b,c,hk⟩)⟩
    ·rename_i e1 e2;obtain ⟨a,b,c,c2,c3,c4,d⟩:=h;exact ⟨_,d,fun h' K' _ hk=>by first | exact ⟨a,b,c,c2,c3,c4,hk⟩ | (simp only[e1,e2,e];exact ⟨a,b,c,c2,c3,c4,hk⟩)⟩
   ·rename_i e k xs ht ex
    split at h
    ·exact h.elim
    ·rename_i ei hte
     cases hb:Nat.beq k ei.size with
     | false=>rw[hb] at h;exact h.elim
     | true =>
      rw[hb] at h
      simp only[cond_true] at h
      split at h
      ·rename_i e1 e2;exact ⟨_,h,fun h' K' _ hk=>by first | exact hk | (simp only[ex,hte,hb,e1,e2];exact hk)⟩
      ·rename_i e1 e2;obtain ⟨a,b,c,d⟩:=h;exact ⟨_,d,fun h' K' _ hk=>by first | exact ⟨a,b,c,hk⟩ | (simp only[ex,hte,hb,e1,e2];exact ⟨a,b,c,hk⟩)⟩
      ·rename_i e1 e2;obtain ⟨a,b,c,d⟩:=h;exact ⟨_,d,fun h' K' _ hk=>by first | exact ⟨a,b,c,hk⟩ | (simp only[ex,hte,hb,e1,e2];exact ⟨a,b,c,hk⟩)⟩
      ·rename_i e1 e2;obtain ⟨a,b,c,c2,c3,c4,d⟩:=h;exact ⟨_,d,fun h' K' _ hk=>by first | exact ⟨a,b,c,c2,c3,c4,hk⟩ | (simp only[ex,hte,hb,e1,e2];exact ⟨a,b,c,c2,c3,c4,hk⟩)⟩
   ·rename_i e i ht ex
    split at h
    ·rename_i ei xs ty sz hte hi'
     cases hb:Nat.beq sz ei.size with
     | false=>rw[hb] at h;exact h.elim
     | true =>
      rw[hb] at h
      simp only[cond_true] at h
      split at h
      ·rename_i e1 e2;exact ⟨_,h,fun h' K' hx hk=>by first | exact hk | (simp only[hte,hx _ _ hi',hb];exact hk)⟩
      ·rename_i e1 e2;obtain ⟨a,b,c,d⟩:=h;exact ⟨_,d,fun h' K' hx hk=>by first | exact ⟨a,b,c,hk⟩ | (simp only[hte,hx _ _ hi',hb];exact ⟨a,b,c,hk⟩)⟩
      ·rename_i e1 e2;obtain ⟨a,b,c,d⟩:=h;exact ⟨_,d,fun h' K' hx hk=>by first | exact ⟨a,b,c,hk⟩ | (simp only[hte,hx _ _ hi',hb];exact ⟨a,b,c,hk⟩)⟩
      ·rename_i e1 e2;obtain ⟨a,b,c,c2,c3,c4,d⟩:=h;exact ⟨_,d,fun h' K' hx hk=>by first | exact ⟨a,b,c,c2,c3,c4,hk⟩ | (simp only[hte,hx _ _ hi',hb];exact ⟨a,b,c,c2,c3,c4,hk⟩)⟩
    ·exact h.elim
   ·rename_i n e i o' ht ex
    split at h
    ·rename_i ti cs ty e1 e2 e3 hi'
     cases hb:Nat.ble (o'+n*ti.size) cs.length && Nat.blt 0 n with
     | false=>rw[hb] at h;exact h.elim
     | true =>
      rw[hb] at h
      exact ⟨_,h,fun h' K' hx hk=>by simp only[e1,e2,e3,hx _ _ hi',hb];exact hk⟩
    ·exact h.elim
   ·rename_i n e r ht ex
    split at h
    ·rename_i p ei e1 e2 e3
     obtain ⟨l,a1,a2,a3,a4,d⟩:=h
     exact ⟨_,d,fun h' K' _ hk=>by first | exact ⟨l,a1,a2,a3,a4,hk⟩ | (simp only[e1,e2,e3,ex];exact ⟨l,a1,a2,a3,a4,hk⟩)⟩
    ·exact h.elim
   ·exact h.elim
 | field t x f =>
  simp only[vcQ,vcOp] at h ⊢
  split at h
  ·rename_i cs e
   obtain ⟨off,d,h1,h2,h3⟩:=h
   exact ⟨d,h3,fun h' K' _ hk=>by simp only[svf,e];exact ⟨off,d,h1,h2,hk⟩⟩
  ·exact h.elim
 | extract x i =>
  simp only[vcQ,vcOp] at h ⊢
  split at h
  ·rename_i vs e
   split at h
   ·rename_i d hd;exact ⟨d,h,fun h' K' _ hk=>by simp only[svf,e,hd];exact hk⟩
   ·exact h.elim
  ·exact h.elim
 | makeFunc fn first captured =>
  cases fn with
  | func f=>simp only[vcQ,vcOp] at h ⊢;exact ⟨_,h,fun h' K' _ hk=>by rw[svf];exact hk⟩
  | _=>exact h.elim
 | makeInterface t x =>
  simp only[vcQ,vcOp] at h ⊢
  split at h
  ·exact h.elim
  ·rename_i e1 e2;exact ⟨_,h,fun h' K' _ hk=>by simp only[svf];exact hk⟩
  ·exact h.elim
 | call c =>
  obtain ⟨callee,args,ts⟩:=c
  cases callee with
  | value f =>
   simp only[vcQ,vcCallQ] at h ⊢
   split at h
   ·rename_i g fs cs ef
    have rd:∀ (h':Heap) (K':KD) (d:D),CTR P G g (fs++(args.toList.map (sv G st)++cs)) h' d→K' d h'→SemCall P G g (fs++(args.toList.map (sv G st)++cs)) h' K' (fun _ _=>False):=by
     intro h' K' d hc hk C w β V vals hG hr hd
     refine (hc C w β V vals hG hr hd).mono fun e w' he=>?_
     cases e with
     | returned v=>exact ⟨d,h',β,V,hk,he.1,he.2.1,LeH.refl _ _,he.2.2⟩
     | panicked ch=>exact he.elim
     | outgrown=>exact he.elim
    cases hg:F g with
    | false =>
     rw[hg] at h
     simp only[cond_false,forceDL_eq] at h
     obtain ⟨h0,d,h1,h2⟩:=h
     refine ⟨d,h2,fun h' K' hx hk=>?_⟩
     simp only[vcOp,svf,ef,hg,cond_false,forceDL_eq]
     exact ⟨h0,.inr (rd h' K' d (h1 h' hx) hk)⟩
    | true =>
     rw[hg] at h
     simp only[cond_true,forceDL_eq] at h
     obtain ⟨as,d,h1,h2,h3,h4⟩:=h
     refine ⟨d,h4,fun h' K' hx hk=>?_⟩
     simp only[vcOp,svf,ef,hg,cond_true,forceDL_eq]
     refine orS_l ?_
     simp only[Bool.and_eq_true] at h3
     refine ⟨as,Is d,by rw[convL_ex hx h3.2];exact h1,h2,fun d' h'' hq=>?_,fun d' hq=>by cases hq⟩
     injection hq with e1 e2
     subst e1
     subst e2
     rw[sh_closed 4 d' h3.1.1]
     have haf:after h' (idsL (fs++(args.toList.map (sv G st)++cs))) d' []=h':=by
      unfold after
      have h5:=h3.1.2
      cases hm:memFree 4 d' with
      | true=>rfl
      | false =>
       rw[hm] at h5
       simp only[Bool.false_or] at h5
       cases hi:idsL (fs++(args.toList.map (sv G st)++cs)) with
       | nil=>simp[kills]
       | cons x l=>rw[hi] at h5;cases h5
     rw[haf]
     exact hk
   ·exact h.elim
  | invoke r m=>exact h.elim
  | builtin b =>
   cases b with
   | len =>
    simp only[vcQ,vcOp] at h ⊢
    split at h
    ·rename_i t x hts har
     split at h
     ·rename_i i hi
      unfold vcLen at h
      split at h
      ·rename_i e1 e2;exact ⟨_,h,fun h' K' _ hk=>by simp only[svf,vcLen,e1,e2];exact hk⟩
      ·rename_i e1 e2;exact ⟨_,h,fun h' K' _ hk=>by simp only[svf,vcLen,e1,e2];exact hk⟩
      ·rename_i e1 e2
       split at h
       ·rename_i hj;exact ⟨_,h,fun h' K' hx hk=>by simp only[svf,vcLen,e1,e2,hx _ _ hj];exact hk⟩
       ·exact h.elim
      ·rename_i e1 e2
       split at h
       ·rename_i hj;exact ⟨_,h,fun h' K' hx hk=>by simp only[svf,vcLen,e1,e2,hx _ _ hj];exact hk⟩
       ·exact h.elim
      ·rename_i e1 e2;exact ⟨_,h,fun h' K' _ hk=>by simp only[svf,vcLen,e1,e2];exact hk⟩
      ·exact h.elim
     ·exact h.elim
    ·exact h.elim
   | max =>
    simp only[vcQ,vcOp] at h ⊢
    split at h
    ·split at h
     ·rename_i e1 e2
      exact ⟨_,h,fun h' K' _ hk=>by simp only[svf,e1,e2];exact hk⟩
     ·exact h.elim
    ·exact h.elim
   | min =>
    simp only[vcQ,vcOp] at h ⊢
    split at h
    ·split at h
     ·rename_i e1 e2
      exact ⟨_,h,fun h' K' _ hk=>by simp only[svf,e1,e2];exact hk⟩
     ·exact h.elim
    ·exact h.elim
   | append=>cases ha
   | _=>exact h.elim
 | alloc t=>cases ha
 | box t x=>cases ha
 | buildSlice t l p=>cases ha
 | makeSlice t l c=>cases ha
 | store t x y=>cases ha
 | _=>exact h.elim
end
end Go.Dm
/-
  The second engine, regions that draw their order, second part: whatever the order, the same comes of it. It holds of every program.
-/
namespace Go.Dm
open Go Go.Eng Go.RowKit

section
variable {P:Program} {T:Tab} {F:FuncId→Bool} {G:Gl}

def heapless:Op→Bool
 | .move _ | .assign _ | .pick _ _ _ | .binOp _ _ _ _ _ | .unOp _ _ _ | .convert _ _ _ | .extract _ _ | .index _ _ _ | .makeInterface _ _ | .makeFunc _ _ _=>true
 | _=>false
theorem vcQ_any {o:Op} {st:St} {K:D→Prop} (hl:heapless o=true) (h:vcQ P T F G o st K):∃ d,K d∧∀ (h':Heap) (K':KD),K' d h'→vcOp P T F G o ⟨st.env,h',st.df⟩ K' (fun _ _=>False):=by
 have svf:∀ (h':Heap),sv G ⟨st.env,h',st.df⟩=sv G st:=fun h'=>funext (fun x=>by cases x<;>rfl)
 have h0:vcQ P T F G o ⟨st.env,[],st.df⟩ K:=by
  cases o<;>first | (cases hl;done) | (simp only[vcQ,vcOp,svf] at h ⊢;exact h) | skip
  rename_i fn first captured
  cases fn<;>first | exact h.elim | (simp only[vcQ,vcOp,svf] at h ⊢;exact h)
 have ha:active o=false:=by cases o<;>first | rfl | cases hl
 obtain ⟨d,h1,h2⟩:=vcQ_one ha h0
 exact ⟨d,h1,fun h' K' hk=>h2 h' K' (fun i o hi=>by simp at hi) hk⟩

theorem ofV_nil (n c:Nat):ofV (.slice none n c)=.nils∨ofV (.slice none n c)=.any:=by
 unfold ofV of1
 cases n with
 | zero=>cases c with
  | zero=>exact .inl rfl
  | succ c=>exact .inr rfl
 | succ n=>exact .inr rfl
theorem ofV_row {n c i:Nat} (h:ofV (.slice none n c)=.row i):False:=by rcases ofV_nil n c with e | e<;>rw[e] at h<;>cases h
theorem ofV_rs {n c i a b:Nat} (h:ofV (.slice none n c)=.rs i a b):False:=by rcases ofV_nil n c with e | e<;>rw[e] at h<;>cases h
theorem condE {b:Bool} {X:Prop} (h:bif b then X else False):b=true∧X:=by cases b with | true=>exact ⟨rfl,h⟩ | false=>exact h.elim
theorem condI {b:Bool} {X:Prop} (hb:b=true) (h:X):bif b then X else False:=by subst hb;exact h

theorem active_one {o:Op} {st:St} {K:KD} (ha:active o=true) (h:vcOp P T F G o st K (fun _ _=>False)):∃ d h1,K d h1∧(∀ K':KD,K' d h1→vcOp P T F G o st K' (fun _ _=>False))∧(mutating o=false→Ex st.h h1):=by
 cases o with
 | alloc t =>
  simp only[vcOp] at h ⊢
  split at h
  ·exact h.elim
  ·exact ⟨_,_,h,fun K' hk=>hk,fun _=>Ex.app _ _⟩
 | box t x =>
  simp only[vcOp] at h ⊢
  split at h
  ·exact h.elim
  ·exact ⟨_,_,h,fun K' hk=>hk,fun _=>Ex.app _ _⟩
 | buildSlice t len parts =>
  simp only[vcOp] at h ⊢
  split at h
  ·split at h
   ·rename_i ei hte
    split at h
    ·exact h.elim
    ·split at h
     ·cases hb:Nat.ble (len*ei.size) 16777216 && Nat.blt 0 ei.size with
      | false=>rw[hb] at h;exact h.elim
      | true =>
       rw[hb] at h
       obtain ⟨xs,h1,h2,h3,h4⟩:=h
       exact ⟨_,_,h4,fun K' hk=>⟨xs,h1,h2,h3,hk⟩,fun hm=>by cases hm⟩
     ·exact h.elim
   ·exact h.elim
  ·exact h.elim
 | makeSlice t l c =>
  simp only[vcOp] at h ⊢
  split at h
  ·split at h
   ·rename_i ei hte
    cases hb:Nat.blt 0 ei.size with
    | false=>rw[hb] at h;exact h.elim
    | true =>
     rw[hb] at h
     obtain ⟨len,cap,z,h1,h2,h3,h4,h5,h6,h7⟩:=h
     exact ⟨_,_,h7,fun K' hk=>⟨len,cap,z,h1,h2,h3,h4,h5,h6,hk⟩,fun _=>Ex.app _ _⟩
   ·exact h.elim
  ·exact h.elim
 | store t x y =>
  simp only[vcOp,vcStore] at h ⊢
  split at h
  ·exact h.elim
  ·rename_i i hi
   split at h
   ·exact h.elim
   ·rename_i ds hds
    cases hb:Nat.beq ds.length i.size with
    | false=>rw[hb] at h;exact h.elim
    | true =>
     rw[hb] at h
     simp only[cond_true] at h ⊢
     split at h
     ·split at h
      ·rename_i cs ty hj
       obtain ⟨hc,h⟩:=condE h
       exact ⟨_,_,h,fun K' hk=>condI hc hk,fun hm=>by cases hm⟩
      ·exact h.elim
     ·split at h
      ·obtain ⟨r,gs,h1,h2,h3,h4,h5⟩:=h
       exact ⟨_,_,h5,fun K' hk=>⟨r,gs,h1,h2,h3,h4,hk⟩,fun hm=>by cases hm⟩
      ·exact h.elim
     ·exact h.elim
 | call c =>
  obtain ⟨callee,args,ts⟩:=c
  cases callee with
  | builtin b =>
   cases b with
   | append =>
    simp only[vcOp] at h ⊢
    split at h
    ·rename_i t t' x y hts har
     cases hb:Nat.beq t t' with
     | false=>rw[hb] at h;exact h.elim
     | true =>
      rw[hb] at h
      simp only[cond_true] at h ⊢
      unfold vcAppend at h ⊢
      split at h
      ·split at h
       ·exact h.elim
       ·rename_i ei hte
        split at h
        ·exact h.elim
        ·cases hpos:Nat.blt 0 ei.size with
         | false=>rw[hpos] at h;exact h.elim
         | true =>
          rw[hpos] at h
          simp only[cond_true] at h ⊢
          split at h
          ·exact ⟨_,_,h.2,fun K' hk=>⟨h.1,hk⟩,fun _=>Ex.app _ _⟩
          ·rename_i i ex
           have hmut:mutating (Op.call { callee:=.builtin .append,args:=args,argTypes:=ts })=false→False:=by
            intro hm
            simp only[mutating,har] at hm
            split at hm
            ·rename_i e
             injection e with e1 e2
             subst e1
             exact ofV_row ex
            ·cases hm
           split at h
           ·obtain ⟨hc,h⟩:=condE h
            exact ⟨_,_,h.2,fun K' hk=>condI hc ⟨h.1,hk⟩,fun hm=>(hmut hm).elim⟩
           ·exact h.elim
          ·rename_i i n ex
           have hmut:mutating (Op.call { callee:=.builtin .append,args:=args,argTypes:=ts })=false→False:=by
            intro hm
            simp only[mutating,har] at hm
            split at hm
            ·rename_i e
             injection e with e1 e2
             subst e1
             exact ofV_rs ex
            ·cases hm
           split at h
           ·obtain ⟨hc,h⟩:=condE h
            exact ⟨_,_,h.2.2,fun K' hk=>condI hc ⟨h.1,h.2.1,hk⟩,fun hm=>(hmut hm).elim⟩
           ·exact h.elim
          ·exact h.elim
      ·exact h.elim
    ·exact h.elim
   | _=>cases ha
  | _=>cases ha
 | _=>cases ha
end
end Go.Dm
/-
  The second engine, eleventh part: states, regions in their order, and loops. It holds of every program whose table of types is met.
-/
namespace Go.Dm
open Go Go.Eng Go.RowKit

inductive X where
 | normal
 | exit (id:Nat)
 | ret
 | pan (d:D)
abbrev Post:=X→St→Prop

def GhostTo (G:Gl) (d:D) (h:Heap) (K:KD):Prop :=
 ∀ (C:Ctx) (w:World) (β:Nat→Value) (V:Nat→Prop) (v:Value),C.G=G→RelD C h β V w→RepD h β V w d v→∃ d' h' β' V',K d' h'∧RelD C h' β' V' w∧RepD h' β' V' w d' v∧LeH h β h' β'∧Moved V w V' w
def hookable (op:Op) (d:D):Bool :=
 match op with
 | .load _ _=>match d with
  | .g (.raw _)=>true
  | _=>false
 | .slice _ _ _ _ _=>match d with
  | .rs _ _ _=>true
  | _=>false
 | .store _ _ _=>true
 | .build _ _=>true
 | .call { callee:=.builtin .append,.. }=>true
 | _=>false
def preOp (G:Gl) (op:Op) (st:St) (X:St→Prop):Prop :=
 match op with
 | .buildSlice _ _ parts=>match parts.toList with
  | [(_,.tmp s)]=>match st.env s with
   | .ptr i o=>bif hasMany st.h then GhostTo G (.ptr i o) st.h (fun d' h'=>X ⟨st.env.set s d',h',st.df⟩) else X st
   | .row i=>bif hasMany st.h then GhostTo G (.row i) st.h (fun d' h'=>X ⟨st.env.set s d',h',st.df⟩) else X st
   | _=>X st
  | _=>X st
 | _=>X st
def runOp (P:Program) (T:Tab) (F:FuncId→Bool) (G:Gl) (op:Op) (dst:Option Nat) (st:St) (K:St→Prop) (Q:Post):Prop :=
 preOp G op st fun st=>match st with
 | ⟨env,h,df⟩=>vcOp P T F G op ⟨env,h,df⟩
   (fun d h=>orS (hookable op d && hasMany h) (forceD d fun d=>forceH h fun h=>match dst with | some i=>K ⟨env.set i d,h,df⟩ | none=>K ⟨env,h,df⟩)
    (GhostTo G d h fun d h=>forceD d fun d=>forceH h fun h=>match dst with | some i=>K ⟨env.set i d,h,df⟩ | none=>K ⟨env,h,df⟩))
   (fun d h=>Q (.pan d) ⟨env,h,df⟩)
def skipOp (dst:Option Nat) (st:St) (K:St→Prop):Prop :=
 match st with
 | ⟨env,h,df⟩=>match dst with | some i=>K ⟨env.set i (.tuple []),h,df⟩ | none=>K ⟨env,h,df⟩

def vcOne (P:Program) (T:Tab) (F:FuncId→Bool) (G:Gl) (all:Array Oper) (o:Oper) (st:St) (K:St→Prop) (Q:Post):Prop :=
 match o with
 | ⟨dst,op,_,_,_,none⟩=>runOp P T F G op dst st K Q
 | ⟨dst,op,_,_,_,some (j,b)⟩ =>
  match (all[j]?).bind (·.dst) with
  | none=>skipOp dst st K
  | some d =>
   match st.env d with
   | .g (.bool true)=>bif b then runOp P T F G op dst st K Q else skipOp dst st K
   | .g (.bool false)=>bif b then skipOp dst st K else runOp P T F G op dst st K Q
   | .tuple _=>skipOp dst st K
   | .pb p=>match st with
    | ⟨env,h,df⟩=>bif b
     then (p→runOp P T F G op dst ⟨env.set d (.g (.bool true)),h,df⟩ K Q)∧(¬p→skipOp dst ⟨env.set d (.g (.bool false)),h,df⟩ K)
     else (p→skipOp dst ⟨env.set d (.g (.bool true)),h,df⟩ K)∧(¬p→runOp P T F G op dst ⟨env.set d (.g (.bool false)),h,df⟩ K Q)
   | .pn p=>match st with
    | ⟨env,h,df⟩=>bif b
     then (¬p→runOp P T F G op dst ⟨env.set d (.g (.bool true)),h,df⟩ K Q)∧(p→skipOp dst ⟨env.set d (.g (.bool false)),h,df⟩ K)
     else (¬p→skipOp dst ⟨env.set d (.g (.bool true)),h,df⟩ K)∧(p→runOp P T F G op dst ⟨env.set d (.g (.bool false)),h,df⟩ K Q)
   | _=>False

def vcOps (P:Program) (T:Tab) (F:FuncId→Bool) (G:Gl) (all:Array Oper) (K:St→Prop) (Q:Post) (l:List Oper):St→Prop :=
 List.rec (motive:=fun _=>St→Prop) K (fun o _ next st=>vcOne P T F G all o st next Q) l

def mods:Code→List Nat
 | .region _ ops _=>ops.toList.filterMap (·.dst)
 | .seq a b=>mods a++mods b
 | .cond _ a b=>mods a++mods b
 | .block _ a=>mods a
 | .loop a=>mods a
 | _=>[]
def okCode:Code→Bool
 | .region _ _ _=>true
 | .seq a b=>okCode a && okCode b
 | .cond _ a b=>okCode a && okCode b
 | .block _ a=>okCode a
 | .loop a=>okCode a
 | .skip | .exit _ | .ret=>true
 | _=>false
def inL:List Nat→Nat→Bool
 | [],_=>false
 | a :: l,k=>bif Nat.beq a k then true else inL l k
def allLt (n:Nat):List Nat→Bool
 | []=>true
 | a :: l=>Nat.blt a n && allLt n l

theorem inL_iff:∀ {l:List Nat} {k:Nat},inL l k=true↔k∈l
 | [],k=>by simp[inL]
 | a :: l,k=>by
  simp only[inL,List.mem_cons]
  cases h:Nat.beq a k with
  | true=>simp[Nat.eq_of_beq_eq_true h]
  | false =>
   simp only[cond_false];rw[inL_iff]
   have:¬ k=a:=fun e=>by rw[e,Nat.beq_refl] at h;cases h
   simp[this]

def Rel (C:Ctx) (n:Nat) (st:St) (a:Act) (w:World):Prop :=
 a.tmps.size=n∧a.defers=st.df∧∃ β V,RelD C st.h β V w∧EnvOk st β V w a

def Base (C:Ctx) (st:St) (S:List Nat) (a:Act):Prop :=
 (∀ k,C.V0 k→¬ C.own k)∧(∀ k,C.V0 k→k < C.w0.heap.size)∧∃ a0 β0,EnvOk st β0 C.V0 C.w0 a0∧∀ k,inL S k=false→a.tmps.getD k undef=a0.tmps.getD k undef

def LoopP (G:Gl) (n:Nat) (B:St→Post→Prop) (S:List Nat) (st:St) (Q:Post):Prop :=
 ∃ (ι:Type) (I:ι→St→Prop) (μ:ι→Nat),
  (∀ C a w,C.G=G→Rel C n st a w→∃ i st1,Rel C n st1 a w∧I i st1) ∧
  (∀ i st1,I i st1→B st1 (fun e st'=>match e with
   | .normal=>∀ C a w,C.G=G→Rel C n st' a w→Base C st S a→∃ i' st2,Rel C n st2 a w∧I i' st2∧μ i' < μ i
   | e=>Q e st'))

theorem rebase {C:Ctx} {h:Heap} {β:Nat→Value} {V:Nat→Prop} {w:World} (hr:RelD C h β V w) {h':Heap} {β':Nat→Value} {V':Nat→Prop} {w':World}
  (hc:RelD ⟨w,fun k=>∃ i o,h[i]?=some o∧o.live=true∧Bk o (β i) k,V,C.G⟩ h' β' V' w'):RelD C h' β' V' w':=by
 refine ⟨hc.obj,hc.sep,fun i o k hi hl hk=>?_,hc.vout,hc.vlt,fun k hk=>hc.vin k (hr.vin k hk),fun k hk=>?_,?_,hc.gl⟩
 ·rcases hc.mine i o k hi hl hk with h1 | ⟨j,o',g1,g2,g3⟩
  ·exact .inl (Nat.le_trans hr.fr.size h1)
  ·exact hr.mine j o' k g1 g2 g3
 ·rcases hc.vnew k hk with h1 | h1 | ⟨j,o',g1,g2,g3⟩
  ·exact hr.vnew k h1
  ·exact .inr (.inl (Nat.le_trans hr.fr.size h1))
  ·exact .inr (hr.mine j o' k g1 g2 g3)
 ·refine ⟨hc.fr.os.trans hr.fr.os,hc.fr.tape.trans hr.fr.tape,hc.fr.output.trans hr.fr.output,Nat.le_trans hr.fr.size hc.fr.size,fun k hk hn=>?_⟩
  rw[hc.fr.block k (Nat.lt_of_lt_of_le hk hr.fr.size) ?_]
  ·exact hr.fr.block k hk hn
  ·rintro ⟨j,o',g1,g2,g3⟩
   rcases hr.mine j o' k g1 g2 g3 with h1 | h1
   ·omega
   ·exact hn h1
theorem base_start {C:Ctx} {h:Heap} {β:Nat→Value} {V:Nat→Prop} {w:World} (hr:RelD C h β V w):RelD ⟨w,fun k=>∃ i o,h[i]?=some o∧o.live=true∧Bk o (β i) k,V,C.G⟩ h β V w :=
 ⟨hr.obj,hr.sep,fun i o _ hi hl hk=>.inr ⟨i,o,hi,hl,hk⟩,hr.vout,hr.vlt,fun _ hk=>hk,fun _ hk=>.inl hk,Fr.refl _ _,hr.gl⟩

section
variable {P:Program} {T:Tab} {F:FuncId→Bool} {C:Ctx} {n:Nat}

def XOk (e:Exit) (x:X) (st:St) (a:Act) (w:World) (C:Ctx) (n:Nat):Prop :=
 match e,x with
 | .normal,.normal=>Rel C n st a w
 | .exit i,.exit j=>i=j∧Rel C n st a w
 | .ret,.ret=>Rel C n st a w
 | .panic ch,.pan d=>∃ t u,ch=[{ v:=.iface t u,recovered:=false }]∧a.tmps.size=n∧a.defers=st.df∧∃ β V,RelD C st.h β V w∧EnvOk st β V w a∧RepD st.h β V w d (.iface t u)
 | _,_=>False

def Keeps (S:List Nat) (a a':Act):Prop:=∀ k,inL S k=false→a'.tmps.getD k undef=a.tmps.getD k undef
theorem Keeps.refl (S:List Nat) (a:Act):Keeps S a a:=fun _ _=>rfl
theorem Keeps.trans {S:List Nat} {a b c:Act} (h:Keeps S a b) (k:Keeps S b c):Keeps S a c:=fun i hi=>(k i hi).trans (h i hi)
theorem Keeps.put {S:List Nat} {a:Act} {dst:Option Nat} (h:∀ d,dst=some d→inL S d=true) (v:Value):Keeps S a (a.put dst v):=by
 intro k hk
 cases dst with
 | none=>rfl
 | some d =>
  have hne:d≠k:=fun e=>by subst e;rw[h d rfl] at hk;cases hk
  show (a.tmps.setIfInBounds d v).getD k undef=_
  simp only[Array.getD_eq_getD_getElem?,Array.getElem?_setIfInBounds]
  rw[if_neg hne]

theorem env_put {st:St} {h':Heap} {β β':Nat→Value} {V V':Nat→Prop} {w w':World} {a:Act} (he:EnvOk st β V w a) (hsz:a.tmps.size=n) (hle:LeH st.h β h' β') (hm:Moved V w V' w') {i:Nat} (hi:i < n) {d:D} {v:Value} (hd:RepD h' β' V' w' d v) (df:List Deferred) :
  EnvOk ⟨st.env.set i d,h',df⟩ β' V' w' (a.put (some i) v):=by
 intro k
 show RepD h' β' V' w' (bif Nat.beq k i then d else st.env k) ((a.tmps.setIfInBounds i v).getD k undef)
 by_cases hk:k=i
 ·subst hk
  rw[Nat.beq_refl]
  have hlt:k < a.tmps.size:=by rw[hsz];exact hi
  simp only[cond_true,Array.getD,Array.size_setIfInBounds,hlt]
  simpa using hd
 ·rw[beq_ne hk]
  have h2:(a.tmps.setIfInBounds i v).getD k undef=a.tmps.getD k undef:=by
   simp only[Array.getD_eq_getD_getElem?,Array.getElem?_setIfInBounds]
   rw[if_neg (fun e=>hk e.symm)]
  rw[h2]
  exact RepD.mono hle hm _ _ (he k)
theorem env_setE {st:St} {β:Nat→Value} {V:Nat→Prop} {w:World} {a:Act} (he:EnvOk st β V w a) {i:Nat} {d:D} (hd:RepD st.h β V w d (a.tmps.getD i undef)):EnvOk ⟨st.env.set i d,st.h,st.df⟩ β V w a:=by
 intro k
 show RepD st.h β V w (bif Nat.beq k i then d else st.env k) (a.tmps.getD k undef)
 by_cases hk:k=i
 ·subst hk
  rw[Nat.beq_refl]
  exact hd
 ·rw[beq_ne hk]
  exact he k

theorem pre_sound {op:Op} {st:St} {a:Act} {w:World} {X:St→Prop} {β:Nat→Value} {V:Nat→Prop} (hr:RelD C st.h β V w) (he:EnvOk st β V w a) (h:preOp C.G op st X) :
  ∃ st1 β1 V1,X st1∧st1.df=st.df∧RelD C st1.h β1 V1 w∧EnvOk st1 β1 V1 w a:=by
 have no:X st→∃ st1 β1 V1,X st1∧st1.df=st.df∧RelD C st1.h β1 V1 w∧EnvOk st1 β1 V1 w a:=fun h=>⟨st,β,V,h,rfl,hr,he⟩
 unfold preOp at h
 split at h
 ·split at h
  ·rename_i s _
   split at h
   ·rename_i i o e
    cases hm:hasMany st.h with
    | false=>rw[hm] at h;exact no h
    | true =>
     rw[hm] at h
     have hs:=he s
     rw[e] at hs
     obtain ⟨d',h',β',V',k1,k2,k3,k4,k5⟩:=h C w β V _ rfl hr hs
     refine ⟨_,β',V',k1,rfl,k2,fun k=>?_⟩
     show RepD h' β' V' w (bif Nat.beq k s then d' else st.env k) (a.tmps.getD k undef)
     by_cases hk:k=s
     ·subst hk;rw[Nat.beq_refl];exact k3
     ·rw[beq_ne hk];exact RepD.mono k4 k5 _ _ (he k)
   ·rename_i i e
    cases hm:hasMany st.h with
    | false=>rw[hm] at h;exact no h
    | true =>
     rw[hm] at h
     have hs:=he s
     rw[e] at hs
     obtain ⟨d',h',β',V',k1,k2,k3,k4,k5⟩:=h C w β V _ rfl hr hs
     refine ⟨_,β',V',k1,rfl,k2,fun k=>?_⟩
     show RepD h' β' V' w (bif Nat.beq k s then d' else st.env k) (a.tmps.getD k undef)
     by_cases hk:k=s
     ·subst hk;rw[Nat.beq_refl];exact k3
     ·rw[beq_ne hk];exact RepD.mono k4 k5 _ _ (he k)
   ·exact no h
  ·exact no h
 ·exact no h
theorem run_sound (hT:TabOk P T) (hF:∀ g,F g=true→fnOk P g=true) {o:Oper} {st:St} {a:Act} {w:World} {K:St→Prop} {Q:Post} {next:Act→World→Prop} {Qa:Exit→Act→World→Prop}
  (hsz:a.tmps.size=n) (hdf:a.defers=st.df) {β:Nat→Value} {V:Nat→Prop} (hr:RelD C st.h β V w) (he:EnvOk st β V w a) (hd:∀ d,o.dst=some d→d < n) (h:runOp P T F C.G o.op o.dst st K Q)
  (hK:∀ st' v w',K st'→Rel C n st' (a.put o.dst v) w'→next (a.put o.dst v) w') (hQ:∀ d st' ch w',Q (.pan d) st'→XOk (.panic ch) (.pan d) st' a w' C n→Qa (.panic ch) a w'):o.wp P a w next Qa:=by
 unfold runOp at h
 obtain ⟨st1,β1,V1,h,hdf1,hr,he⟩:=pre_sound hr he h
 rw[← hdf1] at hdf
 obtain ⟨env,hp,df⟩:=st1
 simp only[forceD_eq,forceH_eq] at h
 refine OpRun.wp (op_soundD (st:=⟨env,hp,df⟩) hT hF h hr he ?_ ?_)
 ·intro d h' v w' β' V' hk hr' hd' hle hm
  have hszp:(a.put o.dst v).tmps.size=n:=by
   cases o.dst with
   | none=>exact hsz
   | some i=>simp[Act.put,hsz]
  have hdfp:(a.put o.dst v).defers=df:=by
   cases o.dst with
   | none=>exact hdf
   | some i=>exact hdf
  have fin:∀ (d:D) (h':Heap) (β':Nat→Value) (V':Nat→Prop),(match o.dst with | some i=>K ⟨env.set i d,h',df⟩ | none=>K ⟨env,h',df⟩)→RelD C h' β' V' w'→RepD h' β' V' w' d v→LeH hp β1 h' β'→Moved V1 w V' w'→next (a.put o.dst v) w':=by
   intro d h' β' V' hk hr' hd' hle hm
   cases hdst:o.dst with
   | none =>
    rw[hdst] at hk hszp hdfp
    refine hdst▸hK ⟨env,h',df⟩ v w' hk (by rw[hdst];exact ⟨hszp,hdfp,β',V',hr',fun k=>RepD.mono hle hm _ _ (he k)⟩)
   | some i =>
    rw[hdst] at hk hszp hdfp
    refine hdst▸hK ⟨env.set i d,h',df⟩ v w' hk (by rw[hdst];exact ⟨hszp,hdfp,β',V',hr',env_put he hsz hle hm (hd i hdst) hd' df⟩)
  rcases orS_get hk with hk | hk
  ·exact fin d h' β' V' hk hr' hd' hle hm
  ·obtain ⟨d2,h2,β2,V2,k1,k2,k3,k4,k5⟩:=hk C w' β' V' v rfl hr' hd'
   exact fin d2 h2 β2 V2 k1 k2 k3 (hle.trans k4) (hm.trans k5)
 ·intro d h' t u w' β' V' hq hr' hd' hle hm
  exact hQ d ⟨env,h',df⟩ _ w' hq ⟨t,u,rfl,hsz,hdf,β',V',hr',fun k=>RepD.mono hle hm _ _ (he k),hd'⟩

theorem yielded_val {a:Act} {ops:Array Oper} {j d:Nat} (hj:(ops[j]?).bind (·.dst)=some d) :
  yielded ops a.tmps j=(match a.tmps.getD d undef with | .bool b=>some b | _=>none):=by
 unfold yielded
 rw[hj]
 simp only[Option.bind_some]
 rw[Array.getD_eq_getD_getElem?]
 cases hd:a.tmps[d]? with
 | none=>simp only[Option.getD_none];rfl
 | some v=>simp only[Option.getD_some];cases v<;>rfl

theorem one_sound (hT:TabOk P T) (hF:∀ g,F g=true→fnOk P g=true) {all:Array Oper} {o:Oper} {st:St} {a:Act} {w:World} {K:St→Prop} {Q:Post} {next:Act→World→Prop} {Qa:Exit→Act→World→Prop}
  (hr:Rel C n st a w) (hd:∀ d,o.dst=some d→d < n) (h:vcOne P T F C.G all o st K Q)
  (hK:∀ st' v w',K st'→Rel C n st' (a.put o.dst v) w'→next (a.put o.dst v) w') (hQ:∀ d st' ch w',Q (.pan d) st'→XOk (.panic ch) (.pan d) st' a w' C n→Qa (.panic ch) a w') :
  StepW P all o a w next Qa:=by
 obtain ⟨hsz,hdf,β,V,hrel,he⟩:=hr
 have run:∀ st0:St,st0.df=st.df→st0.h=st.h→EnvOk st0 β V w a→runOp P T F C.G o.op o.dst st0 K Q→o.wp P a w next Qa:=by
  intro st0 h1 h2 h3 h4
  exact run_sound hT hF hsz (by rw[h1];exact hdf) (by rw[h2];exact hrel) h3 hd h4 hK hQ
 have skip:∀ st0:St,st0.df=st.df→st0.h=st.h→EnvOk st0 β V w a→skipOp o.dst st0 K→next (a.put o.dst undef) w:=by
  intro st0 h1 h2 h3 h4
  obtain ⟨env,hp,df⟩:=st0
  simp only at h1 h2
  subst h1
  subst h2
  simp only[skipOp] at h4
  have hszp:(a.put o.dst undef).tmps.size=n:=by
   cases o.dst with
   | none=>exact hsz
   | some i=>simp[Act.put,hsz]
  have hdfp:(a.put o.dst undef).defers=st.df:=by
   cases o.dst with
   | none=>exact hdf
   | some i=>exact hdf
  cases hdst:o.dst with
  | none =>
   rw[hdst] at h4 hszp hdfp
   exact hdst▸hK _ undef w h4 (by rw[hdst];exact ⟨hszp,hdfp,β,V,hrel,h3⟩)
  | some i =>
   rw[hdst] at h4 hszp hdfp
   exact hdst▸hK _ undef w h4 (by rw[hdst];exact ⟨hszp,hdfp,β,V,hrel,env_put h3 hsz (LeH.refl _ _) (Moved.refl _ _) (hd i hdst) (by simp only[RepD];exact ⟨[],rfl,by simp[RepDL]⟩) _⟩)
 obtain ⟨dst,op,ty,pos,aft,guard⟩:=o
 unfold StepW
 cases guard with
 | none =>
  have h:runOp P T F C.G op dst st K Q:=h
  rw[if_pos (by simp[Region.wanted])]
  exact run st rfl rfl he h
 | some g =>
  obtain ⟨j,b⟩:=g
  simp only[vcOne] at h
  have hwant:Region.wanted ⟨dst,op,ty,pos,aft,some (j,b)⟩ (yielded all a.tmps)=(yielded all a.tmps j == some b):=by simp[Region.wanted]
  rw[hwant]
  split at h
  ·rename_i hnone
   have:yielded all a.tmps j=none:=by unfold yielded;rw[hnone];rfl
   rw[this,if_neg (by simp)]
   exact skip st rfl rfl he h
  ·rename_i d hsome
   have hy:=yielded_val (a:=a) hsome
   rw[hy]
   have hed:=he d
   split at h
   ·rename_i e
    rw[e] at hed
    simp only[RepD,RepV] at hed
    rw[hed]
    cases b with
    | true=>rw[if_pos (by simp)];exact run st rfl rfl he h
    | false=>rw[if_neg (by simp)];exact skip st rfl rfl he h
   ·rename_i e
    rw[e] at hed
    simp only[RepD,RepV] at hed
    rw[hed]
    cases b with
    | true=>rw[if_neg (by simp)];exact skip st rfl rfl he h
    | false=>rw[if_pos (by simp)];exact run st rfl rfl he h
   ·rename_i e
    rw[e] at hed
    simp only[RepD] at hed
    obtain ⟨us,hv,_⟩:=hed
    rw[hv,if_neg (by simp)]
    exact skip st rfl rfl he h
   ·rename_i p e
    rw[e] at hed
    simp only[RepD] at hed
    obtain ⟨c,hv,hc⟩:=hed
    obtain ⟨env,hp,df⟩:=st
    have hset:∀ c':Bool,c'=c→EnvOk ⟨env.set d (.g (.bool c')),hp,df⟩ β V w a:=fun c' hcc=>env_setE (st:=⟨env,hp,df⟩) he (by simp only[RepD,RepV];rw[hcc];exact hv)
    rw[hv]
    cases c with
    | true =>
     have hpp:=hc.1 rfl
     cases b with
     | true=>rw[if_pos (by simp)];exact run ⟨env.set d (.g (.bool true)),hp,df⟩ rfl rfl (hset true rfl) (h.1 hpp)
     | false=>rw[if_neg (by simp)];exact skip ⟨env.set d (.g (.bool true)),hp,df⟩ rfl rfl (hset true rfl) (h.1 hpp)
    | false =>
     have hpp:¬ p:=fun hp=>by have:=hc.2 hp;cases this
     cases b with
     | true=>rw[if_neg (by simp)];exact skip ⟨env.set d (.g (.bool false)),hp,df⟩ rfl rfl (hset false rfl) (h.2 hpp)
     | false=>rw[if_pos (by simp)];exact run ⟨env.set d (.g (.bool false)),hp,df⟩ rfl rfl (hset false rfl) (h.2 hpp)
   ·rename_i p e
    rw[e] at hed
    simp only[RepD] at hed
    obtain ⟨c,hv,hc⟩:=hed
    obtain ⟨env,hp,df⟩:=st
    have hset:∀ c':Bool,c'=c→EnvOk ⟨env.set d (.g (.bool c')),hp,df⟩ β V w a:=fun c' hcc=>env_setE (st:=⟨env,hp,df⟩) he (by simp only[RepD,RepV];rw[hcc];exact hv)
    rw[hv]
    cases c with
    | true =>
     have hpp:=hc.1 rfl
     cases b with
     | true=>rw[if_pos (by simp)];exact run ⟨env.set d (.g (.bool true)),hp,df⟩ rfl rfl (hset true rfl) (h.1 hpp)
     | false=>rw[if_neg (by simp)];exact skip ⟨env.set d (.g (.bool true)),hp,df⟩ rfl rfl (hset true rfl) (h.1 hpp)
    | false =>
     have hpp:p:=Classical.not_not.1 (fun hp=>by have:=hc.2 hp;cases this)
     cases b with
     | true=>rw[if_neg (by simp)];exact skip ⟨env.set d (.g (.bool false)),hp,df⟩ rfl rfl (hset false rfl) (h.2 hpp)
     | false=>rw[if_pos (by simp)];exact run ⟨env.set d (.g (.bool false)),hp,df⟩ rfl rfl (hset false rfl) (h.2 hpp)
   ·exact h.elim

theorem ops_sound (hT:TabOk P T) (hF:∀ g,F g=true→fnOk P g=true) {all:Array Oper} {S:List Nat} {K:St→Prop} {Q:Post} {Qa:Exit→Act→World→Prop} {a0:Act}
  (hK:∀ st a w,K st→Rel C n st a w→Keeps S a0 a→Qa .normal a w) (hQ:∀ d st ch a w,Q (.pan d) st→XOk (.panic ch) (.pan d) st a w C n→Keeps S a0 a→Qa (.panic ch) a w) :
  ∀ (l:List Oper),(∀ o∈l,∀ d,o.dst=some d→d < n∧inL S d=true)→∀ (st:St) (a:Act) (w:World),vcOps P T F C.G all K Q l st→Rel C n st a w→Keeps S a0 a→wpList P all Qa l a w:=by
 intro l
 induction l with
 | nil=>intro _ st a w h hr hk;exact hK st a w h hr hk
 | cons o r ih =>
  intro hl st a w h hr hk
  have hput:∀ v,Keeps S a0 (a.put o.dst v):=fun v=>hk.trans (Keeps.put (fun d hd=>(hl o List.mem_cons_self d hd).2) v)
  have:=one_sound (next:=wpList P all Qa r) (Qa:=Qa) hT hF hr (fun d hd=>(hl o List.mem_cons_self d hd).1) h
   (fun st' v w' hk' hr'=>ih (fun o ho=>hl o (List.mem_cons_of_mem _ ho)) st' _ w' hk' hr' (hput v)) (fun d st' ch w' hq hx=>hQ d st' ch a w' hq hx hk)
  unfold StepW at this
  unfold wpList
  split
  ·rename_i hw
   rw[if_pos hw] at this
   exact .inl this
  ·rename_i hw
   rw[if_neg hw] at this
   exact this

theorem allLt_mem {n:Nat}:∀ {l:List Nat},allLt n l=true→∀ k∈l,k < n
 | [],_,k,hk=>by simp at hk
 | a :: l,h,k,hk=>by
  simp only[allLt,Bool.and_eq_true] at h
  rcases List.mem_cons.1 hk with rfl | hk
  ·exact Nat.le_of_ble_eq_true h.1
  ·exact allLt_mem h.2 k hk

end
end Go.Dm
