/-
  The second engine, regions that draw their order, third part: what such a region asks, and that it suffices whatever the order. It holds of every program.
-/
import Derived.Test.YtijdegmamdhcbaaDoorDa2
namespace Go.Dm
open Go Go.Eng Go.RowKit

def nthD {α:Type} (z:α):List α→Nat→α
 | [],_=>z
 | a :: _,0=>a
 | _ :: l,n+1=>nthD z l n
class CA where
 b:Bool
 fl:Bool
 ms:Bool
 bs:Bool
def isCallV:Op→Bool
 | .call { callee:=.value _,.. }=>true
 | _=>false
def isAl:Op→Bool
 | .alloc _=>true
 | _=>false
def isMk:Op→Bool
 | .makeSlice _ _ _=>true
 | _=>false
def isBl:Op→Bool
 | .buildSlice _ _ _=>true
 | _=>false
def qMk [CA] (o:Op):Bool:=(CA.ms && isMk o) || (CA.bs && isBl o)
def actv [CA] (o:Op):Bool:=(active o && !(CA.fl && isAl o) && !qMk o) || (CA.b && isCallV o)
def isFl [CA] (o:Oper):Bool:=CA.fl && isAl o.op && (match o.guard with | none=>true | _=>false)
def uniqD:List Oper→Nat→Nat→Bool
 | [],_,c=>Nat.beq c 1
 | o :: l,s,c=>uniqD l s (match o.dst with | some d=>bif Nat.beq d s then c+1 else c | none=>c)
def hasDst:Option Nat→Bool
 | some _=>true
 | none=>false
def allocT (T:Tab):Op→Bool
 | .alloc t=>match T t with | some _=>true | none=>false
 | _=>false
def dstU (all:Array Oper):Option Nat→Bool
 | some s=>uniqD all.toList s 0
 | none=>false
theorem act_false [CA] {o:Op} (h:actv o=false) (hn:(CA.fl && isAl o)=false) (hm:qMk o=false):active o=false:=by
 unfold actv at h
 cases ha:active o with
 | true=>rw[ha,hn,hm] at h;cases h
 | false=>rfl
theorem isFl_na [CA] {o:Oper} (h:isFl o=true):actv o.op=false∧o.guard=none∧isAl o.op=true:=by
 unfold isFl at h
 simp only[Bool.and_eq_true] at h
 obtain ⟨⟨h1,h2⟩,h3⟩:=h
 refine ⟨?_,?_,h2⟩
 ·unfold actv
  rw[h1,h2]
  cases ho:o.op with
  | alloc t=>simp[isCallV]
  | _=>rw[ho] at h2;cases h2
 ·split at h3
  ·assumption
  ·cases h3
def frq (z:Bool) (n:Nat) (d:D) (h:Heap) (K:KD):Prop:=bif z then (∃ h0 xs e sz,h=h0++[Obj.row xs e sz]∧d=.row h0.length∧h0.length=n∧K (.g (.sl sz xs)) h0) else K d h
def vcMk (P:Program) (T:Tab) (F:FuncId→Bool) (G:Gl) (o:Op) (st:St) (K:D→Prop):Prop :=
 vcOp P T F G o ⟨st.env,[],st.df⟩ (fun _ h=>match h with
  | [.row xs _ sz]=>K (.g (.sl sz xs))
  | _=>False) (fun _ _=>False)
theorem seesN_ids:∀ {cs:List D} {ys:List GV},SeesL [] cs ys→idsL cs=[]
 | [],_,_=>rfl
 | d :: cs,[],h=>by simp only[SeesL] at h
 | d :: cs,y :: ys,h=>by
  simp only[SeesL] at h
  have h2:=seesN_ids h.2
  have h1:=h.1
  simp only[idsL,h2,List.append_nil]
  cases d<;>first | rfl | (simp[Sees] at h1)
theorem seesN_mono {h':Heap}:∀ {cs:List D} {ys:List GV},SeesL [] cs ys→SeesL h' cs ys
 | [],[],_=>trivial
 | [],_ :: _,h=>by simp only[SeesL] at h
 | d :: cs,[],h=>by simp only[SeesL] at h
 | d :: cs,y :: ys,h=>by
  simp only[SeesL] at h ⊢
  refine ⟨?_,seesN_mono h.2⟩
  have h1:=h.1
  cases d<;>first | exact h1 | (simp[Sees] at h1)
theorem flat1N_mono {h':Heap} {d:D} (h:flat1 [] d=true):flat1 h' d=true:=by
 cases d<;>first | exact h | (simp[flat1] at h)
theorem flatDN_mono {h':Heap}:∀ {cs:List D},flatD [] cs=true→flatD h' cs=true
 | [],_=>rfl
 | d :: cs,h=>by
  simp only[flatD,Bool.and_eq_true] at h ⊢
  exact ⟨flat1N_mono h.1,flatDN_mono h.2⟩
theorem cellsDN_mono {h':Heap} {d:D} {ds:List D} (h:cellsD [] d=some ds):cellsD h' d=some ds:=by
 have one:∀ d:D,(bif flat1 [] d then some [d] else none)=some ds→(bif flat1 h' d then some [d] else none)=some ds:=fun d h=>by
  cases hf:flat1 [] d with
  | true=>rw[hf] at h;rw[flat1N_mono hf];exact h
  | false=>rw[hf] at h;cases h
 cases d with
 | agg cs =>
  simp only[cellsD] at h ⊢
  cases hf:flatD [] cs with
  | true=>rw[hf] at h;rw[flatDN_mono hf];exact h
  | false=>rw[hf] at h;cases h
 | _=>(simp only[cellsD] at h ⊢;exact one _ h)
theorem partsDN_mono {h':Heap} {f:Operand→D}:∀ {l:List (Nat × Operand)} {ps:List (Nat × List D)},partsD [] f l=some ps→partsD h' f l=some ps
 | [],_,h=>h
 | (i,o) :: l,ps,h=>by
  simp only[partsD] at h ⊢
  split at h
  ·rename_i ds r e1 e2
   rw[cellsDN_mono e1,partsDN_mono e2]
   exact h
  ·cases h
theorem vcMk_one [CA] {P:Program} {T:Tab} {F:FuncId→Bool} {G:Gl} {o:Op} {st:St} {K:D→Prop} (hm:qMk o=true) (h:vcMk P T F G o st K):∃ d,K d∧∀ (h':Heap) (K':KD),K' d h'→vcOp P T F G o ⟨st.env,h',st.df⟩ (fun d h=>frq true h'.length d h K') (fun _ _=>False):=by
 have hmk:isMk o=true∨isBl o=true:=by
  unfold qMk at hm
  simp only[Bool.or_eq_true,Bool.and_eq_true] at hm
  rcases hm with hm | hm
  ·exact .inl hm.2
  ·exact .inr hm.2
 unfold vcMk at h
 have svf:∀ (h':Heap),sv G ⟨st.env,h',st.df⟩=sv G st:=fun h'=>funext (fun x=>by cases x<;>rfl)
 cases o with
 | makeSlice t l c =>
  simp only[vcOp,svf] at h ⊢
  split at h
  ·split at h
   ·rename_i ei hte
    cases hb:Nat.blt 0 ei.size with
    | false=>rw[hb] at h;exact h.elim
    | true =>
     rw[hb] at h
     obtain ⟨len,cap,z,h1,h2,h3,h4,h5,h6,h7⟩:=h
     exact ⟨_,h7,fun h' K' hk=>⟨len,cap,z,h1,h2,h3,h4,h5,h6,h',_,_,_,rfl,rfl,rfl,hk⟩⟩
   ·exact h.elim
  ·exact h.elim
 | buildSlice t len parts =>
  simp only[vcOp,svf] at h ⊢
  split at h
  ·rename_i e he
   split at h
   ·rename_i ei hte
    split at h
    ·cases h
    ·rename_i ps hps
     split at h
     ·rename_i cs hcs
      cases hb:(Nat.ble (len*ei.size) 16777216 && Nat.blt 0 ei.size) with
      | false=>rw[hb] at h;exact h.elim
      | true =>
       rw[hb] at h
       obtain ⟨xs,h1,h2,h3,h4⟩:=h
       have hi:=seesN_ids h3
       rw[hi] at h4
       refine ⟨_,h4,fun h' K' hk=>?_⟩
       simp only[partsDN_mono (h':=h') hps,hcs]
       exact ⟨xs,h1,h2,seesN_mono h3,h',xs,_,_,by rw[hi];rfl,rfl,rfl,hk⟩
     ·exact h.elim
   ·exact h.elim
  ·exact h.elim
 | _=>rcases hmk with hmk | hmk<;>cases hmk
def vcCallA (P:Program) (F:FuncId→Bool) (G:Gl) (f:Operand) (args:Array Operand) (st:St) (K:KD):Prop :=
 match sv G st f with
 | .fn g fs cs=>bif F g then forceDL (fs++(args.toList.map (sv G st)++cs)) fun all =>
   ∃ es d0 h0,likeA (all.map (conv st.h [] 4)) es∧CT P G g es (fun o=>o=.ret d0 h0)∧(isNil (idsL all)=true)∧K (sh st.h.length 4 d0) (after st.h [] d0 h0) else False
 | _=>False
def vcA (P:Program) (T:Tab) (F:FuncId→Bool) (G:Gl) (o:Op) (st:St) (K:KD):Prop :=
 match o with
 | .call { callee:=.value f,args,.. }=>vcCallA P F G f args st K
 | o=>vcOp P T F G o st K (fun _ _=>False)
theorem act_one [CA] {P:Program} {T:Tab} {F:FuncId→Bool} {G:Gl} {o:Op} {st:St} {K:KD} (ha:actv o=true) (h:vcA P T F G o st K):∃ d h1,K d h1∧(∀ K':KD,K' d h1→vcOp P T F G o st K' (fun _ _=>False))∧(mutating o=false→Ex st.h h1):=by
 unfold vcA at h
 split at h
 ·rename_i f args ts
  unfold vcCallA at h
  split at h
  ·rename_i g fs cs ef
   cases hg:F g with
   | false=>rw[hg] at h;exact h.elim
   | true =>
    rw[hg] at h
    simp only[cond_true,forceDL_eq] at h
    obtain ⟨es,d0,h0,h1,h2,h3,h4⟩:=h
    have hi:idsL (fs++(args.toList.map (sv G st)++cs))=[]:=by
     cases hi:idsL (fs++(args.toList.map (sv G st)++cs)) with
     | nil=>rfl
     | cons x l=>rw[hi] at h3;cases h3
    refine ⟨_,_,h4,fun K' hk=>?_,fun _=>?_⟩
    ·simp only[vcOp,ef,hg,cond_true,forceDL_eq]
     refine orS_l ⟨es,_,h1,h2,fun d' h'' hq=>?_,fun d' hq=>(by cases hq)⟩
     injection hq with e1 e2
     subst e1;subst e2
     rw[hi]
     exact hk
    ·unfold after
     cases memFree 4 d0 && isNil h0 with
     | true=>exact Ex.refl _
     | false=>exact Ex.app _ _
  ·exact h.elim
 ·rename_i hne
  refine active_one ?_ h
  unfold actv at ha
  cases hac:active o with
  | true=>rfl
  | false =>
   rw[hac] at ha
   simp only[Bool.false_and,Bool.false_or,Bool.and_eq_true] at ha
   exfalso
   obtain ⟨_,ha⟩:=ha
   unfold isCallV at ha
   split at ha
   ·rename_i f args ts;exact hne f args ts rfl
   ·cases ha
def edgesOf (o:Oper):List Nat:=o.after.toList.filterMap fun e=>match e.ground with
 | .textOnly _=>none
 | .gcOnly _=>none
 | _=>some e.on
def rowOf (acc:List Nat):List Nat→Nat
 | []=>0
 | j :: l=>(2 ^ j) ||| (nthD 0 acc j) ||| rowOf acc l
def isBld:Op→Bool
 | .buildSlice _ _ _=>true
 | _=>false
def isLite:Option Nat→Bool
 | some p=>Nat.ble 2000 p
 | none=>false
def isFree:Option Nat→Bool
 | some p=>Nat.ble 5000 p
 | none=>false
def mutat (lt:Option Nat) (o:Op):Bool:=mutating o && !(isLite lt && isBld o)
def hpl (lt:Option Nat) (o:Op):Bool:=heapless o || isFree lt
def liteOk (c:Bool) (h0 h:Heap) (X:Prop):Prop:=bif c then (∃ k,h=h0++k)∧X else X
theorem liteOk_X {c:Bool} {h0 h:Heap} {X:Prop} (hx:liteOk c h0 h X):X:=by
 cases c with
 | true=>exact hx.2
 | false=>exact hx
def hplF [CA] (lt:Option Nat) (o:Oper):Bool:=hpl lt o.op || isFl o
def confl [CA] (lt:Option Nat) (all:Array Oper) (o p:Oper):Bool :=
 (match o.dst with | some d=>inL (p.looksAt all) d || (match p.dst with | some e=>Nat.beq d e | none=>false) | none=>false) ||
 (match p.dst with | some d=>inL (o.looksAt all) d | none=>false) ||
 (actv o.op && actv p.op) || (mutat lt o.op && !hplF lt p) || (mutat lt p.op && !hplF lt o)
def okAt [CA] (lt:Option Nat) (all:Array Oper) (row:Nat) (o:Oper):Nat→List Oper→Bool
 | _,[]=>true
 | j,p :: l=>(!confl lt all o p || Nat.testBit row j) && okAt lt all row o (j+1) l
def drawChk [CA] (lt:Option Nat) (all:Array Oper):List Oper→List Oper→List Nat→Bool
 | [],_,_=>true
 | o :: r,pre,acc=>allLt pre.length (edgesOf o) && okAt lt all (rowOf acc (edgesOf o)) o 0 pre && drawChk lt all r (pre++[o]) (acc++[rowOf acc (edgesOf o)])

def cntA [CA]:List Oper→Nat
 | []=>0
 | o :: l=>bif actv o.op then cntA l+1 else cntA l
def lastP [CA] (p:Nat→Bool):Nat→List Oper→Nat→Nat
 | _,[],best=>best
 | j,o :: l,best=>lastP p (j+1) l (bif actv o.op && p j then j+1 else best)
def cntR [CA] (row:Nat) (pre:List Oper):Nat:=cntA (pre.take (lastP (Nat.testBit row) 0 pre 0))

def setO (e:Env) (dst:Option Nat) (d:D):Env:=match dst with
 | some i=>e.set i d
 | none=>e

def vcCallP (P:Program) (F:FuncId→Bool) (G:Gl) (f:Operand) (args:Array Operand) (st:St) (Qp:D→Prop) (K:D→Prop):Prop :=
 match sv G st f with
 | .fn g fs cs=>bif F g then forceDL (fs++(args.toList.map (sv G st)++cs)) fun all =>
   ∃ as d dp,likeA (all.map (conv [] [] 4)) as∧CT P G g as (fun o=>o=.pan dp)∧(isNil (idsL all)=true)∧Qp dp∧K d else False
 | _=>False
def vcP (P:Program) (F:FuncId→Bool) (G:Gl) (o:Op) (st:St) (Qp:D→Prop) (K:D→Prop):Prop :=
 match o with
 | .call { callee:=.value f,args,.. }=>vcCallP P F G f args st Qp K
 | _=>False
theorem vcP_one {P:Program} {T:Tab} {F:FuncId→Bool} {G:Gl} {o:Op} {st:St} {Qp K:D→Prop} (h:vcP P F G o st Qp K):∃ d,K d∧∀ h':Heap,vcOp P T F G o ⟨st.env,h',st.df⟩ (fun _ _=>False) (fun dp _=>Qp dp):=by
 have svf:∀ (h':Heap),sv G ⟨st.env,h',st.df⟩=sv G st:=fun h'=>funext (fun x=>by cases x<;>rfl)
 unfold vcP at h
 split at h
 ·rename_i f args ts
  unfold vcCallP at h
  split at h
  ·rename_i g fs cs ef
   cases hg:F g with
   | false=>rw[hg] at h;exact h.elim
   | true =>
    rw[hg] at h
    simp only[cond_true,forceDL_eq] at h
    obtain ⟨es,d,dp,h1,h2,h3,h4,h5⟩:=h
    refine ⟨d,h5,fun h'=>?_⟩
    simp only[vcOp,svf,ef,hg,cond_true,forceDL_eq]
    have hi:idsL (fs++(args.toList.map (sv G st)++cs))=[]:=by
     cases hi:idsL (fs++(args.toList.map (sv G st)++cs)) with
     | nil=>rfl
     | cons x l=>rw[hi] at h3;cases h3
    refine orS_l ⟨es,_,by rw[convL_ex (h:=[]) (h':=h') (fun i o hi=>by simp at hi) (by rw[hi];rfl)];exact h1,h2,fun d' h'' hq=>(by cases hq),fun d' hq=>?_⟩
    injection hq with e1
    subst e1
    exact h4
  ·exact h.elim
 ·exact h.elim
theorem vcP_quiet0 {P:Program} {F:FuncId→Bool} {G:Gl} {o:Op} {st:St} {Qp K:D→Prop} (h:vcP P F G o st Qp K):active o=false:=by
 unfold vcP at h
 split at h
 ·rfl
 ·exact h.elim
def isAt:Option Nat→Nat→Bool
 | some p,i=>Nat.beq p i
 | none,_=>false
def isFz:Option Nat→Nat→Bool
 | some p,i=>Nat.beq p (1000+i) || Nat.beq p (3000+i) || Nat.beq p (3500+i) || Nat.beq p (5600+i)
 | none,_=>false
def frz (z:Bool) (n:Nat) (d:D) (h:Heap) (K:KD):Prop:=bif z then (match d with
 | .row i=>match h[i]? with
  | some (.row xs _ sz)=>bif Nat.beq i n then K (.g (.sl sz xs)) (kills h [i]) else False
  | _=>False
 | _=>False) else K d h
theorem frz_true {n:Nat} {d:D} {h:Heap} {K:KD} (hk:frz true n d h K):∃ xs e sz,d=.row n∧h[n]?=some (.row xs e sz)∧K (.g (.sl sz xs)) (kills h [n]):=by
 unfold frz at hk
 simp only[cond_true] at hk
 split at hk
 ·rename_i i
  split at hk
  ·rename_i xs e sz hi
   cases hb:Nat.beq i n with
   | false=>rw[hb] at hk;exact hk.elim
   | true =>
    rw[hb] at hk
    have:=Nat.eq_of_beq_eq_true hb
    subst this
    exact ⟨xs,e,sz,rfl,hi,hk⟩
  ·exact hk.elim
 ·exact hk.elim
theorem frz_of {n:Nat} {h:Heap} {K:KD} {xs:List (List GV)} {e:TypeId} {sz:Nat} (hi:h[n]?=some (.row xs e sz)) (hk:K (.g (.sl sz xs)) (kills h [n])):frz true n (.row n) h K:=by
 unfold frz
 simp only[cond_true,hi,Nat.beq_refl]
 exact hk
theorem frz_ex {h h1:Heap} (hx:Ex h h1):Ex h (kills h1 [h.length]):=fun i o hi=>by
 have hl:i < h.length:=(List.getElem?_eq_some_iff.1 hi).1
 simp only[kills]
 rw[List.getElem?_set_ne (by omega)]
 exact hx i o hi
def deadAt:List Nat→Nat→Bool
 | [],_=>false
 | p :: l,row=>Nat.testBit row p || deadAt l row
theorem deadAt_ex:∀ {l:List Nat} {row:Nat},deadAt l row=true→∃ p∈l,Nat.testBit row p=true
 | [],_,h=>by cases h
 | p :: l,row,h=>by
  simp only[deadAt,Bool.or_eq_true] at h
  rcases h with h | h
  ·exact ⟨p,List.mem_cons_self,h⟩
  ·obtain ⟨q,hq,hb⟩:=deadAt_ex h
   exact ⟨q,List.mem_cons_of_mem _ hq,hb⟩
def vcDrC [CA] (P:Program) (T:Tab) (F:FuncId→Bool) (G:Gl) (pp:Option Nat) (Qp:D→Prop) (all:Array Oper) (o:Oper) (vcr:List Oper→List Nat→List Heap→Env→List Deferred→List Nat→(St→Prop)→Prop)
  (pre:List Oper) (acc:List Nat) (hs:List Heap) (env:Env) (df:List Deferred) (pn:List Nat) (K:St→Prop):Prop :=
 bif isFl o then (bif hasDst o.dst && dstU all o.dst && allocT T o.op then vcr (pre++[o]) (acc++[rowOf acc (edgesOf o)]) hs (setO env o.dst .any) df pn K else False)
 else bif CA.fl && isAl o.op then False else
  let run:Env→Prop:=fun env =>
   bif actv o.op then vcA P T F G o.op ⟨env,nthD [] hs (cntA pre),df⟩ (fun d h=>frz (isFz pp pre.length) (nthD [] hs (cntA pre)).length d h fun d h=>liteOk (isLite pp && isBld o.op) (nthD [] hs (cntA pre)) h (forceD d fun d=>forceH h fun h=>vcr (pre++[o]) (acc++[rowOf acc (edgesOf o)]) (hs++[h]) (setO env o.dst d) df pn K))
   else bif deadAt pn (rowOf acc (edgesOf o)) then ∃ d,vcr (pre++[o]) (acc++[rowOf acc (edgesOf o)]) hs (setO env o.dst d) df pn K
   else bif isAt pp pre.length then vcP P F G o.op ⟨env,nthD [] hs (cntR (rowOf acc (edgesOf o)) pre),df⟩ Qp (fun d=>forceD d fun d=>vcr (pre++[o]) (acc++[rowOf acc (edgesOf o)]) hs (setO env o.dst d) df (pre.length :: pn) K)
   else bif qMk o.op then vcMk P T F G o.op ⟨env,[],df⟩ (fun d=>forceD d fun d=>vcr (pre++[o]) (acc++[rowOf acc (edgesOf o)]) hs (setO env o.dst d) df pn K)
   else vcQ P T F G o.op ⟨env,bif isFree pp then [] else nthD [] hs (cntR (rowOf acc (edgesOf o)) pre),df⟩ (fun d=>forceD d fun d=>vcr (pre++[o]) (acc++[rowOf acc (edgesOf o)]) hs (setO env o.dst d) df pn K)
  let skip:Env→Prop:=fun env=>vcr (pre++[o]) (acc++[rowOf acc (edgesOf o)]) (bif actv o.op then hs++[nthD [] hs (cntA pre)] else hs) (setO env o.dst (.tuple [])) df pn K
  match o.guard with
  | none=>run env
  | some (j,b)=>match (all[j]?).bind (·.dst) with
   | none=>skip env
   | some s=>match env s with
    | .g (.bool true)=>bif b then run env else skip env
    | .g (.bool false)=>bif b then skip env else run env
    | .tuple _=>skip env
    | .pb p=>bif b then (p→run (env.set s (.g (.bool true))))∧(¬p→skip (env.set s (.g (.bool false))))
     else (p→skip (env.set s (.g (.bool true))))∧(¬p→run (env.set s (.g (.bool false))))
    | .pn p=>bif b then (¬p→run (env.set s (.g (.bool true))))∧(p→skip (env.set s (.g (.bool false))))
     else (¬p→skip (env.set s (.g (.bool true))))∧(p→run (env.set s (.g (.bool false))))
    | _=>False
def vcDr [CA] (P:Program) (T:Tab) (F:FuncId→Bool) (G:Gl) (pp:Option Nat) (Qp:D→Prop) (all:Array Oper) (l:List Oper):List Oper→List Nat→List Heap→Env→List Deferred→List Nat→(St→Prop)→Prop :=
 List.rec (motive:=fun _=>List Oper→List Nat→List Heap→Env→List Deferred→List Nat→(St→Prop)→Prop)
  (fun pre _ hs env df pn K=>match pn with
   | []=>K ⟨env,nthD [] hs (cntA pre),df⟩
   | _=>True)
  (fun o _ vcr=>vcDrC P T F G pp Qp all o vcr) l
theorem vcDr_nil [CA] {P:Program} {T:Tab} {F:FuncId→Bool} {G:Gl} {pp:Option Nat} {Qp:D→Prop} {all:Array Oper} {pre:List Oper} {acc:List Nat} {hs:List Heap} {env:Env} {df:List Deferred} {pn:List Nat} {K:St→Prop} :
  vcDr P T F G pp Qp all [] pre acc hs env df pn K=match pn with | []=>K ⟨env,nthD [] hs (cntA pre),df⟩ | _=>True:=rfl
theorem vcDr_cons [CA] {P:Program} {T:Tab} {F:FuncId→Bool} {G:Gl} {pp:Option Nat} {Qp:D→Prop} {all:Array Oper} {o:Oper} {r pre:List Oper} {acc:List Nat} {hs:List Heap} {env:Env} {df:List Deferred} {pn:List Nat} {K:St→Prop} :
  vcDr P T F G pp Qp all (o :: r) pre acc hs env df pn K=vcDrC P T F G pp Qp all o (vcDr P T F G pp Qp all r) pre acc hs env df pn K:=rfl

structure Fact where
 d:D
 L:Env
 run:Bool
 pn:Bool
 dd:Bool

def TB (d:D) (b:Bool):Prop:=(∃ p,d=.pb p∧(b=true↔p))∨(∃ p,d=.pn p∧(b=true↔¬p))
def Ref (E L:Env):Prop:=∀ s,L s=E s∨∃ b,L s=.g (.bool b)∧TB (E s) b
theorem Ref.refl (E:Env):Ref E E:=fun _=>.inl rfl
theorem Ref.set {E L:Env} (h:Ref E L) (dst:Option Nat) (d:D):Ref (setO E dst d) (setO L dst d):=by
 cases dst with
 | none=>exact h
 | some i =>
  intro s
  simp only[setO,Env.set]
  cases Nat.beq s i with
  | true=>exact .inl rfl
  | false=>exact h s
theorem Ref.bool {E L:Env} (h:Ref E L) {s:Nat} {b:Bool} (ht:TB (L s) b):Ref E (L.set s (.g (.bool b))):=by
 intro k
 simp only[Env.set]
 by_cases hk:k=s
 ·subst hk
  rw[Nat.beq_refl]
  refine .inr ⟨b,rfl,?_⟩
  rcases h k with e | ⟨c,e,_⟩
  ·rw[← e];exact ht
  ·rw[e] at ht
   rcases ht with ⟨p,e,_⟩ | ⟨p,e,_⟩<;>cases e
 ·rw[beq_ne hk]
  exact h k
theorem Ref.rep {E L:Env} (h:Ref E L) {H:Heap} {β:Nat→Value} {V:Nat→Prop} {w:World} {s:Nat} {v:Value} (hr:RepD H β V w (E s) v):RepD H β V w (L s) v:=by
 rcases h s with e | ⟨b,e,ht⟩
 ·rw[e];exact hr
 ·rw[e]
  rcases ht with ⟨p,e',hp⟩ | ⟨p,e',hp⟩
  ·rw[e'] at hr
   simp only[RepD,RepV] at hr ⊢
   obtain ⟨c,hv,hc⟩:=hr
   have:c=b:=by have:=hc.trans hp.symm;cases b<;>cases c<;>simp_all
   rw[hv,this]
  ·rw[e'] at hr
   simp only[RepD,RepV] at hr ⊢
   obtain ⟨c,hv,hc⟩:=hr
   have:c=b:=by have:=hc.trans hp.symm;cases b<;>cases c<;>simp_all
   rw[hv,this]

def GuardOk (all:Array Oper) (o:Oper) (f:Fact):Prop:=match o.guard with
 | none=>f.run=true
 | some (j,b)=>match (all[j]?).bind (·.dst) with
  | none=>f.run=false
  | some s=>(∃ c,f.L s=.g (.bool c)∧f.run=(c == b))∨(∃ l,f.L s=.tuple l∧f.run=false)

structure FactAt [CA] (lt:Option Nat) (P:Program) (T:Tab) (F:FuncId→Bool) (G:Gl) (Qp:D→Prop) (all:Array Oper) (o:Oper) (f:Fact) (E:Env) (H:Nat→Heap) (na lo:Nat) (df:List Deferred):Prop where
 ref:Ref E f.L
 guard:GuardOk all o f
 dead:f.dd=true→f.run=true∧actv o.op=false
 skip:f.run=false→f.d=.tuple []∧(actv o.op=true→H (na+1)=H na)
 act:f.run=true→actv o.op=true→(∃ z:Bool,∀ K':KD,K' f.d (H (na+1))→vcOp P T F G o.op ⟨f.L,H na,df⟩ (fun d h=>frz z (H na).length d h K') (fun _ _=>False))∧(mutat lt o.op=false→Ex (H na) (H (na+1)))
 pan:f.pn=true→f.run=true∧actv o.op=false∧∀ h':Heap,vcOp P T F G o.op ⟨f.L,h',df⟩ (fun _ _=>False) (fun dp _=>Qp dp)
 quiet:isFl o=false→f.run=true→actv o.op=false→f.pn=false→f.dd=false→∃ z:Bool,∀ (h':Heap) (K':KD),(Ex (H lo) h'∨hpl lt o.op=true)→K' f.d h'→vcOp P T F G o.op ⟨f.L,h',df⟩ (fun d h=>frq z h'.length d h K') (fun _ _=>False)
 flt:isFl o=true→f.d=.any∧f.run=true∧f.pn=false∧f.dd=false∧(hasDst o.dst && dstU all o.dst && allocT T o.op)=true

def foldE (E:Env):List Oper→List Fact→Env
 | o :: r,f :: fs=>foldE (setO E o.dst f.d) r fs
 | _,_=>E

theorem nthD_app {α:Type} {z:α}:∀ {l m:List α} {i:Nat},i < l.length→nthD z (l++m) i=nthD z l i
 | [],_,_,h=>by simp at h
 | a :: l,m,0,_=>rfl
 | a :: l,m,i+1,h=>by simp only[List.cons_append,nthD];exact nthD_app (by simpa using h)
theorem nthD_last {α:Type} {z:α}:∀ {l:List α} {a:α} {m:List α},nthD z (l++a :: m) l.length=a
 | [],a,m=>rfl
 | b :: l,a,m=>by simp only[List.cons_append,List.length_cons,nthD];exact nthD_last
theorem cntA_snoc [CA]:∀ (pre:List Oper) (o:Oper),cntA (pre++[o])=bif actv o.op then cntA pre+1 else cntA pre
 | [],o=>by simp[cntA]
 | p :: pre,o=>by
  simp only[List.cons_append,cntA,cntA_snoc pre o]
  cases actv p.op<;>cases actv o.op<;>rfl
theorem cntA_take_le [CA]:∀ (l:List Oper) (k:Nat),cntA (l.take k)≤cntA l
 | [],k=>by simp
 | o :: l,0=>by simp[cntA]
 | o :: l,k+1=>by
  have:=cntA_take_le l k
  simp only[List.take_succ_cons,cntA]
  cases actv o.op<;>simp<;>omega
theorem cntR_le [CA] (row:Nat) (l:List Oper):cntR row l≤cntA l:=cntA_take_le _ _
theorem lastP_of [CA] {p:Nat→Bool}:∀ (l:List Oper) (j best k:Nat) (o:Oper),l[k]?=some o→actv o.op=true→p (j+k)=true→j+k < lastP p j l best
 | [],_,_,_,_,h,_,_=>by simp at h
 | o :: l,j,best,0,o',h,ha,hp=>by
  simp at h
  subst h
  have mono:∀ (l:List Oper) (j b:Nat),b≤j→b≤lastP p j l b:=by
   intro l
   induction l with
   | nil=>intro j b _;exact Nat.le_refl _
   | cons o l ih =>
    intro j b hb
    simp only[lastP]
    cases actv o.op && p j with
    | true=>simp only[cond_true];exact Nat.le_trans (by omega) (ih (j+1) (j+1) (Nat.le_refl _))
    | false=>simp only[cond_false];exact ih (j+1) b (by omega)
  simp only[lastP,ha,Bool.true_and]
  rw[Nat.add_zero] at hp ⊢
  rw[hp]
  simp only[cond_true]
  exact mono l (j+1) (j+1) (Nat.le_refl _)
 | o :: l,j,best,k+1,o',h,ha,hp=>by
  simp only[lastP]
  have:=lastP_of l (j+1) (bif actv o.op && p j then j+1 else best) k o' (by simpa using h) ha (by rw[show j+1+k=j+(k+1) from by omega];exact hp)
  omega
theorem lastP_some [CA] {p:Nat→Bool}:∀ (l:List Oper) (j best:Nat),lastP p j l best=best∨∃ k o,l[k]?=some o∧actv o.op=true∧p (j+k)=true∧lastP p j l best=j+k+1
 | [],_,_=>.inl rfl
 | o :: l,j,best=>by
  simp only[lastP]
  rcases lastP_some l (j+1) (bif actv o.op && p j then j+1 else best) with h | ⟨k,o',h1,h2,h3,h4⟩
  ·cases hc:actv o.op && p j with
   | true =>
    rw[hc] at h
    simp only[Bool.and_eq_true] at hc
    exact .inr ⟨0,o,rfl,hc.1,hc.2,by simpa using h⟩
   | false=>rw[hc] at h;exact .inl h
  ·exact .inr ⟨k+1,o',by simpa using h1,h2,by rw[show j+(k+1)=j+1+k from by omega];exact h3,by rw[h4];omega⟩
theorem lastP_congr [CA] {p q:Nat→Bool}:∀ (l:List Oper) (j best:Nat),(∀ (k:Nat) (o:Oper),l[k]?=some o→actv o.op=true→p (j+k)=q (j+k))→lastP p j l best=lastP q j l best
 | [],_,_,_=>rfl
 | o :: l,j,best,h=>by
  simp only[lastP]
  have h0:(actv o.op && p j)=(actv o.op && q j):=by
   cases ha:actv o.op with
   | false=>rfl
   | true=>have:=h 0 o rfl ha;simpa using this
  rw[h0]
  exact lastP_congr l (j+1) _ (fun k o' hk ha=>by rw[show j+1+k=j+(k+1) from by omega];exact h (k+1) o' (by simpa using hk) ha)

def accOf (l:List Oper):List Nat:=l.foldl (fun acc o=>acc++[rowOf acc (edgesOf o)]) []
theorem accOf_snoc (l:List Oper) (o:Oper):accOf (l++[o])=accOf l++[rowOf (accOf l) (edgesOf o)]:=by simp[accOf,List.foldl_append]

section
variable {P:Program} {T:Tab} {F:FuncId→Bool} {G:Gl} {all:Array Oper}

theorem vcDr_facts [CA] {pp:Option Nat} {Qp:D→Prop}:∀ (r pre:List Oper) (hs:List Heap) (E env:Env) (df:List Deferred) (pn:List Nat) (K:St→Prop),vcDr P T F G pp Qp all r pre (accOf pre) hs env df pn K→Ref E env→hs.length=cntA pre+1 →
  ∃ (fs:List Fact) (hs':List Heap) (L:Env),fs.length=r.length∧Ref (foldE E r fs) L∧(pn=[]→(∀ f∈fs,f.pn=false)→K ⟨L,nthD [] (hs++hs') (cntA (pre++r)),df⟩) ∧
   ∀ (i:Nat) (o:Oper) (f:Fact),r[i]?=some o→fs[i]?=some f →
    FactAt pp P T F G Qp all o f (foldE E (r.take i) (fs.take i)) (nthD [] (hs++hs')) (cntA (pre++r.take i)) (cntR (rowOf (accOf (pre++r.take i)) (edgesOf o)) (pre++r.take i)) df ∧
    (f.dd=true→∃ p,Nat.testBit (rowOf (accOf (pre++r.take i)) (edgesOf o)) p=true∧(p∈pn∨∃ i' f',p=pre.length+i'∧fs[i']?=some f'∧f'.pn=true)):=by
 intro r
 induction r with
 | nil =>
  intro pre hs E env df pn K h hr hl
  refine ⟨[],[],env,rfl,hr,fun hp _=>by subst hp;simpa [vcDr_nil] using h,fun i o f hi=>by simp at hi⟩
 | cons o r ih =>
  intro pre hs E env df pn K h hr hl
  let Goal:Prop:=∃ (fs:List Fact) (hs':List Heap) (L:Env),fs.length=(o :: r).length∧Ref (foldE E (o :: r) fs) L∧(pn=[]→(∀ f∈fs,f.pn=false)→K ⟨L,nthD [] (hs++hs') (cntA (pre++o :: r)),df⟩) ∧
     ∀ (i:Nat) (o':Oper) (f:Fact),(o :: r)[i]?=some o'→fs[i]?=some f →
      FactAt pp P T F G Qp all o' f (foldE E ((o :: r).take i) (fs.take i)) (nthD [] (hs++hs')) (cntA (pre++(o :: r).take i)) (cntR (rowOf (accOf (pre++(o :: r).take i)) (edgesOf o')) (pre++(o :: r).take i)) df ∧
      (f.dd=true→∃ p,Nat.testBit (rowOf (accOf (pre++(o :: r).take i)) (edgesOf o')) p=true∧(p∈pn∨∃ i' f',p=pre.length+i'∧fs[i']?=some f'∧f'.pn=true))
  show Goal
  have build:∀ (d:D) (L:Env) (b fp fd:Bool) (pn':List Nat) (hsn:List Heap),(pn=[]→fp=false→pn'=[])→(∀ p∈pn',p∈pn∨(p=pre.length∧fp=true))→(fd=true→∃ p∈pn,Nat.testBit (rowOf (accOf pre) (edgesOf o)) p=true)→Ref E L→vcDr P T F G pp Qp all r (pre++[o]) (accOf pre++[rowOf (accOf pre) (edgesOf o)]) (hs++hsn) (setO L o.dst d) df pn' K→(hs++hsn).length=cntA (pre++[o])+1 →
    (∀ H:Nat→Heap,(∀ k,k < (hs++hsn).length→H k=nthD [] (hs++hsn) k)→FactAt pp P T F G Qp all o ⟨d,L,b,fp,fd⟩ E H (cntA pre) (cntR (rowOf (accOf pre) (edgesOf o)) pre) df) →
    Goal:=by
   intro d L b fp fd pn' hsn hpn hpm hfd hrL hv hlen hf
   rw[← accOf_snoc] at hv
   obtain ⟨fs,hs',L',h1,h2,h3,h4⟩:=ih (pre++[o]) (hs++hsn) (setO E o.dst d) _ df pn' K hv (hrL.set o.dst d) hlen
   refine ⟨⟨d,L,b,fp,fd⟩ :: fs,hsn++hs',L',by simp[h1],h2,fun hp hall=>by simpa [List.append_assoc] using h3 (hpn hp (hall _ List.mem_cons_self)) (fun f hf=>hall f (List.mem_cons_of_mem _ hf)),fun i o' f ho hfi=>?_⟩
   cases i with
   | zero =>
    simp at ho hfi
    subst ho
    subst hfi
    have:=hf (nthD [] (hs++(hsn++hs'))) (fun k hk=>by rw[← List.append_assoc];exact nthD_app hk)
    refine ⟨by simpa [foldE] using this,fun hdd=>?_⟩
    obtain ⟨p,hp,hb⟩:=hfd hdd
    exact ⟨p,by simpa using hb,.inl hp⟩
   | succ i =>
    obtain ⟨this,hdd⟩:=h4 i o' f (by simpa using ho) (by simpa using hfi)
    refine ⟨by simpa [foldE,List.append_assoc] using this,fun hd=>?_⟩
    obtain ⟨p,hb,hp⟩:=hdd hd
    refine ⟨p,by simpa [List.append_assoc] using hb,?_⟩
    rcases hp with hp | ⟨i',f',hp,hf',hpf⟩
    ·rcases hpm p hp with hp | ⟨hp,hfp⟩
     ·exact .inl hp
     ·exact .inr ⟨0,_,by simpa using hp,rfl,hfp⟩
    ·exact .inr ⟨i'+1,f',by rw[hp];simp;omega,by simpa using hf',hpf⟩
  cases hfl:isFl o with
  | true =>
   obtain ⟨hact,hgd,_⟩:=isFl_na hfl
   simp only[vcDr_cons,vcDrC,hfl,cond_true] at h
   cases hd:hasDst o.dst && dstU all o.dst && allocT T o.op with
   | false=>rw[hd] at h;exact h.elim
   | true =>
    rw[hd] at h
    simp only[cond_true] at h
    refine build .any env true false false pn [] (fun h _=>h) (fun p hp=>.inl hp) (fun h=>by cases h) hr (by simpa using h) (by simp[cntA_snoc,hact,hl]) (fun H hH=>?_)
    exact ⟨hr,(by unfold GuardOk;rw[hgd]),fun hf=>(by cases hf),fun hf=>(by cases hf),fun _ hq=>(by rw[hact] at hq;cases hq),fun hf=>(by cases hf),fun hq=>(by rw[hfl] at hq;cases hq),fun _=>⟨rfl,rfl,rfl,rfl,hd⟩⟩
  | false =>
  cases hal:(CA.fl && isAl o.op) with
  | true=>simp only[vcDr_cons,vcDrC,hfl,hal,cond_true,cond_false] at h
  | false =>
  have run:∀ L:Env,Ref E L→GuardOk all o ⟨.any,L,true,false,false⟩ →
    (bif actv o.op then vcA P T F G o.op ⟨L,nthD [] hs (cntA pre),df⟩ (fun d h=>frz (isFz pp pre.length) (nthD [] hs (cntA pre)).length d h fun d h=>liteOk (isLite pp && isBld o.op) (nthD [] hs (cntA pre)) h (forceD d fun d=>forceH h fun h=>vcDr P T F G pp Qp all r (pre++[o]) (accOf pre++[rowOf (accOf pre) (edgesOf o)]) (hs++[h]) (setO L o.dst d) df pn K))
     else bif deadAt pn (rowOf (accOf pre) (edgesOf o)) then ∃ d,vcDr P T F G pp Qp all r (pre++[o]) (accOf pre++[rowOf (accOf pre) (edgesOf o)]) hs (setO L o.dst d) df pn K
     else bif isAt pp pre.length then vcP P F G o.op ⟨L,nthD [] hs (cntR (rowOf (accOf pre) (edgesOf o)) pre),df⟩ Qp (fun d=>forceD d fun d=>vcDr P T F G pp Qp all r (pre++[o]) (accOf pre++[rowOf (accOf pre) (edgesOf o)]) hs (setO L o.dst d) df (pre.length :: pn) K)
     else bif qMk o.op then vcMk P T F G o.op ⟨L,[],df⟩ (fun d=>forceD d fun d=>vcDr P T F G pp Qp all r (pre++[o]) (accOf pre++[rowOf (accOf pre) (edgesOf o)]) hs (setO L o.dst d) df pn K)
     else vcQ P T F G o.op ⟨L,bif isFree pp then [] else nthD [] hs (cntR (rowOf (accOf pre) (edgesOf o)) pre),df⟩ (fun d=>forceD d fun d=>vcDr P T F G pp Qp all r (pre++[o]) (accOf pre++[rowOf (accOf pre) (edgesOf o)]) hs (setO L o.dst d) df pn K))→Goal:=by
   intro L hrL hg hrun
   have hlo:cntR (rowOf (accOf pre) (edgesOf o)) pre < hs.length:=by have:=cntR_le (rowOf (accOf pre) (edgesOf o)) pre;omega
   cases hact:actv o.op with
   | true =>
    rw[hact] at hrun
    simp only[cond_true,forceD_eq,forceH_eq] at hrun
    have hone:∃ z d h1,vcDr P T F G pp Qp all r (pre++[o]) (accOf pre++[rowOf (accOf pre) (edgesOf o)]) (hs++[h1]) (setO L o.dst d) df pn K∧(∀ K':KD,K' d h1→vcOp P T F G o.op ⟨L,nthD [] hs (cntA pre),df⟩ (fun d h=>frz z (nthD [] hs (cntA pre)).length d h K') (fun _ _=>False))∧(mutat pp o.op=false→Ex (nthD [] hs (cntA pre)) h1):=by
     obtain ⟨d,h1,hk,hop,hex⟩:=act_one hact hrun
     have lite:∀ {h1:Heap} {X:Prop},liteOk (isLite pp && isBld o.op) (nthD [] hs (cntA pre)) h1 X→(mutating o.op=false→Ex (nthD [] hs (cntA pre)) h1)→mutat pp o.op=false→Ex (nthD [] hs (cntA pre)) h1:=fun {h1 X} hx hm hmu=>by
      cases hl:isLite pp && isBld o.op with
      | true =>
       rw[hl] at hx
       obtain ⟨⟨k,rfl⟩,_⟩:=hx
       exact Ex.app _ _
      | false=>exact hm (by simpa [mutat,hl] using hmu)
     cases hz:isFz pp pre.length with
     | false=>rw[hz] at hk;exact ⟨false,d,h1,liteOk_X hk,fun K' hk'=>hop _ hk',lite hk hex⟩
     | true =>
      rw[hz] at hk
      obtain ⟨xs,e,sz,rfl,hi,hk⟩:=frz_true hk
      exact ⟨true,_,_,liteOk_X hk,fun K' hk'=>hop _ (frz_of hi hk'),lite hk (fun hm=>frz_ex (hex hm))⟩
    obtain ⟨z,d,h1,hk,hop,hex⟩:=hone
    refine build d L true false false pn [h1] (fun h _=>h) (fun p hp=>.inl hp) (fun h=>by cases h) hrL hk (by simp[cntA_snoc,hact,hl]) (fun H hH=>?_)
    have e0:H (cntA pre)=nthD [] hs (cntA pre):=by rw[hH _ (by simp;omega)];exact nthD_app (by omega)
    have e1:H (cntA pre+1)=h1:=by rw[hH _ (by simp;omega),← hl];exact nthD_last
    refine ⟨hrL,hg,fun hf=>(by cases hf),fun hf=>(by cases hf),fun _ _=>⟨⟨z,fun K' hk'=>?_⟩,fun hm=>?_⟩,fun hf=>(by cases hf),fun _ _ hq=>(by rw[hact] at hq;cases hq),fun hq=>(by rw[hfl] at hq;cases hq)⟩
    ·rw[e0];exact hop K' (by rw[← e1];exact hk')
    ·rw[e0,e1];exact hex hm
   | false =>
    rw[hact] at hrun
    simp only[cond_false,forceD_eq] at hrun
    cases hdd:deadAt pn (rowOf (accOf pre) (edgesOf o)) with
    | true =>
     rw[hdd] at hrun
     simp only[cond_true] at hrun
     obtain ⟨d,hk⟩:=hrun
     refine build d L true false true pn [] (fun h _=>h) (fun p hp=>.inl hp) (fun _=>deadAt_ex hdd) hrL (by simpa using hk) (by simp[cntA_snoc,hact,hl]) (fun H hH=>?_)
     exact ⟨hrL,hg,fun _=>⟨rfl,hact⟩,fun hf=>(by cases hf),fun _ hq=>(by rw[hact] at hq;cases hq),fun hf=>(by cases hf),fun _ _ _ _ hq=>(by cases hq),fun hq=>(by rw[hfl] at hq;cases hq)⟩
    | false =>
    rw[hdd] at hrun
    simp only[cond_false] at hrun
    cases hpp:isAt pp pre.length with
    | true =>
     rw[hpp] at hrun
     simp only[cond_true] at hrun
     obtain ⟨d,hk,hop⟩:=vcP_one (T:=T) hrun
     refine build d L true true false (pre.length :: pn) [] (fun _ h=>by cases h) (fun p hp=>by rcases List.mem_cons.1 hp with rfl | hp;exact .inr ⟨rfl,rfl⟩;exact .inl hp) (fun h=>by cases h) hrL (by simpa using hk) (by simp[cntA_snoc,hact,hl]) (fun H hH=>?_)
     exact ⟨hrL,hg,fun hf=>(by cases hf),fun hf=>(by cases hf),fun _ hq=>(by rw[hact] at hq;cases hq),fun _=>⟨rfl,hact,hop⟩,fun _ _ _ hq=>(by cases hq),fun hq=>(by rw[hfl] at hq;cases hq)⟩
    | false =>
    rw[hpp] at hrun
    simp only[cond_false] at hrun
    have key:∃ d,vcDr P T F G pp Qp all r (pre++[o]) (accOf pre++[rowOf (accOf pre) (edgesOf o)]) hs (setO L o.dst d) df pn K∧∃ z:Bool,∀ (h':Heap) (K':KD),(Ex (nthD [] hs (cntR (rowOf (accOf pre) (edgesOf o)) pre)) h'∨hpl pp o.op=true)→K' d h'→vcOp P T F G o.op ⟨L,h',df⟩ (fun d h=>frq z h'.length d h K') (fun _ _=>False):=by
     cases hqm:qMk o.op with
     | true =>
      rw[hqm] at hrun
      simp only[cond_true] at hrun
      obtain ⟨d,hk,hop⟩:=vcMk_one hqm hrun
      exact ⟨d,hk,true,fun h' K' _ hk'=>hop h' K' hk'⟩
     | false =>
     rw[hqm] at hrun
     simp only[cond_false] at hrun
     cases hhl:heapless o.op with
     | true =>
      obtain ⟨d,hk,hop⟩:=vcQ_any hhl hrun
      exact ⟨d,hk,false,fun h' K' _ hk'=>hop h' K' hk'⟩
     | false =>
      obtain ⟨d,hk,hop⟩:=vcQ_one (act_false hact hal hqm) hrun
      refine ⟨d,hk,false,fun h' K' hx hk'=>hop h' K' ?_ hk'⟩
      cases hfr:isFree pp with
      | true=>exact fun i o hi=>(by simp at hi)
      | false =>
       rcases hx with hx | hx
       ·exact hx
       ·simp[hpl,hhl,hfr] at hx
    obtain ⟨d,hk,z,hop⟩:=key
    refine build d L true false false pn [] (fun h _=>h) (fun p hp=>.inl hp) (fun h=>by cases h) hrL (by simpa using hk) (by simp[cntA_snoc,hact,hl]) (fun H hH=>?_)
    have e0:H (cntR (rowOf (accOf pre) (edgesOf o)) pre)=nthD [] hs (cntR (rowOf (accOf pre) (edgesOf o)) pre):=by rw[hH _ (by simpa using hlo)];simp
    exact ⟨hrL,hg,fun hf=>(by cases hf),fun hf=>(by cases hf),fun _ hq=>(by rw[hact] at hq;cases hq),fun hf=>(by cases hf),fun _ _ _ _ _=>⟨z,fun h' K' hx hk'=>hop h' K' (by rw[← e0];exact hx) hk'⟩,fun hq=>(by rw[hfl] at hq;cases hq)⟩
  have skip:∀ L:Env,Ref E L→GuardOk all o ⟨.any,L,false,false,false⟩ →
    vcDr P T F G pp Qp all r (pre++[o]) (accOf pre++[rowOf (accOf pre) (edgesOf o)]) (bif actv o.op then hs++[nthD [] hs (cntA pre)] else hs) (setO L o.dst (.tuple [])) df pn K→Goal:=by
   intro L hrL hg hsk
   cases hact:actv o.op with
   | true =>
    rw[hact] at hsk
    refine build (.tuple []) L false false false pn [nthD [] hs (cntA pre)] (fun h _=>h) (fun p hp=>.inl hp) (fun h=>by cases h) hrL hsk (by simp[cntA_snoc,hact,hl]) (fun H hH=>?_)
    have e0:H (cntA pre)=nthD [] hs (cntA pre):=by rw[hH _ (by simp;omega)];exact nthD_app (by omega)
    have e1:H (cntA pre+1)=nthD [] hs (cntA pre):=by rw[hH _ (by simp;omega),← hl];exact nthD_last
    exact ⟨hrL,hg,fun hf=>(by cases hf),fun _=>⟨rfl,fun _=>by rw[e0,e1]⟩,fun hf=>(by cases hf),fun hf=>(by cases hf),fun _ hf=>(by cases hf),fun hq=>(by rw[hfl] at hq;cases hq)⟩
   | false =>
    rw[hact] at hsk
    refine build (.tuple []) L false false false pn [] (fun h _=>h) (fun p hp=>.inl hp) (fun h=>by cases h) hrL (by simpa using hsk) (by simp[cntA_snoc,hact,hl]) (fun H hH=>?_)
    exact ⟨hrL,hg,fun hf=>(by cases hf),fun _=>⟨rfl,fun hq=>(by rw[hact] at hq;cases hq)⟩,fun hf=>(by cases hf),fun hf=>(by cases hf),fun _ hf=>(by cases hf),fun hq=>(by rw[hfl] at hq;cases hq)⟩
  simp only[vcDr_cons,vcDrC,hfl,hal,cond_false] at h
  cases hgd:o.guard with
  | none =>
   rw[hgd] at h
   exact run env hr (by simp[GuardOk,hgd]) h
  | some g =>
   obtain ⟨j,b⟩:=g
   rw[hgd] at h
   simp only at h
   cases hs0:(all[j]?).bind (·.dst) with
   | none =>
    rw[hs0] at h
    exact skip env hr (by simp[GuardOk,hgd,hs0]) h
   | some s =>
    rw[hs0] at h
    simp only at h
    have gd:∀ (L:Env) (c rb:Bool),L s=.g (.bool c)→rb=(c == b)→GuardOk all o ⟨.any,L,rb,false,false⟩:=fun L c rb e1 e2=>by
     simp only[GuardOk,hgd,hs0]
     exact .inl ⟨c,e1,e2⟩
    have ss:∀ c:Bool,(env.set s (.g (.bool c))) s=.g (.bool c):=fun c=>by simp[Env.set]
    split at h
    ·rename_i e
     cases b with
     | true=>exact run env hr (gd env true true e rfl) h
     | false=>exact skip env hr (gd env true false e rfl) h
    ·rename_i e
     cases b with
     | true=>exact skip env hr (gd env false false e rfl) h
     | false=>exact run env hr (gd env false true e rfl) h
    ·rename_i l e
     exact skip env hr (by simp only[GuardOk,hgd,hs0];exact .inr ⟨l,e,trivial⟩) h
    ·rename_i p e
     by_cases hp:p
     ·have hrb:Ref E (env.set s (.g (.bool true))):=hr.bool (.inl ⟨p,e,by simp[hp]⟩)
      cases b with
      | true=>exact run _ hrb (gd _ true true (ss true) rfl) (h.1 hp)
      | false=>exact skip _ hrb (gd _ true false (ss true) rfl) (h.1 hp)
     ·have hrb:Ref E (env.set s (.g (.bool false))):=hr.bool (.inl ⟨p,e,by simp[hp]⟩)
      cases b with
      | true=>exact skip _ hrb (gd _ false false (ss false) rfl) (h.2 hp)
      | false=>exact run _ hrb (gd _ false true (ss false) rfl) (h.2 hp)
    ·rename_i p e
     by_cases hp:p
     ·have hrb:Ref E (env.set s (.g (.bool false))):=hr.bool (.inr ⟨p,e,by simp[hp]⟩)
      cases b with
      | true=>exact skip _ hrb (gd _ false false (ss false) rfl) (h.2 hp)
      | false=>exact run _ hrb (gd _ false true (ss false) rfl) (h.2 hp)
     ·have hrb:Ref E (env.set s (.g (.bool true))):=hr.bool (.inr ⟨p,e,by simp[hp]⟩)
      cases b with
      | true=>exact run _ hrb (gd _ true true (ss true) rfl) (h.1 hp)
      | false=>exact skip _ hrb (gd _ true false (ss true) rfl) (h.1 hp)
    ·exact h.elim

def eXr (X:Nat→Bool):Nat→Env→List Oper→List Fact→Env
 | i,E,o :: r,f :: fs=>eXr X (i+1) (bif X i then setO E o.dst f.d else E) r fs
 | _,E,_,_=>E
theorem setO_ne {E:Env} {dst:Option Nat} {d:D} {s:Nat} (h:dst≠some s):setO E dst d s=E s:=by
 cases dst with
 | none=>rfl
 | some i =>
  simp only[setO,Env.set]
  rw[beq_ne (fun e=>h (by rw[e]))]
  rfl
theorem setO_eq {E:Env} {d:D} {s:Nat}:setO E (some s) d s=d:=by simp[setO,Env.set]
theorem eXr_congr {X Y:Nat→Bool} {s:Nat}:∀ (r:List Oper) (fs:List Fact) (i:Nat) (E E':Env),(∀ (k:Nat) (o:Oper),r[k]?=some o→o.dst=some s→X (i+k)=Y (i+k))→E s=E' s→eXr X i E r fs s=eXr Y i E' r fs s
 | [],fs,i,E,E',_,he=>by simp only[eXr];exact he
 | o :: r,[],i,E,E',_,he=>by simp only[eXr];exact he
 | o :: r,f :: fs,i,E,E',h,he=>by
  simp only[eXr]
  refine eXr_congr r fs (i+1) _ _ (fun k o' hk hd=>by rw[show i+1+k=i+(k+1) from by omega];exact h (k+1) o' (by simpa using hk) hd) ?_
  by_cases hd:o.dst=some s
  ·have:=h 0 o rfl hd
   rw[Nat.add_zero] at this
   rw[this]
   cases Y i with
   | true=>simp only[cond_true];rw[hd,setO_eq,setO_eq]
   | false=>exact he
  ·have e1:∀ (b:Bool) (E:Env),(bif b then setO E o.dst f.d else E) s=E s:=fun b E=>by cases b with | true=>exact setO_ne hd | false=>rfl
   rw[e1,e1]
   exact he
theorem eXr_at {X:Nat→Bool} {s:Nat}:∀ (r:List Oper) (fs:List Fact) (i:Nat) (E:Env) (k:Nat) (o:Oper) (f:Fact),r[k]?=some o→fs[k]?=some f→o.dst=some s→X (i+k)=true→(∀ (m:Nat) (o':Oper),k < m→r[m]?=some o'→o'.dst=some s→X (i+m)=false)→eXr X i E r fs s=f.d
 | [],fs,i,E,k,o,f,h,_,_,_,_=>by simp at h
 | o :: r,[],i,E,k,o',f,_,h,_,_,_=>by simp at h
 | o :: r,f :: fs,i,E,0,o',f',h,hf,hd,hX,hn=>by
  simp at h hf
  subst h
  subst hf
  rw[Nat.add_zero] at hX
  simp only[eXr,hX,cond_true]
  rw[eXr_congr (Y:=fun _=>false) r fs (i+1) _ (setO E o.dst f.d) (fun m o' hm hd'=>by rw[show i+1+m=i+(m+1) from by omega];exact hn (m+1) o' (by omega) (by simpa using hm) hd') rfl]
  have key:∀ (r:List Oper) (fs:List Fact) (i:Nat) (E:Env),eXr (fun _=>false) i E r fs=E:=by
   intro r
   induction r with
   | nil=>intro fs i E;rfl
   | cons o r ih =>
    intro fs i E
    cases fs with
    | nil=>rfl
    | cons f fs=>simp only[eXr,cond_false];exact ih fs (i+1) E
  rw[key,hd,setO_eq]
 | o :: r,f :: fs,i,E,k+1,o',f',h,hf,hd,hX,hn=>by
  simp only[eXr]
  exact eXr_at r fs (i+1) _ k o' f' (by simpa using h) (by simpa using hf) hd (by rw[show i+1+k=i+(k+1) from by omega];exact hX) (fun m o'' hm h2 hd'=>by rw[show i+1+m=i+(m+1) from by omega];exact hn (m+1) o'' (by omega) (by simpa using h2) hd')
theorem foldE_eX:∀ (r:List Oper) (fs:List Fact) (i j:Nat) (E:Env),fs.length=r.length→foldE E (r.take i) (fs.take i)=eXr (fun k=>decide (k < j+i)) j E r fs
 | [],fs,i,j,E,_=>by simp[foldE,eXr]
 | o :: r,[],i,j,E,h=>by simp at h
 | o :: r,f :: fs,0,j,E,h=>by
  have key:∀ (r:List Oper) (fs:List Fact) (i:Nat) (E:Env),j≤i→eXr (fun k=>decide (k < j+0)) i E r fs=E:=by
   intro r
   induction r with
   | nil=>intro fs i E _;rfl
   | cons o r ih =>
    intro fs i E hi
    cases fs with
    | nil=>rfl
    | cons f fs=>simp only[eXr];rw[show decide (i < j+0)=false from by simp;omega];exact ih fs (i+1) E (by omega)
  rw[key _ _ _ _ (Nat.le_refl _)]
  simp[foldE]
 | o :: r,f :: fs,i+1,j,E,h=>by
  simp only[List.take_succ_cons,foldE,eXr]
  rw[show decide (j < j+(i+1))=true from decide_eq_true (by omega),foldE_eX r fs i (j+1) _ (by simpa using h)]
  simp only[cond_true]
  rw[show j+1+i=j+(i+1) from by omega]
end
end Go.Dm
/-
  The second engine, regions that draw their order, fourth part: whatever the order, the same comes of it. It holds of every program.
-/
namespace Go.Dm
open Go Go.Eng Go.RowKit

theorem accOf_len:∀ (l:List Oper),(accOf l).length=l.length:=by
 intro l
 have key:∀ (l:List Oper) (acc:List Nat),(l.foldl (fun acc o=>acc++[rowOf acc (edgesOf o)]) acc).length=acc.length+l.length:=by
  intro l
  induction l with
  | nil=>intro acc;rfl
  | cons o l ih=>intro acc;rw[List.foldl_cons,ih];simp;omega
 have:=key l []
 simpa [accOf] using this

theorem snoc_ind {α:Type} {Q:List α→Prop} (h0:Q []) (h1:∀ l a,Q l→Q (l++[a])):∀ l,Q l:=by
 have:∀ l:List α,Q l.reverse:=by
  intro l
  induction l with
  | nil=>exact h0
  | cons a l ih=>rw[List.reverse_cons];exact h1 _ _ ih
 intro l
 have:=this l.reverse
 rwa [List.reverse_reverse] at this

theorem row_done {X:Nat→Bool}:∀ (l:List Oper),(∀ (i:Nat) (o:Oper),l[i]?=some o→X i=true→∀ e∈edgesOf o,X e=true)→(∀ (i:Nat) (o:Oper),l[i]?=some o→∀ e∈edgesOf o,e < i) →
  (∀ k,k < l.length→X k=true→∀ j,Nat.testBit (nthD 0 (accOf l) k) j=true→X j=true)∧∀ es:List Nat,(∀ e∈es,X e=true)→(∀ e∈es,e < l.length)→∀ j,Nat.testBit (rowOf (accOf l) es) j=true→X j=true:=by
 refine snoc_ind ?_ ?_
 ·intro _ _
  refine ⟨fun k hk=>by simp at hk,fun es he hl j hj=>?_⟩
  cases es with
  | nil=>simp[rowOf] at hj
  | cons e es=>have:=hl e List.mem_cons_self;simp at this
 ·intro l o ih hX hE
  have hX':∀ (i:Nat) (o:Oper),l[i]?=some o→X i=true→∀ e∈edgesOf o,X e=true:=fun i o hi=>hX i o (by rw[List.getElem?_append_left (List.getElem?_eq_some_iff.1 hi).1];exact hi)
  have hE':∀ (i:Nat) (o:Oper),l[i]?=some o→∀ e∈edgesOf o,e < i:=fun i o hi=>hE i o (by rw[List.getElem?_append_left (List.getElem?_eq_some_iff.1 hi).1];exact hi)
  obtain ⟨h1,h2⟩:=ih hX' hE'
  have hlast:(l++[o])[l.length]?=some o:=by simp
  have rows:∀ k,k < (l++[o]).length→X k=true→∀ j,Nat.testBit (nthD 0 (accOf (l++[o])) k) j=true→X j=true:=by
   intro k hk hXk j hj
   rw[accOf_snoc] at hj
   by_cases hkl:k < l.length
   ·rw[nthD_app (by rw[accOf_len];exact hkl)] at hj
    exact h1 k hkl hXk j hj
   ·have hk2:k=l.length:=by simp at hk;omega
    subst hk2
    have:nthD 0 (accOf l++[rowOf (accOf l) (edgesOf o)]) l.length=rowOf (accOf l) (edgesOf o):=by
     have:=nthD_last (z:=0) (l:=accOf l) (a:=rowOf (accOf l) (edgesOf o)) (m:=[])
     rwa [accOf_len] at this
    rw[this] at hj
    exact h2 _ (hX _ _ hlast hXk) (hE _ _ hlast) j hj
  refine ⟨rows,fun es=>?_⟩
  induction es with
  | nil=>intro _ _ j hj;simp[rowOf] at hj
  | cons e es ihe =>
   intro he hl j hj
   simp only[rowOf,Nat.testBit_or,Bool.or_eq_true] at hj
   rcases hj with (hj | hj) | hj
   ·rw[Nat.testBit_two_pow] at hj
    have:e=j:=by simpa using hj
    subst this
    exact he e List.mem_cons_self
   ·exact rows e (hl e List.mem_cons_self) (he e List.mem_cons_self) j hj
   ·exact ihe (fun e h=>he e (List.mem_cons_of_mem _ h)) (fun e h=>hl e (List.mem_cons_of_mem _ h)) j hj

theorem okAt_at [CA] {lt:Option Nat} {all:Array Oper} {row:Nat} {o:Oper}:∀ (l:List Oper) (j:Nat),okAt lt all row o j l=true→∀ (k:Nat) (p:Oper),l[k]?=some p→confl lt all o p=true→Nat.testBit row (j+k)=true
 | [],_,_,k,p,h,_=>by simp at h
 | q :: l,j,h,0,p,hk,hc=>by
  simp at hk
  subst hk
  simp only[okAt,Bool.and_eq_true,Bool.or_eq_true,Bool.not_eq_true'] at h
  rcases h.1 with h1 | h1
  ·rw[hc] at h1;cases h1
  ·exact h1
 | q :: l,j,h,k+1,p,hk,hc=>by
  simp only[okAt,Bool.and_eq_true] at h
  have:=okAt_at l (j+1) h.2 k p (by simpa using hk) hc
  rwa [show j+1+k=j+(k+1) from by omega] at this
theorem drawChk_at [CA] {lt:Option Nat} {all:Array Oper}:∀ (r pre:List Oper),drawChk lt all r pre (accOf pre)=true→∀ (i:Nat) (o:Oper),r[i]?=some o →
  (∀ e∈edgesOf o,e < pre.length+i)∧∀ (k:Nat) (p:Oper),(pre++r.take i)[k]?=some p→confl lt all o p=true→Nat.testBit (rowOf (accOf (pre++r.take i)) (edgesOf o)) k=true
 | [],_,_,i,o,h=>by simp at h
 | o :: r,pre,h,0,o',hi=>by
  simp at hi
  subst hi
  simp only[drawChk,Bool.and_eq_true] at h
  refine ⟨fun e he=>by simpa using allLt_mem h.1.1 e he,fun k p hk hc=>?_⟩
  have:=okAt_at pre 0 h.1.2 k p (by simpa using hk) hc
  simpa using this
 | o :: r,pre,h,i+1,o',hi=>by
  simp only[drawChk,Bool.and_eq_true] at h
  have h2:=h.2
  rw[← accOf_snoc] at h2
  obtain ⟨h3,h4⟩:=drawChk_at r (pre++[o]) h2 i o' (by simpa using hi)
  refine ⟨fun e he=>by have:=h3 e he;simp at this;omega,fun k p hk hc=>?_⟩
  have:=h4 k p (by simpa [List.append_assoc] using hk) hc
  simpa [List.append_assoc] using this

theorem confl_symm_reads [CA] {lt:Option Nat} {all:Array Oper} {o p:Oper} (h:confl lt all o p=false):(∀ d,o.dst=some d→d ∉ p.looksAt all)∧(∀ d,p.dst=some d→d ∉ o.looksAt all)∧(∀ d,o.dst=some d→p.dst≠some d)∧((actv o.op && actv p.op)=false)∧(mutat lt o.op=true→hplF lt p=true)∧(mutat lt p.op=true→hplF lt o=true):=by
 unfold confl at h
 simp only[Bool.or_eq_false_iff] at h
 obtain ⟨⟨⟨⟨h1,h2⟩,h3⟩,h4⟩,h5⟩:=h
 refine ⟨fun d hd hm=>?_,fun d hd hm=>?_,fun d hd hm=>?_,h3,fun hm=>?_,fun hm=>?_⟩
 ·rw[hd] at h1
  simp only[Bool.or_eq_false_iff] at h1
  rw[inL_iff.2 hm] at h1
  exact absurd h1.1 (by simp)
 ·rw[hd] at h2
  simp only at h2
  rw[inL_iff.2 hm] at h2
  cases h2
 ·rw[hd] at h1
  simp only[Bool.or_eq_false_iff] at h1
  rw[hm] at h1
  simp only[Nat.beq_refl] at h1
  exact absurd h1.2 (by simp)
 ·rw[hm] at h4
  simpa using h4
 ·rw[hm] at h5
  simpa using h5

theorem cntA_take_succ [CA] (l:List Oper) (k:Nat) (o:Oper) (h:l[k]?=some o):cntA (l.take (k+1))=bif actv o.op then cntA (l.take k)+1 else cntA (l.take k):=by
 have:l.take (k+1)=l.take k++[o]:=by rw[List.take_add_one,h];rfl
 rw[this,cntA_snoc]

theorem RelD.drew {C:Ctx} {h:Heap} {β:Nat→Value} {V:Nat→Prop} {w:World} (hr:RelD C h β V w) (k:Nat):RelD C h β V { w with drawn:=k }:=by
 have mv:Moved V w V { w with drawn:=k }:=fun k hk=>⟨hk,rfl⟩
 refine ⟨fun i o hi=>(hr.obj i o hi).keep (LeH.refl _ _) mv rfl (fun _ _=>rfl),hr.sep,hr.mine,hr.vout,hr.vlt,hr.vin,hr.vnew,⟨hr.fr.os,hr.fr.tape,hr.fr.output,hr.fr.size,hr.fr.block⟩,hr.gl.move mv⟩

section
variable {P:Program} {T:Tab} {F:FuncId→Bool} {C:Ctx} {n:Nat}

theorem countP_upd {p q:Nat→Bool} {i:Nat}:∀ (l:List Nat),l.Nodup→i∈l→p i=true→q i=false→(∀ j,j≠i→p j=q j)→l.countP q+1=l.countP p
 | [],_,h,_,_,_=>by simp at h
 | a :: l,hn,hm,hp,hq,hj=>by
  have hn':=List.nodup_cons.1 hn
  by_cases ha:a=i
  ·subst ha
   have:l.countP q=l.countP p:=List.countP_congr (fun j hjl=>by rw[hj j (fun e=>hn'.1 (e▸hjl))])
   rw[List.countP_cons,List.countP_cons,hp,hq,this]
   simp
  ·have hm':i∈l:=by rcases List.mem_cons.1 hm with h | h;exact absurd h.symm ha;exact h
   have:=countP_upd l hn'.2 hm' hp hq hj
   rw[List.countP_cons,List.countP_cons,hj a ha]
   omega

theorem getD_set {l:Array Bool} {i j:Nat} (hi:i < l.size) (z:Bool):(l.setIfInBounds i true).getD j z=if j=i then true else l.getD j z:=by
 simp only[Array.getD_eq_getD_getElem?,Array.getElem?_setIfInBounds]
 by_cases h:i=j
 ·subst h
  simp[hi]
 ·rw[if_neg h,if_neg (fun e=>h e.symm)]

theorem foldE_app:∀ (x y:List Oper) (fx fy:List Fact) (E:Env),fx.length=x.length→foldE E (x++y) (fx++fy)=foldE (foldE E x fx) y fy
 | [],y,fx,fy,E,h=>by cases fx with | nil=>rfl | cons=>simp at h
 | o :: x,y,[],fy,E,h=>by simp at h
 | o :: x,y,f :: fx,fy,E,h=>by simp only[List.cons_append,foldE];exact foldE_app x y fx fy _ (by simpa using h)
def pastF (env:Env) (o:Oper):Fact:=⟨match o.dst with | some s=>env s | none=>.any,env,true,false,false⟩
theorem foldE_past (env:Env):∀ (l:List Oper),foldE env l (l.map (pastF env))=env
 | []=>rfl
 | o :: l=>by
  simp only[List.map_cons,foldE]
  have:setO env o.dst (pastF env o).d=env:=by
   funext s
   unfold pastF
   cases hd:o.dst with
   | none=>rfl
   | some i =>
    simp only[setO,Env.set]
    by_cases hs:s=i
    ·subst hs;rw[Nat.beq_refl];rfl
    ·rw[beq_ne hs];rfl
  rw[this,foldE_past env l]
theorem nthD_rep {α:Type} {z a:α}:∀ {m:Nat} {l:List α} {j:Nat},j < m→nthD z (List.replicate m a++l) j=a
 | 0,_,_,h=>by omega
 | m+1,l,0,_=>rfl
 | m+1,l,j+1,h=>by rw[List.replicate_succ,List.cons_append];exact nthD_rep (by omega)

def Pend [CA] (T:Tab) (L:List Oper) (lo:Nat) (X:Nat→Bool) (C:Ctx) (h:Heap) (β:Nat→Value) (V:Nat→Prop) (tm:Array Value) (w:World):Prop :=
 ∃ γ:Nat→Nat,(∀ (k:Nat) (o:Oper),L[k]?=some o→lo≤k→isFl o=true→X k=true→∃ s t i,o.dst=some s∧o.op=.alloc t∧T t=some i∧tm.getD s undef=.pointer (some ⟨γ k,0,none⟩)∧w.heap[γ k]?=some (.cells i.zero.toArray t (0,0))∧¬V (γ k)∧(C.w0.heap.size≤γ k∨C.own (γ k)) ∧
   ∀ (i':Nat) (o':Obj),h[i']?=some o'→o'.live=true→¬Bk o' (β i') (γ k)) ∧
  (∀ (k k':Nat) (o o':Oper),L[k]?=some o→L[k']?=some o'→lo≤k→lo≤k'→isFl o=true→isFl o'=true→X k=true→X k'=true→γ k=γ k'→k=k')
theorem uniqD_at:∀ {l:List Oper} {s c:Nat},uniqD l s c=true→(c=0→∀ (i j:Nat) (o p:Oper),l[i]?=some o→l[j]?=some p→o.dst=some s→p.dst=some s→i=j)∧(c=1→∀ (i:Nat) (o:Oper),l[i]?=some o→o.dst≠some s)∧c≤1
 | [],s,c,h=>by
  simp only[uniqD] at h
  have:=Nat.eq_of_beq_eq_true h
  exact ⟨fun h=>(by omega),fun _ i o hi=>(by simp at hi),by omega⟩
 | o :: l,s,c,h=>by
  simp only[uniqD] at h
  cases hd:o.dst with
  | none =>
   rw[hd] at h
   simp only at h
   obtain ⟨h0,h1,h2⟩:=uniqD_at h
   refine ⟨fun hc i j a b ha hb ea eb=>?_,fun hc i a ha ea=>?_,h2⟩
   ·cases i with
    | zero=>simp at ha;subst ha;rw[hd] at ea;cases ea
    | succ i=>cases j with
     | zero=>simp at hb;subst hb;rw[hd] at eb;cases eb
     | succ j=>rw[h0 hc i j a b (by simpa using ha) (by simpa using hb) ea eb]
   ·cases i with
    | zero=>simp at ha;subst ha;rw[hd] at ea;cases ea
    | succ i=>exact h1 hc i a (by simpa using ha) ea
  | some d =>
   rw[hd] at h
   simp only at h
   cases hb:Nat.beq d s with
   | false =>
    rw[hb] at h
    simp only[cond_false] at h
    have hne:d≠s:=fun e=>by subst e;rw[Nat.beq_refl] at hb;cases hb
    obtain ⟨h0,h1,h2⟩:=uniqD_at h
    refine ⟨fun hc i j a b ha hb ea eb=>?_,fun hc i a ha ea=>?_,h2⟩
    ·cases i with
     | zero=>simp at ha;subst ha;rw[hd] at ea;injection ea with ea;exact absurd ea hne
     | succ i=>cases j with
      | zero=>simp at hb;subst hb;rw[hd] at eb;injection eb with eb;exact absurd eb hne
      | succ j=>rw[h0 hc i j a b (by simpa using ha) (by simpa using hb) ea eb]
    ·cases i with
     | zero=>simp at ha;subst ha;rw[hd] at ea;injection ea with ea;exact absurd ea hne
     | succ i=>exact h1 hc i a (by simpa using ha) ea
   | true =>
    rw[hb] at h
    simp only[cond_true] at h
    obtain ⟨h0,h1,h2⟩:=uniqD_at h
    refine ⟨fun hc i j a b ha hb ea eb=>?_,fun hc=>(by omega),by omega⟩
    have h1':=h1 (by omega)
    cases i with
    | zero=>cases j with
     | zero=>rfl
     | succ j=>exact absurd eb (h1' j b (by simpa using hb))
    | succ i=>exact absurd ea (h1' i a (by simpa using ha))
theorem dstU_at {ops:Array Oper} {s:Nat} (h:dstU ops (some s)=true) {i j:Nat} {o p:Oper} (hi:ops.toList[i]?=some o) (hj:ops.toList[j]?=some p) (ho:o.dst=some s) (hp:p.dst=some s):i=j :=
 (uniqD_at (s:=s) (c:=0) h).1 rfl i j o p hi hj ho hp
theorem relD_keep {C:Ctx} {h:Heap} {β:Nat→Value} {V:Nat→Prop} {w w':World} (hr:RelD C h β V w) (hf:Fr (fun _=>False) w w'):RelD C h β V w'∧Moved V w V w':=by
 have hm:Moved V w V w':=fun k hk=>⟨hk,hf.block k (hr.vlt k hk) (fun h=>h)⟩
 refine ⟨⟨fun i o hi=>?_,hr.sep,hr.mine,hr.vout,fun k hk=>Nat.lt_of_lt_of_le (hr.vlt k hk) hf.size,hr.vin,hr.vnew,?_,hr.gl.move hm⟩,hm⟩
 ·cases hlv:o.live with
  | false=>cases o<;>simp_all [Obj.live,ObjOk]
  | true=>exact (hr.obj i o hi).keep (LeH.refl h β) hm rfl (fun k hk=>hf.block k (hr.lt hi hlv hk) (fun h=>h))
 ·refine ⟨hf.os.trans hr.fr.os,hf.tape.trans hr.fr.tape,hf.output.trans hr.fr.output,Nat.le_trans hr.fr.size hf.size,fun k hk hn=>?_⟩
  rw[hf.block k (Nat.lt_of_lt_of_le hk hr.fr.size) (fun h=>h)]
  exact hr.fr.block k hk hn
theorem Pend.step [CA] {T:Tab} {L:List Oper} {lo:Nat} {X X':Nat→Bool} {C:Ctx} {h h':Heap} {β β':Nat→Value} {V V':Nat→Prop} {tm tm':Array Value} {w w':World} (hp:Pend T L lo X C h β V tm w) (_hr:RelD C h β V w)
  (hr':RelD ⟨w,fun k=>∃ i o,h[i]?=some o∧o.live=true∧Bk o (β i) k,V,C.G⟩ h' β' V' w')
  (hX:∀ (k:Nat) (o:Oper),L[k]?=some o→lo≤k→isFl o=true→X' k=true→X k=true)
  (htm:∀ (k:Nat) (o:Oper) (s:Nat),L[k]?=some o→lo≤k→isFl o=true→X' k=true→o.dst=some s→tm'.getD s undef=tm.getD s undef):Pend T L lo X' C h' β' V' tm' w':=by
 obtain ⟨γ,h1,h2⟩:=hp
 refine ⟨γ,fun k o hk hlo hf hx=>?_,fun k k' o o' a1 a2 a3 a4 a5 a6 a7 a8=>h2 k k' o o' a1 a2 a3 a4 a5 a6 (hX k o a1 a3 a5 a7) (hX k' o' a2 a4 a6 a8)⟩
 obtain ⟨s,t,i,e1,e2,e3,e4,e5,e6,e7,e8⟩:=h1 k o hk hlo hf (hX k o hk hlo hf hx)
 have hlt:γ k < w.heap.size:=(Array.getElem?_eq_some_iff.1 e5).1
 have hno:¬∃ i o,h[i]?=some o∧o.live=true∧Bk o (β i) (γ k):=fun ⟨i',o',q1,q2,q3⟩=>e8 i' o' q1 q2 q3
 refine ⟨s,t,i,e1,e2,e3,(htm k o s hk hlo hf hx e1).trans e4,(hr'.fr.block _ hlt hno).trans e5,fun hv=>?_,e7,fun i' o' q1 q2 q3=>?_⟩
 ·rcases hr'.vnew _ hv with h3 | h3 | h3
  ·exact e6 h3
  ·exact absurd hlt (Nat.not_lt.2 h3)
  ·exact hno h3
 ·rcases hr'.mine i' o' _ q1 q2 q3 with h3 | h3
  ·exact absurd hlt (Nat.not_lt.2 h3)
  ·exact hno h3
theorem Pend.kill [CA] {T:Tab} {L:List Oper} {lo:Nat} {X:Nat→Bool} {C:Ctx} {h:Heap} {β:Nat→Value} {V:Nat→Prop} {tm:Array Value} {w:World} (l:List Nat) (hp:Pend T L lo X C h β V tm w):Pend T L lo X C (kills h l) β (killV h l β V) tm w:=by
 obtain ⟨γ,h1,h2⟩:=hp
 refine ⟨γ,fun k o hk hlo hf hx=>?_,h2⟩
 obtain ⟨s,t,i,e1,e2,e3,e4,e5,e6,e7,e8⟩:=h1 k o hk hlo hf hx
 refine ⟨s,t,i,e1,e2,e3,e4,e5,fun hv=>?_,e7,fun i' o' q1 q2 q3=>?_⟩
 ·rcases hv with hv | ⟨i',o',_,q1,q2,q3⟩
  ·exact e6 hv
  ·exact e8 i' o' q1 q2 q3
 ·rcases kills_get l h i' o' q1 with ⟨rfl,_⟩ | ⟨_,q1⟩
  ·cases q2
  ·exact e8 i' o' q1 q2 q3
mutual
theorem RepD.unapp {h:Heap} {x:Obj} {β β1:Nat→Value} {V V1:Nat→Prop} {w w1:World}:∀ (d:D) (v1 v:Value),RepD h β1 V1 w1 d v1→RepD (h++[x]) β V w d v→RepD h β V w d v
 | .g x,v1,v,h1,hr=>by simp only[RepD] at hr ⊢;exact hr
 | .pb p,v1,v,h1,hr=>by simp only[RepD] at hr ⊢;exact hr
 | .pn p,v1,v,h1,hr=>by simp only[RepD] at hr ⊢;exact hr
 | .nils,v1,v,h1,hr=>by simp only[RepD] at hr ⊢;exact hr
 | .row i,v1,v,h1,hr=>by
  simp only[RepD] at h1 hr ⊢
  cases ho:h[i]? with
  | none=>rw[ho] at h1;exact h1.elim
  | some o=>rw[List.getElem?_append_left (List.getElem?_eq_some_iff.1 ho).1,ho] at hr;exact hr
 | .rs i lo n,v1,v,h1,hr=>by
  simp only[RepD] at h1 hr ⊢
  cases ho:h[i]? with
  | none=>rw[ho] at h1;exact h1.elim
  | some o=>rw[List.getElem?_append_left (List.getElem?_eq_some_iff.1 ho).1,ho] at hr;exact hr
 | .ptr i off,v1,v,h1,hr=>by
  simp only[RepD] at h1 hr ⊢
  cases ho:h[i]? with
  | none=>rw[ho] at h1;exact h1.elim
  | some o=>rw[List.getElem?_append_left (List.getElem?_eq_some_iff.1 ho).1,ho] at hr;exact hr
 | .el i j off,v1,v,h1,hr=>by
  simp only[RepD] at h1 hr ⊢
  cases ho:h[i]? with
  | none=>rw[ho] at h1;exact h1.elim
  | some o=>rw[List.getElem?_append_left (List.getElem?_eq_some_iff.1 ho).1,ho] at hr;exact hr
 | .fp r off,v1,v,h1,hr=>by simp only[RepD] at hr ⊢;exact hr
 | .nilP,v1,v,h1,hr=>by simp only[RepD] at hr ⊢;exact hr
 | .nilF,v1,v,h1,hr=>by simp only[RepD] at hr ⊢;exact hr
 | .nilI,v1,v,h1,hr=>by simp only[RepD] at hr ⊢;exact hr
 | .fn f fs cs,v1,v,h1,hr=>by
  simp only[RepD] at h1 hr ⊢
  obtain ⟨us1,ts1,_,a1,b1⟩:=h1
  obtain ⟨us,ts,e,a,b⟩:=hr
  exact ⟨us,ts,e,RepDL.unapp fs us1 us a1 a,RepDL.unapp cs ts1 ts b1 b⟩
 | .iface t x,v1,v,h1,hr=>by
  simp only[RepD] at h1 hr ⊢
  obtain ⟨u1,_,a1⟩:=h1
  obtain ⟨u,e,a⟩:=hr
  exact ⟨u,e,RepD.unapp x u1 u a1 a⟩
 | .agg cs,v1,v,h1,hr=>by
  simp only[RepD] at h1 hr ⊢
  obtain ⟨us1,_,a1⟩:=h1
  obtain ⟨us,e,a⟩:=hr
  exact ⟨us,e,RepDL.unapp cs us1 us a1 a⟩
 | .tuple cs,v1,v,h1,hr=>by
  simp only[RepD] at h1 hr ⊢
  obtain ⟨us1,_,a1⟩:=h1
  obtain ⟨us,e,a⟩:=hr
  exact ⟨us,e,RepDL.unapp cs us1 us a1 a⟩
 | .any,v1,v,h1,hr=>by simp only[RepD]
theorem RepDL.unapp {h:Heap} {x:Obj} {β β1:Nat→Value} {V V1:Nat→Prop} {w w1:World}:∀ (ds:List D) (vs1 vs:List Value),RepDL h β1 V1 w1 ds vs1→RepDL (h++[x]) β V w ds vs→RepDL h β V w ds vs
 | [],_,_,_,hr=>by simp only[RepDL] at hr ⊢;exact hr
 | d :: ds,vs1,vs,h1,hr=>by
  simp only[RepDL] at h1 hr ⊢
  obtain ⟨v1,us1,_,a1,b1⟩:=h1
  obtain ⟨v,us,e,a,b⟩:=hr
  exact ⟨v,us,e,RepD.unapp d v1 v a1 a,RepDL.unapp ds us1 us b1 b⟩
end
theorem RelD.unapp {C C1:Ctx} {h:Heap} {x:Obj} {β β1:Nat→Value} {V V1:Nat→Prop} {w w1:World} (h1:RelD C1 h β1 V1 w1) (hr:RelD C (h++[x]) β V w):RelD C h β V w:=by
 have up:∀ {i:Nat} {o:Obj},h[i]?=some o→(h++[x])[i]?=some o:=fun {i o} hi=>by
  rw[List.getElem?_append_left (List.getElem?_eq_some_iff.1 hi).1];exact hi
 refine ⟨fun i o hi=>?_,fun i j o o' k a b c d=>hr.sep i j o o' k (up a) b (up c) d,fun i o k a=>hr.mine i o k (up a),fun i o k a=>hr.vout i o k (up a),hr.vlt,hr.vin,hr.vnew,hr.fr,hr.gl⟩
 have a:=h1.obj i o hi
 have b:=hr.obj i o (up hi)
 cases o with
 | blk cs t =>
  obtain ⟨_,vs1,_,_,c1⟩:=a
  obtain ⟨g,vs,e1,e2,c2⟩:=b
  exact ⟨g,vs,e1,e2,RepDL.unapp cs vs1 vs c1 c2⟩
 | row xs e sz=>exact b
 | many l ts =>
  obtain ⟨b1,b2,b3⟩:=b
  refine ⟨b1,b2,fun t ht=>?_⟩
  obtain ⟨o1,q1,_⟩:=a.2.2 t ht
  obtain ⟨o2,q2,q3⟩:=b3 t ht
  rw[up q1] at q2
  injection q2 with e
  subst e
  exact ⟨o1,q1,q3⟩
 | dead=>trivial
theorem kills_last (h:Heap) (o:Obj):kills (h++[o]) [h.length]=h++[.dead]:=by
 simp[kills]
theorem LeH.unapp {h h':Heap} {x:Obj} {β β':Nat→Value} (hl:h'.length=h.length) (hle:LeH h β (h'++[x]) β'):LeH h β h' β':=fun i o hi=>by
 obtain ⟨o',a,b,c⟩:=hle i o hi
 rw[List.getElem?_append_left (by rw[hl];exact (List.getElem?_eq_some_iff.1 hi).1)] at a
 exact ⟨o',a,b,c⟩
theorem Pend.unapp [CA] {T:Tab} {L:List Oper} {lo:Nat} {X:Nat→Bool} {C:Ctx} {h:Heap} {x:Obj} {β:Nat→Value} {V:Nat→Prop} {tm:Array Value} {w:World} (hp:Pend T L lo X C (h++[x]) β V tm w):Pend T L lo X C h β V tm w:=by
 obtain ⟨γ,h1,h2⟩:=hp
 refine ⟨γ,fun k o hk hlo hf hx=>?_,h2⟩
 obtain ⟨s,t,i,e1,e2,e3,e4,e5,e6,e7,e8⟩:=h1 k o hk hlo hf hx
 exact ⟨s,t,i,e1,e2,e3,e4,e5,e6,e7,fun i' o' q1 q2 q3=>e8 i' o' (by rw[List.getElem?_append_left (List.getElem?_eq_some_iff.1 q1).1];exact q1) q2 q3⟩
def RelF [CA] (C:Ctx) (n:Nat) (T:Tab) (L:List Oper) (lo:Nat) (st:St) (a:Act) (w:World):Prop :=
 a.tmps.size=n∧a.defers=st.df∧∃ β V,RelD C st.h β V w∧EnvOk st β V w a∧Pend T L lo (fun _=>true) C st.h β V a.tmps w
def adoptK [CA] (T:Tab) (K:St→Prop) (l:List Oper):St→Prop :=
 List.rec (motive:=fun _=>St→Prop) K (fun o _ next st=>bif isFl o then (match o.op,o.dst,st with
  | .alloc t,some s,⟨env,h,df⟩=>match T t with
   | some i=>next ⟨env.set s (.ptr h.length 0),h++[.blk (i.zero.map of1) t],df⟩
   | none=>False
  | _,_,_=>False) else next st) l
theorem snoc_at' {h:Heap} {o:Obj} {i:Nat} {o':Obj} (hi:(h++[o])[i]?=some o'):(i=h.length∧o'=o)∨(i < h.length∧h[i]?=some o'):=by
 by_cases hl:i < h.length
 ·rw[List.getElem?_append_left hl] at hi
  exact .inr ⟨hl,hi⟩
 ·rw[List.getElem?_append_right (by omega)] at hi
  have:i - h.length=0:=by
   have:=(List.getElem?_eq_some_iff.1 hi).1
   simp at this
   omega
  rw[this] at hi
  simp at hi
  exact .inl ⟨by omega,hi.symm⟩
theorem RelD.adopt {C:Ctx} {h:Heap} {β:Nat→Value} {V:Nat→Prop} {w:World} (hr:RelD C h β V w) {g:Nat} {t:TypeId} {vs:List Value} {ds:List D} (hg:w.heap[g]?=some (.cells ⟨vs⟩ t (0,0))) (hd:RepDL h β V w ds vs) (hv:¬V g) (hm:C.w0.heap.size≤g∨C.own g)
  (hu:∀ (i:Nat) (o:Obj),h[i]?=some o→o.live=true→¬Bk o (β i) g):RelD C (h++[.blk ds t]) (upf β h.length (.pointer (some ⟨g,0,none⟩))) V w:=by
 have le:=le_snoc h β (.blk ds t) (.pointer (some ⟨g,0,none⟩))
 have bg:∀ k,Bk (.blk ds t) (upf β h.length (.pointer (some ⟨g,0,none⟩)) h.length) k→k=g:=fun k hk=>by
  rw[upf_eq] at hk
  simp only[Bk,bk,Option.some.injEq] at hk
  exact hk.symm
 refine ⟨fun j o hj=>?_,fun j1 j2 o1 o2 k h1 l1 h2 l2 k1 k2=>?_,fun j o k hj hl hk=>?_,fun j o k hj hl hk=>?_,hr.vlt,hr.vin,hr.vnew,hr.fr,hr.gl⟩
 ·rcases snoc_at' hj with ⟨rfl,rfl⟩ | ⟨hl,hj⟩
  ·exact ⟨g,vs,upf_eq _ _ _,hg,RepDL.mono le (Moved.refl _ _) _ _ hd⟩
  ·cases hlv:o.live with
   | false=>cases o<;>simp_all [Obj.live,ObjOk]
   | true=>exact (hr.obj j o hj).keep le (Moved.refl V w) (upf_ne (by omega)) (fun _ _=>rfl)
 ·rcases snoc_at' h1 with ⟨rfl,rfl⟩ | ⟨a1,h1⟩<;>rcases snoc_at' h2 with ⟨rfl,rfl⟩ | ⟨a2,h2⟩
  ·rfl
  ·have:=bg k k1
   subst this
   rw[upf_ne (by omega)] at k2
   exact absurd k2 (hu j2 o2 h2 l2)
  ·have:=bg k k2
   subst this
   rw[upf_ne (by omega)] at k1
   exact absurd k1 (hu j1 o1 h1 l1)
  ·rw[upf_ne (by omega)] at k1 k2
   exact hr.sep j1 j2 o1 o2 k h1 l1 h2 l2 k1 k2
 ·rcases snoc_at' hj with ⟨rfl,rfl⟩ | ⟨a1,hj⟩
  ·rw[bg k hk];exact hm
  ·rw[upf_ne (by omega)] at hk
   exact hr.mine j o k hj hl hk
 ·rcases snoc_at' hj with ⟨rfl,rfl⟩ | ⟨a1,hj⟩
  ·rw[bg k hk];exact hv
  ·rw[upf_ne (by omega)] at hk
   exact hr.vout j o k hj hl hk
theorem adopt_sound [CA] {C:Ctx} {n:Nat} {T:Tab} {L:List Oper} {a:Act} {w:World} {K:St→Prop}:∀ (l:List Oper) (p:Nat),L.drop p=l→∀ st:St,RelF C n T L p st a w→adoptK T K l st→∃ st1,Rel C n st1 a w∧K st1
 | [],p,_,st,⟨h1,h2,β,V,h3,h4,_⟩,hk=>⟨st,⟨h1,h2,β,V,h3,h4⟩,hk⟩
 | o :: l,p,hL,st,⟨h1,h2,β,V,h3,h4,h5⟩,hk=>by
  have hp:L[p]?=some o:=by
   have:=congrArg (fun l=>l[0]?) hL
   simpa using this
  have hL':L.drop (p+1)=l:=by
   have:=congrArg List.tail hL
   simpa using this
  have less:∀ {h:Heap} {β:Nat→Value},Pend T L p (fun _=>true) C h β V a.tmps w→Pend T L (p+1) (fun _=>true) C h β V a.tmps w:=fun ⟨γ,q1,q2⟩ =>
   ⟨γ,fun k o hk hlo hf hx=>q1 k o hk (by omega) hf hx,fun k k' o o' a1 a2 a3 a4 a5 a6 a7 a8=>q2 k k' o o' a1 a2 (by omega) (by omega) a5 a6 a7 a8⟩
  cases hfl:isFl o with
  | false =>
   have hk':adoptK T K l st:=by
    simp only[adoptK,hfl,cond_false] at hk
    exact hk
   exact adopt_sound l (p+1) hL' st ⟨h1,h2,β,V,h3,h4,less h5⟩ hk'
  | true =>
   obtain ⟨γ,q1,q2⟩:=h5
   obtain ⟨s,t,i,e1,e2,e3,e4,e5,e6,e7,e8⟩:=q1 p o hp (Nat.le_refl _) hfl rfl
   have hr':=h3.adopt (g:=γ p) (vs:=i.zero) (ds:=i.zero.map of1) e5 (ofL_rep _) e6 e7 e8
   have hk':adoptK T K l ⟨st.env.set s (.ptr st.h.length 0),st.h++[.blk (i.zero.map of1) t],st.df⟩:=by
    simp only[adoptK,hfl,cond_true,e1,e2,e3] at hk
    exact hk
   refine adopt_sound l (p+1) hL' ⟨st.env.set s (.ptr st.h.length 0),st.h++[.blk (i.zero.map of1) t],st.df⟩ ⟨h1,h2,_,V,hr',fun k=>?_,⟨γ,fun k o' hk hlo hf hx=>?_,fun k k' o o' a1 a2 a3 a4 a5 a6 a7 a8=>q2 k k' o o' a1 a2 (by omega) (by omega) a5 a6 a7 a8⟩⟩ hk'
   ·show RepD _ _ V w (Env.set st.env s (.ptr st.h.length 0) k) _
    simp only[Env.set]
    by_cases hks:k=s
    ·subst hks
     rw[Nat.beq_refl,e4]
     simp only[cond_true,RepD]
     rw[List.getElem?_append_right (Nat.le_refl _)]
     simp only[Nat.sub_self,List.getElem?_cons_zero]
     exact ⟨γ p,upf_eq _ _ _,rfl⟩
    ·rw[beq_ne hks]
     exact RepD.mono (le_snoc _ _ _ _) (Moved.refl V w) _ _ (h4 k)
   ·obtain ⟨s',t',i',f1,f2,f3,f4,f5,f6,f7,f8⟩:=q1 k o' hk (by omega) hf rfl
    refine ⟨s',t',i',f1,f2,f3,f4,f5,f6,f7,fun j oj hj hl hb=>?_⟩
    rcases snoc_at' hj with ⟨rfl,rfl⟩ | ⟨a1,hj⟩
    ·rw[upf_eq] at hb
     simp only[Bk,bk,Option.some.injEq] at hb
     have:=q2 p k o o' hp hk (Nat.le_refl _) (by omega) hfl hf rfl rfl hb
     omega
    ·rw[upf_ne (by omega)] at hb
     exact f8 j oj hj hl hb

set_option maxHeartbeats 1600000 in
theorem seg_inv [CA] (hT:TabOk P T) (hF:∀ g,F g=true→fnOk P g=true) {id:Nat} {ops:Array Oper} (S:List Nat) (hs:∀ k∈mods (.region id ops true),k < n) (hm:∀ k∈mods (.region id ops true),inL S k=true) {pp:Option Nat} {Qp:D→Prop} {post:Exit→Act→World→Prop} {a:Act}
  (hat0:∀ (i:Nat) (o:Oper),ops.toList[i]?=some o→(∀ e∈edgesOf o,e < i)∧∀ (k:Nat) (p:Oper),(ops.toList.take i)[k]?=some p→confl pp ops o p=true→Nat.testBit (rowOf (accOf (ops.toList.take i)) (edgesOf o)) k=true)
  (pre r tail:List Oper) (hL:ops.toList=(pre++r)++tail) {env:Env} {hh:Heap} {df:List Deferred} {K:St→Prop} (hv:vcDr P T F C.G pp Qp ops r pre (accOf pre) (List.replicate (cntA pre+1) hh) env df [] K)
  (hsyn:∀ (o:Oper),ops.toList[(pre++r).length]?=some o→∀ j,j < (pre++r).length→Nat.testBit (rowOf (accOf (ops.toList.take (pre++r).length)) (edgesOf o)) j=true)
  (hbar:∀ (i:Nat) (o:Oper),ops.toList[i]?=some o→(pre++r).length < i→Nat.testBit (rowOf (accOf (ops.toList.take i)) (edgesOf o)) (pre++r).length=true)
  (hpan:∀ (dp:D) (e:Env) (h':Heap) (ch:List PanicEntry) (a':Act) (w':World),Qp dp→XOk (.panic ch) (.pan dp) ⟨e,h',df⟩ a' w' C n→Keeps S a a'→post (.panic ch) a' w')
  (hcont:∀ (fuel:Nat) (listed:Array Bool) (a':Act) (w':World) (st:St),K st→RelF C n T (pre++r) pre.length st a' w'→Keeps S a a'→listed.size=ops.size→(∀ i,listed.getD i false=decide (i < (pre++r).length))→(List.range ops.size).countP (fun i=>!listed.getD i false)≤fuel→wpAny P .any ops post fuel listed a' w') :
  ∀ (fuel:Nat) (listed:Array Bool) (a':Act) (w':World),listed.size=ops.size→(List.range ops.size).countP (fun i=>!listed.getD i false)≤fuel→(∀ i,listed.getD i false=decide (i < pre.length))→Rel C n ⟨env,hh,df⟩ a' w'→Keeps S a a'→wpAny P .any ops post fuel listed a' w':=by
 obtain ⟨fs0,hs',Lf,hfl0,hLf,hQf,hfact0⟩:=vcDr_facts r pre (List.replicate (cntA pre+1) hh) env env df [] K hv (Ref.refl env) (by simp)
 generalize hH:nthD ([]:Heap) (List.replicate (cntA pre+1) hh++hs')=H at hQf hfact0
 have hHc:∀ j,j≤cntA pre→H j=hh:=fun j hj=>by rw[← hH];exact nthD_rep (by omega)
 generalize hLe:pre++r=L at *
 have hlo:pre.length≤L.length:=by rw[← hLe];simp
 generalize hfe:pre.map (pastF env)++fs0=fs
 have hfl:fs.length=L.length:=by rw[← hfe,← hLe];simp[hfl0]
 have hLo:∀ {i:Nat} {o:Oper},L[i]?=some o→ops.toList[i]?=some o:=fun {i o} h=>by
  rw[hL,List.getElem?_append_left (List.getElem?_eq_some_iff.1 h).1];exact h
 have hoL:∀ {i:Nat} {o:Oper},i < L.length→ops.toList[i]?=some o→L[i]?=some o:=fun {i o} hi h=>by
  rwa [hL,List.getElem?_append_left hi] at h
 have htk:∀ {i:Nat},i≤L.length→ops.toList.take i=L.take i:=fun {i} hi=>by rw[hL,List.take_append_of_le_length hi]
 have hat:∀ (i:Nat) (o:Oper),L[i]?=some o→(∀ e∈edgesOf o,e < i)∧∀ (k:Nat) (p:Oper),(L.take i)[k]?=some p→confl pp ops o p=true→Nat.testBit (rowOf (accOf (L.take i)) (edgesOf o)) k=true:=fun i o hi=>by
  have h1:=hat0 i o (hLo hi)
  rwa [htk (Nat.le_of_lt (List.getElem?_eq_some_iff.1 hi).1)] at h1
 have hprt:L.take pre.length=pre:=by rw[← hLe];simp
 have hpft:fs.take pre.length=pre.map (pastF env):=by rw[← hfe];exact List.take_left' (by simp)
 have hfact:∀ (i:Nat) (o:Oper) (f:Fact),L[i]?=some o→fs[i]?=some f→pre.length≤i →
   FactAt pp P T F C.G Qp ops o f (foldE env (L.take i) (fs.take i)) H (cntA (L.take i)) (cntR (rowOf (accOf (L.take i)) (edgesOf o)) (L.take i)) df ∧
   (f.dd=true→∃ p,Nat.testBit (rowOf (accOf (L.take i)) (edgesOf o)) p=true∧∃ f',fs[p]?=some f'∧f'.pn=true):=by
  intro i o f hi hf hle
  have e1:L.take i=pre++r.take (i - pre.length):=by rw[← hLe,List.take_append,List.take_of_length_le hle]
  have e2:fs.take i=pre.map (pastF env)++fs0.take (i - pre.length):=by rw[← hfe,List.take_append,List.take_of_length_le (by simpa using hle)];simp
  have h1:r[i - pre.length]?=some o:=by rw[← hLe,List.getElem?_append_right hle] at hi;exact hi
  have h2:fs0[i - pre.length]?=some f:=by rw[← hfe,List.getElem?_append_right (by simpa using hle)] at hf;simpa using hf
  obtain ⟨k1,k2⟩:=hfact0 _ o f h1 h2
  rw[e1,e2,foldE_app _ _ _ _ _ (by simp),foldE_past]
  refine ⟨k1,fun hd=>?_⟩
  obtain ⟨p,hb,hp⟩:=k2 hd
  rcases hp with hp | ⟨i',f',rfl,hf',hpf⟩
  ·simp at hp
  ·refine ⟨_,hb,f',?_,hpf⟩
   rw[← hfe,List.getElem?_append_right (by simp)]
   simpa using hf'
 have hops:∀ (i:Nat) (o:Oper),ops[i]?=some o↔ops.toList[i]?=some o:=fun i o=>by simp
 have hedge:∀ (i:Nat) (o:Oper),L[i]?=some o→∀ e∈edgesOf o,e < i:=fun i o hi e he=>(hat i o hi).1 e he
 have hbind:∀ (o:Oper) (e:Edge),e∈o.after.toList→Region.binds .any e=true→e.on∈edgesOf o:=by
  intro o e he hb
  simp only[edgesOf,List.mem_filterMap]
  refine ⟨e,he,?_⟩
  unfold Region.binds at hb
  cases hg:e.ground<;>rw[hg] at hb<;>first | rfl | (simp at hb)
 have hedges:∀ (o:Oper) (j:Nat),j∈edgesOf o→∃ e∈o.after.toList,e.on=j∧Region.binds .any e=true:=by
  intro o j hj
  simp only[edgesOf,List.mem_filterMap] at hj
  obtain ⟨e,he,hej⟩:=hj
  refine ⟨e,he,?_⟩
  unfold Region.binds
  cases hg:e.ground<;>rw[hg] at hej<;>simp_all
  -- the state behind those that are done
 let E:(Nat→Bool)→Env:=fun X=>eXr X 0 env L fs
 let M:(Nat→Bool)→Nat:=fun X=>lastP X 0 L 0
 let stX:(Nat→Bool)→St:=fun X=>⟨E X,H (cntA (L.take (M X))),df⟩
 let RelP:(Nat→Bool)→Act→World→Prop:=fun X a' w'=>a'.tmps.size=n∧a'.defers=df∧∃ β V,RelD C (H (cntA (L.take (M X)))) β V w'∧EnvOk (stX X) β V w' a'∧Pend T L pre.length X C (H (cntA (L.take (M X)))) β V a'.tmps w'
 have inv:∀ (fuel:Nat) (listed:Array Bool) (a':Act) (w':World),listed.size=ops.size→(List.range ops.size).countP (fun i=>!listed.getD i false)≤fuel →
   (∀ (i:Nat) (o:Oper),L[i]?=some o→listed.getD i false=true→∀ e∈edgesOf o,listed.getD e false=true)→(∀ i,i < pre.length→listed.getD i false=true)→(∀ i,L.length≤i→listed.getD i false=false) →
   RelP (fun i=>listed.getD i false) a' w'→Keeps S a a'→(∀ (i:Nat) (f:Fact),fs[i]?=some f→listed.getD i false=true→f.pn=false) →
   wpAny P .any ops post fuel listed a' w':=by
  intro fuel
  have done:∀ (fuel:Nat) (listed:Array Bool) (a':Act) (w':World),listed.size=ops.size→(List.range ops.size).countP (fun i=>!listed.getD i false)≤fuel→(∀ i,i < L.length→listed.getD i false=true)→(∀ i,L.length≤i→listed.getD i false=false)→RelP (fun i=>listed.getD i false) a' w'→Keeps S a a'→(∀ (i:Nat) (f:Fact),fs[i]?=some f→listed.getD i false=true→f.pn=false)→wpAny P .any ops post fuel listed a' w':=by
   intro fuel listed a' w' hsz hcount hall hbey hrel hk hnp
   refine hcont fuel listed a' w' _ (hQf rfl (fun f hf=>by
    obtain ⟨i,hi,he⟩:=List.getElem_of_mem hf
    exact hnp (pre.length+i) f (by rw[← hfe,List.getElem?_append_right (by simp)];simp[he,hi]) (hall _ (by rw[← hLe];simp;omega)))) ?_ hk hsz (fun i=>?_) hcount
   rotate_left
   ·by_cases hi:i < L.length
    ·rw[hall i hi,decide_eq_true hi]
    ·rw[hbey i (by omega),decide_eq_false hi]
   obtain ⟨h1,h2,β,V,h3,h4,h5⟩:=hrel
   have hEq:∀ s,E (fun i=>listed.getD i false) s=foldE env r fs0 s:=by
    intro s
    have:=foldE_eX L fs L.length 0 env hfl
    rw[List.take_length,List.take_of_length_le (by omega)] at this
    have e3:foldE env r fs0=foldE env L fs:=by rw[← hLe,← hfe,foldE_app _ _ _ _ _ (by simp),foldE_past]
    rw[e3,this]
    refine eXr_congr _ _ _ _ _ (fun k o hk _=>?_) rfl
    have hkl:k < L.length:=(List.getElem?_eq_some_iff.1 hk).1
    simp only[Nat.zero_add]
    rw[hall k hkl]
    exact (decide_eq_true hkl).symm
   have hMq:cntA (L.take (M (fun i=>listed.getD i false)))=cntA L:=by
    have key:∀ m,M (fun i=>listed.getD i false)≤m→m≤L.length→cntA (L.take m)=cntA (L.take (M (fun i=>listed.getD i false))):=by
     intro m
     induction m with
     | zero =>
      intro h _
      have:M (fun i=>listed.getD i false)=0:=by omega
      rw[this]
     | succ m ih =>
      intro hm hml
      by_cases he:M (fun i=>listed.getD i false)=m+1
      ·rw[he]
      ·have ho:L[m]?=some (L[m]'(by omega)):=List.getElem?_eq_getElem (by omega)
       rw[cntA_take_succ _ _ _ ho]
       cases hact:actv (L[m]'(by omega)).op with
       | false=>exact ih (by omega) (by omega)
       | true =>
        have:=lastP_of (p:=fun i=>listed.getD i false) L 0 0 m _ ho hact (by rw[Nat.zero_add];exact hall m (by omega))
        have hlt:m < M (fun i=>listed.getD i false):=by simpa using this
        omega
    have hMle:M (fun i=>listed.getD i false)≤L.length:=by
     rcases lastP_some (p:=fun i=>listed.getD i false) L 0 0 with h | ⟨k,o,hk,_,_,h⟩
     ·show lastP _ _ _ _≤_;omega
     ·have:=(List.getElem?_eq_some_iff.1 hk).1
      show lastP _ _ _ _≤_
      omega
    have:=key L.length hMle (Nat.le_refl _)
    rw[List.take_length] at this
    exact this.symm
   refine ⟨h1,h2,β,V,?_,fun s=>?_,?_⟩
   rotate_right
   ·rw[hMq] at h5
    obtain ⟨γ,g1,g2⟩:=h5
    exact ⟨γ,fun k o hk hlo hf _=>g1 k o hk hlo hf (hall k (List.getElem?_eq_some_iff.1 hk).1),fun k k' o o' a1 a2 a3 a4 a5 a6 _ _=>g2 k k' o o' a1 a2 a3 a4 a5 a6 (hall k (List.getElem?_eq_some_iff.1 a1).1) (hall k' (List.getElem?_eq_some_iff.1 a2).1)⟩
   ·have h3':RelD C (H (cntA (L.take (M (fun i=>listed.getD i false))))) β V w':=h3
    rw[hMq] at h3'
    exact h3'
   ·have h4s:RepD (H (cntA (L.take (M (fun i=>listed.getD i false))))) β V w' (E (fun i=>listed.getD i false) s) (a'.tmps.getD s undef):=h4 s
    rw[hMq,hEq s] at h4s
    exact hLf.rep h4s
    -- what is ready
  have rdy:∀ (listed:Array Bool),listed.size=ops.size→(∀ i,i < ops.size→listed.getD i false=false→(∀ o,ops[i]?=some o→∀ e∈edgesOf o,listed.getD e false=true)→i∈Region.ready .any ops listed):=by
   intro listed hsz i hi hl he
   simp only[Region.ready,List.mem_filter,List.mem_range]
   refine ⟨hi,?_⟩
   have hlt:listed.getD i true=false:=by
    rw[Array.getD_eq_getD_getElem?] at hl ⊢
    rw[Array.getElem?_eq_getElem (by omega)] at hl ⊢
    exact hl
   have hoi:ops[i]?=some ops[i]:=Array.getElem?_eq_getElem hi
   rw[hlt,hoi]
   simp only[Bool.not_false,Bool.true_and,Option.map_some,Option.getD_some]
   rw[Array.all_eq_true]
   intro k hk
   simp only[Bool.or_eq_true,Bool.not_eq_true']
   by_cases hb:Region.binds .any ops[i].after[k]=true
   ·right
    exact he _ hoi _ (hbind ops[i] ops[i].after[k] (by simp) hb)
   ·left;simpa using hb
  have hLs:L.length≤ops.size:=by have:=congrArg List.length hL;simp at this;omega
  have first:∀ (listed:Array Bool),listed.size=ops.size→(¬ ∀ i,i < L.length→listed.getD i false=true)→Region.ready .any ops listed≠[]:=by
   intro listed hsz hn hrd
   refine hn (fun i=>?_)
   induction i using Nat.strongRecOn with
   | _ i ih =>
    intro hi
    by_cases hl:listed.getD i false=true
    ·exact hl
    ·exfalso
     have hmem:=rdy listed hsz i (by omega) (by simpa using hl) (fun o ho e he=>by
      have hlt:=hedge i o (hoL hi ((hops i o).1 ho)) e he
      exact ih e hlt (by omega))
     rw[hrd] at hmem
     simp at hmem
  induction fuel with
  | zero =>
   intro listed a' w' hsz hcount hcl hlow hbey hrel hk hnp
   have hall:∀ i,i < L.length→listed.getD i false=true:=by
    intro i hi
    have h0:(List.range ops.size).countP (fun i=>!listed.getD i false)=0:=by omega
    rw[List.countP_eq_zero] at h0
    have:=h0 i (List.mem_range.2 (by omega))
    simpa using this
   exact done 0 listed a' w' hsz hcount hall hbey hrel hk hnp
  | succ fuel ih =>
   intro listed a' w' hsz hcount hcl hlow hbey hrel hk hnp
   by_cases hall:∀ i,i < L.length→listed.getD i false=true
   ·exact done (fuel+1) listed a' w' hsz hcount hall hbey hrel hk hnp
   refine ⟨fun hrd=>absurd hrd (first listed hsz hall),fun i hi=>?_⟩
   simp only[Region.ready,List.mem_filter,List.mem_range,Bool.and_eq_true,Bool.not_eq_true'] at hi
   obtain ⟨hil,hli,hrdy⟩:=hi
   have hlif:listed.getD i false=false:=by
    rw[Array.getD_eq_getD_getElem?] at hli ⊢
    rw[Array.getElem?_eq_getElem (by omega)] at hli ⊢
    exact hli
   have hoi:ops[i]?=some ops[i]:=Array.getElem?_eq_getElem hil
   generalize ho:ops[i]=o at hoi
   have hot0:ops.toList[i]?=some o:=(hops i o).1 hoi
      -- what it waits for is done
   have hpre:∀ e∈edgesOf o,listed.getD e false=true:=by
    intro j hj
    obtain ⟨e,he,rfl,hb⟩:=hedges o j hj
    rw[hoi] at hrdy
    simp only[Option.map_some,Option.getD_some] at hrdy
    rw[Array.all_eq_true] at hrdy
    obtain ⟨k,hk,hke⟩:=List.getElem_of_mem he
    have:=hrdy k (by simpa using hk)
    simp only[Bool.or_eq_true,Bool.not_eq_true'] at this
    have hke':o.after[k]'(by simpa using hk)=e:=by simpa using hke
    rw[hke'] at this
    rcases this with h1 | h1
    ·rw[hb] at h1;cases h1
    ·exact h1
   let X:Nat→Bool:=fun k=>listed.getD k false
   have hXi:X i=false:=hlif
   have hlol:pre.length≤i:=by
    apply Classical.byContradiction
    intro hn
    have:=hlow i (by omega)
    rw[hlif] at this
    cases this
   have hihi:i < L.length:=by
    apply Classical.byContradiction
    intro hn
    have hrow0:=row_done (X:=X) L (fun k p hkp hXk e he=>hcl k p hkp hXk e he) (fun k p hkp e he=>hedge k p hkp e he)
    by_cases hie:i=L.length
    ·refine hall (fun j hj=>?_)
     have hb:=hsyn o (by rw[← hie];exact hot0) j hj
     rw[htk (Nat.le_refl _),List.take_length] at hb
     exact hrow0.2 (edgesOf o) hpre (fun e he=>by have:=(hat0 i o hot0).1 e he;omega) j hb
    ·have hb:=hbar i o hot0 (by omega)
     have hcl2:∀ (k:Nat) (p:Oper),(ops.toList.take i)[k]?=some p→X k=true→∀ e∈edgesOf p,X e=true:=fun k p hkp hXk e he=>by
      have hki:k < i:=by have:=(List.getElem?_eq_some_iff.1 hkp).1;simp at this;omega
      rw[List.getElem?_take_of_lt hki] at hkp
      by_cases hkl:k < L.length
      ·exact hcl k p (hoL hkl hkp) hXk e he
      ·rw[show X k=false from hbey k (by omega)] at hXk;cases hXk
     have hrow1:=row_done (X:=X) (ops.toList.take i) hcl2 (fun k p hkp e he=>by
      have hki:k < i:=by have:=(List.getElem?_eq_some_iff.1 hkp).1;simp at this;omega
      rw[List.getElem?_take_of_lt hki] at hkp
      exact (hat0 k p hkp).1 e he)
     have:=hrow1.2 (edgesOf o) hpre (fun e he=>by have:=(hat0 i o hot0).1 e he;simp;omega) _ hb
     rw[show X L.length=false from hbey _ (Nat.le_refl _)] at this
     cases this
   have hot:L[i]?=some o:=hoL hihi hot0
   obtain ⟨f,hfi⟩:∃ f,fs[i]?=some f:=⟨fs[i]'(by rw[hfl];exact hihi),List.getElem?_eq_getElem _⟩
   obtain ⟨hfa,hdead⟩:=hfact i o f hot hfi hlol
   have hrow:=row_done (X:=X) (L.take i) (fun k p hkp hXk e he=>by
     have hki:k < i:=by have:=(List.getElem?_eq_some_iff.1 hkp).1;simp at this;omega
     rw[List.getElem?_take_of_lt hki] at hkp
     exact hcl k p hkp hXk e he) (fun k p hkp e he=>by
     have hki:k < i:=by have:=(List.getElem?_eq_some_iff.1 hkp).1;simp at this;omega
     rw[List.getElem?_take_of_lt hki] at hkp
     exact hedge k p hkp e he)
   have before:∀ (k:Nat) (p:Oper),k < i→L[k]?=some p→confl pp ops o p=true→X k=true:=by
    intro k p hki hkp hc
    have hb:=(hat i o hot).2 k p (by rw[List.getElem?_take_of_lt hki];exact hkp) hc
    exact hrow.2 (edgesOf o) hpre (fun e he=>by have:=hedge i o hot e he;simp;omega) k hb
   have later:∀ (k:Nat) (p:Oper),i < k→L[k]?=some p→confl pp ops p o=true→X k=false:=by
    intro k p hki hkp hc
    cases hXk:X k with
    | false=>rfl
    | true =>
     exfalso
     have hb:=(hat k p hkp).2 i o (by rw[List.getElem?_take_of_lt hki];exact hot) hc
     have hrowk:=row_done (X:=X) (L.take k) (fun m q hmq hXm e he=>by
       have hmk:m < k:=by have:=(List.getElem?_eq_some_iff.1 hmq).1;simp at this;omega
       rw[List.getElem?_take_of_lt hmk] at hmq
       exact hcl m q hmq hXm e he) (fun m q hmq e he=>by
       have hmk:m < k:=by have:=(List.getElem?_eq_some_iff.1 hmq).1;simp at this;omega
       rw[List.getElem?_take_of_lt hmk] at hmq
       exact hedge m q hmq e he)
     have hkl:k < L.length:=(List.getElem?_eq_some_iff.1 hkp).1
     have:=hrowk.2 (edgesOf p) (hcl k p hkp hXk) (fun e he=>by have:=hedge k p hkp e he;simp;omega) i hb
     rw[hXi] at this
     cases this
      -- the slots that it looks at hold what they held in the listed order
   have hlook:∀ s∈o.looksAt ops,E X s=foldE env (L.take i) (fs.take i) s:=by
    intro s hsl
    rw[foldE_eX L fs i 0 env hfl]
    refine eXr_congr _ _ _ _ _ (fun k p hkp hd=>?_) rfl
    simp only[Nat.zero_add]
    rcases Nat.lt_trichotomy k i with hki | hki | hki
    ·have:confl pp ops o p=true:=by
      cases hc:confl pp ops o p with
      | true=>rfl
      | false=>exact absurd hsl ((confl_symm_reads hc).2.1 s hd)
     rw[before k p hki hkp this]
     exact (decide_eq_true hki).symm
    ·subst hki
     rw[hXi]
     simp
    ·have:confl pp ops p o=true:=by
      cases hc:confl pp ops p o with
      | true=>rfl
      | false=>exact absurd hsl ((confl_symm_reads hc).1 s hd)
     rw[later k p hki hkp this]
     exact (decide_eq_false (by omega)).symm
   have actpre:∀ (k:Nat) (p:Oper),L[k]?=some p→actv p.op=true→(X k=true↔k < M X):=by
    intro k p hkp hact
    constructor
    ·intro hXk
     have:=lastP_of (p:=X) L 0 0 k p hkp hact (by rw[Nat.zero_add];exact hXk)
     simpa using this
    ·intro hlt
     rcases lastP_some (p:=X) L 0 0 with h0 | ⟨j,q,hjq,hqa,hXj,hj⟩
     ·have:M X=0:=h0
      omega
     ·have hMj:M X=j+1:=by show lastP X 0 L 0=j+1;omega
      rw[Nat.zero_add] at hXj
      by_cases hkj:k=j
      ·subst hkj;exact hXj
      ·have hlt':k < j:=by omega
       have hc:confl pp ops q p=true:=by
        cases hc:confl pp ops q p with
        | true=>rfl
        | false=>have:=(confl_symm_reads hc).2.2.2.1;rw[hqa,hact] at this;cases this
       have hb:=(hat j q hjq).2 k p (by rw[List.getElem?_take_of_lt hlt'];exact hkp) hc
       have hrowj:=row_done (X:=X) (L.take j) (fun m q hmq hXm e he=>by
         have hmk:m < j:=by have:=(List.getElem?_eq_some_iff.1 hmq).1;simp at this;omega
         rw[List.getElem?_take_of_lt hmk] at hmq
         exact hcl m q hmq hXm e he) (fun m q hmq e he=>by
         have hmk:m < j:=by have:=(List.getElem?_eq_some_iff.1 hmq).1;simp at this;omega
         rw[List.getElem?_take_of_lt hmk] at hmq
         exact hedge m q hmq e he)
       have hjl:j < L.length:=(List.getElem?_eq_some_iff.1 hjq).1
       exact hrowj.2 (edgesOf q) (hcl j q hjq hXj) (fun e he=>by have:=hedge j q hjq e he;simp;omega) k hb
   obtain ⟨hsza,hdfa,β,V,hrelX,henvX,hpend⟩:=hrel
   have htmp:∀ s,.tmp s∈o.op.operands→s∈o.looksAt ops:=fun s hs=>List.mem_append_left _ (List.mem_filterMap.2 ⟨.tmp s,by simpa using hs,rfl⟩)
   have hLrep:∀ s∈o.looksAt ops,RepD (H (cntA (L.take (M X)))) β V w' (f.L s) (a'.tmps.getD s undef):=by
    intro s hsl
    have h1:RepD (H (cntA (L.take (M X)))) β V w' (E X s) (a'.tmps.getD s undef):=henvX s
    rw[hlook s hsl] at h1
    exact hfa.ref.rep h1
   have hwant:Region.wanted o (yielded ops a'.tmps)=f.run:=by
    have hg:=hfa.guard
    unfold GuardOk at hg
    cases hgd:o.guard with
    | none=>rw[hgd] at hg;simp[Region.wanted,hgd,hg]
    | some g =>
     obtain ⟨j,b⟩:=g
     rw[hgd] at hg
     simp only at hg
     have hw1:Region.wanted o (yielded ops a'.tmps)=(yielded ops a'.tmps j == some b):=by simp[Region.wanted,hgd]
     rw[hw1]
     cases hd:(ops[j]?).bind (·.dst) with
     | none =>
      rw[hd] at hg
      have:yielded ops a'.tmps j=none:=by unfold yielded;rw[hd];rfl
      rw[this,hg]
      rfl
     | some s =>
      rw[hd] at hg
      simp only at hg
      have hsl:s∈o.looksAt ops:=by
       unfold Oper.looksAt
       refine List.mem_append_right _ ?_
       rw[hgd]
       simp[hd]
      have hrs:=hLrep s hsl
      rw[yielded_val hd]
      rcases hg with ⟨c,e1,e2⟩ | ⟨l,e1,e2⟩
      ·rw[e1] at hrs
       simp only[RepD,RepV] at hrs
       rw[hrs,e2]
       rfl
      ·rw[e1] at hrs
       simp only[RepD] at hrs
       obtain ⟨us,hv',_⟩:=hrs
       rw[hv',e2]
       rfl
   have hdn:∀ d,o.dst=some d→d < n∧inL S d=true:=fun d hd=>by
    have hmm:d∈mods (.region id ops true):=by simp only[mods,List.mem_filterMap];exact ⟨o,List.mem_of_getElem? hot0,hd⟩
    exact ⟨hs d hmm,hm d hmm⟩
   let X':Nat→Bool:=fun k=>(listed.setIfInBounds i true).getD k false
   have hX':∀ k,X' k=if k=i then true else X k:=fun k=>getD_set (by omega) false
      -- what the slots hold behind it
   have henv':∀ s,E X' s=if o.dst=some s then f.d else E X s:=by
    intro s
    by_cases hd:o.dst=some s
    ·rw[if_pos hd]
     refine eXr_at L fs 0 env i o f hot hfi hd (by rw[Nat.zero_add,hX',if_pos rfl]) (fun k p hik hkp hd'=>?_)
     rw[Nat.zero_add,hX',if_neg (by omega)]
     have hc:confl pp ops p o=true:=by
      cases hc:confl pp ops p o with
      | true=>rfl
      | false=>exact absurd hd ((confl_symm_reads hc).2.2.1 s hd')
     exact later k p hik hkp hc
    ·rw[if_neg hd]
     refine eXr_congr _ _ _ _ _ (fun k p hkp hd'=>?_) rfl
     rw[Nat.zero_add,hX']
     by_cases hki:k=i
     ·subst hki
      rw[hot] at hkp
      injection hkp with e
      subst e
      exact absurd hd' hd
     ·rw[if_neg hki]
   have stretch:∀ (Pr:Nat→Prop) (lo hi:Nat),lo≤hi→hi≤L.length→(∀ m p,lo≤m→m < hi→L[m]?=some p→actv p.op=false)→cntA (L.take hi)=cntA (L.take lo):=by
    intro _ lo hi hle hhl hna
    induction hi with
    | zero =>
     have:lo=0:=by omega
     rw[this]
    | succ m ihm =>
     by_cases he:lo=m+1
     ·rw[he]
     ·have hop:L[m]?=some (L[m]'(by omega)):=List.getElem?_eq_getElem (by omega)
      rw[cntA_take_succ _ _ _ hop,hna m _ (by omega) (by omega) hop]
      exact ihm (by omega) (by omega) (fun k p h1 h2 h3=>hna k p h1 (by omega) h3)
   have hXact:∀ (k:Nat) (p:Oper),actv o.op=true→L[k]?=some p→actv p.op=true→(X k=true↔k < i):=by
    intro k p hao hkp hap
    have hc:∀ q r:Oper,actv q.op=true→actv r.op=true→confl pp ops q r=true:=fun q r h1 h2=>by
     cases hc:confl pp ops q r with
     | true=>rfl
     | false=>have:=(confl_symm_reads hc).2.2.2.1;rw[h1,h2] at this;cases this
    rcases Nat.lt_trichotomy k i with hki | hki | hki
    ·exact ⟨fun _=>hki,fun _=>before k p hki hkp (hc _ _ hao hap)⟩
    ·subst hki;rw[hXi];exact ⟨fun h=>(by cases h),fun h=>absurd h (Nat.lt_irrefl _)⟩
    ·rw[later k p hki hkp (hc _ _ hap hao)];exact ⟨fun h=>(by cases h),fun h=>(by omega)⟩
   have hcA:actv o.op=true→cntA (L.take (M X))=cntA (L.take i)∧cntA (L.take (M X'))=cntA (L.take i)+1:=by
    intro hao
    have hMi:M X≤i:=by
     rcases lastP_some (p:=X) L 0 0 with h0 | ⟨j,q,hjq,hqa,hXj,hj⟩
     ·show lastP X 0 L 0≤i;omega
     ·rw[Nat.zero_add] at hXj
      have:=(hXact j q hao hjq hqa).1 hXj
      show lastP X 0 L 0≤i
      omega
    refine ⟨(stretch (fun _=>True) (M X) i hMi (by omega) (fun m p h1 h2 hmp=>?_)).symm,?_⟩
    ·cases hap:actv p.op with
     | false=>rfl
     | true =>
      have:=(actpre m p hmp hap).1 ((hXact m p hao hmp hap).2 h2)
      omega
    ·have hM':M X'=i+1:=by
      have h1:i < M X':=by
       have:=lastP_of (p:=X') L 0 0 i o hot hao (by rw[Nat.zero_add,hX',if_pos rfl])
       simpa using this
      rcases lastP_some (p:=X') L 0 0 with h0 | ⟨j,q,hjq,hqa,hXj,hj⟩
      ·have:M X'=0:=h0
       omega
      ·have hMj:M X'=j+1:=by show lastP X' 0 L 0=j+1;omega
       rw[Nat.zero_add,hX'] at hXj
       by_cases hji:j=i
       ·omega
       ·rw[if_neg hji] at hXj
        have:=(hXact j q hao hjq hqa).1 hXj
        omega
     rw[hM',cntA_take_succ _ _ _ hot,hao]
     rfl
   have hcQ:actv o.op=false→M X'=M X:=by
    intro hao
    refine lastP_congr L 0 0 (fun k p hkp hap=>?_)
    rw[Nat.zero_add,hX']
    by_cases hki:k=i
    ·subst hki
     rw[hot] at hkp
     injection hkp with e
     subst e
     rw[hao] at hap
     cases hap
    ·rw[if_neg hki]
      -- the relation behind it
   have next:f.pn=false→∀ (v:Value) (w'':World) (β':Nat→Value) (V':Nat→Prop),RelD C (H (cntA (L.take (M X')))) β' V' w''→RepD (H (cntA (L.take (M X')))) β' V' w'' f.d v →
     LeH (H (cntA (L.take (M X)))) β (H (cntA (L.take (M X')))) β'→Moved V w' V' w''→Pend T L pre.length X' C (H (cntA (L.take (M X')))) β' V' (a'.put o.dst v).tmps w''→wpAny P .any ops post fuel (listed.setIfInBounds i true) (a'.put o.dst v) w'':=by
    intro hfp v w'' β' V' hrel' hd' hle hmv hpd
    refine ih (listed.setIfInBounds i true) (a'.put o.dst v) w'' (by simp[hsz]) ?_ ?_ (fun k hk'=>?_) (fun k hk'=>?_) ⟨?_,?_,β',V',hrel',fun s=>?_,hpd⟩ (hk.trans (Keeps.put (fun d hd=>(hdn d hd).2) v)) (fun k f' hf' hXk=>?_)
    ·have:=countP_upd (p:=fun k=>!listed.getD k false) (q:=fun k=>!(listed.setIfInBounds i true).getD k false) (i:=i) (List.range ops.size) List.nodup_range (List.mem_range.2 hil) (by simp[hlif]) (by have:=hX' i;simp only[X'] at this;rw[this];simp) (fun j hj=>by have:=hX' j;simp only[X'] at this;rw[this,if_neg hj])
     omega
    ·intro k p hkp hXk e he
     have hXk':X' k=true:=hXk
     show X' e=true
     rw[hX'] at hXk' ⊢
     by_cases hei:e=i
     ·rw[if_pos hei]
     ·rw[if_neg hei]
      by_cases hki:k=i
      ·subst hki
       rw[hot] at hkp
       injection hkp with e'
       subst e'
       exact hpre e he
      ·rw[if_neg hki] at hXk'
       exact hcl k p hkp hXk' e he
    ·have:X' k=true:=by rw[hX'];by_cases hki:k=i;exact if_pos hki;rw[if_neg hki];exact hlow k hk'
     exact this
    ·have:X' k=false:=by rw[hX',if_neg (by omega)];exact hbey k hk'
     exact this
    ·cases o.dst with
     | none=>exact hsza
     | some d=>simp[Act.put,hsza]
    ·cases o.dst with
     | none=>exact hdfa
     | some d=>exact hdfa
    ·show RepD (H (cntA (L.take (M X')))) β' V' w'' (E X' s) ((a'.put o.dst v).tmps.getD s undef)
     rw[henv' s]
     cases hdst:o.dst with
     | none =>
      rw[if_neg (by simp)]
      exact RepD.mono hle hmv _ _ (henvX s)
     | some d =>
      have:=env_put (n:=n) (st:=⟨E X,H (cntA (L.take (M X))),df⟩) (a:=a') henvX hsza hle hmv (i:=d) (hdn d hdst).1 hd' df s
      simp only[Env.set] at this
      by_cases hsd:s=d
      ·subst hsd
       rw[Nat.beq_refl] at this
       rw[if_pos rfl]
       exact this
      ·rw[beq_ne hsd] at this
       rw[if_neg (by intro e;injection e with e;exact hsd e.symm)]
       exact this
    ·have hXk':X' k=true:=hXk
     rw[hX'] at hXk'
     by_cases hki:k=i
     ·subst hki
      rw[hfi] at hf'
      injection hf' with e'
      rw[← e']
      exact hfp
     ·rw[if_neg hki] at hXk'
      exact hnp k f' hf' hXk'
   have hput:∀ (v:Value) (k:Nat) (p:Oper) (s:Nat),L[k]?=some p→pre.length≤k→isFl p=true→k≠i→p.dst=some s→(a'.put o.dst v).tmps.getD s undef=a'.tmps.getD s undef:=by
    intro v k p s hkp hlk hfk hki hps
    cases hdst:o.dst with
    | none=>rfl
    | some d =>
     have hsd:s≠d:=by
      intro e
      subst e
      obtain ⟨fk,hfk'⟩:∃ fk,fs[k]?=some fk:=⟨fs[k]'(by rw[hfl];exact (List.getElem?_eq_some_iff.1 hkp).1),List.getElem?_eq_getElem _⟩
      have hu:=((hfact k p fk hkp hfk' hlk).1.flt hfk).2.2.2.2
      simp only[Bool.and_eq_true] at hu
      have hu2:=hu.1.2
      rw[hps] at hu2
      exact hki (dstU_at hu2 (hLo hkp) hot0 hps hdst)
     simp only[Act.put,Array.getD_eq_getD_getElem?,Array.getElem?_setIfInBounds]
     rw[if_neg (fun e=>hsd e.symm)]
   have pstep:isFl o=false→∀ (v:Value) {h':Heap} {β':Nat→Value} {V':Nat→Prop} {w'':World},RelD ⟨w',fun k=>∃ i o,(H (cntA (L.take (M X))))[i]?=some o∧o.live=true∧Bk o (β i) k,V,C.G⟩ h' β' V' w''→Pend T L pre.length X' C h' β' V' (a'.put o.dst v).tmps w'':=by
    intro hno v h' β' V' w'' hr'
    have hne:∀ (k:Nat) (p:Oper),L[k]?=some p→isFl p=true→k≠i:=fun k p hkp hfk e=>by
     subst e
     rw[hot] at hkp
     injection hkp with e
     subst e
     rw[hno] at hfk
     cases hfk
    refine hpend.step hrelX hr' (fun k p hkp _ hfk hx=>?_) (fun k p s hkp hlk hfk _ hps=>hput v k p s hkp hlk hfk (hne k p hkp hfk) hps)
    rw[hX',if_neg (hne k p hkp hfk)] at hx
    exact hx
   unfold wpOp
   rw[hoi]
   simp only[hwant]
   cases hrun:f.run with
   | false =>
    obtain ⟨hdany,hHs⟩:=hfa.skip hrun
    have hHeq:H (cntA (L.take (M X')))=H (cntA (L.take (M X))):=by
     cases hao:actv o.op with
     | true=>obtain ⟨e1,e2⟩:=hcA hao;rw[e1,e2];exact hHs hao
     | false=>rw[hcQ hao]
    simp only[Bool.false_eq_true,if_false]
    have hfp:f.pn=false:=by
     cases hfp:f.pn with
     | false=>rfl
     | true=>have:=(hfa.pan hfp).1;rw[hrun] at this;cases this
    have hno:isFl o=false:=by
     cases hfo:isFl o with
     | false=>rfl
     | true=>have:=(hfa.flt hfo).2.1;rw[hrun] at this;cases this
    have:=next hfp undef w' β V (by rw[hHeq];exact hrelX) (by rw[hdany];simp only[RepD];exact ⟨[],rfl,by simp[RepDL]⟩) (by rw[hHeq];exact LeH.refl _ _) (Moved.refl _ _) (by rw[hHeq];exact pstep hno undef (base_start hrelX))
    exact this
   | true =>
    simp only[if_true]
    left
    cases hno:isFl o with
    | true =>
     obtain ⟨hfd,_,hfpn,_,hdst⟩:=hfa.flt hno
     obtain ⟨hna,hgn,_⟩:=isFl_na hno
     simp only[Bool.and_eq_true] at hdst
     obtain ⟨⟨hd1,hd2⟩,hd3⟩:=hdst
     obtain ⟨s,hs0⟩:∃ s,o.dst=some s:=by
      cases ho':o.dst with
      | none=>rw[ho'] at hd1;cases hd1
      | some s=>exact ⟨s,rfl⟩
     obtain ⟨t,ti,hop,hti⟩:∃ t ti,o.op=.alloc t∧T t=some ti:=by
      cases ho':o.op with
      | alloc t =>
       rw[ho'] at hd3
       simp only[allocT] at hd3
       cases ht:T t with
       | none=>rw[ht] at hd3;cases hd3
       | some ti=>exact ⟨t,ti,rfl,ht⟩
      | _=>rw[ho'] at hd3;cases hd3
     obtain ⟨inf,z,hinf,_,_,hz,hzc⟩:=(hT t ti hti).inf
     have hrunA:(execOp a'.eval o).run P w'=.ok (.value (.pointer (some ⟨w'.heap.size,0,none⟩))) (w'.alloc (.cells ti.zero.toArray t)):=by
      simp[execOp,hop,Instr.alloc,zeroValue,typeInfo,hinf,hz,newVar,newRow,hzc]
     have hk2:=relD_keep hrelX (fr_alloc w' (.cells ti.zero.toArray t))
     have hHeq:H (cntA (L.take (M X')))=H (cntA (L.take (M X))):=by rw[hcQ hna]
     refine OpRun.wp ?_
     rw[hrunA]
     refine next hfpn (.pointer (some ⟨w'.heap.size,0,none⟩)) (w'.alloc (.cells ti.zero.toArray t)) β V (by rw[hHeq];exact hk2.1) (by rw[hfd];simp only[RepD]) (by rw[hHeq];exact LeH.refl _ _) hk2.2 ?_
     rw[hHeq]
     obtain ⟨γ,g1,g2⟩:=hpend
     have hget:∀ (k:Nat),k < w'.heap.size→(w'.alloc (.cells ti.zero.toArray t)).heap[k]?=w'.heap[k]?:=fun k hk=>(fr_alloc w' (.cells ti.zero.toArray t)).block k hk (fun h=>h)
     refine ⟨fun k=>if k=i then w'.heap.size else γ k,fun k p hkp hlk hfk hx=>?_,fun k k' p p' a1 a2 a3 a4 a5 a6 a7 a8 e=>?_⟩
     ·by_cases hki:k=i
      ·subst hki
       rw[hot] at hkp
       injection hkp with e
       subst e
       dsimp only
       rw[if_pos rfl]
       refine ⟨s,t,ti,hs0,hop,hti,?_,heap_alloc_new w' _,fun hv=>?_,.inl hrelX.fr.size,fun i' o' q1 q2 q3=>?_⟩
       ·rw[hs0]
        simp only[Act.put,Array.getD_eq_getD_getElem?,Array.getElem?_setIfInBounds]
        simp[hsza,(hdn s hs0).1]
       ·exact absurd (hrelX.vlt _ hv) (Nat.lt_irrefl _)
       ·exact absurd (hrelX.lt q1 q2 q3) (Nat.lt_irrefl _)
      ·rw[hX',if_neg hki] at hx
       dsimp only
       rw[if_neg hki]
       obtain ⟨s',t',i',e1,e2,e3,e4,e5,e6,e7,e8⟩:=g1 k p hkp hlk hfk hx
       exact ⟨s',t',i',e1,e2,e3,(hput _ k p s' hkp hlk hfk hki e1).trans e4,(hget _ (Array.getElem?_eq_some_iff.1 e5).1).trans e5,e6,e7,e8⟩
     ·have lt':∀ (k:Nat) (p:Oper),L[k]?=some p→pre.length≤k→isFl p=true→X' k=true→k≠i→γ k < w'.heap.size:=fun k p b1 b2 b3 b4 b5=>by
       rw[hX',if_neg b5] at b4
       obtain ⟨_,_,_,_,_,_,_,e5,_⟩:=g1 k p b1 b2 b3 b4
       exact (Array.getElem?_eq_some_iff.1 e5).1
      by_cases hki:k=i<;>by_cases hki':k'=i
      ·rw[hki,hki']
      ·simp only[if_pos hki,if_neg hki'] at e
       have:=lt' k' p' a2 a4 a6 a8 hki'
       omega
      ·simp only[if_neg hki,if_pos hki'] at e
       have:=lt' k p a1 a3 a5 a7 hki
       omega
      ·simp only[if_neg hki,if_neg hki'] at e
       rw[hX',if_neg hki] at a7
       rw[hX',if_neg hki'] at a8
       exact g2 k k' p p' a1 a2 a3 a4 a5 a6 a7 a8 e
    | false =>
    let L':Env:=fun s=>bif inL (o.looksAt ops) s then f.L s else E X s
    have hL':∀ s∈o.looksAt ops,L' s=f.L s:=fun s hs=>by simp only[L',inL_iff.2 hs];rfl
    have henvL:EnvOk ⟨L',H (cntA (L.take (M X))),df⟩ β V w' a':=by
     intro s
     show RepD _ β V w' (L' s) _
     cases hin:inL (o.looksAt ops) s with
     | true=>rw[hL' s (inL_iff.1 hin)];exact hLrep s (inL_iff.1 hin)
     | false=>simp only[L',hin];exact henvX s
    have hsame:∀ h',Same C.G ⟨f.L,h',df⟩ ⟨L',h',df⟩ o.op.operands.toList:=by
     intro h' x hx
     cases x with
     | tmp t=>exact (hL' t (htmp t (by simpa using hx))).symm
     | _=>rfl
    have hnd:f.dd=false:=by
     cases hdd:f.dd with
     | false=>rfl
     | true =>
      exfalso
      obtain ⟨p,hb,f',hf',hpf⟩:=hdead hdd
      have hXp:=hrow.2 (edgesOf o) hpre (fun e he=>by have:=hedge i o hot e he;simp;omega) p hb
      have:=hnp p f' hf' hXp
      rw[hpf] at this
      cases this
    cases hfp:f.pn with
    | true =>
     obtain ⟨_,_,hpop⟩:=hfa.pan hfp
     have hop:vcOp P T F C.G o.op ⟨L',H (cntA (L.take (M X))),df⟩ (fun _ _=>False) (fun dp _=>Qp dp) :=
      vcOp_congr (st:=⟨f.L,H (cntA (L.take (M X))),df⟩) (st':=⟨L',H (cntA (L.take (M X))),df⟩) rfl (hsame _) (hpop _)
     refine OpRun.wp (op_soundD (st:=⟨L',H (cntA (L.take (M X))),df⟩) hT hF hop hrelX henvL ?_ ?_)
     ·intro d h' v w'' β' V' hq
      exact hq.elim
     ·intro d h' t u w'' β' V' hq hrel' hd' hle hmv
      exact hpan d L' h' _ a' w'' hq ⟨t,u,rfl,hsza,hdfa,β',V',hrel',fun k=>RepD.mono hle hmv _ _ (henvL k),hd'⟩ hk
    | false =>
    have hop:∃ z q:Bool,vcOp P T F C.G o.op ⟨L',H (cntA (L.take (M X))),df⟩ (fun d h=>frz z (H (cntA (L.take (M X)))).length d h fun d h=>frq q (H (cntA (L.take (M X)))).length d h fun d h=>d=f.d∧h=H (cntA (L.take (M X')))∧(q=true→z=false∧H (cntA (L.take (M X')))=H (cntA (L.take (M X))))) (fun _ _=>False):=by
     cases hao:actv o.op with
     | true =>
      obtain ⟨e1,e2⟩:=hcA hao
      obtain ⟨z,hz⟩:=(hfa.act hrun hao).1
      refine ⟨z,false,vcOp_congr (st:=⟨f.L,H (cntA (L.take (M X))),df⟩) (st':=⟨L',H (cntA (L.take (M X))),df⟩) rfl (hsame _) ?_⟩
      rw[e1,e2]
      refine hz _ ?_
      exact (show _∧_∧_ from ⟨rfl,rfl,fun hq=>by cases hq⟩)
     | false =>
      obtain ⟨q,hz⟩:=hfa.quiet hno hrun hao hfp hnd
      refine ⟨false,q,vcOp_congr (st:=⟨f.L,H (cntA (L.take (M X))),df⟩) (st':=⟨L',H (cntA (L.take (M X))),df⟩) rfl (hsame _) ?_⟩
      refine hz _ (fun d h=>d=f.d∧h=H (cntA (L.take (M X')))∧(q=true→false=false∧H (cntA (L.take (M X')))=H (cntA (L.take (M X))))) ?_ (show _∧_∧_ from ⟨rfl,by rw[hcQ hao],fun _=>⟨rfl,by rw[hcQ hao]⟩⟩)
      cases hhl:hpl pp o.op with
      | true=>exact .inr rfl
      | false =>
       left
              -- from the last that it waits for to the last that is done nothing turned what was there
       have hi0:∀ j p,(L.take i)[j]?=some p→actv p.op=true→Nat.testBit (rowOf (accOf (L.take i)) (edgesOf o)) j=true→j < lastP (Nat.testBit (rowOf (accOf (L.take i)) (edgesOf o))) 0 (L.take i) 0:=by
        intro j p hjp hap hb
        have:=lastP_of (p:=Nat.testBit (rowOf (accOf (L.take i)) (edgesOf o))) (L.take i) 0 0 j p hjp hap (by rw[Nat.zero_add];exact hb)
        simpa using this
       generalize hi0e:lastP (Nat.testBit (rowOf (accOf (L.take i)) (edgesOf o))) 0 (L.take i) 0=i0 at hi0
       have hle:i0≤M X∧i0≤i:=by
        rcases lastP_some (p:=Nat.testBit (rowOf (accOf (L.take i)) (edgesOf o))) (L.take i) 0 0 with h0 | ⟨j,q,hjq,hqa,hb,hj⟩
        ·rw[hi0e] at h0
         omega
        ·rw[hi0e] at hj
         rw[Nat.zero_add] at hb
         have hji:j < i:=by have:=(List.getElem?_eq_some_iff.1 hjq).1;simp at this;omega
         have hXj:=hrow.2 (edgesOf o) hpre (fun e he=>by have:=hedge i o hot e he;simp;omega) j hb
         rw[List.getElem?_take_of_lt hji] at hjq
         have:=(actpre j q hjq hqa).1 hXj
         omega
       have hlo:cntR (rowOf (accOf (L.take i)) (edgesOf o)) (L.take i)=cntA (L.take i0):=by
        unfold cntR
        rw[hi0e,List.take_take,Nat.min_eq_left hle.2]
       rw[hlo]
       have hMl:M X≤L.length:=by
        rcases lastP_some (p:=X) L 0 0 with h0 | ⟨j,q,hjq,_,_,hj⟩
        ·show lastP X 0 L 0≤_;omega
        ·have:=(List.getElem?_eq_some_iff.1 hjq).1
         show lastP X 0 L 0≤_
         omega
       have chain:∀ m,i0≤m→m≤M X→Ex (H (cntA (L.take i0))) (H (cntA (L.take m))):=by
        intro m
        induction m with
        | zero =>
         intro h1 _
         have:i0=0:=by omega
         rw[this];exact Ex.refl _
        | succ m ihm =>
         intro h1 h2
         by_cases he:i0=m+1
         ·rw[he];exact Ex.refl _
         ·have hop:L[m]?=some (L[m]'(by omega)):=List.getElem?_eq_getElem (by omega)
          generalize L[m]'(by omega)=p at hop
          refine (ihm (by omega) (by omega)).trans ?_
          rw[cntA_take_succ _ _ _ hop]
          cases hap:actv p.op with
          | false=>exact Ex.refl _
          | true =>
           simp only[cond_true]
           obtain ⟨fm,hfm⟩:∃ fm,fs[m]?=some fm:=⟨fs[m]'(by rw[hfl];omega),List.getElem?_eq_getElem _⟩
           by_cases hmlo:m < pre.length
           ·have e1:cntA (L.take m)+1=cntA (L.take (m+1)):=by rw[cntA_take_succ _ _ _ hop,hap];rfl
            have e2:cntA (L.take (m+1))≤cntA pre:=by
             have e3:L.take (m+1)=pre.take (m+1):=by rw[← hprt,List.take_take,Nat.min_eq_left (by omega)]
             rw[e3]
             exact cntA_take_le _ _
            rw[hHc _ (by omega),hHc _ (by omega)]
            exact Ex.refl _
           have hfam:=(hfact m p fm hop hfm (by omega)).1
           cases hrm:fm.run with
           | false=>rw[(hfam.skip hrm).2 hap];exact Ex.refl _
           | true =>
            refine (hfam.act hrm hap).2 ?_
            cases hmu:mutat pp p.op with
            | false=>rfl
            | true =>
             exfalso
             have hXm:=(actpre m p hop hap).2 (by omega)
             rcases Nat.lt_trichotomy m i with hmi | hmi | hmi
             ·have hc:confl pp ops o p=true:=by
               cases hc:confl pp ops o p with
               | true=>rfl
               | false=>have:=(confl_symm_reads hc).2.2.2.2.2 hmu;simp[hplF,hhl,hno] at this
              have hb:=(hat i o hot).2 m p (by rw[List.getElem?_take_of_lt hmi];exact hop) hc
              have:=hi0 m p (by rw[List.getElem?_take_of_lt hmi];exact hop) hap hb
              omega
             ·subst hmi
              rw[hot] at hop
              injection hop with e
              subst e
              rw[hao] at hap
              cases hap
             ·have hc:confl pp ops p o=true:=by
               cases hc:confl pp ops p o with
               | true=>rfl
               | false=>have:=(confl_symm_reads hc).2.2.2.2.1 hmu;simp[hplF,hhl,hno] at this
              rw[later m p hmi hop hc] at hXm
              cases hXm
       exact chain (M X) hle.1 (Nat.le_refl _)
    obtain ⟨z,q,hop⟩:=hop
    refine OpRun.wp (op_soundD (st:=⟨L',H (cntA (L.take (M X))),df⟩) hT hF (C:=⟨w',fun k=>∃ i o,(H (cntA (L.take (M X))))[i]?=some o∧o.live=true∧Bk o (β i) k,V,C.G⟩) hop (base_start hrelX) henvL ?_ ?_)
    ·intro d h' v w'' β' V' hq hrel1 hd' hle hmv
     have hrel':=rebase hrelX hrel1
     have hpd:=pstep hno v hrel1
     cases q with
     | true =>
      have hq':∃ h0 xs e sz,h'=h0++[Obj.row xs e sz]∧d=.row h0.length∧h0.length=(H (cntA (L.take (M X)))).length∧.g (.sl sz xs)=f.d∧h0=H (cntA (L.take (M X')))∧(true=true→z=false∧H (cntA (L.take (M X')))=H (cntA (L.take (M X)))):=by
       cases z with
       | false=>exact hq
       | true =>
        obtain ⟨_,_,_,_,_,h0,xs,e,sz,_,_,_,_,_,hz⟩:=frz_true hq
        cases (hz rfl).1
      obtain ⟨h0,xs,e,sz,rfl,rfl,hn0,e1,e2,e3⟩:=hq'
      have e4:=e2.trans (e3 rfl).2
      have hk1:=kill_rel hrel' [h0.length]
      have hp1:=hpd.kill [h0.length]
      rw[kills_last] at hk1 hp1
      have hX1:RelD C h0 β V w':=by rw[e4];exact hrelX
      refine next hfp v w'' β' (killV (h0++[.row xs e sz]) [h0.length] β' V') (by rw[← e2];exact RelD.unapp hX1 hk1) ?_ (by rw[← e2];exact LeH.unapp hn0 hle) (hmv.trans (kill_moved _ _ _ _ _)) (by rw[← e2];exact hp1.unapp)
      rw[← e1,← e2]
      simp only[RepD]
      refine sees_rep (d:=.row _) hrel' ?_ hd' (fun j hj=>by simpa [ids] using hj)
      simp[Sees]
     | false =>
     cases z with
     | false =>
      obtain ⟨rfl,rfl,_⟩:=hq
      exact next hfp v w'' β' V' hrel' hd' hle hmv hpd
     | true =>
      obtain ⟨xs,e,sz,rfl,hi,e1,e2,_⟩:=frz_true hq
      refine next hfp v w'' β' (killV h' [(H (cntA (L.take (M X)))).length] β' V') (by rw[← e2];exact kill_rel hrel' _) ?_ (by rw[← e2];exact LeH.trans hle (kills_le _ _ _)) (hmv.trans (kill_moved _ _ _ _ _)) (by rw[← e2];exact hpd.kill _)
      rw[← e1,← e2]
      simp only[RepD]
      refine sees_rep (d:=.row _) hrel' ?_ hd' (fun j hj=>by simpa [ids] using hj)
      simp only[Sees,hi]
    ·intro d h' t u w'' β' V' hq
     exact hq.elim
 intro fuel listed a' w' hsz hcount hlist hrel hk
 refine inv fuel listed a' w' hsz hcount (fun i o hi hX e he=>?_) (fun i hi=>by rw[hlist,decide_eq_true hi]) (fun i hi=>by rw[hlist];exact decide_eq_false (by omega)) ?_ hk (fun i f hf hX=>?_)
 ·rw[hlist] at hX ⊢
  have:=of_decide_eq_true hX
  have:=hedge i o hi e he
  exact decide_eq_true (by omega)
 ·obtain ⟨h1,h2,β,V,h3,h4⟩:=hrel
  have hXf:(fun i=>listed.getD i false)=fun i=>decide (i < 0+pre.length):=by
   funext i
   rw[hlist,Nat.zero_add]
  rw[hXf]
  have hM0:M (fun i=>decide (i < 0+pre.length))≤pre.length:=by
   rcases lastP_some (p:=fun i=>decide (i < 0+pre.length)) L 0 0 with h0 | ⟨j,q,_,_,hb,h0⟩
   ·show lastP _ _ _ _≤_;omega
   ·have:=of_decide_eq_true hb
    show lastP _ _ _ _≤_
    omega
  have hE0:∀ s,E (fun i=>decide (i < 0+pre.length)) s=env s:=by
   intro s
   have:=foldE_eX L fs pre.length 0 env hfl
   rw[hprt,hpft,foldE_past] at this
   exact (congrFun this s).symm
  have hHz:H (cntA (L.take (M (fun i=>decide (i < 0+pre.length)))))=hh:=hHc _ (by
   have e3:L.take (M (fun i=>decide (i < 0+pre.length)))=pre.take (M (fun i=>decide (i < 0+pre.length))):=by rw[← hprt,List.take_take,Nat.min_eq_left (by rw[hprt];exact hM0)]
   rw[e3]
   exact cntA_take_le _ _)
  refine ⟨h1,h2,β,V,?_,fun s=>?_,⟨fun _=>0,fun k o hk hlo _ hx=>(by have:=of_decide_eq_true hx;omega),fun k k' o o' _ _ a3 _ _ _ a7 _ _=>(by have:=of_decide_eq_true a7;omega)⟩⟩
  ·show RelD C (H (cntA (L.take (M (fun i=>decide (i < 0+pre.length)))))) β V _
   rw[hHz]
   exact h3
  ·show RepD (H (cntA (L.take (M (fun i=>decide (i < 0+pre.length)))))) β V _ (E (fun i=>decide (i < 0+pre.length)) s) _
   rw[hHz,hE0 s]
   exact h4 s
 ·rw[hlist] at hX
  have hi:=of_decide_eq_true hX
  rw[← hfe,List.getElem?_append_left (by simpa using hi),List.getElem?_map] at hf
  obtain ⟨o,_,rfl⟩:=Option.map_eq_some_iff.1 hf
  rfl

def barOk (ks:List Nat) (i row:Nat):Bool:=ks.all (fun k=>bif Nat.blt k i then Nat.testBit row k else bif Nat.beq k i then Nat.beq (row % 2 ^ k) (2 ^ k - 1) else true)
def segChk (ks:List Nat):List Oper→Nat→List Nat→Bool
 | [],_,_=>true
 | o :: r,i,acc=>barOk ks i (rowOf acc (edgesOf o)) && segChk ks r (i+1) (acc++[rowOf acc (edgesOf o)])
def barsOf:Nat→List Nat→List Nat
 | _,[]=>[]
 | i,m :: l=>(i+m) :: barsOf (i+m+1) l
def vcDs [CA] (lt:Option Nat) (P:Program) (T:Tab) (F:FuncId→Bool) (G:Gl) (all:Array Oper) (Q:Post) (K:St→Prop) (ms:List Nat):List Oper→List Oper→Env→Heap→List Deferred→Prop :=
 List.rec (motive:=fun _=>List Oper→List Oper→Env→Heap→List Deferred→Prop)
  (fun r pre env h df=>vcDr P T F G lt (fun dp=>∀ (e:Env) (h:Heap),Q (.pan dp) ⟨e,h,df⟩) all r pre (accOf pre) (List.replicate (cntA pre+1) h) env df [] (adoptK T K r))
  (fun m _ next r pre env h df=>vcDr P T F G lt (fun dp=>∀ (e:Env) (h:Heap),Q (.pan dp) ⟨e,h,df⟩) all (r.take m) pre (accOf pre) (List.replicate (cntA pre+1) h) env df []
   (adoptK T (fun st=>match r.drop m with
    | o :: r'=>vcOne P T F G all o st (fun st'=>match st' with | ⟨env',h',df'⟩=>next r' ((pre++r.take m)++[o]) env' h' df') Q
    | []=>False) (r.take m))) ms
theorem vcDs_nil [CA] {lt:Option Nat} {P:Program} {T:Tab} {F:FuncId→Bool} {G:Gl} {all:Array Oper} {Q:Post} {K:St→Prop} {r pre:List Oper} {env:Env} {h:Heap} {df:List Deferred} :
  vcDs lt P T F G all Q K [] r pre env h df=vcDr P T F G lt (fun dp=>∀ (e:Env) (h:Heap),Q (.pan dp) ⟨e,h,df⟩) all r pre (accOf pre) (List.replicate (cntA pre+1) h) env df [] (adoptK T K r):=rfl
theorem vcDs_cons [CA] {lt:Option Nat} {P:Program} {T:Tab} {F:FuncId→Bool} {G:Gl} {all:Array Oper} {Q:Post} {K:St→Prop} {m:Nat} {l:List Nat} {r pre:List Oper} {env:Env} {h:Heap} {df:List Deferred} :
  vcDs lt P T F G all Q K (m :: l) r pre env h df=vcDr P T F G lt (fun dp=>∀ (e:Env) (h:Heap),Q (.pan dp) ⟨e,h,df⟩) all (r.take m) pre (accOf pre) (List.replicate (cntA pre+1) h) env df []
   (adoptK T (fun st=>match r.drop m with
    | o :: r'=>vcOne P T F G all o st (fun st'=>match st' with | ⟨env',h',df'⟩=>vcDs lt P T F G all Q K l r' ((pre++r.take m)++[o]) env' h' df') Q
    | []=>False) (r.take m)):=rfl

theorem segChk_at {ks:List Nat}:∀ (r pre:List Oper) (i0:Nat),segChk ks r i0 (accOf pre)=true→i0=pre.length→∀ (i:Nat) (o:Oper),r[i]?=some o→barOk ks (i0+i) (rowOf (accOf (pre++r.take i)) (edgesOf o))=true
 | [],_,_,_,_,i,o,h=>by simp at h
 | o :: r,pre,i0,h,_,0,o',hi=>by
  simp at hi
  subst hi
  simp only[segChk,Bool.and_eq_true] at h
  simpa using h.1
 | o :: r,pre,i0,h,h0,i+1,o',hi=>by
  simp only[segChk,Bool.and_eq_true] at h
  have h2:=h.2
  rw[← accOf_snoc] at h2
  have:=segChk_at r (pre++[o]) (i0+1) h2 (by simp[h0]) i o' (by simpa using hi)
  rw[show i0+(i+1)=i0+1+i from by omega]
  simpa [List.append_assoc] using this
theorem full_bits {row k j:Nat} (h:row % 2 ^ k=2 ^ k - 1) (hj:j < k):Nat.testBit row j=true:=by
 have h1:Nat.testBit (row % 2 ^ k) j=Nat.testBit row j:=by rw[Nat.testBit_mod_two_pow];simp[hj]
 rw[← h1,h,Nat.testBit_two_pow_sub_one]
 exact decide_eq_true hj

set_option maxHeartbeats 1600000 in
theorem segs_sound [CA] {lt:Option Nat} (hT:TabOk P T) (hF:∀ g,F g=true→fnOk P g=true) {id:Nat} {ops:Array Oper} (S:List Nat) (hs:∀ k∈mods (.region id ops true),k < n) (hm:∀ k∈mods (.region id ops true),inL S k=true) {Q:Post} {a:Act} {K:St→Prop} {post:Exit→Act→World→Prop} (ks:List Nat)
  (hat0:∀ (i:Nat) (o:Oper),ops.toList[i]?=some o→(∀ e∈edgesOf o,e < i)∧∀ (k:Nat) (p:Oper),(ops.toList.take i)[k]?=some p→confl lt ops o p=true→Nat.testBit (rowOf (accOf (ops.toList.take i)) (edgesOf o)) k=true)
  (hbk:∀ (i:Nat) (o:Oper),ops.toList[i]?=some o→barOk ks i (rowOf (accOf (ops.toList.take i)) (edgesOf o))=true)
  (hpost:∀ (x:X) (st:St) (e:Exit) (a':Act) (w':World),(match x with | .normal=>K st | x=>Q x st)→XOk e x st a' w' C n→Keeps S a a'→post e a' w') :
  ∀ (ms:List Nat) (r pre:List Oper) (env:Env) (h:Heap) (df:List Deferred),ops.toList=pre++r→(∀ k∈barsOf pre.length ms,k∈ks)→vcDs lt P T F C.G ops Q K ms r pre env h df →
  ∀ (fuel:Nat) (listed:Array Bool) (a':Act) (w':World),listed.size=ops.size→(List.range ops.size).countP (fun i=>!listed.getD i false)≤fuel→(∀ i,listed.getD i false=decide (i < pre.length))→Rel C n ⟨env,h,df⟩ a' w'→Keeps S a a'→wpAny P .any ops post fuel listed a' w':=by
 have hpan:∀ (df:List Deferred) (dp:D) (e:Env) (h':Heap) (ch:List PanicEntry) (a':Act) (w':World),(∀ (e:Env) (h:Heap),Q (.pan dp) ⟨e,h,df⟩)→XOk (.panic ch) (.pan dp) ⟨e,h',df⟩ a' w' C n→Keeps S a a'→post (.panic ch) a' w':=fun df dp e h' ch a' w' hq hx hk=>hpost (.pan dp) _ _ _ _ (hq e h') hx hk
 have ended:∀ (fuel:Nat) (listed:Array Bool) (a':Act) (w':World),listed.size=ops.size→(∀ i,listed.getD i false=decide (i < ops.toList.length))→post .normal a' w'→wpAny P .any ops post fuel listed a' w':=by
  intro fuel listed a' w' hsz hall hp
  have hrd:Region.ready .any ops listed=[]:=by
   simp only[Region.ready,List.filter_eq_nil_iff,List.mem_range]
   intro i hi
   have:=hall i
   rw[decide_eq_true (by simpa using hi)] at this
   have hlt:listed.getD i true=true:=by
    rw[Array.getD_eq_getD_getElem?] at this ⊢
    rw[Array.getElem?_eq_getElem (by omega)] at this ⊢
    exact this
   rw[hlt]
   simp
  exact wpAny_done hrd hp fuel
 intro ms
 induction ms with
 | nil =>
  intro r pre env h df hL hks hv fuel listed a' w' hsz hcount hlist hrel hk
  refine seg_inv hT hF S hs hm hat0 pre r [] (by simpa using hL) hv (fun o ho=>?_) (fun i o hi hlt=>?_) (hpan df) (fun fuel listed a' w' st hK hr hk hsz hl _=>by
   obtain ⟨st1,hr1,hK1⟩:=adopt_sound r pre.length (by simp) st hr hK
   exact ended fuel listed a' w' hsz (fun i=>by rw[hl,hL]) (hpost .normal st1 .normal a' w' hK1 hr1 hk)) fuel listed a' w' hsz hcount hlist hrel hk
  ·rw[hL] at ho;simp at ho
  ·rw[hL] at hi
   have:=(List.getElem?_eq_some_iff.1 hi).1
   omega
 | cons m l ih =>
  intro r pre env h df hL hks hv fuel listed a' w' hsz hcount hlist hrel hk
  simp only[vcDs_cons] at hv
  have hL2:ops.toList=(pre++r.take m)++r.drop m:=by rw[List.append_assoc,List.take_append_drop];exact hL
  by_cases hmr:m < r.length
  rotate_left
  ·refine seg_inv hT hF S hs hm hat0 pre (r.take m) (r.drop m) hL2 hv (fun o ho=>?_) (fun i o hi hlt=>?_) (hpan df) (fun fuel listed a' w' st hK hr hk hsz hl _=>?_) fuel listed a' w' hsz hcount hlist hrel hk
   ·rw[hL] at ho
    have:=(List.getElem?_eq_some_iff.1 ho).1
    simp at this
    omega
   ·rw[hL] at hi
    have:=(List.getElem?_eq_some_iff.1 hi).1
    simp at this hlt
    omega
   ·obtain ⟨st1,hr1,hK1⟩:=adopt_sound (r.take m) pre.length (by simp) st hr hK
    rw[List.drop_of_length_le (by omega)] at hK1
    exact hK1.elim
  have hlen:(pre++r.take m).length=pre.length+m:=by simp;omega
  have hkm:pre.length+m∈ks:=hks _ (by simp[barsOf])
  have hsyn:∀ (o:Oper),ops.toList[(pre++r.take m).length]?=some o→∀ j,j < (pre++r.take m).length→Nat.testBit (rowOf (accOf (ops.toList.take (pre++r.take m).length)) (edgesOf o)) j=true:=by
   intro o ho j hj
   have hb:=List.all_eq_true.1 (hbk _ o ho) _ hkm
   rw[hlen] at hb hj ⊢
   rw[show Nat.blt (pre.length+m) (pre.length+m)=false from by
    cases hx:Nat.blt (pre.length+m) (pre.length+m) with
    | false=>rfl
    | true=>exact absurd (Nat.le_of_ble_eq_true hx) (by omega),Nat.beq_refl] at hb
   simp only[cond_false,cond_true] at hb
   exact full_bits (Nat.eq_of_beq_eq_true hb) hj
  have hbar:∀ (i:Nat) (o:Oper),ops.toList[i]?=some o→(pre++r.take m).length < i→Nat.testBit (rowOf (accOf (ops.toList.take i)) (edgesOf o)) (pre++r.take m).length=true:=by
   intro i o ho hi
   have hb:=List.all_eq_true.1 (hbk _ o ho) _ hkm
   rw[hlen] at hi ⊢
   rw[show Nat.blt (pre.length+m) i=true from Nat.ble_eq_true_of_le hi] at hb
   simpa only[cond_true] using hb
  refine seg_inv hT hF S hs hm hat0 pre (r.take m) (r.drop m) hL2 hv hsyn hbar (hpan df) (fun fuel listed a' w' st hK hr hk hsz hl hcount=>?_) fuel listed a' w' hsz hcount hlist hrel hk
    -- the one for itself
  obtain ⟨st,hr,hK⟩:=adopt_sound (r.take m) pre.length (by simp) st hr hK
  have hdr:r.drop m=r[m] :: r.drop (m+1):=List.drop_eq_getElem_cons hmr
  rw[hdr] at hK
  simp only at hK
  generalize ho:r[m]=o at hK hdr
  have hot:ops.toList[pre.length+m]?=some o:=by rw[hL2,List.getElem?_append_right (by omega),hlen,Nat.sub_self,hdr];rfl
  have hoi:ops[pre.length+m]?=some o:=by simpa using hot
  have hilt:pre.length+m < ops.size:=by have:=(List.getElem?_eq_some_iff.1 hot).1;simpa using this
  have hL3:ops.toList=((pre++r.take m)++[o])++r.drop (m+1):=by rw[hL2,hdr,List.append_assoc];simp
  have hdn:∀ d,o.dst=some d→d < n∧inL S d=true:=fun d hd=>by
   have hmm:d∈mods (.region id ops true):=by simp only[mods,List.mem_filterMap];exact ⟨o,List.mem_of_getElem? hot,hd⟩
   exact ⟨hs d hmm,hm d hmm⟩
  cases fuel with
  | zero =>
   exfalso
   have h0:(List.range ops.size).countP (fun i=>!listed.getD i false)=0:=by omega
   rw[List.countP_eq_zero] at h0
   have:=h0 (pre.length+m) (List.mem_range.2 hilt)
   rw[hl,hlen] at this
   simp at this
  | succ fuel =>
   have hbind:∀ (o:Oper) (e:Edge),e∈o.after.toList→Region.binds .any e=true→e.on∈edgesOf o:=by
    intro o e he hb
    simp only[edgesOf,List.mem_filterMap]
    refine ⟨e,he,?_⟩
    unfold Region.binds at hb
    cases hg:e.ground<;>rw[hg] at hb<;>first | rfl | (simp at hb)
   refine ⟨fun hrd=>?_,fun i hi=>?_⟩
   ·exfalso
    have hmem:pre.length+m∈Region.ready .any ops listed:=by
     simp only[Region.ready,List.mem_filter,List.mem_range]
     refine ⟨hilt,?_⟩
     have hlf:listed.getD (pre.length+m) false=false:=by rw[hl,hlen];simp
     have hlt:listed.getD (pre.length+m) true=false:=by
      rw[Array.getD_eq_getD_getElem?] at hlf ⊢
      rw[Array.getElem?_eq_getElem (by omega)] at hlf ⊢
      exact hlf
     rw[hlt,hoi]
     simp only[Bool.not_false,Bool.true_and,Option.map_some,Option.getD_some]
     rw[Array.all_eq_true]
     intro k hk
     simp only[Bool.or_eq_true,Bool.not_eq_true']
     by_cases hb:Region.binds .any o.after[k]=true
     ·right
      have hed:=(hat0 _ o hot).1 _ (hbind o o.after[k] (by simp) hb)
      rw[hl,hlen]
      exact decide_eq_true hed
     ·left;simpa using hb
    rw[hrd] at hmem
    simp at hmem
   ·simp only[Region.ready,List.mem_filter,List.mem_range,Bool.and_eq_true,Bool.not_eq_true'] at hi
    obtain ⟨hil,hli,hrdy⟩:=hi
    have hlif:listed.getD i false=false:=by
     rw[Array.getD_eq_getD_getElem?] at hli ⊢
     rw[Array.getElem?_eq_getElem (by omega)] at hli ⊢
     exact hli
    have hoi':ops[i]?=some ops[i]:=Array.getElem?_eq_getElem hil
    have hige:pre.length+m≤i:=by
     rw[hl,hlen] at hlif
     have:=of_decide_eq_false hlif
     omega
    have hie:i=pre.length+m:=by
     apply Classical.byContradiction
     intro hne
     generalize hop:ops[i]=p at hoi'
     have hpt:ops.toList[i]?=some p:=by simpa using hoi'
     have hb:=hbar i p hpt (by rw[hlen];omega)
     let X:Nat→Bool:=fun k=>listed.getD k false
     have hcl2:∀ (k:Nat) (q:Oper),(ops.toList.take i)[k]?=some q→X k=true→∀ e∈edgesOf q,X e=true:=fun k q hkp hXk e he=>by
      have hki:k < i:=by have:=(List.getElem?_eq_some_iff.1 hkp).1;simp at this;omega
      rw[List.getElem?_take_of_lt hki] at hkp
      have hXk':listed.getD k false=true:=hXk
      show listed.getD e false=true
      rw[hl] at hXk' ⊢
      have:=of_decide_eq_true hXk'
      have:=(hat0 k q hkp).1 e he
      exact decide_eq_true (by omega)
     have hpre:∀ e∈edgesOf p,X e=true:=by
      intro j hj
      simp only[edgesOf,List.mem_filterMap] at hj
      obtain ⟨e,he,hej⟩:=hj
      rw[hoi'] at hrdy
      simp only[Option.map_some,Option.getD_some] at hrdy
      rw[Array.all_eq_true] at hrdy
      obtain ⟨k,hk,hke⟩:=List.getElem_of_mem he
      have:=hrdy k (by simpa using hk)
      simp only[Bool.or_eq_true,Bool.not_eq_true'] at this
      have hke':p.after[k]'(by simpa using hk)=e:=by simpa using hke
      rw[hke'] at this
      have hbe:Region.binds .any e=true∧e.on=j:=by
       unfold Region.binds
       cases hg:e.ground<;>rw[hg] at hej<;>simp_all
      rcases this with h1 | h1
      ·rw[hbe.1] at h1;cases h1
      ·rw[hbe.2] at h1;exact h1
     have hrow1:=row_done (X:=X) (ops.toList.take i) hcl2 (fun k q hkp e he=>by
      have hki:k < i:=by have:=(List.getElem?_eq_some_iff.1 hkp).1;simp at this;omega
      rw[List.getElem?_take_of_lt hki] at hkp
      exact (hat0 k q hkp).1 e he)
     have:=hrow1.2 (edgesOf p) hpre (fun e he=>by
      have:=(hat0 i p hpt).1 e he
      have hil2:i≤ops.toList.length:=by simpa using Nat.le_of_lt hil
      rw[List.length_take,Nat.min_eq_left hil2]
      exact this) _ hb
     have h5:listed.getD (pre++r.take m).length false=true:=this
     rw[hl] at h5
     simp at h5
    subst hie
    have hcnt:(List.range ops.size).countP (fun k=>!(listed.setIfInBounds (pre.length+m) true).getD k false)≤fuel:=by
     have hX':∀ k,(listed.setIfInBounds (pre.length+m) true).getD k false=if k=pre.length+m then true else listed.getD k false:=fun k=>getD_set (by omega) false
     have:=countP_upd (p:=fun k=>!listed.getD k false) (q:=fun k=>!(listed.setIfInBounds (pre.length+m) true).getD k false) (i:=pre.length+m) (List.range ops.size) List.nodup_range (List.mem_range.2 hil) (by simp[hlif]) (by rw[hX'];simp) (fun j hj=>by rw[hX',if_neg hj])
     omega
    have hst:=one_sound (all:=ops) (o:=o) (st:=st) (next:=fun a2 w2=>wpAny P .any ops post fuel (listed.setIfInBounds (pre.length+m) true) a2 w2) (Qa:=post) hT hF hr (fun d hd=>(hdn d hd).1) hK (fun st' v w2 hk' hr'=>by
     obtain ⟨env',h',df'⟩:=st'
     refine ih (r.drop (m+1)) ((pre++r.take m)++[o]) env' h' df' hL3 (fun k hk2=>hks k ?_) hk' fuel _ _ w2 (by simp[hsz]) hcnt (fun k=>?_) hr' (hk.trans (Keeps.put (fun d hd=>(hdn d hd).2) v))
     ·have e5:((pre++r.take m)++[o]).length=pre.length+m+1:=by rw[List.length_append,hlen];rfl
      rw[e5] at hk2
      simp only[barsOf,List.mem_cons]
      exact .inr hk2
     ·rw[getD_set (by omega) false,hl]
      have e5:((pre++r.take m)++[o]).length=pre.length+m+1:=by rw[List.length_append,hlen];rfl
      rw[e5,hlen]
      by_cases hk5:k=pre.length+m
      ·rw[if_pos hk5];exact (decide_eq_true (by omega)).symm
      ·rw[if_neg hk5]
       by_cases hk6:k < pre.length+m
       ·rw[decide_eq_true hk6,decide_eq_true (by omega)]
       ·rw[decide_eq_false hk6,decide_eq_false (by omega)])
     (fun d st' ch w2 hq hx=>hpost (.pan d) st' _ a' w2 hq hx hk)
    unfold StepW at hst
    unfold wpOp
    rw[hoi]
    simp only
    split
    ·rename_i hw
     rw[if_pos hw] at hst
     exact .inl hst
    ·rename_i hw
     rw[if_neg hw] at hst
     exact hst

def isSeg:Option Nat→Bool
 | some p=>Nat.ble 9992 p
 | none=>false
def segLt:Option Nat→Option Nat
 | some p=>bif Nat.ble 40000 p then some (p - 40000) else bif Nat.ble 20000 p then some (p - 20000) else bif Nat.beq p 9998 || Nat.beq p 9996 || Nat.beq p 9994 || Nat.beq p 9992 then some 2000 else none
 | none=>none
def vcDx0 [CA] (P:Program) (T:Tab) (F:FuncId→Bool) (G:Gl) (ops:Array Oper) (Q:Post) (pp:Option Nat) (env:Env) (h:Heap) (df:List Deferred):Prop :=
 bif isSeg pp then ∃ ms:List Nat,(drawChk (segLt pp) ops ops.toList [] [] && segChk (barsOf 0 ms) ops.toList 0 [])=true∧vcDs (segLt pp) P T F G ops Q (Q .normal) ms ops.toList [] env h df
 else (drawChk pp ops ops.toList [] []=true)∧vcDr P T F G pp (fun dp=>∀ (e:Env) (h:Heap),Q (.pan dp) ⟨e,h,df⟩) ops ops.toList [] [] [h] env df [] (adoptK T (Q .normal) ops.toList)

theorem draw_sound0 [CA] (hT:TabOk P T) (hF:∀ g,F g=true→fnOk P g=true) (hM:P.follows .mixedOrders=true) {id:Nat} {ops:Array Oper} (S:List Nat) (hs:∀ k∈mods (.region id ops true),k < n) (hm:∀ k∈mods (.region id ops true),inL S k=true)
  {env:Env} {hh:Heap} {df:List Deferred} {Q:Post} {pp:Option Nat} (h:vcDx0 P T F C.G ops Q pp env hh df) {a:Act} {w:World} (hr:Rel C n ⟨env,hh,df⟩ a w) :
  (Code.region id ops true).wp P (fun e a' w'=>Keeps S a a'∧∃ x st',Q x st'∧XOk e x st' a' w' C n) a w:=by
 have hatf:∀ pp,drawChk pp ops ops.toList [] []=true→∀ (i:Nat) (o:Oper),ops.toList[i]?=some o→(∀ e∈edgesOf o,e < i)∧∀ (k:Nat) (p:Oper),(ops.toList.take i)[k]?=some p→confl pp ops o p=true→Nat.testBit (rowOf (accOf (ops.toList.take i)) (edgesOf o)) k=true:=fun pp hchk i o hi=>by
  have:=drawChk_at ops.toList [] (by simpa [accOf] using hchk) i o hi
  simpa using this
 have hrd:Rel C n ⟨env,hh,df⟩ a { w with drawn:=w.drawn+1 }:=by
  obtain ⟨h1,h2,β,V,h3,h4⟩:=hr
  exact ⟨h1,h2,β,V,h3.drew _,fun s=>RepD.mono (w:=w) (w':={ w with drawn:=w.drawn+1 }) (V:=V) (LeH.refl hh β) (fun k hk=>⟨hk,rfl⟩) _ _ (h4 s)⟩
 have hrep:∀ i,(Array.replicate ops.size false).getD i false=decide (i < ([]:List Oper).length):=fun i=>by
  rw[Array.getD_eq_getD_getElem?,Array.getElem?_replicate]
  split<;>simp
 refine wp_region_any hM ?_
 unfold vcDx0 at h
 cases hsg:isSeg pp with
 | false =>
  rw[hsg] at h
  obtain ⟨hchk,hv⟩:=h
  refine seg_inv hT hF S hs hm (Qp:=fun dp=>∀ (e:Env) (h:Heap),Q (.pan dp) ⟨e,h,df⟩) (hatf pp hchk) [] ops.toList [] (by simp) (by simpa [accOf,cntA] using hv) (fun o ho=>?_) (fun i o hi hlt=>?_) (fun dp e h' ch a' w' hq hx hk=>⟨hk,.pan dp,_,hq e h',hx⟩) (fun fuel listed a' w' st hK hr hk hsz hl _=>?_) ops.size (Array.replicate ops.size false) a _ (by simp) (Nat.le_trans List.countP_le_length (by simp)) hrep hrd (Keeps.refl _ _)
  ·simp at ho
  ·have:=(List.getElem?_eq_some_iff.1 hi).1
   simp at hlt
   simp at this
   omega
  ·have hrd0:Region.ready .any ops listed=[]:=by
    simp only[Region.ready,List.filter_eq_nil_iff,List.mem_range]
    intro i hi
    have:=hl i
    rw[decide_eq_true (by simpa using hi)] at this
    have hlt:listed.getD i true=true:=by
     rw[Array.getD_eq_getD_getElem?] at this ⊢
     rw[Array.getElem?_eq_getElem (by omega)] at this ⊢
     exact this
    rw[hlt]
    simp
   obtain ⟨st1,hr1,hK1⟩:=adopt_sound ops.toList 0 (by simp) st hr hK
   exact wpAny_done hrd0 ⟨hk,.normal,st1,hK1,hr1⟩ fuel
 | true =>
  rw[hsg] at h
  obtain ⟨ms,hchk,hv⟩:=h
  simp only[Bool.and_eq_true] at hchk
  have hsc:=segChk_at (ks:=barsOf 0 ms) ops.toList [] 0 (by simpa [accOf] using hchk.2) rfl
  refine segs_sound hT hF S hs hm (Q:=Q) (K:=Q .normal) (a:=a) (barsOf 0 ms) (hatf (segLt pp) hchk.1) (fun i o hi=>by have:=hsc i o hi;simpa using this) (fun x st e a' w' hq hx hk=>⟨hk,x,st,by cases x<;>exact hq,hx⟩) ms ops.toList [] env hh df (by simp) (fun k hk=>hk) hv ops.size (Array.replicate ops.size false) a _ (by simp) (Nat.le_trans List.countP_le_length (by simp)) hrep hrd (Keeps.refl _ _)
def caB:Option Nat→Bool
 | some p=>Nat.beq p 1999 || Nat.beq p 4000 || Nat.beq p 9997 || Nat.beq p 9996 || Nat.beq p 1997 || Nat.beq p 4002 || Nat.beq p 9993 || Nat.beq p 9992 || Nat.beq p 4500 || (Nat.ble 5600 p && Nat.ble p 5699) || (Nat.ble 40000 p && Nat.ble p 49999)
 | none=>false
def caF:Option Nat→Bool
 | some p=>(Nat.ble 3500 p && Nat.ble p 3999) || (Nat.ble 23500 p && Nat.ble p 23999) || Nat.beq p 1998 || Nat.beq p 4001 || Nat.beq p 9995 || Nat.beq p 9994 || Nat.beq p 1997 || Nat.beq p 4002 || Nat.beq p 9993 || Nat.beq p 9992 || Nat.beq p 5500 || (Nat.ble 5600 p && Nat.ble p 5699) || (Nat.ble 40000 p && Nat.ble p 49999)
 | none=>false
def caM:Option Nat→Bool
 | some p=>Nat.beq p 1500
 | none=>false
def caS:Option Nat→Bool
 | some p=>Nat.beq p 4500 || Nat.beq p 2500 || (Nat.ble 5600 p && Nat.ble p 5699) || (Nat.ble 40000 p && Nat.ble p 49999)
 | none=>false
theorem mem_ready {ops:Array Oper} {listed:Array Bool} (hsz:listed.size=ops.size) {k:Nat}:k∈Region.ready .any ops listed↔k < ops.size∧listed.getD k false=false∧∀ o,ops[k]?=some o→∀ e∈edgesOf o,listed.getD e false=true:=by
 simp only[Region.ready,List.mem_filter,List.mem_range,Bool.and_eq_true,Bool.not_eq_true']
 constructor
 ·rintro ⟨hk,h1,h2⟩
  refine ⟨hk,?_,fun o ho e he=>?_⟩
  ·rw[Array.getD_eq_getD_getElem?] at h1 ⊢
   rw[Array.getElem?_eq_getElem (by omega)] at h1 ⊢
   exact h1
  ·rw[ho] at h2
   simp only[Option.map_some,Option.getD_some] at h2
   rw[Array.all_eq_true] at h2
   simp only[edgesOf,List.mem_filterMap] at he
   obtain ⟨x,hx,hxe⟩:=he
   obtain ⟨q,hq,hqe⟩:=List.getElem_of_mem hx
   have:=h2 q (by simpa using hq)
   simp only[Bool.or_eq_true,Bool.not_eq_true'] at this
   have hqe':o.after[q]'(by simpa using hq)=x:=by simpa using hqe
   rw[hqe'] at this
   have hbe:Region.binds .any x=true∧x.on=e:=by
    unfold Region.binds
    cases hg:x.ground<;>rw[hg] at hxe<;>simp_all
   rcases this with h1 | h1
   ·rw[hbe.1] at h1;cases h1
   ·rw[hbe.2] at h1;exact h1
 ·rintro ⟨hk,h1,h2⟩
  have hoi:ops[k]?=some ops[k]:=Array.getElem?_eq_getElem hk
  refine ⟨hk,?_,?_⟩
  ·rw[Array.getD_eq_getD_getElem?] at h1 ⊢
   rw[Array.getElem?_eq_getElem (by omega)] at h1 ⊢
   exact h1
  ·rw[hoi]
   simp only[Option.map_some,Option.getD_some]
   rw[Array.all_eq_true]
   intro q hq
   simp only[Bool.or_eq_true,Bool.not_eq_true']
   by_cases hb:Region.binds .any ops[k].after[q]=true
   ·right
    refine h2 _ hoi _ ?_
    simp only[edgesOf,List.mem_filterMap]
    refine ⟨ops[k].after[q],by simp,?_⟩
    unfold Region.binds at hb
    cases hg:(ops[k].after[q]).ground<;>rw[hg] at hb<;>simp_all
   ·left;simpa using hb
inductive OT where
 | done
 | run (k:Nat) (t:OT)
 | two (s t:OT)
 | lead (k:Nat) (t:OT)
def nthO:List Oper→Nat→Option Oper
 | [],_=>none
 | o :: _,0=>some o
 | _ :: l,k+1=>nthO l k
theorem nthO_eq:∀ (l:List Oper) (k:Nat),nthO l k=l[k]?
 | [],_=>by simp[nthO]
 | _ :: _,0=>by simp[nthO]
 | _ :: l,k+1=>by simp[nthO,nthO_eq l k]
def OT.heads:OT→List Nat
 | .done=>[]
 | .run k _=>[k]
 | .two s t=>s.heads++t.heads
 | .lead _ _=>[]
def pureOp:Op→Bool
 | .move _ | .assign _ | .fieldAddr _ _ _ | .nilCheck _=>true
 | _=>false
def noSel:List Oper→Bool
 | []=>true
 | o :: l=>(match o.op with | .select _ _=>false | _=>true) && noSel l
def allIn (done:List Nat):List Nat→Bool
 | []=>true
 | e :: l=>inL done e && allIn done l
theorem allIn_iff {done:List Nat}:∀ {l:List Nat},allIn done l=true↔∀ e∈l,inL done e=true
 | []=>by simp[allIn]
 | e :: l=>by simp[allIn,allIn_iff (l:=l)]
def covB (hs done:List Nat):Nat→List Oper→Bool
 | _,[]=>true
 | i,o :: l=>(inL done i || inL hs i || !allIn done (edgesOf o)) && covB hs done (i+1) l
def rdyB (L:List Oper) (done:List Nat) (k:Nat):Bool :=
 !inL done k && match nthO L k with
 | none=>false
 | some o=>allIn done (edgesOf o)
def freeB (L:List Oper) (x:Oper) (k:Nat) (done:List Nat):Nat→List Oper→Bool
 | _,[]=>true
 | j,y :: l=>(Nat.beq j k || inL done j || inL (edgesOf y) k || x.apart ⟨L⟩ y) && freeB L x k done (j+1) l
def leadB (L:List Oper) (done:List Nat) (k:Nat):Bool :=
 match nthO L k with
 | none=>false
 | some o=>pureOp o.op && (match o.guard with | none=>true | some _=>false) && freeB L o k done 0 L
def covT (L:List Oper) (done:List Nat):OT→Bool
 | .lead _ _=>true
 | t=>covB t.heads done 0 L
def otIn (L:List Oper):List Nat→OT→Bool
 | _,.done=>true
 | done,.run k t=>rdyB L done k && covT L (k :: done) t && otIn L (k :: done) t
 | done,.two s t=>otIn L done s && otIn L done t
 | done,.lead k t=>rdyB L done k && leadB L done k && covT L (k :: done) t && otIn L (k :: done) t
def otChk (L:List Oper) (t:OT):Bool:=covT L [] t && otIn L [] t
def noLead:OT→Bool
 | .done=>true
 | .run _ t=>noLead t
 | .two s t=>noLead s && noLead t
 | .lead _ _=>false
def vcOT (P:Program) (T:Tab) (F:FuncId→Bool) (G:Gl) (all:Array Oper) (K:St→Prop) (Q:Post) (L:List Oper) (t:OT):St→Prop :=
 OT.rec (motive:=fun _=>St→Prop) K (fun k _ next st=>match nthO L k with | some o=>vcOne P T F G all o st next Q | none=>False) (fun _ _ s t st=>s st∧t st) (fun k _ next st=>match nthO L k with | some o=>vcOne P T F G all o st next Q | none=>False) t
theorem covB_at {hs done:List Nat}:∀ {l:List Oper} {i:Nat},covB hs done i l=true→∀ (k:Nat) (o:Oper),l[k]?=some o→inL done (i+k)=false→(∀ e∈edgesOf o,inL done e=true)→(i+k)∈hs
 | [],_,_,k,o,h,_,_=>by simp at h
 | x :: l,i,hc,k,o,hk,hn,he=>by
  simp only[covB,Bool.and_eq_true] at hc
  cases k with
  | zero =>
   simp at hk
   subst hk
   have h1:=hc.1
   rw[allIn_iff.2 he] at h1
   rw[Nat.add_zero] at hn
   rw[hn] at h1
   simpa using inL_iff.1 (by simpa using h1)
  | succ k =>
   have:=covB_at hc.2 k o (by simpa using hk) (by rw[show i+1+k=i+(k+1) from by omega];exact hn) he
   rwa [show i+1+k=i+(k+1) from by omega] at this
theorem vcOT_end {all:Array Oper} {K:St→Prop} {Q:Post} {L:List Oper} {done:List Nat} (hno:∀ k,rdyB L done k=false):∀ (t:OT) (st:St),otIn L done t=true→vcOT P T F C.G all K Q L t st→K st
 | .done,_,_,h=>h
 | .run k t,st,hi,_=>by
  simp only[otIn,Bool.and_eq_true] at hi
  rw[hno k] at hi
  cases hi.1.1
 | .two s t,st,hi,h=>by
  simp only[otIn,Bool.and_eq_true] at hi
  exact vcOT_end hno s st hi.1 h.1
 | .lead k t,st,hi,_=>by
  simp only[otIn,Bool.and_eq_true] at hi
  rw[hno k] at hi
  cases hi.1.1.1
theorem vcOT_head {all:Array Oper} {K:St→Prop} {Q:Post} {L:List Oper} {done:List Nat} {k:Nat}:∀ (t:OT) (st:St),otIn L done t=true→vcOT P T F C.G all K Q L t st→k∈t.heads →
  ∃ o t',L[k]?=some o∧covT L (k :: done) t'=true∧(noLead t=true→noLead t'=true)∧otIn L (k :: done) t'=true∧vcOne P T F C.G all o st (vcOT P T F C.G all K Q L t') Q
 | .done,_,_,_,hk=>by simp[OT.heads] at hk
 | .run j t,st,hi,h,hk=>by
  simp only[OT.heads,List.mem_singleton] at hk
  subst hk
  simp only[otIn,Bool.and_eq_true] at hi
  have h':(match nthO L k with | some o=>vcOne P T F C.G all o st (vcOT P T F C.G all K Q L t) Q | none=>False):=h
  cases ho:nthO L k with
  | none=>rw[ho] at h';exact h'.elim
  | some o=>rw[ho] at h';exact ⟨o,t,by rw[← nthO_eq];exact ho,hi.1.2,id,hi.2,h'⟩
 | .two s t,st,hi,h,hk=>by
  simp only[OT.heads,List.mem_append] at hk
  simp only[otIn,Bool.and_eq_true] at hi
  rcases hk with hk | hk
  ·obtain ⟨o,t',a1,a2,a3,a4⟩:=vcOT_head s st hi.1 h.1 hk
   exact ⟨o,t',a1,a2,fun hn=>a3 (by simp only[noLead,Bool.and_eq_true] at hn;exact hn.1),a4⟩
  ·obtain ⟨o,t',a1,a2,a3,a4⟩:=vcOT_head t st hi.2 h.2 hk
   exact ⟨o,t',a1,a2,fun hn=>a3 (by simp only[noLead,Bool.and_eq_true] at hn;exact hn.2),a4⟩
 | .lead _ _,_,_,_,hk=>by simp[OT.heads] at hk
theorem covT_at {L:List Oper} {done:List Nat} {t:OT} (hc:covT L done t=true):(∃ k t',t=.lead k t')∨covB t.heads done 0 L=true:=by
 cases t with
 | lead k t'=>exact .inl ⟨k,t',rfl⟩
 | _=>exact .inr hc
theorem noSel_at:∀ {L:List Oper},noSel L=true→∀ (j:Nat) (o:Oper) cs b,L[j]?=some o→o.op≠.select cs b
 | [],_,j,o,_,_,h=>by simp at h
 | x :: L,hn,j,o,cs,b,h=>by
  simp only[noSel,Bool.and_eq_true] at hn
  cases j with
  | zero =>
   simp at h
   subst h
   intro e
   have h1:=hn.1
   rw[e] at h1
   cases h1
  | succ j=>exact noSel_at hn.2 j o cs b (by simpa using h)
theorem freeB_at {L:List Oper} {x:Oper} {k:Nat} {done:List Nat}:∀ {l:List Oper} {i:Nat},freeB L x k done i l=true→∀ (j:Nat) (y:Oper),l[j]?=some y→i+j≠k→inL done (i+j)=false→k ∉ edgesOf y→x.apart ⟨L⟩ y=true
 | [],_,_,j,y,h,_,_,_=>by simp at h
 | z :: l,i,hf,j,y,hj,hne,hd,he=>by
  simp only[freeB,Bool.and_eq_true] at hf
  cases j with
  | zero =>
   simp at hj
   subst hj
   have h1:=hf.1
   rw[Nat.add_zero] at hne hd
   have e1:Nat.beq i k=false:=beq_ne hne
   have e2:inL (edgesOf z) k=false:=by
    cases hx:inL (edgesOf z) k with
    | false=>rfl
    | true=>exact absurd (inL_iff.1 hx) he
   rw[e1,hd,e2] at h1
   simpa using h1
  | succ j =>
   exact freeB_at hf.2 j y (by simpa using hj) (by omega) (by rw[show i+1+j=i+(j+1) from by omega];exact hd) he
theorem pure_op (hT:TabOk P T) {o:Oper} {st:St} {a:Act} {w:World} {β:Nat→Value} {V:Nat→Prop} {K Qp:KD} (hr:RelD C st.h β V w) (he:EnvOk st β V w a) (hk:pureOp o.op=true) (h:vcOp P T F C.G o.op st K Qp) :
  ∃ v d,K d st.h∧RepD st.h β V w d v∧∀ w2,(execOp a.eval o).run P w2=.ok (.value v) w2:=by
 cases ho:o.op with
 | move x=>rw[ho] at h;exact ⟨_,_,h,he.eval hr.gl x,fun w2=>by simp[execOp,ho]⟩
 | assign x=>rw[ho] at h;exact ⟨_,_,h,he.eval hr.gl x,fun w2=>by simp[execOp,ho]⟩
 | nilCheck x =>
  rw[ho] at h
  have hx:=he.eval hr.gl x
  have fin:∀ (d:D) (v:Value),K d st.h→a.eval x=v→RepD st.h β V w d v→(∃ ad,v=.pointer (some ad))∨(∃ f us ts,v=.func (.func f) us ts)→∃ v d,K d st.h∧RepD st.h β V w d v∧∀ w2,(execOp a.eval o).run P w2=.ok (.value v) w2:=by
   rintro d v k1 k2 k3 (⟨ad,rfl⟩ | ⟨f,us,ts,rfl⟩)
   ·exact ⟨_,d,k1,k3,fun w2=>by simp[execOp,ho,k2]⟩
   ·exact ⟨_,d,k1,k3,fun w2=>by simp[execOp,ho,k2]⟩
  simp only[vcOp] at h
  split at h
  ·rename_i i off e
   split at h
   ·rename_i cs ty hi
    rw[e] at hx
    have hx':=hx
    simp only[RepD,hi] at hx
    obtain ⟨g,_,hv⟩:=hx
    exact fin _ _ h rfl hx' (.inl ⟨_,hv⟩)
   ·exact h.elim
  ·rename_i i j off e
   split at h
   ·rename_i xs ty sz hi
    rw[e] at hx
    have hx':=hx
    simp only[RepD,hi] at hx
    obtain ⟨_,g,n,c,_,hv⟩:=hx
    exact fin _ _ h rfl hx' (.inl ⟨_,hv⟩)
   ·exact h.elim
  ·rename_i r off e
   rw[e] at hx
   have hx':=hx
   simp only[RepD] at hx
   obtain ⟨ad,hv,_⟩:=hx
   exact fin _ _ h rfl hx' (.inl ⟨_,hv⟩)
  ·rename_i f fs cs e
   rw[e] at hx
   have hx':=hx
   simp only[RepD] at hx
   obtain ⟨us,ts,hv,_⟩:=hx
   exact fin _ _ h rfl hx' (.inr ⟨_,_,_,hv⟩)
  ·exact h.elim
 | fieldAddr s x f =>
  rw[ho] at h
  have he':execOp a.eval o=(do pure (.value (← Instr.fieldAt s (a.eval x) f))):=by simp[execOp,ho]
  have hx:=he.eval hr.gl x
  simp only[vcOp] at h
  split at h
  ·rename_i hs
   split at h
   ·rename_i off sz hf
    split at h
    ·rename_i i o' e
     rw[e] at hx
     split at h
     ·rename_i cs ty hi
      simp only[RepD,hi] at hx
      obtain ⟨g,hb,hv⟩:=hx
      refine ⟨.pointer (some ⟨g,o'+off,none⟩),_,h,by simp only[RepD,hi];exact ⟨g,hb,rfl⟩,fun w2=>?_⟩
      rw[he',hv]
      simp[run_fieldAt hT hs rfl hf,add_mk]
     ·exact h.elim
    ·rename_i i j o' e
     rw[e] at hx
     split at h
     ·rename_i xs ty sz' hi
      simp only[RepD,hi] at hx
      obtain ⟨hj,g,n,c,hb,hv⟩:=hx
      refine ⟨.pointer (some ⟨g,j*sz'+o'+off,none⟩),_,h,by simp only[RepD,hi];exact ⟨hj,g,n,c,hb,by rw[Nat.add_assoc]⟩,fun w2=>?_⟩
      rw[he',hv]
      simp[run_fieldAt hT hs rfl hf,add_mk]
     ·exact h.elim
    ·rename_i r o' e
     rw[e] at hx
     simp only[RepD] at hx
     obtain ⟨ad,hv,hV,hrow⟩:=hx
     refine ⟨.pointer (some ((ad.add o').add off)),_,h,by simp only[RepD];exact ⟨ad,by rw[add_add],hV,hrow⟩,fun w2=>?_⟩
     rw[he',hv]
     simp[run_fieldAt hT hs rfl hf]
    ·exact h.elim
   ·exact h.elim
  ·exact h.elim
 | _=>rw[ho] at hk;cases hk
theorem pure_one (hT:TabOk P T) {all:Array Oper} {o:Oper} {st:St} {a:Act} {w:World} {K:St→Prop} {Q:Post} (hr:Rel C n st a w) (hd:∀ d,o.dst=some d→d < n) (hk:pureOp o.op=true) (hg:o.guard=none) (h:vcOne P T F C.G all o st K Q) :
  ∃ v st',K st'∧Rel C n st' (a.put o.dst v) w∧Yields P all o v a:=by
 obtain ⟨hsz,hdf,β,V,hrel,he⟩:=hr
 obtain ⟨dst,op,ty,pos,aft,guard⟩:=o
 simp only at hg hk hd
 subst hg
 have h1:runOp P T F C.G op dst st K Q:=h
 have hpre:preOp C.G op st=fun X=>X st:=by
  funext X
  cases op<;>first | rfl | cases hk
 unfold runOp at h1
 rw[hpre] at h1
 obtain ⟨env,hp,df⟩:=st
 dsimp only at h1
 obtain ⟨v,d,k1,k2,k3⟩:=pure_op (o:=⟨dst,op,ty,pos,aft,none⟩) hT hrel he hk h1
 have hh:hookable op d=false:=by cases op<;>first | rfl | cases hk
 rw[hh] at k1
 have hy:Yields P all ⟨dst,op,ty,pos,aft,none⟩ v a:=.inl ⟨by simp[Region.wanted],k3⟩
 cases dst with
 | none =>
  have k4:K ⟨env,hp,df⟩:=by simpa only[Bool.false_and,orS,cond_false,forceD_eq,forceH_eq] using k1
  exact ⟨v,_,k4,⟨hsz,hdf,β,V,hrel,he⟩,hy⟩
 | some i =>
  have k4:K ⟨env.set i d,hp,df⟩:=by simpa only[Bool.false_and,orS,cond_false,forceD_eq,forceH_eq] using k1
  exact ⟨v,_,k4,⟨by simpa [Act.put] using hsz,hdf,β,V,hrel,env_put he hsz (LeH.refl _ _) (Moved.refl _ _) (hd i rfl) k2 df⟩,hy⟩
theorem ot_sound (hT:TabOk P T) (hF:∀ g,F g=true→fnOk P g=true) {L:List Oper} {S:List Nat} {Q:Post} {K:St→Prop} {a0:Act} {Qa:Exit→Act→World→Prop}
  (hd:∀ o∈L,∀ d,o.dst=some d→d < n∧inL S d=true)
  (hK:∀ st a w,K st→Rel C n st a w→Keeps S a0 a→Qa .normal a w) (hQ:∀ d st ch a w,Q (.pan d) st→XOk (.panic ch) (.pan d) st a w C n→Keeps S a0 a→Qa (.panic ch) a w)
  (ld:Bool) (hld:ld=true→noSel L=true∧∀ ch a w,¬Qa (.panic ch) a w) :
  ∀ (fuel:Nat) (listed:Array Bool) (done:List Nat) (t:OT) (st:St) (a:Act) (w:World),listed.size=L.length→(∀ k,k < L.length→listed.getD k false=inL done k)→(∀ k,inL done k=true→k < L.length)→(List.range L.length).countP (fun i=>!listed.getD i false)≤fuel →
   (ld || noLead t)=true→covT L done t=true→otIn L done t=true→vcOT P T F C.G ⟨L⟩ K Q L t st→Rel C n st a w→Keeps S a0 a→wpAny P .any ⟨L⟩ Qa fuel listed a w:=by
 intro fuel
 have rdy:∀ (listed:Array Bool) (done:List Nat),listed.size=L.length→(∀ k,k < L.length→listed.getD k false=inL done k)→(∀ k,inL done k=true→k < L.length)→∀ k,k∈Region.ready .any ⟨L⟩ listed↔rdyB L done k=true:=by
  intro listed done hsz hag hlt k
  have ag:∀ k,listed.getD k false=inL done k:=fun k=>by
   by_cases hk:k < L.length
   ·exact hag k hk
   ·rw[Array.getD_eq_getD_getElem?,Array.getElem?_eq_none (by omega)]
    cases hx:inL done k with
    | false=>rfl
    | true=>exact absurd (hlt k hx) hk
  rw[mem_ready (by exact hsz)]
  have e1:(⟨L⟩:Array Oper)[k]?=L[k]?:=by simp
  unfold rdyB
  rw[e1,nthO_eq,ag]
  constructor
  ·rintro ⟨h1,h2,h3⟩
   have ho:L[k]?=some L[k]:=List.getElem?_eq_getElem h1
   rw[h2,ho]
   simp only[Bool.not_false,Bool.true_and]
   exact allIn_iff.2 (fun e he=>by rw[← ag];exact h3 _ ho e he)
  ·intro h
   simp only[Bool.and_eq_true,Bool.not_eq_true'] at h
   cases ho:L[k]? with
   | none=>rw[ho] at h;cases h.2
   | some o =>
    rw[ho] at h
    refine ⟨(List.getElem?_eq_some_iff.1 ho).1,h.1,fun o' ho' e he=>?_⟩
    injection ho' with ho'
    subst ho'
    rw[ag]
    exact allIn_iff.1 h.2 e he
 induction fuel with
 | zero =>
  intro listed done t st a w hsz hag hlt hc _ hcov hin hv hr hk
  have hno:Region.ready .any ⟨L⟩ listed=[]:=by
   rw[List.eq_nil_iff_forall_not_mem]
   intro k hkr
   have h0:=(mem_ready (ops:=⟨L⟩) (by exact hsz)).1 hkr
   have:0 < (List.range L.length).countP (fun i=>!listed.getD i false):=List.countP_pos_iff.2 ⟨k,List.mem_range.2 h0.1,by rw[h0.2.1];rfl⟩
   omega
  refine ⟨hno,hK st a w (vcOT_end (fun k=>?_) t st hin hv) hr hk⟩
  cases hx:rdyB L done k with
  | false=>rfl
  | true =>
   have:=(rdy listed done hsz hag hlt k).2 hx
   rw[hno] at this
   simp at this
 | succ fuel ih =>
  intro listed done t st a w hsz hag hlt hc hnl hcov hin hv hr hk
  have upd:∀ k,k < L.length→listed.getD k false=false→(listed.setIfInBounds k true).size=L.length∧(∀ j,j < L.length→(listed.setIfInBounds k true).getD j false=inL (k :: done) j)∧(∀ j,inL (k :: done) j=true→j < L.length)∧(List.range L.length).countP (fun i=>!(listed.setIfInBounds k true).getD i false)≤fuel:=fun k hkl h0=>by
   refine ⟨by simpa using hsz,fun j hj=>?_,fun j hj=>?_,?_⟩
   ·rw[getD_set (by omega)]
    show _=bif Nat.beq k j then true else inL done j
    by_cases e:j=k
    ·subst e;rw[if_pos rfl,Nat.beq_refl];rfl
    ·rw[if_neg e,hag j hj,beq_ne (fun h=>e h.symm)];rfl
   ·have:(bif Nat.beq k j then true else inL done j)=true:=hj
    by_cases e:k=j
    ·omega
    ·rw[beq_ne e] at this;exact hlt j this
   ·have:=countP_upd (p:=fun i=>!listed.getD i false) (q:=fun i=>!(listed.setIfInBounds k true).getD i false) (i:=k) (List.range L.length) List.nodup_range (List.mem_range.2 hkl) (by simp only[h0];rfl) (by rw[getD_set (by omega),if_pos rfl];rfl) (fun j hj=>by rw[getD_set (by omega),if_neg hj])
    omega
  rcases covT_at hcov with ⟨k,t',rfl⟩ | hcov
  ·
   have hldt:ld=true:=by simpa [noLead] using hnl
   obtain ⟨hns,hnp⟩:=hld hldt
   simp only[otIn,Bool.and_eq_true] at hin
   obtain ⟨⟨⟨h1,h2⟩,h3⟩,h4⟩:=hin
   have hkr:=(rdy listed done hsz hag hlt k).2 h1
   have h0:=(mem_ready (ops:=⟨L⟩) (by exact hsz)).1 hkr
   have hkl:k < L.length:=h0.1
   have hvv:(match nthO L k with | some o=>vcOne P T F C.G ⟨L⟩ o st (vcOT P T F C.G ⟨L⟩ K Q L t') Q | none=>False):=hv
   unfold leadB at h2
   cases ho:nthO L k with
   | none=>rw[ho] at hvv;exact hvv.elim
   | some o =>
    rw[ho] at hvv h2
    simp only[Bool.and_eq_true] at h2
    obtain ⟨⟨b1,b2⟩,b3⟩:=h2
    have hoL:L[k]?=some o:=by rw[← nthO_eq];exact ho
    have hom:o∈L:=List.mem_of_getElem? hoL
    have hg:o.guard=none:=by
     cases hgg:o.guard with
     | none=>rfl
     | some _=>rw[hgg] at b2;cases b2
    obtain ⟨v,st',k1,k2,k3⟩:=pure_one (all:=⟨L⟩) hT hr (fun d hd'=>(hd o hom d hd').1) b1 hg hvv
    obtain ⟨p1,p2,p3,p4⟩:=upd k hkl h0.2.1
    refine wpAny_first (md:=.any) (ops:=⟨L⟩) (i:=k) (oi:=o) (v:=v) (by simpa using hoL) (fun j o cs b hj=>noSel_at hns j o cs b (by simpa using hj)) (fun c a w h=>absurd h (hnp c _ w)) fuel listed a w ?_ hkr k3
     (ih _ (k :: done) t' st' _ w p1 p2 p3 p4 (by rw[hldt];rfl) h3 h4 k1 k2 (hk.trans (Keeps.put (fun d hd'=>(hd o hom d hd').2) v)))
    intro j oj hj hne hun hno
    have hjl:j < L.length:=by
     have:=(Array.getElem?_eq_some_iff.1 hj).1
     exact this
    refine freeB_at b3 j oj (by simpa using hj) (by omega) ?_ ?_
    ·rw[Nat.zero_add,← hag j hjl]
     rw[Array.getD_eq_getD_getElem?] at hun ⊢
     rw[Array.getElem?_eq_getElem (by omega)] at hun ⊢
     exact hun
    ·intro hin
     simp only[edgesOf,List.mem_filterMap] at hin
     obtain ⟨e,he,hee⟩:=hin
     have hbe:Region.binds .any e=true∧e.on=k:=by
      unfold Region.binds
      cases hg2:e.ground<;>rw[hg2] at hee<;>simp_all
     exact hno e (by simpa using he) hbe.1 hbe.2
  refine ⟨fun hno=>hK st a w (vcOT_end (fun k=>?_) t st hin hv) hr hk,fun k hkr=>?_⟩
  ·cases hx:rdyB L done k with
   | false=>rfl
   | true =>
    have:=(rdy listed done hsz hag hlt k).2 hx
    rw[hno] at this
    simp at this
  have h0:=(mem_ready (ops:=⟨L⟩) (by exact hsz)).1 hkr
  have h1:=(rdy listed done hsz hag hlt k).1 hkr
  have hkl:k < L.length:=h0.1
  have hhead:k∈t.heads:=by
   have ho:L[k]?=some L[k]:=List.getElem?_eq_getElem hkl
   have:=covB_at hcov k L[k] ho (by rw[Nat.zero_add,← hag k hkl];exact h0.2.1) (fun e he=>by
    unfold rdyB at h1
    rw[nthO_eq,ho] at h1
    simp only[Bool.and_eq_true] at h1
    exact allIn_iff.1 h1.2 e he)
   rwa [Nat.zero_add] at this
  obtain ⟨o,t',ho,c1,c1',c2,c3⟩:=vcOT_head t st hin hv hhead
  have hom:o∈L:=List.mem_of_getElem? ho
  have hput:∀ v,Keeps S a0 (a.put o.dst v):=fun v=>hk.trans (Keeps.put (fun d hd'=>(hd o hom d hd').2) v)
  obtain ⟨p1,p2,p3,p4⟩:=upd k hkl h0.2.1
  have hst:=one_sound (all:=⟨L⟩) (next:=fun a2 w2=>wpAny P .any ⟨L⟩ Qa fuel (listed.setIfInBounds k true) a2 w2) (Qa:=Qa) hT hF hr (fun d hd'=>(hd o hom d hd').1) c3
   (fun st' v w' hk' hr'=>ih _ (k :: done) t' st' _ w' p1 p2 p3 p4 (by rcases Bool.or_eq_true _ _▸hnl with h | h;exact (by rw[h];rfl);rw[c1' h,Bool.or_true]) c1 c2 hk' hr' (hput v)) (fun d st' ch w' hq hx=>hQ d st' ch a w' hq hx hk)
  unfold wpOp
  have e1:(⟨L⟩:Array Oper)[k]?=some o:=by simpa using ho
  rw[e1]
  unfold StepW at hst
  dsimp only
  by_cases hw:Region.wanted o (yielded ⟨L⟩ a.tmps)=true
  ·rw[if_pos hw] at hst ⊢
   exact .inl hst
  ·rw[if_neg hw] at hst ⊢
   exact hst
def isAll:Option Nat→Bool
 | some p=>Nat.beq p 60000
 | none=>false
def isAllL:Option Nat→Bool
 | some p=>Nat.beq p 60001
 | none=>false
def noPan (Q:Post):Post:=fun x st=>match x with
 | .pan _=>False
 | x=>Q x st
def vcDw (P:Program) (T:Tab) (F:FuncId→Bool) (G:Gl) (ops:Array Oper) (Q:Post) (pp:Option Nat) (env:Env) (h:Heap) (df:List Deferred):Prop :=
 bif isAll pp then ∃ t:OT,(otChk ops.toList t && noLead t)=true∧vcOT P T F G ops (Q .normal) Q ops.toList t ⟨env,h,df⟩ else @vcDx0 (CA.mk (caB pp) (caF pp) (caM pp) (caS pp)) P T F G ops Q pp env h df
def vcDx (P:Program) (T:Tab) (F:FuncId→Bool) (G:Gl) (ops:Array Oper) (Q:Post) (pp:Option Nat) (env:Env) (h:Heap) (df:List Deferred):Prop :=
 bif isAllL pp then ∃ t:OT,(otChk ops.toList t && noSel ops.toList)=true∧vcOT P T F G ops (Q .normal) (noPan Q) ops.toList t ⟨env,h,df⟩ else vcDw P T F G ops Q pp env h df
theorem ot_any (hT:TabOk P T) (hF:∀ g,F g=true→fnOk P g=true) {id:Nat} {ops:Array Oper} (S:List Nat) (hs:∀ k∈mods (.region id ops true),k < n) (hm:∀ k∈mods (.region id ops true),inL S k=true)
  {st:St} {Q Q':Post} {t:OT} (hc:otChk ops.toList t=true) (hn:Q'=Q∧noLead t=true∨Q'=noPan Q∧noSel ops.toList=true) (h:vcOT P T F C.G ops (Q .normal) Q' ops.toList t st) {a:Act} {w:World} (hr:Rel C n st a w) :
  wpAny P .any ops (fun e a' w'=>Keeps S a a'∧∃ x st',Q' x st'∧XOk e x st' a' w' C n) ops.size (Array.replicate ops.size false) a { w with drawn:=w.drawn+1 }:=by
 simp only[otChk,Bool.and_eq_true] at hc
 have hrd:Rel C n st a { w with drawn:=w.drawn+1 }:=by
  obtain ⟨h1,h2,β,V,h3,h4⟩:=hr
  exact ⟨h1,h2,β,V,h3.drew _,fun s=>RepD.mono (w:=w) (w':={ w with drawn:=w.drawn+1 }) (V:=V) (LeH.refl st.h β) (fun k hk=>⟨hk,rfl⟩) _ _ (h4 s)⟩
 have hnn:Q' .normal=Q .normal:=by rcases hn with ⟨rfl,_⟩ | ⟨rfl,_⟩<;>rfl
 have key:∀ ld:Bool,(ld=true→noSel ops.toList=true∧Q'=noPan Q)→(ld || noLead t)=true→wpAny P .any ops (fun e a' w'=>Keeps S a a'∧∃ x st',Q' x st'∧XOk e x st' a' w' C n) ops.size (Array.replicate ops.size false) a { w with drawn:=w.drawn+1 }:=fun ld h1 h2 =>
  ot_sound (L:=ops.toList) (K:=Q .normal) (Q:=Q') (a0:=a) (S:=S) hT hF (fun o ho d hd=>by
   have:d∈mods (.region id ops true):=by simp only[mods,List.mem_filterMap];exact ⟨o,ho,hd⟩
   exact ⟨hs d this,hm d this⟩)
  (fun st a w hq hr hk=>⟨hk,.normal,st,by rw[hnn];exact hq,hr⟩) (fun d st ch a w hq hx hk=>⟨hk,.pan d,st,hq,hx⟩) ld (fun hl=>⟨(h1 hl).1,by
   rintro ch a' w' ⟨_,x,st',hq,hx⟩
   rw[(h1 hl).2] at hq
   cases x<;>first | exact hq.elim | exact hx.elim⟩) ops.size (Array.replicate ops.size false) [] t st a _ (by simp) (fun k hk=>by
   rw[Array.getD_eq_getD_getElem?,Array.getElem?_replicate];split<;>rfl) (fun k hk=>by cases hk) (Nat.le_trans List.countP_le_length (by simp)) h2 hc.1 hc.2 h hrd (Keeps.refl _ _)
 rcases hn with ⟨_,hn⟩ | ⟨h1,h2⟩
 ·exact key false (fun h=>by cases h) (by rw[hn];rfl)
 ·exact key true (fun _=>⟨h2,h1⟩) rfl
theorem draw_sound (hT:TabOk P T) (hF:∀ g,F g=true→fnOk P g=true) (hM:P.follows .mixedOrders=true) {id:Nat} {ops:Array Oper} (S:List Nat) (hs:∀ k∈mods (.region id ops true),k < n) (hm:∀ k∈mods (.region id ops true),inL S k=true)
  {env:Env} {hh:Heap} {df:List Deferred} {Q:Post} (h:∃ pp:Option Nat,vcDx P T F C.G ops Q pp env hh df) {a:Act} {w:World} (hr:Rel C n ⟨env,hh,df⟩ a w) :
  (Code.region id ops true).wp P (fun e a' w'=>Keeps S a a'∧∃ x st',Q x st'∧XOk e x st' a' w' C n) a w:=by
 obtain ⟨pp,h⟩:=h
 unfold vcDx at h
 cases hl:isAllL pp with
 | true =>
  rw[hl] at h
  obtain ⟨t,hc,h⟩:=h
  simp only[Bool.and_eq_true] at hc
  refine Code.wp_mono ?_ (wp_region_any (id:=id) hM (ot_any hT hF (id:=id) S hs hm hc.1 (.inr ⟨rfl,hc.2⟩) h hr))
  rintro e a' w' ⟨hk,x,st',hq,hx⟩
  exact ⟨hk,x,st',by cases x<;>first | exact hq | exact hq.elim,hx⟩
 | false =>
 rw[hl] at h
 replace h:vcDw P T F C.G ops Q pp env hh df:=h
 unfold vcDw at h
 cases ha:isAll pp with
 | true =>
  rw[ha] at h
  obtain ⟨t,hc,h⟩:=h
  simp only[Bool.and_eq_true] at hc
  exact wp_region_any hM (ot_any hT hF (id:=id) S hs hm hc.1 (.inl ⟨rfl,hc.2⟩) h hr)
 | false =>
 rw[ha] at h
 exact @draw_sound0 P T F C n (CA.mk (caB pp) (caF pp) (caM pp) (caS pp)) hT hF hM id ops S hs hm env hh df Q pp h a w hr
end
end Go.Dm
