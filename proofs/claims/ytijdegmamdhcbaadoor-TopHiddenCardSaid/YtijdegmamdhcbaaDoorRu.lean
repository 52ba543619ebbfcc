/-
  Runs of images, plain: what holds of calls that are noted; more fuel; parts that call nobody.
-/
import Derived.Test.YtijdegmamdhcbaaDoorMn2
namespace Barb
open Go Go.Dm Go.Eng Go.Proofs.YtijdegmamdhcbaaDoor
structure NoteOk (m:Image) (n:Nt):Prop where
 part:0≤n.part∧n.part < m.length
 entry:0≤n.entry∧n.entry < (m.getD n.part.toNat noPart).entries.length
 args:((m.getD n.part.toNat noPart).entries.getD n.entry.toNat noEntry).params=n.args.length
 deep:1≤n.deep∧n.deep≤20
 val:n.done=false→n.value=0
def R.all (P:MO→Prop):R→Prop
 | .go o fs=>P o∧fs≠[]
 | .stop c _ o=>P o∧1≤c∧c≤6∧c≠3
theorem pushS_all {P:MO→Prop} {o:MO} (h:P o) (pre:List PF) (t:PF) (n:Int):(pushS o pre t n).all P:=by
 unfold pushS
 split
 ·exact ⟨h,by decide,by decide,by decide⟩
 ·exact ⟨h,by simp⟩
theorem enterS_all {P:MO→Prop} {o:MO} (h:P o) (fs:List PF) (part at_ noted:Int) (args:List Int):(enterS o fs part at_ noted args).all P:=by
 unfold enterS
 split
 ·exact ⟨h,by decide,by decide,by decide⟩
 ·exact ⟨h,by simp⟩
structure KeepAt (P:MO→Prop) (o:MO):Prop where
 told:∀ x,P { o with told:=o.told++[x] }
 data:∀ i v,P { o with data:=o.data.set i v }
 note:∀ k v,P (noteS o k v)
def Keep (P:MO→Prop):Prop:=∀ o,P o→KeepAt P o
theorem memS_all {P:MO→Prop} {o:MO} (hk:KeepAt P o) (h:P o) (p:Part) (i:Instr) (pre:List PF) (t:PF):(memS p i o pre t).all P:=by
 unfold memS
 (repeat' split)
 ·exact ⟨h,by decide,by decide,by decide⟩
 ·exact ⟨h,by simp⟩
 ·exact ⟨h,by decide,by decide,by decide⟩
 ·exact ⟨h,by decide,by decide,by decide⟩
 ·exact ⟨hk.data _ _,by simp⟩
 ·exact ⟨h,by decide,by decide,by decide⟩
theorem retS_all {P:MO→Prop} {o:MO} (hk:KeepAt P o) (h:P o) (pre:List PF) (t:PF):(retS o pre t).all P:=by
 unfold retS
 split
 ·exact ⟨h,by decide,by decide,by decide⟩
 ·dsimp only
  split
  ·exact ⟨hk.note _ _,by decide,by decide,by decide⟩
  ·exact pushS_all (hk.note _ _) _ _ _
theorem wrdS_all {P:MO→Prop} {o:MO} (hk:KeepAt P o) (h:P o) (i:Instr) (pre:List PF) (t:PF):(wrdS i o pre t).all P:=by
 unfold wrdS
 dsimp only
 (repeat' split)
 all_goals first
  | exact pushS_all h _ _ _
  | exact ⟨h,by decide,by decide,by decide⟩
  | exact ⟨h,by simp⟩
  | exact ⟨hk.told _,by simp⟩
theorem gateS_all {m:Image} {P:MO→Prop} {o:MO} (h:P o) (i:Instr) (pre:List PF) (t:PF) (ha:0≤i.a∧0≤i.b∧0≤i.c) (hd:pre.length+1≤20)
  (hc:∀ n:Nt,NoteOk m n→P { o with calls:=o.calls++[n] }):(gateS m i o pre t).all P:=by
 unfold gateS
 split
 ·exact ⟨h,by decide,by decide,by decide⟩
 ·rename_i hw
  split
  ·exact ⟨h,by decide,by decide,by decide⟩
  ·rename_i hb
   dsimp only
   split
   ·refine enterS_all (hc _ ?_) _ _ _ _ _
    unfold gateBad at hb
    have hp:i.a < m.length:=by omega
    have he:i.b < ((m.getD i.a.toNat noPart).entries.length:Nat):=by omega
    have hq:((m.getD i.a.toNat noPart).entries.getD i.b.toNat noEntry).params=i.c:=Classical.byContradiction fun hh=>hb (.inr (.inr hh))
    refine ⟨⟨ha.1,hp⟩,⟨ha.2.1,he⟩,?_,⟨by show (1:Int)≤((pre.length+1:Nat):Int);omega,by show ((pre.length+1:Nat):Int)≤20;omega⟩,fun _=>rfl⟩
    show ((m.getD i.a.toNat noPart).entries.getD i.b.toNat noEntry).params=((t.off i.c.toNat).length:Int)
    rw[hq]
    unfold PF.off
    rw[List.length_drop]
    omega
   ·exact enterS_all h _ _ _ _ _
theorem ctlS_all {m:Image} {P:MO→Prop} {o:MO} (hk:KeepAt P o) (h:P o) (i:Instr) (pre:List PF) (t:PF) (ha:0≤i.a∧0≤i.b∧0≤i.c) (hd:pre.length+1≤20)
  (hc:∀ n:Nt,NoteOk m n→P { o with calls:=o.calls++[n] }):(ctlS m i o pre t).all P:=by
 unfold ctlS
 (repeat' split)
 all_goals first
  | exact gateS_all h i pre t ha hd hc
  | exact retS_all hk h pre t
  | exact enterS_all h _ _ _ _ _
  | exact ⟨h,by decide,by decide,by decide⟩
  | exact ⟨h,by simp⟩
theorem getD_instr {m:Image} (hi:imgE m=0) (k at_:Nat) (hk:k < m.length):0≤((m.getD k noPart).code.getD at_ noInstr).a∧0≤((m.getD k noPart).code.getD at_ noInstr).b∧0≤((m.getD k noPart).code.getD at_ noInstr).c:=by
 obtain ⟨_,_,h2,_⟩:=code_ok hi hk
 rw[show m.getD k noPart=m[k] by simp[hk]]
 by_cases ha:at_ < m[k].code.length
 ·rw[show m[k].code.getD at_ noInstr=m[k].code[at_] by simp[ha]]
  have:=h2 _ (List.getElem_mem ha)
  unfold instrE at this
  by_cases h1:¬(1≤m[k].code[at_].op∧m[k].code[at_].op≤15)
  ·rw[if_pos h1] at this;omega
  rw[if_neg h1] at this
  by_cases h3:instrBad m[k].code[at_]
  ·rw[if_pos h3] at this;omega
  unfold instrBad at h3
  omega
 ·rw[show m[k].code.getD at_ noInstr=noInstr by rw[List.getD_eq_getElem?_getD,List.getElem?_eq_none (by omega)];rfl]
  decide
theorem stepS_all {m:Image} {P:MO→Prop} {o:MO} (hk:KeepAt P o) {pre:List PF} {t:PF} (ok:SOk m o (pre++[t])) (h:P o) (hc:∀ n,NoteOk m n→P { o with calls:=o.calls++[n] }):(Barb.stepS m o pre t).all P:=by
 have hd:=ok.deep
 rw[List.length_append,List.length_singleton] at hd
 obtain ⟨⟨k,hpk,hkl⟩,_,_,_,_,_⟩:=ok.frs t (by simp)
 unfold Barb.stepS
 dsimp only
 split
 ·exact ⟨h,by decide,by decide,by decide⟩
 ·have hz:=getD_instr ok.img k t.at_.toNat hkl
  rw[hpk,Int.toNat_natCast]
  split
  ·exact memS_all hk h _ _ _ _
  ·split
   ·exact ctlS_all hk h _ _ _ hz hd hc
   ·exact wrdS_all hk h _ _ _
theorem last_split {α:Type} (l:List α) (h:l≠[]):∃ pre t,l=pre++[t]:=⟨l.dropLast,l.getLast h,(List.dropLast_concat_getLast h).symm⟩
theorem iterS_all {m:Image} {P:MO→Prop} (hk:Keep P) (hc:∀ o n,P o→NoteOk m n→P { o with calls:=o.calls++[n] }):∀ (n:Nat) (o:MO) (fs:List PF),SOk m o fs→fs≠[]→P o→P (iterS m n o fs).2.2∧1≤(iterS m n o fs).1
 | 0,o,fs,_,_,h=>⟨h,(by decide:(1:Int)≤3)⟩
 | n+1,o,fs,ok,hne,h=>by
  obtain ⟨pre,t,rfl⟩:=last_split fs hne
  rw[iterS_snoc]
  have hs:=stepS_all (hk o h) ok h (fun n hn=>hc o n h hn)
  have ho:=stepS_ok ok
  cases hx:Barb.stepS m o pre t with
  | go o' fs' =>
   rw[hx] at hs ho
   exact iterS_all hk hc n o' fs' ho.1 hs.2 hs.1
  | stop c v o' =>
   rw[hx] at hs
   exact ⟨hs.1,hs.2.1⟩
theorem notes_keep (m:Image):Keep (fun o=>∀ n∈o.calls,NoteOk m n):=fun o h =>
 ⟨fun _=>h,fun _ _=>h,fun k v n hn=>by
  unfold noteS at hn
  split at hn
  ·obtain ⟨j,hj⟩:=List.mem_iff_getElem?.1 hn
   dsimp only at hj
   rw[List.getElem?_modify] at hj
   cases hc:o.calls[j]? with
   | none=>rw[hc] at hj;cases hj
   | some x =>
    rw[hc] at hj
    have hx:=h x (List.mem_of_getElem? hc)
    have hj':(if k.toNat=j then x.fin v else x)=n:=by
     have:=Option.some.inj hj
     simpa using this
    split at hj'
    ·subst hj'
     exact ⟨hx.part,hx.entry,hx.args,hx.deep,fun hd=>by cases hd⟩
    ·subst hj';exact hx
  ·exact h n hn⟩
theorem told_keep (l:List Int):Keep (fun o=>l <+: o.told):=fun o h =>
 ⟨fun x=>h.trans (List.prefix_append _ _),fun _ _=>h,fun k v=>by unfold noteS;split<;>exact h⟩
theorem iterS_more (m:Image):∀ (n j:Nat) (o:MO) (fs:List PF),(iterS m n o fs).1≠3→iterS m (n+j) o fs=iterS m n o fs
 | 0,_,_,_,h=>absurd rfl h
 | n+1,j,o,fs,h=>by
  rw[show n+1+j=(n+j)+1 by omega]
  unfold iterS at h ⊢
  cases hl:fs.getLast? with
  | none=>rfl
  | some t =>
   rw[hl] at h
   dsimp only at h ⊢
   cases hx:Barb.stepS m o fs.dropLast t with
   | go o' fs' =>
    rw[hx] at h
    exact iterS_more m n j o' fs' h
   | stop c v o'=>rfl
theorem iterS_less {m:Image} (j:Nat):∀ (n:Nat) (o:MO) (fs:List PF),SOk m o fs→fs≠[]→(iterS m n o fs).1=3→(iterS m n o fs).2.2.told <+: (iterS m (n+j) o fs).2.2.told
 | 0,o,fs,ok,hne,_=>by
  rw[Nat.zero_add]
  exact (iterS_all (told_keep o.told) (fun _ _ h _=>h) j o fs ok hne (List.prefix_refl _)).1
 | n+1,o,fs,ok,hne,h=>by
  obtain ⟨pre,t,rfl⟩:=last_split fs hne
  rw[show n+1+j=(n+j)+1 by omega]
  rw[iterS_snoc] at h ⊢
  rw[iterS_snoc]
  have hs:=stepS_all (told_keep o.told o (List.prefix_refl _)) ok (List.prefix_refl _) (fun _ _=>List.prefix_refl _)
  have ho:=stepS_ok ok
  cases hx:Barb.stepS m o pre t with
  | go o' fs' =>
   rw[hx] at h ho
   exact iterS_less j n o' fs' ho.1 ho.2 h
  | stop c v o' =>
   rw[hx] at h hs
   exact absurd h hs.2.2.2
structure Hid (n:Nat) (d1 d2:List Int) (a b:MO):Prop where
 told:a.told=b.told
 one:a.data.take n=d1
 two:b.data.take n=d2
 own:a.data.drop n=b.data.drop n
def RH (n:Nat) (d1 d2:List Int) (K:Int):R→R→Prop
 | .go a fs,.go b gs=>Hid n d1 d2 a b∧fs=gs∧∀ f∈fs,f.part=K
 | .stop c v a,.stop c' v' b=>c=c'∧v=v'∧Hid n d1 d2 a b
 | _,_=>False
section
variable {n:Nat} {d1 d2:List Int} {K:Int} {a b:MO}
theorem Hid.at_ (h:Hid n d1 d2 a b) {i:Nat} (hi:n≤i):a.data.getD i 0=b.data.getD i 0:=by
 have e:∀ l:List Int,l.getD i 0=(l.drop n).getD (i - n) 0:=fun l=>by
  rw[List.getD_eq_getElem?_getD,List.getD_eq_getElem?_getD,List.getElem?_drop,show n+(i - n)=i by omega]
 rw[e,e,h.own]
theorem Hid.set (h:Hid n d1 d2 a b) {i:Nat} (hi:n≤i) (v:Int):Hid n d1 d2 { a with data:=a.data.set i v } { b with data:=b.data.set i v }:=by
 have e1:∀ l:List Int,(l.set i v).take n=l.take n:=fun l=>by
  apply List.ext_getElem?
  intro j
  rw[List.getElem?_take,List.getElem?_take]
  split
  ·rw[List.getElem?_set_ne (by omega)]
  ·rfl
 have e2:∀ l:List Int,(l.set i v).drop n=(l.drop n).set (i - n) v:=fun l=>by rw[List.drop_set,if_neg (by omega)]
 exact ⟨h.told,(e1 _).trans h.one,(e1 _).trans h.two,by rw[e2,e2,h.own]⟩
theorem Hid.tell (h:Hid n d1 d2 a b) (x:Int):Hid n d1 d2 { a with told:=a.told++[x] } { b with told:=b.told++[x] }:=⟨by dsimp only;rw[h.told],h.one,h.two,h.own⟩
theorem Hid.note (h:Hid n d1 d2 a b) (k v:Int):Hid n d1 d2 (noteS a k v) (noteS b k v):=by
 unfold noteS
 split
 ·exact ⟨h.told,h.one,h.two,h.own⟩
 ·exact h
theorem parts_snoc {pre:List PF} {t:PF} (hp:∀ f∈pre,f.part=K) (ht:t.part=K):∀ f∈pre++[t],f.part=K:=fun f hf=>by
 rcases List.mem_append.1 hf with hf | hf
 ·exact hp f hf
 ·rw[List.mem_singleton.1 hf];exact ht
theorem pushS_hid (h:Hid n d1 d2 a b) {pre:List PF} {t:PF} (hp:∀ f∈pre,f.part=K) (ht:t.part=K) (x:Int):RH n d1 d2 K (pushS a pre t x) (pushS b pre t x):=by
 unfold pushS
 by_cases c:t.ws.length=40
 ·rw[if_pos c,if_pos c];exact ⟨rfl,rfl,h⟩
 ·rw[if_neg c,if_neg c];exact ⟨h,rfl,parts_snoc hp ht⟩
theorem memS_hid (h:Hid n d1 d2 a b) {p:Part} (hlo:(n:Int)≤p.lo) (i:Instr) {pre:List PF} {t:PF} (hp:∀ f∈pre,f.part=K) (ht:t.part=K):RH n d1 d2 K (memS p i a pre t) (memS p i b pre t):=by
 unfold memS
 by_cases c:i.op=6
 ·rw[if_pos c,if_pos c]
  by_cases c1:t.ws.length < 1
  ·rw[if_pos c1,if_pos c1];exact ⟨rfl,rfl,h⟩
  rw[if_neg c1,if_neg c1]
  by_cases c2:isOwn p ((t.off 1).getD 0 0)
  ·rw[if_pos c2,if_pos c2,h.at_ (i:=((t.off 1).getD 0 0).toNat) (by have:=c2.1;omega)]
   exact ⟨h,rfl,parts_snoc hp ht⟩
  ·rw[if_neg c2,if_neg c2];exact ⟨rfl,rfl,h⟩
 ·rw[if_neg c,if_neg c]
  by_cases c1:t.ws.length < 2
  ·rw[if_pos c1,if_pos c1];exact ⟨rfl,rfl,h⟩
  rw[if_neg c1,if_neg c1]
  by_cases c2:isOwn p ((t.off 2).getD 0 0)
  ·rw[if_pos c2,if_pos c2]
   exact ⟨h.set (by have:=c2.1;omega) _,rfl,parts_snoc hp ht⟩
  ·rw[if_neg c2,if_neg c2];exact ⟨rfl,rfl,h⟩
theorem retS_hid (h:Hid n d1 d2 a b) {pre:List PF} {t:PF} (hp:∀ f∈pre,f.part=K):RH n d1 d2 K (retS a pre t) (retS b pre t):=by
 unfold retS
 by_cases c1:t.ws.length < 1
 ·rw[if_pos c1,if_pos c1];exact ⟨rfl,rfl,h⟩
 rw[if_neg c1,if_neg c1]
 dsimp only
 cases hl:pre.getLast? with
 | none=>exact ⟨rfl,rfl,h.note _ _⟩
 | some f=>exact pushS_hid (h.note _ _) (fun g hg=>hp g ((List.dropLast_sublist _).subset hg)) (hp f (List.mem_of_getLast? hl)) _
theorem ctlS_hid (m:Image) (h:Hid n d1 d2 a b) (i:Instr) (hi:i.op≠12) {pre:List PF} {t:PF} (hp:∀ f∈pre,f.part=K) (ht:t.part=K):RH n d1 d2 K (ctlS m i a pre t) (ctlS m i b pre t):=by
 unfold ctlS
 by_cases c:i.op=9
 ·rw[if_pos c,if_pos c];exact ⟨h,rfl,parts_snoc hp ht⟩
 rw[if_neg c,if_neg c]
 by_cases c:i.op=10
 ·rw[if_pos c,if_pos c]
  by_cases c1:t.ws.length < 1
  ·rw[if_pos c1,if_pos c1];exact ⟨rfl,rfl,h⟩
  rw[if_neg c1,if_neg c1]
  refine ⟨h,rfl,parts_snoc hp ?_⟩
  split<;>exact ht
 rw[if_neg c,if_neg c]
 by_cases c:i.op=11
 ·rw[if_pos c,if_pos c]
  by_cases c1:t.ws.length < i.b.toNat
  ·rw[if_pos c1,if_pos c1];exact ⟨rfl,rfl,h⟩
  rw[if_neg c1,if_neg c1]
  unfold enterS
  by_cases c2:(pre++[t.on i.b.toNat]).length=20
  ·rw[if_pos c2,if_pos c2];exact ⟨rfl,rfl,h⟩
  ·rw[if_neg c2,if_neg c2];exact ⟨h,rfl,parts_snoc (parts_snoc hp ht) ht⟩
 rw[if_neg c,if_neg c,if_neg hi,if_neg hi]
 by_cases c:i.op=13
 ·rw[if_pos c,if_pos c];exact retS_hid h hp
 ·rw[if_neg c,if_neg c];exact ⟨rfl,rfl,h⟩
theorem wrdS_hid (h:Hid n d1 d2 a b) (i:Instr) {pre:List PF} {t:PF} (hp:∀ f∈pre,f.part=K) (ht:t.part=K):RH n d1 d2 K (wrdS i a pre t) (wrdS i b pre t):=by
 unfold wrdS
 by_cases c:i.op=1
 ·rw[if_pos c,if_pos c];exact pushS_hid h hp ht _
 rw[if_neg c,if_neg c]
 by_cases c:i.op=4
 ·rw[if_pos c,if_pos c];exact pushS_hid h hp ht _
 rw[if_neg c,if_neg c]
 dsimp only
 generalize (if i.op=8 then 2 else 1:Nat)=k
 by_cases c1:t.ws.length < k
 ·rw[if_pos c1,if_pos c1];exact ⟨rfl,rfl,h⟩
 rw[if_neg c1,if_neg c1]
 by_cases c:i.op=3
 ·rw[if_pos c,if_pos c]
  by_cases c2:t.ws.length=40
  ·rw[if_pos c2,if_pos c2];exact ⟨rfl,rfl,h⟩
  ·rw[if_neg c2,if_neg c2];exact ⟨h,rfl,parts_snoc hp ht⟩
 rw[if_neg c,if_neg c]
 by_cases c:i.op=5
 ·rw[if_pos c,if_pos c];exact ⟨h,rfl,parts_snoc hp ht⟩
 rw[if_neg c,if_neg c]
 by_cases c:i.op=14
 ·rw[if_pos c,if_pos c,← h.told]
  by_cases c2:a.told.length=500
  ·rw[if_pos c2,if_pos c2];exact ⟨rfl,rfl,h⟩
  ·rw[if_neg c2,if_neg c2]
   have:=h.tell ((t.off k).getD 0 0)
   rw[← h.told] at this
   exact ⟨this,rfl,parts_snoc hp ht⟩
 rw[if_neg c,if_neg c]
 by_cases c:i.op=8
 ·rw[if_pos c,if_pos c];exact ⟨h,rfl,parts_snoc hp ht⟩
 ·rw[if_neg c,if_neg c];exact ⟨h,rfl,parts_snoc hp ht⟩
theorem stepS_hid {m:Image} {k:Nat} (hk:k < m.length) (hlo:(n:Int)≤m[k].lo) (hg:∀ x∈m[k].code,x.op≠12) (h:Hid n d1 d2 a b) {pre:List PF} {t:PF} (hp:∀ f∈pre++[t],f.part=(k:Int)):RH n d1 d2 k (Barb.stepS m a pre t) (Barb.stepS m b pre t):=by
 have ht:=hp t (by simp)
 have hp':∀ f∈pre,f.part=(k:Int):=fun f hf=>hp f (List.mem_append_left _ hf)
 unfold Barb.stepS
 dsimp only
 rw[ht,Int.toNat_natCast,show m.getD k noPart=m[k] by simp[hk]]
 by_cases c:t.at_ ≥ m[k].code.length
 ·rw[if_pos c,if_pos c];exact ⟨rfl,rfl,h⟩
 rw[if_neg c,if_neg c]
 have hi:(m[k].code.getD t.at_.toNat noInstr).op≠12:=by
  by_cases hl:t.at_.toNat < m[k].code.length
  ·rw[show m[k].code.getD t.at_.toNat noInstr=m[k].code[t.at_.toNat] by simp[hl]];exact hg _ (List.getElem_mem hl)
  ·rw[show m[k].code.getD t.at_.toNat noInstr=noInstr by rw[List.getD_eq_getElem?_getD,List.getElem?_eq_none (by omega)];rfl];decide
 generalize m[k].code.getD t.at_.toNat noInstr=i at hi
 by_cases c:i.op=6∨i.op=7
 ·rw[if_pos c,if_pos c];exact memS_hid h hlo i hp' rfl
 rw[if_neg c,if_neg c]
 by_cases c:i.op=9∨i.op=10∨i.op=11∨i.op=12∨i.op=13∨i.op=15
 ·rw[if_pos c,if_pos c];exact ctlS_hid m h i hi hp' rfl
 ·rw[if_neg c,if_neg c];exact wrdS_hid h i hp' rfl
theorem iterS_hid {m:Image} {k:Nat} (hk:k < m.length) (hlo:(n:Int)≤m[k].lo) (hg:∀ x∈m[k].code,x.op≠12):∀ (q:Nat) (a b:MO) (fs:List PF),Hid n d1 d2 a b→(∀ f∈fs,f.part=(k:Int))→fs≠[] →
  (iterS m q a fs).1=(iterS m q b fs).1∧(iterS m q a fs).2.1=(iterS m q b fs).2.1∧Hid n d1 d2 (iterS m q a fs).2.2 (iterS m q b fs).2.2
 | 0,_,_,_,h,_,_=>⟨rfl,rfl,h⟩
 | q+1,a,b,fs,h,hp,hne=>by
  obtain ⟨pre,t,rfl⟩:=last_split fs hne
  rw[iterS_snoc,iterS_snoc]
  have hs:=stepS_hid hk hlo hg h hp
  cases hx:Barb.stepS m a pre t with
  | go a' fs' =>
   cases hy:Barb.stepS m b pre t with
   | go b' gs' =>
    rw[hx,hy] at hs
    obtain ⟨h1,h2,h3⟩:=hs
    subst h2
    by_cases hz:fs'=[]
    ·subst hz
     cases q with
     | zero=>exact ⟨rfl,rfl,h1⟩
     | succ q=>exact ⟨rfl,rfl,h1⟩
    ·exact iterS_hid hk hlo hg q a' b' fs' h1 h3 hz
   | stop c v b'=>rw[hx,hy] at hs;exact hs.elim
  | stop c v a' =>
   cases hy:Barb.stepS m b pre t with
   | go b' gs'=>rw[hx,hy] at hs;exact hs.elim
   | stop c' v' b' =>
    rw[hx,hy] at hs
    exact hs
end
end Barb
