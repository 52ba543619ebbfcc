import Derived.Test.YthcmdjkaepclhaaPe
namespace Barb
open Go Go.Dm Go.Eng Go.Proofs.Ythcmdjkaepclhaa
def RR.st {α:Type}:RR α->ES
 | .ok _ s=>s
 | .stop _ s=>s
def Grows {α:Type} (s:ES) (r:RR α):Prop:=s.told <+: r.st.told
theorem Grows.stop {α:Type} {s:ES} {e:Int}:Grows s (.stop e s:RR α):=List.prefix_refl _
theorem Grows.bind {α β:Type} {s:ES} {r:RR α} {f:α->ES->RR β} (h:Grows s r) (hf:∀ a s',Grows s' (f a s')):Grows s (r.bind f):=by
 cases r with
 | ok a s'=>exact List.IsPrefix.trans h (hf a s')
 | stop e s'=>exact h
def ES.up (s:ES) (k:Nat):ES:={ s with fuel:=s.fuel+k }
def Up {α:Type} (k:Nat):RR α->RR α->Prop
 | .ok a s,r=>r=.ok a (s.up k)
 | .stop e s,r=>(e≠3/\r=.stop e (s.up k))\/(e=3/\Grows s r)
theorem Up.stop {α:Type} {k:Nat} {e:Int} {s:ES} (h:e≠3):Up k (.stop e s:RR α) (.stop e (s.up k)):=.inl ⟨h,rfl⟩
theorem Up.bind {α β:Type} {k:Nat} {r r2:RR α} {f f2:α->ES->RR β} (h:Up k r r2) (hf:∀ a s,Up k (f a s) (f2 a (s.up k))) (hg:∀ a s,Grows s (f2 a s)):Up k (r.bind f) (r2.bind f2):=by
 cases r with
 | ok a s =>
  have h:r2=.ok a (s.up k):=h
  subst h
  exact hf a s
 | stop e s =>
  rcases h with ⟨h1,h2⟩ | ⟨h1,h2⟩
  ·subst h2;exact .inl ⟨h1,rfl⟩
  ·exact .inr ⟨h1,Grows.bind h2 hg⟩
end Barb
