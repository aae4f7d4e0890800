/- several texts, one behind the other -/
import Derived.Test.YtohienhoifgmaaaGreatP08
import Derived.Test.YtohienhoifgmaaaGreatP09
import Derived.Laws.CopyRow
import Derived.Laws.Tables

section
/- Calls that may end in the power's going: the contract, and the call. No program. -/
namespace Go.Sl
open Go

/-- what is thrown when the power goes: a value of no cells, of a type -/
abbrev goneChain (t : TypeId) : List PanicEntry := [{ v := .iface t (.agg #[]), recovered := false }]

/-- The call does what m does: it answers, the state is the next one; or the power went, in some state. -/
def SpecG (P : Program) (t : TypeId) (f : FuncId) (args : List Value) (rd : Hp → Prop) {σ α X : Type} (part : σ → List HP → List HP) (m : Out σ α)
    (s : σ) (φ : X → α → Prop) (v : X → α → Value) (res : X → α → List HP → List HP) : Prop :=
  Spec P f args rd (fun F => part s F) (fun x : X × α × σ => m = .ok x.2.1 x.2.2 ∧ φ x.1 x.2.1) (fun x => v x.1 x.2.1) (fun x F => res x.1 x.2.1 (part x.2.2 F))
    (fun s' : σ => m = .gone s') (goneChain t) (fun s' F => part s' F)

section call
variable {P : Program} {ops : Array Oper} {Q : Exit → Act → World → Prop} {w0 : World} {n : Nat} {env : Env} {Γ : List HP} {rest : List Oper}
  {ty : TypeId} {pos : String} {after : Array Edge}
theorem gcall {d : Nat} {cal : Operand} {f : FuncId} {first captured : Array Value} {args : Array Operand} {ts : Array TypeId} {vs us : List Value}
    {rd : Hp → Prop} {σ α X : Type} {part : σ → List HP → List HP} {m : Out σ α} {s : σ} {φ : X → α → Prop} {v : X → α → Value} {res : X → α → List HP → List HP} {F : List HP} {t : TypeId}
    {X' Y' : Type} {F' : List HP} {φ' : X' → Prop} {v' : X' → Value} {post' : X' → List HP → List HP} {φc' : Y' → Prop} {postc' : Y' → List HP → List HP}
    [ct : CallT P f] [th : Thru Q (SpecR w0 F' φ' v' post' φc' (goneChain t) postc')]
    (hs : SpecG P t f us rd part m s φ v res)
    (kc : ∀ s', m = .gone s' → ∃ y, φc' y ∧ Ent (part s' F) (postc' y F'))
    (k : ∀ x a s', m = .ok a s' → φ x a → WL P ops rest Q w0 n ((d, v x a) :: env) (res x a (part s' F)))
    (hc : evl env cal = some (.func (.func f) first captured) := by rfl) (ha : evls env args.toList = some vs := by rfl) (hu : first.toList ++ vs ++ captured.toList = us := by rfl)
    (hd : Nat.blt d n = true := by rfl) (hg : Ent Γ (part s F) := by (first | (with_reducible exact Ent.refl) | exact Ent.take (by (first | (with_reducible exact Ent.refl) | (with_reducible exact Ent.there Ent.refl) | (with_reducible exact tE (Ent.there Ent.refl)) | (with_reducible exact tE (tE (Ent.there Ent.refl))) | (with_reducible exact tE (tE (tE (Ent.there Ent.refl)))) | (with_reducible exact tE (tE (tE (tE (Ent.there Ent.refl))))) | (with_reducible exact tE (tE (tE (tE (tE (Ent.there Ent.refl)))))) | (with_reducible exact tE (tE (tE (tE (tE (tE (Ent.there Ent.refl))))))) | (with_reducible exact tE (tE (tE (tE (tE (tE (tE (Ent.there Ent.refl)))))))) | (with_reducible exact tE (tE (tE (tE (tE (tE (tE (tE (Ent.there Ent.refl))))))))) | (with_reducible exact tE (tE (tE (tE (tE (tE (tE (tE (tE (Ent.there Ent.refl)))))))))) | (with_reducible exact tE (tE (tE (tE (tE (tE (tE (tE (tE (tE (Ent.there Ent.refl))))))))))) | (with_reducible exact tE (tE (tE (tE (tE (tE (tE (tE (tE (tE (tE (Ent.there Ent.refl)))))))))))) | (with_reducible exact tE (tE (tE (tE (tE (tE (tE (tE (tE (tE (tE (tE (Ent.there Ent.refl))))))))))))))) (by (first | (with_reducible exact Ent.refl) | exact Ent.take (by (first | (with_reducible exact Ent.refl) | (with_reducible exact Ent.there Ent.refl) | (with_reducible exact tE (Ent.there Ent.refl)) | (with_reducible exact tE (tE (Ent.there Ent.refl))) | (with_reducible exact tE (tE (tE (Ent.there Ent.refl)))) | (with_reducible exact tE (tE (tE (tE (Ent.there Ent.refl))))) | (with_reducible exact tE (tE (tE (tE (tE (Ent.there Ent.refl)))))) | (with_reducible exact tE (tE (tE (tE (tE (tE (Ent.there Ent.refl))))))) | (with_reducible exact tE (tE (tE (tE (tE (tE (tE (Ent.there Ent.refl)))))))) | (with_reducible exact tE (tE (tE (tE (tE (tE (tE (tE (Ent.there Ent.refl))))))))) | (with_reducible exact tE (tE (tE (tE (tE (tE (tE (tE (tE (Ent.there Ent.refl)))))))))) | (with_reducible exact tE (tE (tE (tE (tE (tE (tE (tE (tE (tE (Ent.there Ent.refl))))))))))) | (with_reducible exact tE (tE (tE (tE (tE (tE (tE (tE (tE (tE (tE (Ent.there Ent.refl)))))))))))) | (with_reducible exact tE (tE (tE (tE (tE (tE (tE (tE (tE (tE (tE (tE (Ent.there Ent.refl))))))))))))))) (by (first | (with_reducible exact Ent.refl) | exact Ent.take (by (first | (with_reducible exact Ent.refl) | (with_reducible exact Ent.there Ent.refl) | (with_reducible exact tE (Ent.there Ent.refl)) | (with_reducible exact tE (tE (Ent.there Ent.refl))) | (with_reducible exact tE (tE (tE (Ent.there Ent.refl)))) | (with_reducible exact tE (tE (tE (tE (Ent.there Ent.refl))))) | (with_reducible exact tE (tE (tE (tE (tE (Ent.there Ent.refl)))))) | (with_reducible exact tE (tE (tE (tE (tE (tE (Ent.there Ent.refl))))))) | (with_reducible exact tE (tE (tE (tE (tE (tE (tE (Ent.there Ent.refl)))))))) | (with_reducible exact tE (tE (tE (tE (tE (tE (tE (tE (Ent.there Ent.refl))))))))) | (with_reducible exact tE (tE (tE (tE (tE (tE (tE (tE (tE (Ent.there Ent.refl)))))))))) | (with_reducible exact tE (tE (tE (tE (tE (tE (tE (tE (tE (tE (Ent.there Ent.refl))))))))))) | (with_reducible exact tE (tE (tE (tE (tE (tE (tE (tE (tE (tE (tE (Ent.there Ent.refl)))))))))))) | (with_reducible exact tE (tE (tE (tE (tE (tE (tE (tE (tE (tE (tE (tE (Ent.there Ent.refl))))))))))))))) (by (first | (with_reducible exact Ent.refl) | exact Ent.take (by (first | (with_reducible exact Ent.refl) | (with_reducible exact Ent.there Ent.refl) | (with_reducible exact tE (Ent.there Ent.refl)) | (with_reducible exact tE (tE (Ent.there Ent.refl))) | (with_reducible exact tE (tE (tE (Ent.there Ent.refl)))) | (with_reducible exact tE (tE (tE (tE (Ent.there Ent.refl))))) | (with_reducible exact tE (tE (tE (tE (tE (Ent.there Ent.refl)))))) | (with_reducible exact tE (tE (tE (tE (tE (tE (Ent.there Ent.refl))))))) | (with_reducible exact tE (tE (tE (tE (tE (tE (tE (Ent.there Ent.refl)))))))) | (with_reducible exact tE (tE (tE (tE (tE (tE (tE (tE (Ent.there Ent.refl))))))))) | (with_reducible exact tE (tE (tE (tE (tE (tE (tE (tE (tE (Ent.there Ent.refl)))))))))) | (with_reducible exact tE (tE (tE (tE (tE (tE (tE (tE (tE (tE (Ent.there Ent.refl))))))))))) | (with_reducible exact tE (tE (tE (tE (tE (tE (tE (tE (tE (tE (tE (Ent.there Ent.refl)))))))))))) | (with_reducible exact tE (tE (tE (tE (tE (tE (tE (tE (tE (tE (tE (tE (Ent.there Ent.refl))))))))))))))) (by (first | (with_reducible exact Ent.refl) | exact Ent.take (by (first | (with_reducible exact Ent.refl) | (with_reducible exact Ent.there Ent.refl) | (with_reducible exact tE (Ent.there Ent.refl)) | (with_reducible exact tE (tE (Ent.there Ent.refl))) | (with_reducible exact tE (tE (tE (Ent.there Ent.refl)))) | (with_reducible exact tE (tE (tE (tE (Ent.there Ent.refl))))) | (with_reducible exact tE (tE (tE (tE (tE (Ent.there Ent.refl)))))) | (with_reducible exact tE (tE (tE (tE (tE (tE (Ent.there Ent.refl))))))) | (with_reducible exact tE (tE (tE (tE (tE (tE (tE (Ent.there Ent.refl)))))))) | (with_reducible exact tE (tE (tE (tE (tE (tE (tE (tE (Ent.there Ent.refl))))))))) | (with_reducible exact tE (tE (tE (tE (tE (tE (tE (tE (tE (Ent.there Ent.refl)))))))))) | (with_reducible exact tE (tE (tE (tE (tE (tE (tE (tE (tE (tE (Ent.there Ent.refl))))))))))) | (with_reducible exact tE (tE (tE (tE (tE (tE (tE (tE (tE (tE (tE (Ent.there Ent.refl)))))))))))) | (with_reducible exact tE (tE (tE (tE (tE (tE (tE (tE (tE (tE (tE (tE (Ent.there Ent.refl))))))))))))))) (by (first | (with_reducible exact Ent.refl) | exact Ent.take (by (first | (with_reducible exact Ent.refl) | (with_reducible exact Ent.there Ent.refl) | (with_reducible exact tE (Ent.there Ent.refl)) | (with_reducible exact tE (tE (Ent.there Ent.refl))) | (with_reducible exact tE (tE (tE (Ent.there Ent.refl)))) | (with_reducible exact tE (tE (tE (tE (Ent.there Ent.refl))))) | (with_reducible exact tE (tE (tE (tE (tE (Ent.there Ent.refl)))))) | (with_reducible exact tE (tE (tE (tE (tE (tE (Ent.there Ent.refl))))))) | (with_reducible exact tE (tE (tE (tE (tE (tE (tE (Ent.there Ent.refl)))))))) | (with_reducible exact tE (tE (tE (tE (tE (tE (tE (tE (Ent.there Ent.refl))))))))) | (with_reducible exact tE (tE (tE (tE (tE (tE (tE (tE (tE (Ent.there Ent.refl)))))))))) | (with_reducible exact tE (tE (tE (tE (tE (tE (tE (tE (tE (tE (Ent.there Ent.refl))))))))))) | (with_reducible exact tE (tE (tE (tE (tE (tE (tE (tE (tE (tE (tE (Ent.there Ent.refl)))))))))))) | (with_reducible exact tE (tE (tE (tE (tE (tE (tE (tE (tE (tE (tE (tE (Ent.there Ent.refl))))))))))))))) (by (first | (with_reducible exact Ent.refl) | exact Ent.take (by (first | (with_reducible exact Ent.refl) | (with_reducible exact Ent.there Ent.refl) | (with_reducible exact tE (Ent.there Ent.refl)) | (with_reducible exact tE (tE (Ent.there Ent.refl))) | (with_reducible exact tE (tE (tE (Ent.there Ent.refl)))) | (with_reducible exact tE (tE (tE (tE (Ent.there Ent.refl))))) | (with_reducible exact tE (tE (tE (tE (tE (Ent.there Ent.refl)))))) | (with_reducible exact tE (tE (tE (tE (tE (tE (Ent.there Ent.refl))))))) | (with_reducible exact tE (tE (tE (tE (tE (tE (tE (Ent.there Ent.refl)))))))) | (with_reducible exact tE (tE (tE (tE (tE (tE (tE (tE (Ent.there Ent.refl))))))))) | (with_reducible exact tE (tE (tE (tE (tE (tE (tE (tE (tE (Ent.there Ent.refl)))))))))) | (with_reducible exact tE (tE (tE (tE (tE (tE (tE (tE (tE (tE (Ent.there Ent.refl))))))))))) | (with_reducible exact tE (tE (tE (tE (tE (tE (tE (tE (tE (tE (tE (Ent.there Ent.refl)))))))))))) | (with_reducible exact tE (tE (tE (tE (tE (tE (tE (tE (tE (tE (tE (tE (Ent.there Ent.refl))))))))))))))) (by (first | (with_reducible exact Ent.refl) | exact Ent.take (by (first | (with_reducible exact Ent.refl) | (with_reducible exact Ent.there Ent.refl) | (with_reducible exact tE (Ent.there Ent.refl)) | (with_reducible exact tE (tE (Ent.there Ent.refl))) | (with_reducible exact tE (tE (tE (Ent.there Ent.refl)))) | (with_reducible exact tE (tE (tE (tE (Ent.there Ent.refl))))) | (with_reducible exact tE (tE (tE (tE (tE (Ent.there Ent.refl)))))) | (with_reducible exact tE (tE (tE (tE (tE (tE (Ent.there Ent.refl))))))) | (with_reducible exact tE (tE (tE (tE (tE (tE (tE (Ent.there Ent.refl)))))))) | (with_reducible exact tE (tE (tE (tE (tE (tE (tE (tE (Ent.there Ent.refl))))))))) | (with_reducible exact tE (tE (tE (tE (tE (tE (tE (tE (tE (Ent.there Ent.refl)))))))))) | (with_reducible exact tE (tE (tE (tE (tE (tE (tE (tE (tE (tE (Ent.there Ent.refl))))))))))) | (with_reducible exact tE (tE (tE (tE (tE (tE (tE (tE (tE (tE (tE (Ent.there Ent.refl)))))))))))) | (with_reducible exact tE (tE (tE (tE (tE (tE (tE (tE (tE (tE (tE (tE (Ent.there Ent.refl))))))))))))))) (by (first | (with_reducible exact Ent.refl) | exact Ent.take (by (first | (with_reducible exact Ent.refl) | (with_reducible exact Ent.there Ent.refl) | (with_reducible exact tE (Ent.there Ent.refl)) | (with_reducible exact tE (tE (Ent.there Ent.refl))) | (with_reducible exact tE (tE (tE (Ent.there Ent.refl)))) | (with_reducible exact tE (tE (tE (tE (Ent.there Ent.refl))))) | (with_reducible exact tE (tE (tE (tE (tE (Ent.there Ent.refl)))))) | (with_reducible exact tE (tE (tE (tE (tE (tE (Ent.there Ent.refl))))))) | (with_reducible exact tE (tE (tE (tE (tE (tE (tE (Ent.there Ent.refl)))))))) | (with_reducible exact tE (tE (tE (tE (tE (tE (tE (tE (Ent.there Ent.refl))))))))) | (with_reducible exact tE (tE (tE (tE (tE (tE (tE (tE (tE (Ent.there Ent.refl)))))))))) | (with_reducible exact tE (tE (tE (tE (tE (tE (tE (tE (tE (tE (Ent.there Ent.refl))))))))))) | (with_reducible exact tE (tE (tE (tE (tE (tE (tE (tE (tE (tE (tE (Ent.there Ent.refl)))))))))))) | (with_reducible exact tE (tE (tE (tE (tE (tE (tE (tE (tE (tE (tE (tE (Ent.there Ent.refl))))))))))))))) (by (with_reducible exact Ent.refl)))))))))))))))))))) (hr : ∀ h, Sat F h → rd h := by first | exact fun _ _ => trivial | exact RdIn.rd | exact fun h hs => ⟨RdIn.rd h hs, RdIn.rd h hs⟩ | exact ReadIn.rd) :
    WL P ops (⟨some d, .call ⟨.value cal, args, ts⟩, ty, pos, after, none⟩ :: rest) Q w0 n env Γ :=
  wl_call hs hc ha hu hd hg hr (fun y hy _ hev hsat => let ⟨y', h1, h2⟩ := kc y hy; ⟨hev, .inr ⟨y', h1, rfl, h2 _ hsat⟩⟩) (fun x hx => k x.1 x.2.1 x.2.2 hx.1 hx.2)
theorem gcall_ {cal : Operand} {f : FuncId} {first captured : Array Value} {args : Array Operand} {ts : Array TypeId} {vs us : List Value}
    {rd : Hp → Prop} {σ α X : Type} {part : σ → List HP → List HP} {m : Out σ α} {s : σ} {φ : X → α → Prop} {v : X → α → Value} {res : X → α → List HP → List HP} {F : List HP} {t : TypeId}
    {X' Y' : Type} {F' : List HP} {φ' : X' → Prop} {v' : X' → Value} {post' : X' → List HP → List HP} {φc' : Y' → Prop} {postc' : Y' → List HP → List HP}
    [ct : CallT P f] [th : Thru Q (SpecR w0 F' φ' v' post' φc' (goneChain t) postc')]
    (hs : SpecG P t f us rd part m s φ v res)
    (kc : ∀ s', m = .gone s' → ∃ y, φc' y ∧ Ent (part s' F) (postc' y F'))
    (k : ∀ x a s', m = .ok a s' → φ x a → WL P ops rest Q w0 n env (res x a (part s' F)))
    (hc : evl env cal = some (.func (.func f) first captured) := by rfl) (ha : evls env args.toList = some vs := by rfl) (hu : first.toList ++ vs ++ captured.toList = us := by rfl)
    (hg : Ent Γ (part s F) := by (first | (with_reducible exact Ent.refl) | exact Ent.take (by (first | (with_reducible exact Ent.refl) | (with_reducible exact Ent.there Ent.refl) | (with_reducible exact tE (Ent.there Ent.refl)) | (with_reducible exact tE (tE (Ent.there Ent.refl))) | (with_reducible exact tE (tE (tE (Ent.there Ent.refl)))) | (with_reducible exact tE (tE (tE (tE (Ent.there Ent.refl))))) | (with_reducible exact tE (tE (tE (tE (tE (Ent.there Ent.refl)))))) | (with_reducible exact tE (tE (tE (tE (tE (tE (Ent.there Ent.refl))))))) | (with_reducible exact tE (tE (tE (tE (tE (tE (tE (Ent.there Ent.refl)))))))) | (with_reducible exact tE (tE (tE (tE (tE (tE (tE (tE (Ent.there Ent.refl))))))))) | (with_reducible exact tE (tE (tE (tE (tE (tE (tE (tE (tE (Ent.there Ent.refl)))))))))) | (with_reducible exact tE (tE (tE (tE (tE (tE (tE (tE (tE (tE (Ent.there Ent.refl))))))))))) | (with_reducible exact tE (tE (tE (tE (tE (tE (tE (tE (tE (tE (tE (Ent.there Ent.refl)))))))))))) | (with_reducible exact tE (tE (tE (tE (tE (tE (tE (tE (tE (tE (tE (tE (Ent.there Ent.refl))))))))))))))) (by (first | (with_reducible exact Ent.refl) | exact Ent.take (by (first | (with_reducible exact Ent.refl) | (with_reducible exact Ent.there Ent.refl) | (with_reducible exact tE (Ent.there Ent.refl)) | (with_reducible exact tE (tE (Ent.there Ent.refl))) | (with_reducible exact tE (tE (tE (Ent.there Ent.refl)))) | (with_reducible exact tE (tE (tE (tE (Ent.there Ent.refl))))) | (with_reducible exact tE (tE (tE (tE (tE (Ent.there Ent.refl)))))) | (with_reducible exact tE (tE (tE (tE (tE (tE (Ent.there Ent.refl))))))) | (with_reducible exact tE (tE (tE (tE (tE (tE (tE (Ent.there Ent.refl)))))))) | (with_reducible exact tE (tE (tE (tE (tE (tE (tE (tE (Ent.there Ent.refl))))))))) | (with_reducible exact tE (tE (tE (tE (tE (tE (tE (tE (tE (Ent.there Ent.refl)))))))))) | (with_reducible exact tE (tE (tE (tE (tE (tE (tE (tE (tE (tE (Ent.there Ent.refl))))))))))) | (with_reducible exact tE (tE (tE (tE (tE (tE (tE (tE (tE (tE (tE (Ent.there Ent.refl)))))))))))) | (with_reducible exact tE (tE (tE (tE (tE (tE (tE (tE (tE (tE (tE (tE (Ent.there Ent.refl))))))))))))))) (by (first | (with_reducible exact Ent.refl) | exact Ent.take (by (first | (with_reducible exact Ent.refl) | (with_reducible exact Ent.there Ent.refl) | (with_reducible exact tE (Ent.there Ent.refl)) | (with_reducible exact tE (tE (Ent.there Ent.refl))) | (with_reducible exact tE (tE (tE (Ent.there Ent.refl)))) | (with_reducible exact tE (tE (tE (tE (Ent.there Ent.refl))))) | (with_reducible exact tE (tE (tE (tE (tE (Ent.there Ent.refl)))))) | (with_reducible exact tE (tE (tE (tE (tE (tE (Ent.there Ent.refl))))))) | (with_reducible exact tE (tE (tE (tE (tE (tE (tE (Ent.there Ent.refl)))))))) | (with_reducible exact tE (tE (tE (tE (tE (tE (tE (tE (Ent.there Ent.refl))))))))) | (with_reducible exact tE (tE (tE (tE (tE (tE (tE (tE (tE (Ent.there Ent.refl)))))))))) | (with_reducible exact tE (tE (tE (tE (tE (tE (tE (tE (tE (tE (Ent.there Ent.refl))))))))))) | (with_reducible exact tE (tE (tE (tE (tE (tE (tE (tE (tE (tE (tE (Ent.there Ent.refl)))))))))))) | (with_reducible exact tE (tE (tE (tE (tE (tE (tE (tE (tE (tE (tE (tE (Ent.there Ent.refl))))))))))))))) (by (first | (with_reducible exact Ent.refl) | exact Ent.take (by (first | (with_reducible exact Ent.refl) | (with_reducible exact Ent.there Ent.refl) | (with_reducible exact tE (Ent.there Ent.refl)) | (with_reducible exact tE (tE (Ent.there Ent.refl))) | (with_reducible exact tE (tE (tE (Ent.there Ent.refl)))) | (with_reducible exact tE (tE (tE (tE (Ent.there Ent.refl))))) | (with_reducible exact tE (tE (tE (tE (tE (Ent.there Ent.refl)))))) | (with_reducible exact tE (tE (tE (tE (tE (tE (Ent.there Ent.refl))))))) | (with_reducible exact tE (tE (tE (tE (tE (tE (tE (Ent.there Ent.refl)))))))) | (with_reducible exact tE (tE (tE (tE (tE (tE (tE (tE (Ent.there Ent.refl))))))))) | (with_reducible exact tE (tE (tE (tE (tE (tE (tE (tE (tE (Ent.there Ent.refl)))))))))) | (with_reducible exact tE (tE (tE (tE (tE (tE (tE (tE (tE (tE (Ent.there Ent.refl))))))))))) | (with_reducible exact tE (tE (tE (tE (tE (tE (tE (tE (tE (tE (tE (Ent.there Ent.refl)))))))))))) | (with_reducible exact tE (tE (tE (tE (tE (tE (tE (tE (tE (tE (tE (tE (Ent.there Ent.refl))))))))))))))) (by (first | (with_reducible exact Ent.refl) | exact Ent.take (by (first | (with_reducible exact Ent.refl) | (with_reducible exact Ent.there Ent.refl) | (with_reducible exact tE (Ent.there Ent.refl)) | (with_reducible exact tE (tE (Ent.there Ent.refl))) | (with_reducible exact tE (tE (tE (Ent.there Ent.refl)))) | (with_reducible exact tE (tE (tE (tE (Ent.there Ent.refl))))) | (with_reducible exact tE (tE (tE (tE (tE (Ent.there Ent.refl)))))) | (with_reducible exact tE (tE (tE (tE (tE (tE (Ent.there Ent.refl))))))) | (with_reducible exact tE (tE (tE (tE (tE (tE (tE (Ent.there Ent.refl)))))))) | (with_reducible exact tE (tE (tE (tE (tE (tE (tE (tE (Ent.there Ent.refl))))))))) | (with_reducible exact tE (tE (tE (tE (tE (tE (tE (tE (tE (Ent.there Ent.refl)))))))))) | (with_reducible exact tE (tE (tE (tE (tE (tE (tE (tE (tE (tE (Ent.there Ent.refl))))))))))) | (with_reducible exact tE (tE (tE (tE (tE (tE (tE (tE (tE (tE (tE (Ent.there Ent.refl)))))))))))) | (with_reducible exact tE (tE (tE (tE (tE (tE (tE (tE (tE (tE (tE (tE (Ent.there Ent.refl))))))))))))))) (by (first | (with_reducible exact Ent.refl) | exact Ent.take (by (first | (with_reducible exact Ent.refl) | (with_reducible exact Ent.there Ent.refl) | (with_reducible exact tE (Ent.there Ent.refl)) | (with_reducible exact tE (tE (Ent.there Ent.refl))) | (with_reducible exact tE (tE (tE (Ent.there Ent.refl)))) | (with_reducible exact tE (tE (tE (tE (Ent.there Ent.refl))))) | (with_reducible exact tE (tE (tE (tE (tE (Ent.there Ent.refl)))))) | (with_reducible exact tE (tE (tE (tE (tE (tE (Ent.there Ent.refl))))))) | (with_reducible exact tE (tE (tE (tE (tE (tE (tE (Ent.there Ent.refl)))))))) | (with_reducible exact tE (tE (tE (tE (tE (tE (tE (tE (Ent.there Ent.refl))))))))) | (with_reducible exact tE (tE (tE (tE (tE (tE (tE (tE (tE (Ent.there Ent.refl)))))))))) | (with_reducible exact tE (tE (tE (tE (tE (tE (tE (tE (tE (tE (Ent.there Ent.refl))))))))))) | (with_reducible exact tE (tE (tE (tE (tE (tE (tE (tE (tE (tE (tE (Ent.there Ent.refl)))))))))))) | (with_reducible exact tE (tE (tE (tE (tE (tE (tE (tE (tE (tE (tE (tE (Ent.there Ent.refl))))))))))))))) (by (first | (with_reducible exact Ent.refl) | exact Ent.take (by (first | (with_reducible exact Ent.refl) | (with_reducible exact Ent.there Ent.refl) | (with_reducible exact tE (Ent.there Ent.refl)) | (with_reducible exact tE (tE (Ent.there Ent.refl))) | (with_reducible exact tE (tE (tE (Ent.there Ent.refl)))) | (with_reducible exact tE (tE (tE (tE (Ent.there Ent.refl))))) | (with_reducible exact tE (tE (tE (tE (tE (Ent.there Ent.refl)))))) | (with_reducible exact tE (tE (tE (tE (tE (tE (Ent.there Ent.refl))))))) | (with_reducible exact tE (tE (tE (tE (tE (tE (tE (Ent.there Ent.refl)))))))) | (with_reducible exact tE (tE (tE (tE (tE (tE (tE (tE (Ent.there Ent.refl))))))))) | (with_reducible exact tE (tE (tE (tE (tE (tE (tE (tE (tE (Ent.there Ent.refl)))))))))) | (with_reducible exact tE (tE (tE (tE (tE (tE (tE (tE (tE (tE (Ent.there Ent.refl))))))))))) | (with_reducible exact tE (tE (tE (tE (tE (tE (tE (tE (tE (tE (tE (Ent.there Ent.refl)))))))))))) | (with_reducible exact tE (tE (tE (tE (tE (tE (tE (tE (tE (tE (tE (tE (Ent.there Ent.refl))))))))))))))) (by (first | (with_reducible exact Ent.refl) | exact Ent.take (by (first | (with_reducible exact Ent.refl) | (with_reducible exact Ent.there Ent.refl) | (with_reducible exact tE (Ent.there Ent.refl)) | (with_reducible exact tE (tE (Ent.there Ent.refl))) | (with_reducible exact tE (tE (tE (Ent.there Ent.refl)))) | (with_reducible exact tE (tE (tE (tE (Ent.there Ent.refl))))) | (with_reducible exact tE (tE (tE (tE (tE (Ent.there Ent.refl)))))) | (with_reducible exact tE (tE (tE (tE (tE (tE (Ent.there Ent.refl))))))) | (with_reducible exact tE (tE (tE (tE (tE (tE (tE (Ent.there Ent.refl)))))))) | (with_reducible exact tE (tE (tE (tE (tE (tE (tE (tE (Ent.there Ent.refl))))))))) | (with_reducible exact tE (tE (tE (tE (tE (tE (tE (tE (tE (Ent.there Ent.refl)))))))))) | (with_reducible exact tE (tE (tE (tE (tE (tE (tE (tE (tE (tE (Ent.there Ent.refl))))))))))) | (with_reducible exact tE (tE (tE (tE (tE (tE (tE (tE (tE (tE (tE (Ent.there Ent.refl)))))))))))) | (with_reducible exact tE (tE (tE (tE (tE (tE (tE (tE (tE (tE (tE (tE (Ent.there Ent.refl))))))))))))))) (by (first | (with_reducible exact Ent.refl) | exact Ent.take (by (first | (with_reducible exact Ent.refl) | (with_reducible exact Ent.there Ent.refl) | (with_reducible exact tE (Ent.there Ent.refl)) | (with_reducible exact tE (tE (Ent.there Ent.refl))) | (with_reducible exact tE (tE (tE (Ent.there Ent.refl)))) | (with_reducible exact tE (tE (tE (tE (Ent.there Ent.refl))))) | (with_reducible exact tE (tE (tE (tE (tE (Ent.there Ent.refl)))))) | (with_reducible exact tE (tE (tE (tE (tE (tE (Ent.there Ent.refl))))))) | (with_reducible exact tE (tE (tE (tE (tE (tE (tE (Ent.there Ent.refl)))))))) | (with_reducible exact tE (tE (tE (tE (tE (tE (tE (tE (Ent.there Ent.refl))))))))) | (with_reducible exact tE (tE (tE (tE (tE (tE (tE (tE (tE (Ent.there Ent.refl)))))))))) | (with_reducible exact tE (tE (tE (tE (tE (tE (tE (tE (tE (tE (Ent.there Ent.refl))))))))))) | (with_reducible exact tE (tE (tE (tE (tE (tE (tE (tE (tE (tE (tE (Ent.there Ent.refl)))))))))))) | (with_reducible exact tE (tE (tE (tE (tE (tE (tE (tE (tE (tE (tE (tE (Ent.there Ent.refl))))))))))))))) (by (with_reducible exact Ent.refl)))))))))))))))))))) (hr : ∀ h, Sat F h → rd h := by first | exact fun _ _ => trivial | exact RdIn.rd | exact fun h hs => ⟨RdIn.rd h hs, RdIn.rd h hs⟩ | exact ReadIn.rd) :
    WL P ops (⟨none, .call ⟨.value cal, args, ts⟩, ty, pos, after, none⟩ :: rest) Q w0 n env Γ :=
  wl_call_ hs hc ha hu hg hr (fun y hy _ hev hsat => let ⟨y', h1, h2⟩ := kc y hy; ⟨hev, .inr ⟨y', h1, rfl, h2 _ hsat⟩⟩) (fun x hx => k x.1 x.2.1 x.2.2 hx.1 hx.2)
/-- where the power can't go -/
theorem SpecG.sure {P : Program} {t : TypeId} {f : FuncId} {args : List Value} {rd : Hp → Prop} {σ α X : Type} {part : σ → List HP → List HP} {m : Out σ α} {s : σ} {φ : X → α → Prop} {v : X → α → Value} {res : X → α → List HP → List HP}
    (h : SpecG P t f args rd part m s φ v res) (a : α) (s' : σ) (hm : m = .ok a s') : Spec0 P f args rd (part s) (fun x : X => φ x a) (fun x => v x a) (fun x F => res x a (part s' F)) := by
  subst hm
  intro F w hr hs
  refine (h F w hr hs).mono fun e w' he => ?_
  obtain ⟨hev, ⟨x, ⟨hx, hp⟩, he, hsat⟩ | ⟨y, hy, _⟩⟩ := he
  · obtain ⟨x1, x2, x3⟩ := x
    dsimp only at hx hp he hsat
    cases hx
    exact ⟨hev, .inl ⟨x1, hp, he, hsat⟩⟩
  · cases hy
/-- a panic of one's own -/
theorem wl_panic {x : Operand} {t : TypeId}
    {X' Y' : Type} {F' : List HP} {φ' : X' → Prop} {v' : X' → Value} {post' : X' → List HP → List HP} {φc' : Y' → Prop} {postc' : Y' → List HP → List HP}
    [th : Thru Q (SpecR w0 F' φ' v' post' φc' (goneChain t) postc')]
    (hx : evl env x = some (.iface t (.agg #[]))) (y : Y') (hy : φc' y) (hg : Ent Γ (postc' y F')) :
    WL P ops (⟨none, .panic x, ty, pos, after, none⟩ :: rest) Q w0 n env Γ := fun a w s => by
  refine wpList_plain rfl fun K hK => ?_
  have h1 := s.env.evl hx
  have hrun : (execOp a.eval ⟨none, .panic x, ty, pos, after, none⟩).run P w = .halt (.panic (.iface t (.agg #[]))) w := by
    simp [execOp, h1]
    rfl
  unfold Oper.wp
  rw [hrun, Oper.upon_panic]
  exact th.panic _ _ _ s.defers ⟨s.evo, .inr ⟨y, hy, rfl, hg _ s.sat⟩⟩
end call
end Go.Sl
end

section
/- A slice's parts, and copying within a row of cells. No program. -/
namespace Go.Sl
open Go
section
variable {P : Program} {ops : Array Oper} {Q : Exit → Act → World → Prop} {w0 : World} {n : Nat} {env : Env} {Γ : List HP} {rest : List Oper}
  {ty : TypeId} {pos : String} {after : Array Edge}
theorem run_sliceBound' (k : IntKind) (i : Int) (y : Nat) (code : BoundsCode) (h0 : 0 ≤ i) (h1 : i ≤ y) (w : World) : (Instr.sliceBound (.int k i) y code).run P w = .ok i.toNat w := by
  simp [Instr.sliceBound, asIntOf, h0, h1]
/-- a slice that is known -/
theorem yl_lenS {x : Operand} {t e : TypeId} {a : Option Addr} {len cap : Nat} [u : Und P t (.slice e)] (hx : evl env x = some (.slice a len cap)) : Yl P (.call ⟨.builtin .len, #[x], #[t]⟩) ty w0 n env Γ (vi len) Tt :=
  fun _ _ _ _ a w s => ⟨trivial, fun w' _ => by simp [execOp, resolve, invoke, builtin, s.env.evl hx, Builtin.len_, u.run, goInt]⟩
/-- from a place on -/
theorem yl_sliceFrom {t e : TypeId} {ag : Bool} {x y : Operand} {b o len cap : Nat} {kd : IntKind} {l : Int} [u : Und P t (.slice e)] [g : AggT P e ag 1] (hx : evl env x = some (.slice (some ⟨b, o, none⟩) len cap)) (hy : evl env y = some (.int kd l))
    (h0 : 0 ≤ l) (h1 : l < len) (h2 : len ≤ cap) : Yl P (.slice t x (some y) none none) ty w0 n env Γ (.slice (some ⟨b, o + l.toNat, none⟩) (len - l.toNat) (cap - l.toNat)) Tt := by
  refine fun _ _ _ _ a w s => ⟨trivial, fun w' _ => ?_⟩
  have e1 : (Addr.mk b o none).add l.toNat = ⟨b, o + l.toNat, none⟩ := by unfold Addr.add; split <;> simp_all
  simp only [execOp, s.env.evl hx, Option.map, s.env.evl hy, Instr.sliceAt, Sem.run_bind, u.run, Result.andThen_ok, Instr.slice, Instr.sliceBounds, Sem.run_pure]
  rw [run_sliceBound' kd l len _ h0 (by omega)]
  simp only [Result.andThen_ok, g.size, Nat.mul_one]
  rw [if_neg (by omega)]
  simp [e1]
/-- up to a place -/
theorem yl_sliceTo {t e : TypeId} {ag : Bool} {x y : Operand} {b o len cap : Nat} {kd : IntKind} {h : Int} [u : Und P t (.slice e)] [g : AggT P e ag 1] (hx : evl env x = some (.slice (some ⟨b, o, none⟩) len cap)) (hy : evl env y = some (.int kd h))
    (h0 : 0 ≤ h) (h1 : h ≤ cap) : Yl P (.slice t x none (some y) none) ty w0 n env Γ (.slice (some ⟨b, o, none⟩) h.toNat cap) Tt := by
  refine fun _ _ _ _ a w s => ⟨trivial, fun w' _ => ?_⟩
  have e1 : (Addr.mk b o none).add 0 = ⟨b, o, none⟩ := rfl
  simp only [execOp, s.env.evl hx, Option.map, s.env.evl hy, Instr.sliceAt, Sem.run_bind, u.run, Result.andThen_ok, Instr.slice, Instr.sliceBounds, Sem.run_pure]
  rw [run_sliceBound' kd h cap _ h0 h1]
  simp [g.size, e1]
/-- copying onto cells of one's own -/
theorem wl_copyIn {d : Nat} {x y : Operand} {t t' e : TypeId} {z : Value} {by' : Nat} {b o dl dc sl sc : Nat} {ad : Addr} {cs : List Value} {Γ' : List HP} (us : List Value) [u : Und P t (.slice e)] [el : ElemT P e 1 by' z]
    [p : PickC Γ b cs Γ'] (hn : us.length = min sl dl)
    (hsrc : ∀ w, Sat Γ (hpOf w) → ∀ j v, us[j]? = some v → w.cell? (ad.add j) = some v) (hfit : o + us.length ≤ cs.length) (h1 : ∀ v ∈ us, v.oneCell' = true)
    (hx : evl env x = some (.slice (some ⟨b, o, none⟩) dl dc)) (hy : evl env y = some (.slice (some ad) sl sc)) (hd : Nat.blt d n = true)
    (kk : WL P ops rest Q w0 n ((d, vi us.length) :: env) (Cells b (cs.take o ++ us ++ cs.drop (o + us.length)) :: Γ')) :
    WL P ops (⟨some d, .call ⟨.builtin .copy, #[x, y], #[t, t']⟩, ty, pos, after, none⟩ :: rest) Q w0 n env Γ := by
  refine wl_gen (X := Unit) (vf := fun _ => vi us.length) (φ := fun _ => True) (Γf := fun _ => Cells b (cs.take o ++ us ++ cs.drop (o + us.length)) :: Γ') (fun c w st => ?_) hd (fun _ _ => kk)
  obtain ⟨T, hT⟩ := (p.pick _ st.sat).cells
  obtain ⟨i, hi, hs1, _, _⟩ := el.info
  have hr := run_copy_row (P := P) w t t' ty e b o dl dc ad sl sc cs.toArray T us u.fact (by rw [hi]; simp [hs1]) hT (by rw [hn]) (hsrc _ st.sat) (by simpa using hfit) h1
  refine ⟨(), w.setRow b (cs.take o ++ us ++ cs.drop (o + us.length)).toArray, ?_, ⟨rfl, rfl, rfl, by simp [World.setRow]⟩, trivial, ?_⟩
  · simp [execOp, resolve, invoke, builtin, st.env.evl hx, st.env.evl hy, hr, goInt]
  · have h2 := p.pick _ st.sat
    obtain ⟨h1', h2', a, c, d', ⟨T', e'⟩, f⟩ := h2
    have hT' : hpOf w b = some (.cells cs.toArray T' (0, 0)) := a _ _ e'
    exact (sat_update (Γ := Γ') (w := w) (w' := w.setRow b (cs.take o ++ us ++ cs.drop (o + us.length)).toArray) (b := b) ⟨h1', h2', a, c, d', e', f⟩ (setRow_heap w b _ _ T' (0, 0) hT') (fun c hc => setRow_other w b c _ hc)).imp fun _ e => ⟨T', e⟩
end
/-- a slice of one's own that is none of the nil ones, as cells -/
theorem Sl.cells {v : Value} {vs : List Value} {Γ : List HP} {h : Hp} (hnil : ∃ a n c, v = .slice (some a) n c) (hs : Sat (Sl v 1 vs :: Γ) h) : ∃ x : Nat × Nat × Nat × List Value,
    (v = .slice (some ⟨x.1, x.2.1, none⟩) vs.length x.2.2.1 ∧ vs.length ≤ x.2.2.1 ∧ x.2.1 + x.2.2.1 ≤ x.2.2.2.length ∧ (x.2.2.2.drop x.2.1).take vs.length = vs) ∧ Sat (Cells x.1 x.2.2.2 :: Γ) h := by
  obtain ⟨h1, h2, a, c, d, hA, f⟩ := hs
  rcases hA with ⟨rfl, _⟩ | ⟨b, off, len, cap, cs, rfl, q1, q2, q3, q4, q5⟩
  · obtain ⟨_, _, _, h⟩ := hnil; cases h
  · obtain rfl : vs.length = len := by omega
    exact ⟨(b, off, cap, cs), ⟨rfl, q1, by simpa using q2, by simpa using q4⟩, h1, h2, a, c, d, q5, f⟩
theorem Sl.ofCells {b off cap : Nat} {cs vs : List Value} {Γ : List HP} (h1 : vs.length ≤ cap) (h2 : off + cap ≤ cs.length) (h3 : (cs.drop off).take vs.length = vs) : Ent (Cells b cs :: Γ) (Sl (.slice (some ⟨b, off, none⟩) vs.length cap) 1 vs :: Γ) :=
  Ent.imp fun _ hc => .inr ⟨b, off, vs.length, cap, cs, rfl, h1, by simpa using h2, by simp, by simpa using h3, hc⟩
end Go.Sl
end

section
/- Statements that draw their order: what is owed is forgotten as soon as it may be. No program. -/
namespace Go.Sl
open Go
/-- what is still owed behind an operation -/
inductive Owe (ops : Array Oper) (i : Nat) : Obl → Obl → Prop where
  | nil : Owe ops i [] []
  | tt {j : Nat} {L L' : Obl} (h : Owe ops i L L') : Owe ops i ((j, Tt) :: L) L'
  | dep {j : Nat} {I : World → Prop} {L L' : Obl} (hd : dependsOn ops i j = true) (h : Owe ops i L L') : Owe ops i ((j, I) :: L) L'
  | keep {q : Nat × (World → Prop)} {L L' : Obl} (h : Owe ops i L L') : Owe ops i (q :: L) (q :: L')
theorem Owe.mem {ops : Array Oper} {i : Nat} {L L' : Obl} (h : Owe ops i L L') : ∀ q ∈ (L.filter fun q => !dependsOn ops i q.1), q ∈ L' ∨ q.2 = Tt := by
  induction h with
  | nil => intro q hq; cases hq
  | tt h ih =>
    intro q hq
    rw [List.mem_filter] at hq
    rcases List.mem_cons.1 hq.1 with rfl | h1
    · exact .inr rfl
    · exact ih q (List.mem_filter.2 ⟨h1, hq.2⟩)
  | dep hd h ih =>
    intro q hq
    rw [List.mem_filter] at hq
    rcases List.mem_cons.1 hq.1 with rfl | h1
    · rw [show dependsOn ops i _ = true from hd] at hq; cases hq.2
    · exact ih q (List.mem_filter.2 ⟨h1, hq.2⟩)
  | keep h ih =>
    intro q hq
    rw [List.mem_filter] at hq
    rcases List.mem_cons.1 hq.1 with rfl | h1
    · exact .inl List.mem_cons_self
    · rcases ih q (List.mem_filter.2 ⟨h1, hq.2⟩) with h | h
      · exact .inl (List.mem_cons_of_mem _ h)
      · exact .inr h
section
variable {P : Program} {Q : Exit → Act → World → Prop} {w0 : World} {n : Nat} {env : Env} {Γ : List HP} {ops : Array Oper} {fuel : Nat} {L L' : Obl} {listed : Array Bool}
theorem ddx (i : Nat) {o : Oper} (h : WL P ops [o] (DrawQ P ops fuel L' (listed.setIfInBounds i true) Q) w0 n env Γ) (hi : ops[i]? = some o := by rfl) (hr : Region.ready .any ops listed = [i] := by kernel_rfl)
    (hL : Owe ops i L L' := by repeat (first | exact Owe.nil | (with_reducible apply Owe.tt) | (apply Owe.dep; decide +kernel) | apply Owe.keep)) : WD P ops Q (fuel + 1) L listed w0 n env Γ := fun a w s ho => by
  refine ⟨ho, fun h0 => (by rw [hr] at h0; cases h0), fun j hj => ?_⟩
  rw [hr] at hj
  have : j = i := by simpa using hj
  subst this
  refine wpOp_mono (fun a' w' h' => wpAnyL_mono _ _ _ _ _ _ hL.mem h') (wpOp_of_list hi (h a w s))
end
end Go.Sl
end
