/- several texts, one behind the other -/
import Derived.Test.YtohienhoifgmaaaGreatP14
import Derived.Test.YtohienhoifgmaaaGreatP18

section
/- Methods of what lies in an interface; has it another one's methods? No program. -/
namespace Go.Sl
open Go
section gen
variable {P : Program} {ops : Array Oper} {Q : Exit → Act → World → Prop} {w0 : World} {n : Nat} {env : Env} {Γ : List HP} {rest : List Oper}
  {ty : TypeId} {pos : String} {after : Array Edge}
/-- has what lies in an interface the methods of another one? -/
class AssI (P : Program) (t as_ : TypeId) (ok : outParam Bool) : Prop where
  run : ∀ v xt w, (Instr.typeAssert (.iface t v) xt as_ true).run P w = .ok (.tuple #[if ok then .iface t v else .nilIface, .bool ok]) w
theorem yl_assertI {xt t t' : TypeId} {x : Operand} {v : Value} {ok : Bool} [u : AssI P t' t ok] (hx : evl env x = some (.iface t' v)) :
    Yl P (.typeAssert x xt t true) ty w0 n env Γ (.tuple #[if ok then .iface t' v else .nilIface, .bool ok]) Tt :=
  fun _ _ _ _ _ _ s => ⟨trivial, fun w' _ => by simp [execOp, s.env.evl hx, u.run]⟩
/-- a method that always answers -/
theorem icall {d : Nat} {recv : Operand} {name : String} {f : FuncId} {args : Array Operand} {ts : Array TypeId} {tt : TypeId} {rv : Value} {vs : List Value}
    {rd : Hp → Prop} {pre : List HP → List HP} {X : Type} {φ : X → Prop} {v : X → Value} {post : X → List HP → List HP} {F : List HP} {R : Ending → World → Prop}
    [mt : MethT P tt name f] [ct : CallT P f] [_th : Thru Q R]
    (hs : Spec0 P f (rv :: vs) rd pre φ v post)
    (k : ∀ x, φ x → WL P ops rest Q w0 n ((d, v x) :: env) (post x F))
    (hc : evl env recv = some (.iface tt rv) := by rfl) (ha : evls env args.toList = some vs := by rfl)
    (hd : Nat.blt d n = true := by rfl) (hg : Ent Γ (pre F) := by (first | (with_reducible exact Ent.refl) | exact Ent.take (by (first | (with_reducible exact Ent.refl) | (with_reducible exact Ent.there Ent.refl) | (with_reducible exact tE (Ent.there Ent.refl)) | (with_reducible exact tE (tE (Ent.there Ent.refl))) | (with_reducible exact tE (tE (tE (Ent.there Ent.refl)))) | (with_reducible exact tE (tE (tE (tE (Ent.there Ent.refl))))) | (with_reducible exact tE (tE (tE (tE (tE (Ent.there Ent.refl)))))) | (with_reducible exact tE (tE (tE (tE (tE (tE (Ent.there Ent.refl))))))) | (with_reducible exact tE (tE (tE (tE (tE (tE (tE (Ent.there Ent.refl)))))))) | (with_reducible exact tE (tE (tE (tE (tE (tE (tE (tE (Ent.there Ent.refl))))))))) | (with_reducible exact tE (tE (tE (tE (tE (tE (tE (tE (tE (Ent.there Ent.refl)))))))))) | (with_reducible exact tE (tE (tE (tE (tE (tE (tE (tE (tE (tE (Ent.there Ent.refl))))))))))) | (with_reducible exact tE (tE (tE (tE (tE (tE (tE (tE (tE (tE (tE (Ent.there Ent.refl)))))))))))) | (with_reducible exact tE (tE (tE (tE (tE (tE (tE (tE (tE (tE (tE (tE (Ent.there Ent.refl))))))))))))))) (by (first | (with_reducible exact Ent.refl) | exact Ent.take (by (first | (with_reducible exact Ent.refl) | (with_reducible exact Ent.there Ent.refl) | (with_reducible exact tE (Ent.there Ent.refl)) | (with_reducible exact tE (tE (Ent.there Ent.refl))) | (with_reducible exact tE (tE (tE (Ent.there Ent.refl)))) | (with_reducible exact tE (tE (tE (tE (Ent.there Ent.refl))))) | (with_reducible exact tE (tE (tE (tE (tE (Ent.there Ent.refl)))))) | (with_reducible exact tE (tE (tE (tE (tE (tE (Ent.there Ent.refl))))))) | (with_reducible exact tE (tE (tE (tE (tE (tE (tE (Ent.there Ent.refl)))))))) | (with_reducible exact tE (tE (tE (tE (tE (tE (tE (tE (Ent.there Ent.refl))))))))) | (with_reducible exact tE (tE (tE (tE (tE (tE (tE (tE (tE (Ent.there Ent.refl)))))))))) | (with_reducible exact tE (tE (tE (tE (tE (tE (tE (tE (tE (tE (Ent.there Ent.refl))))))))))) | (with_reducible exact tE (tE (tE (tE (tE (tE (tE (tE (tE (tE (tE (Ent.there Ent.refl)))))))))))) | (with_reducible exact tE (tE (tE (tE (tE (tE (tE (tE (tE (tE (tE (tE (Ent.there Ent.refl))))))))))))))) (by (first | (with_reducible exact Ent.refl) | exact Ent.take (by (first | (with_reducible exact Ent.refl) | (with_reducible exact Ent.there Ent.refl) | (with_reducible exact tE (Ent.there Ent.refl)) | (with_reducible exact tE (tE (Ent.there Ent.refl))) | (with_reducible exact tE (tE (tE (Ent.there Ent.refl)))) | (with_reducible exact tE (tE (tE (tE (Ent.there Ent.refl))))) | (with_reducible exact tE (tE (tE (tE (tE (Ent.there Ent.refl)))))) | (with_reducible exact tE (tE (tE (tE (tE (tE (Ent.there Ent.refl))))))) | (with_reducible exact tE (tE (tE (tE (tE (tE (tE (Ent.there Ent.refl)))))))) | (with_reducible exact tE (tE (tE (tE (tE (tE (tE (tE (Ent.there Ent.refl))))))))) | (with_reducible exact tE (tE (tE (tE (tE (tE (tE (tE (tE (Ent.there Ent.refl)))))))))) | (with_reducible exact tE (tE (tE (tE (tE (tE (tE (tE (tE (tE (Ent.there Ent.refl))))))))))) | (with_reducible exact tE (tE (tE (tE (tE (tE (tE (tE (tE (tE (tE (Ent.there Ent.refl)))))))))))) | (with_reducible exact tE (tE (tE (tE (tE (tE (tE (tE (tE (tE (tE (tE (Ent.there Ent.refl))))))))))))))) (by (first | (with_reducible exact Ent.refl) | exact Ent.take (by (first | (with_reducible exact Ent.refl) | (with_reducible exact Ent.there Ent.refl) | (with_reducible exact tE (Ent.there Ent.refl)) | (with_reducible exact tE (tE (Ent.there Ent.refl))) | (with_reducible exact tE (tE (tE (Ent.there Ent.refl)))) | (with_reducible exact tE (tE (tE (tE (Ent.there Ent.refl))))) | (with_reducible exact tE (tE (tE (tE (tE (Ent.there Ent.refl)))))) | (with_reducible exact tE (tE (tE (tE (tE (tE (Ent.there Ent.refl))))))) | (with_reducible exact tE (tE (tE (tE (tE (tE (tE (Ent.there Ent.refl)))))))) | (with_reducible exact tE (tE (tE (tE (tE (tE (tE (tE (Ent.there Ent.refl))))))))) | (with_reducible exact tE (tE (tE (tE (tE (tE (tE (tE (tE (Ent.there Ent.refl)))))))))) | (with_reducible exact tE (tE (tE (tE (tE (tE (tE (tE (tE (tE (Ent.there Ent.refl))))))))))) | (with_reducible exact tE (tE (tE (tE (tE (tE (tE (tE (tE (tE (tE (Ent.there Ent.refl)))))))))))) | (with_reducible exact tE (tE (tE (tE (tE (tE (tE (tE (tE (tE (tE (tE (Ent.there Ent.refl))))))))))))))) (by (first | (with_reducible exact Ent.refl) | exact Ent.take (by (first | (with_reducible exact Ent.refl) | (with_reducible exact Ent.there Ent.refl) | (with_reducible exact tE (Ent.there Ent.refl)) | (with_reducible exact tE (tE (Ent.there Ent.refl))) | (with_reducible exact tE (tE (tE (Ent.there Ent.refl)))) | (with_reducible exact tE (tE (tE (tE (Ent.there Ent.refl))))) | (with_reducible exact tE (tE (tE (tE (tE (Ent.there Ent.refl)))))) | (with_reducible exact tE (tE (tE (tE (tE (tE (Ent.there Ent.refl))))))) | (with_reducible exact tE (tE (tE (tE (tE (tE (tE (Ent.there Ent.refl)))))))) | (with_reducible exact tE (tE (tE (tE (tE (tE (tE (tE (Ent.there Ent.refl))))))))) | (with_reducible exact tE (tE (tE (tE (tE (tE (tE (tE (tE (Ent.there Ent.refl)))))))))) | (with_reducible exact tE (tE (tE (tE (tE (tE (tE (tE (tE (tE (Ent.there Ent.refl))))))))))) | (with_reducible exact tE (tE (tE (tE (tE (tE (tE (tE (tE (tE (tE (Ent.there Ent.refl)))))))))))) | (with_reducible exact tE (tE (tE (tE (tE (tE (tE (tE (tE (tE (tE (tE (Ent.there Ent.refl))))))))))))))) (by (first | (with_reducible exact Ent.refl) | exact Ent.take (by (first | (with_reducible exact Ent.refl) | (with_reducible exact Ent.there Ent.refl) | (with_reducible exact tE (Ent.there Ent.refl)) | (with_reducible exact tE (tE (Ent.there Ent.refl))) | (with_reducible exact tE (tE (tE (Ent.there Ent.refl)))) | (with_reducible exact tE (tE (tE (tE (Ent.there Ent.refl))))) | (with_reducible exact tE (tE (tE (tE (tE (Ent.there Ent.refl)))))) | (with_reducible exact tE (tE (tE (tE (tE (tE (Ent.there Ent.refl))))))) | (with_reducible exact tE (tE (tE (tE (tE (tE (tE (Ent.there Ent.refl)))))))) | (with_reducible exact tE (tE (tE (tE (tE (tE (tE (tE (Ent.there Ent.refl))))))))) | (with_reducible exact tE (tE (tE (tE (tE (tE (tE (tE (tE (Ent.there Ent.refl)))))))))) | (with_reducible exact tE (tE (tE (tE (tE (tE (tE (tE (tE (tE (Ent.there Ent.refl))))))))))) | (with_reducible exact tE (tE (tE (tE (tE (tE (tE (tE (tE (tE (tE (Ent.there Ent.refl)))))))))))) | (with_reducible exact tE (tE (tE (tE (tE (tE (tE (tE (tE (tE (tE (tE (Ent.there Ent.refl))))))))))))))) (by (first | (with_reducible exact Ent.refl) | exact Ent.take (by (first | (with_reducible exact Ent.refl) | (with_reducible exact Ent.there Ent.refl) | (with_reducible exact tE (Ent.there Ent.refl)) | (with_reducible exact tE (tE (Ent.there Ent.refl))) | (with_reducible exact tE (tE (tE (Ent.there Ent.refl)))) | (with_reducible exact tE (tE (tE (tE (Ent.there Ent.refl))))) | (with_reducible exact tE (tE (tE (tE (tE (Ent.there Ent.refl)))))) | (with_reducible exact tE (tE (tE (tE (tE (tE (Ent.there Ent.refl))))))) | (with_reducible exact tE (tE (tE (tE (tE (tE (tE (Ent.there Ent.refl)))))))) | (with_reducible exact tE (tE (tE (tE (tE (tE (tE (tE (Ent.there Ent.refl))))))))) | (with_reducible exact tE (tE (tE (tE (tE (tE (tE (tE (tE (Ent.there Ent.refl)))))))))) | (with_reducible exact tE (tE (tE (tE (tE (tE (tE (tE (tE (tE (Ent.there Ent.refl))))))))))) | (with_reducible exact tE (tE (tE (tE (tE (tE (tE (tE (tE (tE (tE (Ent.there Ent.refl)))))))))))) | (with_reducible exact tE (tE (tE (tE (tE (tE (tE (tE (tE (tE (tE (tE (Ent.there Ent.refl))))))))))))))) (by (first | (with_reducible exact Ent.refl) | exact Ent.take (by (first | (with_reducible exact Ent.refl) | (with_reducible exact Ent.there Ent.refl) | (with_reducible exact tE (Ent.there Ent.refl)) | (with_reducible exact tE (tE (Ent.there Ent.refl))) | (with_reducible exact tE (tE (tE (Ent.there Ent.refl)))) | (with_reducible exact tE (tE (tE (tE (Ent.there Ent.refl))))) | (with_reducible exact tE (tE (tE (tE (tE (Ent.there Ent.refl)))))) | (with_reducible exact tE (tE (tE (tE (tE (tE (Ent.there Ent.refl))))))) | (with_reducible exact tE (tE (tE (tE (tE (tE (tE (Ent.there Ent.refl)))))))) | (with_reducible exact tE (tE (tE (tE (tE (tE (tE (tE (Ent.there Ent.refl))))))))) | (with_reducible exact tE (tE (tE (tE (tE (tE (tE (tE (tE (Ent.there Ent.refl)))))))))) | (with_reducible exact tE (tE (tE (tE (tE (tE (tE (tE (tE (tE (Ent.there Ent.refl))))))))))) | (with_reducible exact tE (tE (tE (tE (tE (tE (tE (tE (tE (tE (tE (Ent.there Ent.refl)))))))))))) | (with_reducible exact tE (tE (tE (tE (tE (tE (tE (tE (tE (tE (tE (tE (Ent.there Ent.refl))))))))))))))) (by (first | (with_reducible exact Ent.refl) | exact Ent.take (by (first | (with_reducible exact Ent.refl) | (with_reducible exact Ent.there Ent.refl) | (with_reducible exact tE (Ent.there Ent.refl)) | (with_reducible exact tE (tE (Ent.there Ent.refl))) | (with_reducible exact tE (tE (tE (Ent.there Ent.refl)))) | (with_reducible exact tE (tE (tE (tE (Ent.there Ent.refl))))) | (with_reducible exact tE (tE (tE (tE (tE (Ent.there Ent.refl)))))) | (with_reducible exact tE (tE (tE (tE (tE (tE (Ent.there Ent.refl))))))) | (with_reducible exact tE (tE (tE (tE (tE (tE (tE (Ent.there Ent.refl)))))))) | (with_reducible exact tE (tE (tE (tE (tE (tE (tE (tE (Ent.there Ent.refl))))))))) | (with_reducible exact tE (tE (tE (tE (tE (tE (tE (tE (tE (Ent.there Ent.refl)))))))))) | (with_reducible exact tE (tE (tE (tE (tE (tE (tE (tE (tE (tE (Ent.there Ent.refl))))))))))) | (with_reducible exact tE (tE (tE (tE (tE (tE (tE (tE (tE (tE (tE (Ent.there Ent.refl)))))))))))) | (with_reducible exact tE (tE (tE (tE (tE (tE (tE (tE (tE (tE (tE (tE (Ent.there Ent.refl))))))))))))))) (by (with_reducible exact Ent.refl)))))))))))))))))))) (hr : ∀ h, Sat F h → rd h := by first | exact fun _ _ => trivial | exact RdIn.rd | exact ReadIn.rd) :
    WL P ops (⟨some d, .call ⟨.invoke recv name, args, ts⟩, ty, pos, after, none⟩ :: rest) Q w0 n env Γ := fun a w s => by
  refine wpList_plain rfl fun K hK => ?_
  unfold Oper.wp
  rw [run_invoke s.env hc ha, Oper.upon_enter]
  refine (hs F w hr (hg _ s.sat)).mono fun e w' he => ?_
  obtain ⟨hev, he | he⟩ := he
  · obtain ⟨x, hx, rfl, hsat⟩ := he
    exact hK _ _ (k x hx _ _ ⟨s.env.put hd _, s.defers, s.evo.trans hev, hsat⟩)
  · obtain ⟨y, hy, _⟩ := he
    exact hy.elim
end gen
end Go.Sl
end

section
/- An array over disks: what all members have; Lose, Replace. -/
namespace Go.Proofs.YtohienhoifgmaaaGreat
open Go Go.Sl
attribute [local irreducible] Yl WL WC WQ WD

theorem sameL_skip {sector : Int} {n i : Nat} {r : Rig} (hi : i < n) (h : (i : Int) = r.stale) : sameL sector ((List.range n).drop i) r = sameL sector ((List.range n).drop (i + 1)) r := by
  rw [List.drop_eq_getElem_cons (by simpa using hi)]
  simp [sameL, h]
theorem sameL_step {sector : Int} {n i : Nat} {r : Rig} (hi : i < n) (h : ¬ (i : Int) = r.stale) : sameL sector ((List.range n).drop i) r =
    (r.dev i (dread sector)).bind fun x r => if x.2 = 0 then .ok (x.1, 0) r else (alost i r).bind fun e r => if e ≠ 0 then .ok ([], e) r else sameL sector ((List.range n).drop (i + 1)) r := by
  rw [List.drop_eq_getElem_cons (by simpa using hi)]
  simp only [List.getElem_range]
  rw [sameL, if_neg h]
theorem sameL_end {sector : Int} {n : Nat} {r : Rig} : sameL sector ((List.range n).drop n) r = .ok ([], 3) r := by
  rw [List.drop_of_length_le (by simp)]; rfl
theorem asame_spec (k : Keys) (hk : k.Ok) (r : Rig) (sector : Int) :
    SpecG Tryz.prog outage 26 [vp k.a, vi sector] (fun _ => True) (RigAt k) (asame k.sh sector r) r (fun (_ : Value) _ => True) (fun v a => .tuple #[v, vi a.2]) (fun v a F => SlB v a.1 :: F) := by
  (refine spec_of Tryz.func26 rfl Tryz.ntmps26 rfl (fun F w0 hrd => ?_))
  (first | refine WC.ex (fun y => RigAt.opened) (fun _ hlen => ?_) | refine WL.ex (fun y => RigAt.opened) (fun _ hlen => ?_) | refine WQ.ex (fun y => RigAt.opened) (fun _ hlen => ?_))
  have hmem := hk.mem
  have hmm := hk.sh.members
  refine walk ?_
  refine wif_dec (fun h1 => ?_) (fun h1 => ?_)
  · refine walk ?_
    exact wq_ret2 rfl rfl rfl (_, ([], 1), r) rfl ⟨by unfold asame; rw [if_pos (.inl h1)], trivial⟩ (Ent.trans (perm : Ent _ (RigAt k r F)) (sl_nil 1))
  refine walk ?_
  refine call (gsectors_spec k.sh hk.sh) ?_
  intro _ _
  refine walk ?_
  refine wif_dec (fun h2 => ?_) (fun h2 => ?_)
  · refine walk ?_
    exact wq_ret2 rfl rfl rfl (_, ([], 1), r) rfl ⟨by unfold asame; rw [if_pos (.inr h2)], trivial⟩ (Ent.trans (perm : Ent _ (RigAt k r F)) (sl_nil 1))
  have hno : ¬ (sector < 0 ∨ sector ≥ k.sh.sectors) := by omega
  refine walk ?_
  refine WIf.both (fun hb => ?_) (fun hb => ?_)
  · refine walk ?_
    exact wq_ret2 rfl rfl rfl (_, ([], 3), r) rfl ⟨by unfold asame; rw [if_neg hno, if_pos hb], trivial⟩ (Ent.trans (perm : Ent _ (RigAt k r F)) (sl_nil 1))
  have hm : asame k.sh sector r = sameL sector (List.range k.ps.length) r := by unfold asame; rw [if_neg hno, if_neg (by simp [hb]), hlen]
  refine walk ?_
  refine wc_loop (X := Nat × Rig) (fun y => [(0, vp k.a), (1, vi sector), (30, k.lv), (31, vi k.ps.length), (32, vi y.1)]) (fun y => RigAt k y.2 F)
    (fun y => y.1 ≤ k.ps.length ∧ asame k.sh sector r = sameL sector ((List.range k.ps.length).drop y.1) y.2) (fun y => k.ps.length - y.1) (0, r) ⟨by omega, hm⟩ envs perm (fun y hy => ?_)
  obtain ⟨i, r'⟩ := y
  dsimp only at hy ⊢
  obtain ⟨hi, hm'⟩ := hy
  clear hm
  refine walk ?_
  refine wif_dec (fun hlt => ?_) (fun hlt => ?_)
  · have hlt : i < k.ps.length := by omega
    refine walk ?_
    refine call (stale_spec k r') ?_
    intro _ _
    refine walk ?_
    refine wif_dec (fun hc => ?_) (fun hc => ?_)
    · rw [sameL_skip hlt hc] at hm'
      refine walk ?_
      exact wq_round (i + 1, r') ⟨by dsimp only; omega, hm'⟩ (by dsimp only; omega) envs perm
    rw [sameL_step hlt hc] at hm'
    refine walk ?_
    (refine gicall (rread_spec k r' i hlt sector) (fun s' hg => ⟨s', ?_, ?_⟩) (fun v x r1 h1 _ => ?_); (rw [hm', hg] <;> rfl); (first | (exact perm) | (exact permL)); (rw [h1] at hm'); (try rw [Out.bind_ok] at hm'))
    refine walk ?_
    refine wif_dec (fun h4 => ?_) (fun h4 => ?_)
    · rw [if_pos h4] at hm'
      refine walk ?_
      exact wq_ret2 rfl rfl rfl (v, (x.1, 0), r1) rfl ⟨hm', trivial⟩ perm
    rw [if_neg h4] at hm'
    refine walk ?_
    (refine gcall (lost_spec k r1 i) (fun s' hg => ⟨s', ?_, ?_⟩) (fun x2 e2 r2 h2 _ => ?_); (rw [hm', hg] <;> rfl); (first | (exact perm) | (exact permL)); (rw [h2] at hm'); (try rw [Out.bind_ok] at hm'))
    refine walk ?_
    refine wif_dec (fun h5 => ?_) (fun h5 => ?_)
    · rw [if_pos h5] at hm'
      refine walk ?_
      exact wq_ret2 rfl rfl rfl (_, ([], e2), r2) rfl ⟨hm', trivial⟩ (Ent.trans (perm : Ent _ (RigAt k r2 F)) (sl_nil 1))
    rw [if_neg h5] at hm'
    refine walk ?_
    exact wq_round (i + 1, r2) ⟨by dsimp only; omega, hm'⟩ (by dsimp only; omega) envs perm
  have hi' : i = k.ps.length := by omega
  subst hi'
  rw [sameL_end] at hm'
  refine walk ?_
  exact wq_ret2 rfl rfl rfl (_, ([], 3), r') rfl ⟨hm', trivial⟩ (Ent.trans (perm : Ent _ (RigAt k r' F)) (sl_nil 1))

theorem aputSame_spec (k : Keys) (hk : k.Ok) (r : Rig) (sector : Int) (v : Value) (b : Bytes) :
    SpecG Tryz.prog outage 27 [vp k.a, vi sector, v] (Rd v 1 (b.map vb)) (RigAt k) (aputSame k.sh sector b r) r (fun (_ : Unit) _ => True) (fun _ e => vi e) (fun _ _ F => F) := by
  (refine spec_of Tryz.func27 rfl Tryz.ntmps27 rfl (fun F w0 hrd => ?_))
  haveI : RdIn F v 1 (b.map vb) := ⟨hrd⟩
  (first | refine WC.ex (fun y => RigAt.opened) (fun _ hlen => ?_) | refine WL.ex (fun y => RigAt.opened) (fun _ hlen => ?_) | refine WQ.ex (fun y => RigAt.opened) (fun _ hlen => ?_))
  have hmem := hk.mem
  have hmm := hk.sh.members
  refine walk ?_
  refine wif_dec (fun h1 => ?_) (fun h1 => ?_)
  · refine walk ?_
    exact wq_ret1 rfl rfl ((), 1, r) rfl ⟨by unfold aputSame; rw [if_pos (.inl h1)], trivial⟩ perm
  refine walk ?_
  refine call (gsectors_spec k.sh hk.sh) ?_
  intro _ _
  refine walk ?_
  refine wif_dec (fun h2 => ?_) (fun h2 => ?_)
  · refine walk ?_
    exact wq_ret1 rfl rfl ((), 1, r) rfl ⟨by unfold aputSame; rw [if_pos (.inr (.inl h2))], trivial⟩ perm
  refine walk ?_
  refine wif_dec (fun h3 => ?_) (fun h3 => ?_)
  · refine walk ?_
    exact wq_ret1 rfl rfl ((), 1, r) rfl ⟨by unfold aputSame; rw [if_pos (.inr (.inr h3))], trivial⟩ perm
  have hno : ¬ (sector < 0 ∨ sector ≥ k.sh.sectors ∨ (b.length : Int) ≠ k.sh.block) := by omega
  refine walk ?_
  refine WIf.both (fun hb => ?_) (fun hb => ?_)
  · refine walk ?_
    exact wq_ret1 rfl rfl ((), 3, r) rfl ⟨by unfold aputSame; rw [if_neg hno, if_pos hb], trivial⟩ perm
  have hm : aputSame k.sh sector b r = each (fun m : Nat => awrite m sector b) (List.range k.ps.length) r := by unfold aputSame; rw [if_neg hno, if_neg (by simp [hb]), hlen]
  refine walk ?_
  refine wc_loop (X := Nat × Rig) (fun y => [(0, vp k.a), (1, vi sector), (2, v), (40, vi k.ps.length), (41, vi y.1)]) (fun y => RigAt k y.2 F)
    (fun y => y.1 ≤ k.ps.length ∧ aputSame k.sh sector b r = each (fun m : Nat => awrite m sector b) ((List.range k.ps.length).drop y.1) y.2) (fun y => k.ps.length - y.1) (0, r) ⟨by omega, hm⟩ envs perm (fun y hy => ?_)
  obtain ⟨i, r'⟩ := y
  dsimp only at hy ⊢
  obtain ⟨hi, hm'⟩ := hy
  clear hm
  refine walk ?_
  refine wif_dec (fun hlt => ?_) (fun hlt => ?_)
  · have hlt : i < k.ps.length := by omega
    rw [each_step hlt] at hm'
    refine walk ?_
    (refine gcall (awrite_spec k r' i hlt sector v b) (fun s' hg => ⟨s', ?_, ?_⟩) (fun x e r1 h1 _ => ?_); (rw [hm', hg] <;> rfl); (first | (exact perm) | (exact permL)); (rw [h1] at hm'); (try rw [Out.bind_ok] at hm'))
    refine walk ?_
    refine wif_dec (fun h5 => ?_) (fun h5 => ?_)
    · rw [if_neg h5] at hm'
      refine walk ?_
      exact wq_ret1 rfl rfl ((), e, r1) rfl ⟨hm', trivial⟩ perm
    rw [if_pos (Decidable.not_not.1 h5)] at hm'
    refine walk ?_
    exact wq_round (i + 1, r1) ⟨by dsimp only; omega, hm'⟩ (by dsimp only; omega) envs perm
  have hi' : i = k.ps.length := by omega
  subst hi'
  rw [each_end] at hm'
  refine walk ?_
  exact wq_ret1 rfl rfl ((), 0, r') rfl ⟨hm', trivial⟩ perm

end Go.Proofs.YtohienhoifgmaaaGreat
end
