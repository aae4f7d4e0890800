/- several texts, one behind the other -/
import Derived.Test.YtohienhoifgmaaaGreatP08
import Derived.Test.YtohienhoifgmaaaGreatP11
import Derived.Test.YtohienhoifgmaaaGreatP29
import Derived.Test.YtohienhoifgmaaaGreatP31
import Derived.Test.YtohienhoifgmaaaGreatP32

section
/- Operations whose guard hangs on one that wasn't done: they aren't either. No program. -/
namespace Go.Sl
open Go
section
variable {P : Program} {Q : Exit → Act → World → Prop} {w0 : World} {n : Nat} {env : Env} {Γ : List HP} {ops : Array Oper} {ty : TypeId} {pos : String} {after : Array Edge} {rest : List Oper}
theorem wl_guard_un {d : Nat} {op : Op} {g : Nat} {want : Bool} {og : Oper} {t : Tmp} (hg : ops[g]? = some og) (ht : og.dst = some t) (hc : env.get t = some undef)
    (hd : Nat.blt d n = true) (k : WL P ops rest Q w0 n ((d, undef) :: env) Γ) :
    WL P ops (⟨some d, op, ty, pos, after, some (g, want)⟩ :: rest) Q w0 n env Γ := fun a w s => by
  have hy : yielded ops a.tmps g = none := by simp [yielded, hg, ht, s.env.get _ _ hc, undef]
  unfold wpList
  rw [if_neg (by simp [Region.wanted, hy])]
  exact k _ _ ⟨s.env.put hd _, s.defers, s.evo, s.sat⟩
end
end Go.Sl
end

section
/- Where each block lies, as the program has it: pages, made as they are needed. -/
namespace Go.Proofs.YtohienhoifgmaaaGreat
open Go Go.Sl
attribute [local irreducible] Yl WL WC WQ WD
def Pgs : List (Option Nat) → List (List Int) → List HP
  | some b :: ps, l :: ls => Cells b (l.map vi) :: Pgs ps ls
  | none :: ps, _ :: ls => Pgs ps ls
  | _, _ => []
def PgsBut : Nat → List (Option Nat) → List (List Int) → List HP
  | 0, _ :: ps, _ :: ls => Pgs ps ls
  | i + 1, some b :: ps, l :: ls => Cells b (l.map vi) :: PgsBut i ps ls
  | i + 1, none :: ps, _ :: ls => PgsBut i ps ls
  | _, _, _ => []
theorem Pgs.take : ∀ {i : Nat} {ps : List (Option Nat)} {ls : List (List Int)} {Γ : List HP} {b : Nat} {l : List Int}, ps[i]? = some (some b) → ls[i]? = some l → Ent (Pgs ps ls ++ Γ) (Cells b (l.map vi) :: (PgsBut i ps ls ++ Γ))
  | 0, some b :: ps, l :: ls, Γ, _, _, h, h' => by cases h; cases h'; exact Ent.refl
  | 0, none :: ps, l :: ls, Γ, _, _, h, _ => by cases h
  | _, [], _, _, _, _, h, _ => by simp at h
  | _, _ :: _, [], _, _, _, _, h => by simp at h
  | i + 1, some c :: ps, m :: ls, Γ, b, l, h, h' => (Ent.skip (Pgs.take (i := i) (ps := ps) (ls := ls) (by simpa using h) (by simpa using h'))).trans Ent.swap
  | i + 1, none :: ps, m :: ls, Γ, b, l, h, h' => Pgs.take (i := i) (ps := ps) (ls := ls) (by simpa using h) (by simpa using h')
theorem Pgs.give : ∀ {i : Nat} {ps : List (Option Nat)} {ls : List (List Int)} {Γ : List HP} {b : Nat} (l : List Int), ps[i]? = some (some b) → i < ls.length → Ent (Cells b (l.map vi) :: (PgsBut i ps ls ++ Γ)) (Pgs ps (ls.set i l) ++ Γ)
  | 0, some b :: ps, m :: ls, Γ, _, l, h, _ => by cases h; exact Ent.refl
  | 0, none :: ps, m :: ls, Γ, _, _, h, _ => by cases h
  | _, [], _, _, _, _, h, _ => by simp at h
  | _, _ :: _, [], _, _, _, _, h => by simp at h
  | i + 1, some c :: ps, m :: ls, Γ, b, l, h, h' => Ent.swap.trans (Ent.skip (Pgs.give (i := i) (ps := ps) (ls := ls) l (by simpa using h) (by simpa using h')))
  | i + 1, none :: ps, m :: ls, Γ, b, l, h, h' => Pgs.give (i := i) (ps := ps) (ls := ls) l (by simpa using h) (by simpa using h')
theorem Pgs.fresh : ∀ {i : Nat} {ps : List (Option Nat)} {ls : List (List Int)} {Γ : List HP} {b : Nat} (l : List Int), ps[i]? = some none → i < ls.length → Ent (Cells b (l.map vi) :: (Pgs ps ls ++ Γ)) (Pgs (ps.set i (some b)) (ls.set i l) ++ Γ)
  | 0, none :: ps, m :: ls, Γ, _, l, _, _ => Ent.refl
  | 0, some c :: ps, m :: ls, Γ, _, _, h, _ => by cases h
  | _, [], _, _, _, _, h, _ => by simp at h
  | _, _ :: _, [], _, _, _, _, h => by simp at h
  | i + 1, some c :: ps, m :: ls, Γ, b, l, h, h' => Ent.swap.trans (Ent.skip (Pgs.fresh (i := i) (ps := ps) (ls := ls) l (by simpa using h) (by simpa using h')))
  | i + 1, none :: ps, m :: ls, Γ, b, l, h, h' => Pgs.fresh (i := i) (ps := ps) (ls := ls) l (by simpa using h) (by simpa using h')
theorem PgsBut.blank : ∀ {i : Nat} {ps : List (Option Nat)} {ls : List (List Int)}, ps[i]? = some none → i < ls.length → PgsBut i ps ls = Pgs ps ls
  | 0, none :: ps, m :: ls, _, _ => rfl
  | 0, some c :: ps, m :: ls, h, _ => by cases h
  | _, [], _, h, _ => by simp at h
  | _, _ :: _, [], _, h => by simp at h
  | i + 1, some c :: ps, m :: ls, h, h' => by
    show _ :: PgsBut i ps ls = _ :: Pgs ps ls
    rw [PgsBut.blank (by simpa using h) (by simpa using h')]
  | i + 1, none :: ps, m :: ls, h, h' => PgsBut.blank (i := i) (ps := ps) (ls := ls) (by simpa using h) (by simpa using h')
theorem Pgs.put : ∀ {i : Nat} {ps : List (Option Nat)} {ls : List (List Int)} {Γ : List HP} {b : Nat} (l : List Int), i < ps.length → i < ls.length → Ent (Cells b (l.map vi) :: (PgsBut i ps ls ++ Γ)) (Pgs (ps.set i (some b)) (ls.set i l) ++ Γ)
  | 0, some c :: ps, m :: ls, Γ, _, l, _, _ => Ent.refl
  | 0, none :: ps, m :: ls, Γ, _, l, _, _ => Ent.refl
  | _, [], _, _, _, _, h, _ => by simp at h
  | _, _ :: _, [], _, _, _, _, h => by simp at h
  | i + 1, some c :: ps, m :: ls, Γ, b, l, h, h' => Ent.swap.trans (Ent.skip (Pgs.put (i := i) (ps := ps) (ls := ls) l (by simpa using h) (by simpa using h')))
  | i + 1, none :: ps, m :: ls, Γ, b, l, h, h' => Pgs.put (i := i) (ps := ps) (ls := ls) l (by simpa using h) (by simpa using h')
structure MV where
  pv : Value
  ps : List (Option Nat)
  ls : List (List Int)
structure MFits (x : MV) (m : Lm) : Prop where
  len : x.ls.length = x.ps.length
  many : x.ps.length = (m.length + 15) / 16
  each : ∀ l ∈ x.ls, l.length = 16
  blank : ∀ j : Nat, x.ps[j]? = some (Option.none : Option Nat) → x.ls[j]? = some (List.replicate 16 0)
  val : ∀ (i : Nat) (h : i < m.length), (x.ls.getD (i / 16) []).getD (i % 16) 0 = m[i] + 1
  ok : m.Ok
abbrev MParts (p : Nat) (x : MV) (m : Lm) (Γ : List HP) : List HP := Cells p [vi m.length, x.pv, vi m.many] :: Sl x.pv 1 (x.ps.map optp) :: (Pgs x.ps x.ls ++ Γ)
def MapAt (p : Nat) (m : Lm) : HP := fun h => ∃ x : MV, MFits x m ∧ Sat (Cells p [vi m.length, x.pv, vi m.many] :: Sl x.pv 1 (x.ps.map optp) :: Pgs x.ps x.ls) h
theorem MapAt.opened {p : Nat} {m : Lm} {Γ : List HP} {h : Hp} (hs : Sat (MapAt p m :: Γ) h) : ∃ x : MV, MFits x m ∧ Sat (MParts p x m Γ) h := by
  obtain ⟨x, hx⟩ := Sat.ex.1 hs
  obtain ⟨hf, hx⟩ := Sat.pur.1 hx
  exact ⟨x, hf, Sat.flat.1 hx⟩
theorem MapAt.shut {p : Nat} {m : Lm} {Γ : List HP} (x : MV) (hf : MFits x m) : Ent (MParts p x m Γ) (MapAt p m :: Γ) := fun _ hs => Sat.ex.2 ⟨x, Sat.pur.2 ⟨hf, Sat.flat.2 hs⟩⟩
theorem optp_one {ps : List (Option Nat)} {Γ : List HP} : OneIn Γ (ps.map optp) := ⟨fun _ _ u hu => by
  obtain ⟨o, _, rfl⟩ := List.mem_map.1 hu
  cases o <;> rfl⟩
theorem MFits.page {x : MV} {m : Lm} (h : MFits x m) {k : Nat} (hk : k < m.length) : k / 16 < x.ps.length ∧ k / 16 < x.ls.length := by
  have h1 := h.many
  have h2 := h.len
  omega
set_option maxHeartbeats 2000000 in
theorem mget_spec (p : Nat) (m : Lm) (lba : Int) (hm : m.length ≤ 1048576) (hbig : ∀ (k : Nat) (h : k < m.length), m[k] ≤ 1099511627776) :
    Spec0 Tryz.prog 91 [vp p, vi lba] (fun _ => True) (fun F => MapAt p m :: F) (fun _ : Unit => True) (fun _ => vi (m.look lba)) (fun _ F => MapAt p m :: F) := by
  (refine spec_of Tryz.func91 rfl Tryz.ntmps91 rfl (fun F w0 hrd => ?_))
  (first | refine WC.ex (fun y => MapAt.opened) (fun x hx => ?_) | refine WL.ex (fun y => MapAt.opened) (fun x hx => ?_) | refine WQ.ex (fun y => MapAt.opened) (fun x hx => ?_))
  by_cases hin : 0 ≤ lba ∧ lba < m.length
  · obtain ⟨k, rfl⟩ : ∃ k : Nat, lba = k := ⟨lba.toNat, by omega⟩
    have hk : k < m.length := by omega
    obtain ⟨h1, h2⟩ := hx.page hk
    have hv := hx.val k hk
    have hlook : m.look (k : Int) = m[k] := by unfold Lm.look Lm.has; rw [if_pos (by simpa using hin)]; simp [List.getD, hk]
    have hmap : (x.ps.map optp).length = x.ps.length := List.length_map ..
    refine walk ?_
    refine wif_dec (fun hz => absurd hz (by omega)) (fun _ => ?_)
    have hl16 := hx.each _ (List.getElem_mem h2)
    have hlg : x.ls[k / 16]? = some x.ls[k / 16] := List.getElem?_eq_getElem h2
    rw [show x.ls.getD (k / 16) [] = x.ls[k / 16] by simp [List.getD, h2]] at hv
    rw [hlook]
    refine walk ?_
    cases hp : x.ps[k / 16] with
    | none =>
      have hb := hx.blank (k / 16) (by rw [List.getElem?_eq_getElem h1, hp])
      rw [hlg] at hb
      rw [Option.some.inj hb] at hv
      have hv0 : (List.replicate 16 (0 : Int)).getD (k % 16) 0 = 0 := by
        simp only [List.getD, List.getElem?_replicate]
        split <;> rfl
      rw [hv0] at hv
      unfold optp
      refine wl_y (yl_eqpnn rfl rfl) rfl ?_
      refine walk ?_
      refine wq_ret1 rfl rfl () ?_ trivial (MapAt.shut x hx)
      rw [show m[k] = -1 by omega]
    | some b =>
      have hpg : x.ps[k / 16]? = some (some b) := by rw [List.getElem?_eq_getElem h1, hp]
      have hvl : x.ls[k / 16][k % 16]'(by omega) = m[k] + 1 := by
        rw [← hv]; simp [List.getD, hl16, Nat.mod_lt]
      unfold optp
      refine WL.ent (Γ' := Cells b (x.ls[k / 16].map vi) :: Cells p [vi m.length, x.pv, vi m.many] :: Sl x.pv 1 (x.ps.map optp) :: (PgsBut (k / 16) x.ps x.ls ++ F)) ((Ent.skip (Ent.skip (Pgs.take hpg hlg))).trans ((Ent.skip Ent.swap).trans Ent.swap)) ?_
      refine walk ?_
      rw [hp, show optp (some b) = vp b from rfl]
      refine walk ?_
      rw [show (k : Int) % 16 = ((k % 16 : Nat) : Int) by omega]
      refine wl_y (yl_indexA1 (m := 16) rfl rfl (Nat.mod_lt _ (by decide))) rfl ?_
      refine wl_y (yl_load (cs := x.ls[k / 16].map vi) (v := vi (m[k] + 1)) rfl (by rw [Nat.zero_add, List.getElem?_map, List.getElem?_eq_getElem (by omega), hvl]; rfl)) rfl ?_
      have hmk := hx.ok _ (List.getElem_mem hk)
      have hmk2 := hbig k hk
      refine walk ?_
      refine wq_ret1 rfl rfl () (by rw [show m[k] + 1 - 1 = m[k] by omega]) trivial ?_
      refine Ent.trans ?_ (MapAt.shut x hx)
      refine (Ent.swap.trans (Ent.skip Ent.swap)).trans (Ent.skip (Ent.skip ?_))
      have := Pgs.give (Γ := F) (x.ls[k / 16]) hpg h2
      rwa [List.set_getElem_self] at this
  · have hlook : m.look lba = -1 := by unfold Lm.look Lm.has; rw [if_neg (by simpa using hin)]
    rw [hlook]
    refine walk ?_
    refine wif_dec (fun hz => ?_) (fun hz => ?_)
    · refine walk ?_
      exact wq_ret1 rfl rfl () rfl trivial (MapAt.shut x hx)
    · refine walk ?_
      refine wif_dec (fun _ => ?_) (fun hz => absurd hz (by omega))
      refine walk ?_
      exact wq_ret1 rfl rfl () rfl trivial (MapAt.shut x hx)
theorem many_set {m : Lm} {k : Nat} (hk : k < m.length) (q : Int) : Lm.many (m.set k q) = Lm.many m + (if 0 ≤ q then 1 else 0) - (if 0 ≤ m[k] then 1 else 0) := by
  unfold Lm.many
  rw [← List.countP_eq_length_filter, ← List.countP_eq_length_filter]
  have := countP_set (fun p : Int => decide (0 ≤ p)) m k hk q
  simp only [decide_eq_true_eq] at this
  by_cases h1 : 0 ≤ m[k] <;> by_cases h2 : 0 ≤ q <;> simp only [h1, h2, if_true, if_false] at this ⊢ <;> omega
theorem many_bound (m : Lm) : 0 ≤ Lm.many m ∧ Lm.many m ≤ m.length := by
  unfold Lm.many
  have := List.length_filter_le (fun p : Int => decide (0 ≤ p)) m
  omega
/-- one value of a page is another one -/
theorem MFits.set {x : MV} {m : Lm} (h : MFits x m) {k : Nat} (hk : k < m.length) {q : Int} (hq : -1 ≤ q) {pv : Value} {b : Nat} {l : List Int} (hl : l = x.ls.getD (k / 16) []) :
    MFits ⟨pv, x.ps.set (k / 16) (some b), x.ls.set (k / 16) (l.set (k % 16) (q + 1))⟩ (m.set k q) := by
  obtain ⟨h1, h2⟩ := h.page hk
  have hl2 : l = x.ls[k / 16] := by rw [hl]; simp [List.getD, h2]
  have hl16 := h.each _ (List.getElem_mem h2)
  refine ⟨by simp [h.len], by simp [h.many], fun l' hl' => ?_, fun j hj => ?_, fun i hi => ?_, fun p hp => ?_⟩
  · rcases List.mem_or_eq_of_mem_set hl' with hl' | rfl
    · exact h.each _ hl'
    · rw [List.length_set, hl2]; exact hl16
  · rw [List.getElem?_set] at hj
    split at hj
    · cases hj
    · rename_i hne
      rw [List.getElem?_set, if_neg hne]
      exact h.blank j hj
  · rw [List.length_set] at hi
    have hv := h.val i hi
    rw [List.getElem_set]
    by_cases hc : i / 16 = k / 16
    · have e1 : (x.ls.set (k / 16) (l.set (k % 16) (q + 1))).getD (i / 16) [] = l.set (k % 16) (q + 1) := by
        rw [hc]; simp [List.getD, h2]
      rw [e1]
      have e2 : x.ls.getD (i / 16) [] = l := by rw [hc, hl]
      rw [e2] at hv
      by_cases he : k = i
      · subst he
        rw [if_pos rfl]
        simp [List.getD, hl2, hl16, Nat.mod_lt]
      · rw [if_neg he, ← hv]
        have : k % 16 ≠ i % 16 := by omega
        simp [List.getD, this]
    · have e1 : (x.ls.set (k / 16) (l.set (k % 16) (q + 1))).getD (i / 16) [] = x.ls.getD (i / 16) [] := by
        have : k / 16 ≠ i / 16 := fun e => hc e.symm
        simp [List.getD, this]
      rw [e1, if_neg (fun e => hc (by rw [e])), hv]
  · rcases List.mem_or_eq_of_mem_set hp with hp | rfl
    · exact h.ok _ hp
    · exact hq
set_option maxHeartbeats 4000000 in
theorem mset_spec (p : Nat) (m : Lm) (lba place : Int) (hm : m.length ≤ 1048576) (hbig : ∀ (k : Nat) (h : k < m.length), m[k] ≤ 1099511627776) (hpl : place ≤ 1099511627776) :
    Spec0 Tryz.prog 118 [vp p, vi lba, vi place] (fun _ => True) (fun F => MapAt p m :: F) (fun _ : Unit => True) (fun _ => vi (m.look lba)) (fun _ F => MapAt p (m.put lba place) :: F) := by
  (refine spec_of Tryz.func118 rfl Tryz.ntmps118 rfl (fun F w0 hrd => ?_))
  refine walk ?_
  refine call (mget_spec p m lba hm hbig) ?_
  intro _ _
  by_cases hin : 0 ≤ lba ∧ lba < m.length
  · obtain ⟨k, rfl⟩ : ∃ k : Nat, lba = k := ⟨lba.toNat, by omega⟩
    have hk : k < m.length := by omega
    have hlook : m.look (k : Int) = m[k] := by unfold Lm.look Lm.has; rw [if_pos (by simpa using hin)]; simp [List.getD, hk]
    have hput : m.put (k : Int) place = m.set k (max place (-1)) := by unfold Lm.put Lm.has; rw [if_pos (by simpa using hin)]; rfl
    have hms := many_set hk (max place (-1))
    have hmb := many_bound m
    have hmk2 := hbig k hk
    rw [hlook, hput]
    (first | refine WC.ex (fun y => MapAt.opened) (fun x hx => ?_) | refine WL.ex (fun y => MapAt.opened) (fun x hx => ?_) | refine WQ.ex (fun y => MapAt.opened) (fun x hx => ?_))
    have hmk := hx.ok _ (List.getElem_mem hk)
    obtain ⟨h1, h2⟩ := hx.page hk
    have hl16 := hx.each _ (List.getElem_mem h2)
    have hlg : x.ls[k / 16]? = some x.ls[k / 16] := List.getElem?_eq_getElem h2
    have hmap : (x.ps.map optp).length = x.ps.length := List.length_map ..
    haveI : ∀ Γ : List HP, OneIn Γ (x.ps.map optp) := fun Γ => optp_one
    refine walk ?_
    refine wif_dec (fun hz => absurd hz (by omega)) (fun _ => ?_)
    refine walk ?_
    refine wif_dec (fun hp0 => ?_) (fun hp0 => ?_)
    · refine walk ?_
      refine wif_dec (fun hq0 => ?_) (fun hq0 => ?_)
      · refine walk ?_
        refine wq_ret1 rfl rfl () rfl trivial ?_
        have e : m.set k (max place (-1)) = m := by
          rw [show max place (-1) = m[k] by omega, List.set_getElem_self]
        rw [e]
        exact MapAt.shut x hx
      have hboth : ¬ (place < 0 ∧ m[k] < 0) := fun h => hq0 h.2
      refine walk ?_
      refine wl_y (yl_eqopt rfl rfl) rfl ?_
      refine walk ?_
      refine wif_meet (X := Nat) (fun _ => [(0, vp p), (1, vi k), (2, vi place), (7, vi m[k])]) (fun b => Cells b (x.ls[k / 16].map vi) :: Cells p [vi m.length, x.pv, vi m.many] :: Sl x.pv 1 ((x.ps.set (k / 16) (some b)).map optp) :: (PgsBut (k / 16) x.ps x.ls ++ F)) (fun _ => True) (wif_dec (fun hn => ?_) (fun hs => ?_)) (fun b _ => ?_)
      · have hpn : x.ps[k / 16]? = some none := by rw [List.getElem?_eq_getElem h1, hn]
        have hb := hx.blank (k / 16) hpn
        rw [hlg] at hb
        rw [Option.some.inj hb, PgsBut.blank hpn h2]
        refine walk ?_
        intro b
        refine walk ?_
        refine wq_meet _ _ _ b trivial envs ?_
        rw [List.map_set]
        exact Ent.swap.trans (Ent.skip Ent.swap)
      · cases hp : x.ps[k / 16] with
        | none => exact absurd hp hs
        | some b =>
          have hpg : x.ps[k / 16]? = some (some b) := by rw [List.getElem?_eq_getElem h1, hp]
          refine walk ?_
          refine wq_meet _ _ _ b trivial envs ?_
          have e : x.ps.set (k / 16) (some b) = x.ps := by rw [← hp, List.set_getElem_self]
          rw [e]
          exact (Ent.skip (Ent.skip (Pgs.take hpg hlg))).trans ((Ent.skip Ent.swap).trans Ent.swap)
      refine walk ?_
      refine wif_dec (fun ho => absurd ho hq0) (fun ho => ?_)
      rw [if_pos (show 0 ≤ m[k] by omega), if_neg (show ¬ 0 ≤ max place (-1) by omega)] at hms
      refine walk ?_
      refine wif_dec (fun hpn => ?_) (fun hpn => absurd hp0 hpn)
      refine walk ?_
      rw [show Lm.many m - 1 = Lm.many (m.set k (max place (-1))) by omega]
      clear hms hboth
      have hml2 : ((x.ps.set (k / 16) (some b)).map optp).length = x.ps.length := by simp
      refine walk ?_
      rw [show ((k : Int) / 16).toNat = k / 16 by omega]
      refine wl_y (yl_loadx (u := vp b) rfl (by rw [List.getElem?_map, List.getElem?_set_self h1]; rfl)) rfl ?_
      refine walk ?_
      rw [show (k : Int) % 16 = ((k % 16 : Nat) : Int) by omega]
      refine wl_y (yl_indexA1 (m := 16) rfl rfl (Nat.mod_lt _ (by decide))) rfl ?_
      refine wl_store (cs := x.ls[k / 16].map vi) (v := vi (max place (-1) + 1)) rfl rfl rfl (by simp; omega) ?_
      refine walk ?_
      refine wq_ret1 rfl rfl () rfl trivial ?_
      rw [Nat.zero_add, ← List.map_set (f := vi) (a := max place (-1) + 1)]
      have hsh := MapAt.shut (p := p) (Γ := F) _ (hx.set hk (q := max place (-1)) (by omega) (pv := x.pv) (b := b) (l := x.ls[k / 16]) (by simp [List.getD, h2]))
      dsimp only [MParts] at hsh
      rw [List.length_set] at hsh
      exact ((Ent.swap.trans (Ent.skip Ent.swap)).trans (Ent.skip (Ent.skip (Pgs.put _ h1 h2)))).trans hsh
    · have hboth : ¬ (place < 0 ∧ m[k] < 0) := fun h => hp0 h.1
      refine walk ?_
      refine wl_y (yl_eqopt rfl rfl) rfl ?_
      refine walk ?_
      refine wif_meet (X := Nat) (fun _ => [(0, vp p), (1, vi k), (2, vi place), (7, vi m[k])]) (fun b => Cells b (x.ls[k / 16].map vi) :: Cells p [vi m.length, x.pv, vi m.many] :: Sl x.pv 1 ((x.ps.set (k / 16) (some b)).map optp) :: (PgsBut (k / 16) x.ps x.ls ++ F)) (fun _ => True) (wif_dec (fun hn => ?_) (fun hs => ?_)) (fun b _ => ?_)
      · have hpn : x.ps[k / 16]? = some none := by rw [List.getElem?_eq_getElem h1, hn]
        have hb := hx.blank (k / 16) hpn
        rw [hlg] at hb
        rw [Option.some.inj hb, PgsBut.blank hpn h2]
        refine walk ?_
        intro b
        refine walk ?_
        refine wq_meet _ _ _ b trivial envs ?_
        rw [List.map_set]
        exact Ent.swap.trans (Ent.skip Ent.swap)
      · cases hp : x.ps[k / 16] with
        | none => exact absurd hp hs
        | some b =>
          have hpg : x.ps[k / 16]? = some (some b) := by rw [List.getElem?_eq_getElem h1, hp]
          refine walk ?_
          refine wq_meet _ _ _ b trivial envs ?_
          have e : x.ps.set (k / 16) (some b) = x.ps := by rw [← hp, List.set_getElem_self]
          rw [e]
          exact (Ent.skip (Ent.skip (Pgs.take hpg hlg))).trans ((Ent.skip Ent.swap).trans Ent.swap)
      refine walk ?_
      refine wif_dec (fun ho => ?_) (fun ho => ?_)
      · rw [if_neg (show ¬ 0 ≤ m[k] by omega), if_pos (show 0 ≤ max place (-1) by omega)] at hms
        refine walk ?_
        rw [show Lm.many m + 1 = Lm.many (m.set k (max place (-1))) by omega]
        clear hms hboth
        have hml2 : ((x.ps.set (k / 16) (some b)).map optp).length = x.ps.length := by simp
        refine walk ?_
        rw [show ((k : Int) / 16).toNat = k / 16 by omega]
        refine wl_y (yl_loadx (u := vp b) rfl (by rw [List.getElem?_map, List.getElem?_set_self h1]; rfl)) rfl ?_
        refine walk ?_
        rw [show (k : Int) % 16 = ((k % 16 : Nat) : Int) by omega]
        refine wl_y (yl_indexA1 (m := 16) rfl rfl (Nat.mod_lt _ (by decide))) rfl ?_
        refine wl_store (cs := x.ls[k / 16].map vi) (v := vi (max place (-1) + 1)) rfl rfl rfl (by simp; omega) ?_
        refine walk ?_
        refine wq_ret1 rfl rfl () rfl trivial ?_
        rw [Nat.zero_add, ← List.map_set (f := vi) (a := max place (-1) + 1)]
        have hsh := MapAt.shut (p := p) (Γ := F) _ (hx.set hk (q := max place (-1)) (by omega) (pv := x.pv) (b := b) (l := x.ls[k / 16]) (by simp [List.getD, h2]))
        dsimp only [MParts] at hsh
        rw [List.length_set] at hsh
        exact ((Ent.swap.trans (Ent.skip Ent.swap)).trans (Ent.skip (Ent.skip (Pgs.put _ h1 h2)))).trans hsh
      · rw [if_pos (show 0 ≤ m[k] by omega), if_pos (show 0 ≤ max place (-1) by omega)] at hms
        refine walk ?_
        refine wif_dec (fun hpn => absurd hpn hp0) (fun hpn => ?_)
        rw [show Lm.many m = Lm.many (m.set k (max place (-1))) by omega]
        clear hms hboth
        have hml2 : ((x.ps.set (k / 16) (some b)).map optp).length = x.ps.length := by simp
        refine walk ?_
        rw [show ((k : Int) / 16).toNat = k / 16 by omega]
        refine wl_y (yl_loadx (u := vp b) rfl (by rw [List.getElem?_map, List.getElem?_set_self h1]; rfl)) rfl ?_
        refine walk ?_
        rw [show (k : Int) % 16 = ((k % 16 : Nat) : Int) by omega]
        refine wl_y (yl_indexA1 (m := 16) rfl rfl (Nat.mod_lt _ (by decide))) rfl ?_
        refine wl_store (cs := x.ls[k / 16].map vi) (v := vi (max place (-1) + 1)) rfl rfl rfl (by simp; omega) ?_
        refine walk ?_
        refine wq_ret1 rfl rfl () rfl trivial ?_
        rw [Nat.zero_add, ← List.map_set (f := vi) (a := max place (-1) + 1)]
        have hsh := MapAt.shut (p := p) (Γ := F) _ (hx.set hk (q := max place (-1)) (by omega) (pv := x.pv) (b := b) (l := x.ls[k / 16]) (by simp [List.getD, h2]))
        dsimp only [MParts] at hsh
        rw [List.length_set] at hsh
        exact ((Ent.swap.trans (Ent.skip Ent.swap)).trans (Ent.skip (Ent.skip (Pgs.put _ h1 h2)))).trans hsh
  · have hlook : m.look lba = -1 := by unfold Lm.look Lm.has; rw [if_neg (by simpa using hin)]
    have hput : m.put lba place = m := by unfold Lm.put Lm.has; rw [if_neg (by simpa using hin)]
    rw [hlook, hput]
    (first | refine WC.ex (fun y => MapAt.opened) (fun x hx => ?_) | refine WL.ex (fun y => MapAt.opened) (fun x hx => ?_) | refine WQ.ex (fun y => MapAt.opened) (fun x hx => ?_))
    refine walk ?_
    refine wif_dec (fun hz => ?_) (fun hz => ?_)
    · refine walk ?_
      (repeat (refine wl_guard_un rfl rfl rfl rfl ?_))
      refine walk ?_
      exact wq_ret1 rfl rfl () rfl trivial (MapAt.shut x hx)
    · refine walk ?_
      refine wif_dec (fun _ => ?_) (fun hz => absurd hz (by omega))
      refine walk ?_
      (repeat (refine wl_guard_un rfl rfl rfl rfl ?_))
      refine walk ?_
      exact wq_ret1 rfl rfl () rfl trivial (MapAt.shut x hx)
theorem fresh_fits (n : Nat) (pv : Value) : MFits ⟨pv, List.replicate ((n + 15) / 16) none, List.replicate ((n + 15) / 16) (List.replicate 16 0)⟩ (List.replicate n (-1)) := by
  refine ⟨by simp, by simp, fun l hl => by rw [List.eq_of_mem_replicate hl]; simp, fun j hj => ?_, fun i hi => ?_, fun q hq => by rw [List.eq_of_mem_replicate hq]; decide⟩
  · rw [List.getElem?_replicate] at hj ⊢
    split at hj
    · rename_i h; rw [if_pos h]
    · cases hj
  · rw [List.length_replicate] at hi
    have h1 : i / 16 < (n + 15) / 16 := by omega
    have h2 : i % 16 < 16 := Nat.mod_lt _ (by decide)
    rw [List.getElem_replicate]
    simp only [List.getD, List.getElem?_replicate, if_pos h1, Option.getD_some, if_pos h2]
    decide
theorem pgs_none (ls : List (List Int)) : Pgs (List.replicate ls.length none) ls = [] := by
  induction ls with
  | nil => rfl
  | cons l ls ih => exact ih
theorem mnew_spec (n : Nat) (hn : n ≤ 1048576) :
    Spec0 Tryz.prog 100 [vi n] (fun _ => True) (fun F => F) (fun _ : Nat => True) (fun p => vp p) (fun p F => MapAt p (List.replicate n (-1)) :: F) := by
  (refine spec_of Tryz.func100 rfl Tryz.ntmps100 rfl (fun F w0 hrd => ?_))
  refine walk ?_
  rw [show min (max (n : Int) 0) 1048576 = n by omega]
  refine walk ?_
  intro v _ _
  rw [show (((n : Int) + 16 - 1) / 16).toNat = (n + 15) / 16 by omega]
  have hz : (List.replicate ((n + 15) / 16) (Array.toList (Value.cells (Value.pointer none)))).flatten = (List.replicate ((n + 15) / 16) none).map optp := by
    rw [List.map_replicate]
    induction (n + 15) / 16 with
    | zero => rfl
    | succ j ih => rw [List.replicate_succ, List.flatten_cons, ih]; rfl
  (try rw [hz])
  refine walk ?_
  intro p
  refine walk ?_
  refine wq_ret1 rfl rfl p rfl trivial ?_
  have hsh := MapAt.shut (p := p) (Γ := F) _ (fresh_fits n v)
  dsimp only [MParts] at hsh
  have hpn := pgs_none (List.replicate ((n + 15) / 16) (List.replicate 16 (0 : Int)))
  rw [List.length_replicate] at hpn
  rw [hpn, List.length_replicate, List.map_replicate, show Lm.many (List.replicate n (-1)) = 0 from by unfold Lm.many; rw [List.filter_replicate]; rfl] at hsh
  exact hsh
theorem mall_spec (p : Nat) (m : Lm) (hm : m.length ≤ 1048576) (hbig : ∀ (k : Nat) (h : k < m.length), m[k] ≤ 1099511627776) :
    Spec0 Tryz.prog 44 [vp p] (fun _ => True) (fun F => MapAt p m :: F) (fun _ : Value => True) (fun r => r) (fun r F => Sl r 1 (m.map vi) :: MapAt p m :: F) := by
  (refine spec_of Tryz.func44 rfl Tryz.ntmps44 rfl (fun F w0 hrd => ?_))
  (first | refine WC.ex (fun y => MapAt.opened) (fun x hx => ?_) | refine WL.ex (fun y => MapAt.opened) (fun x hx => ?_) | refine WQ.ex (fun y => MapAt.opened) (fun x hx => ?_))
  refine walk ?_
  refine WC.ent (MapAt.shut x hx) ?_
  refine wc_loop (X := Nat × Value) (fun y => [(0, vp p), (3, y.2), (8, vi m.length), (9, vi y.1)]) (fun y => Sl y.2 1 ((m.take y.1).map vi) :: MapAt p m :: F) (fun y => y.1 ≤ m.length) (fun y => m.length - y.1) (0, .slice none 0 0) (Nat.zero_le _) envs (by dsimp only; rw [List.take_zero]; exact sl_nil 1) (fun y hk => ?_)
  obtain ⟨k, v⟩ := y
  dsimp only at hk ⊢
  have hl : ((m.take k).map vi).length = k := by simp; omega
  refine walk ?_
  refine wif_dec (fun hlt => ?_) (fun hlt => ?_)
  · have hlt : k < m.length := by omega
    have hlook : m.look (k : Int) = m[k] := by unfold Lm.look Lm.has; rw [if_pos (by simp; omega)]; simp [List.getD, hlt]
    refine walk ?_
    refine call (mget_spec p m k hm hbig) ?_
    intro _ _
    rw [hlook]
    refine walk ?_
    intro s1 _ _
    refine walk ?_
    intro s2 _ _
    refine walk ?_
    refine wq_round (k + 1, s2) (by dsimp only; omega) (by dsimp only; omega) envs ?_
    dsimp only
    rw [List.take_add_one, List.getElem?_eq_getElem hlt, Option.toList_some, List.map_append, List.map_singleton]
    exact perm
  · obtain rfl : k = m.length := by omega
    rw [List.take_length]
    refine walk ?_
    exact wq_ret1 rfl rfl v rfl trivial perm
end Go.Proofs.YtohienhoifgmaaaGreat
end
