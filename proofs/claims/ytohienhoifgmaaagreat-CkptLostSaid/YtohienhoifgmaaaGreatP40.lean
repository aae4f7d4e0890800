/- A log, as the program has it: a stripe stays. -/
import Derived.Test.YtohienhoifgmaaaGreatP38
import Derived.Test.YtohienhoifgmaaaGreatP39

namespace Go.Proofs.YtohienhoifgmaaaGreat
open Go Go.Sl
attribute [local irreducible] Yl WL WC WQ WD
theorem Lsm.put {K : GK} {g : Lg} (h : Lsm K g) (lba place : Int) (hp : place ≤ 1099511627776) : Lsm K (g.put lba place) := by
  have hk := put_kept g lba place
  refine ⟨by rw [hk.sh, h.sh], h.ok, h.seg, h.idx, ?_, ?_, fun j hj => ?_⟩
  · unfold Lg.put
    dsimp only
    have := h.tbl
    split <;> split <;> (try simp only [live_len]) <;> exact this
  · show (g.map.put lba place).length ≤ _
    rw [Lm.put_length]; exact h.map
  · show (g.map.put lba place)[j] ≤ _
    have hj' : j < g.map.length := by have := hj; change j < (g.map.put lba place).length at this; rwa [Lm.put_length] at this
    have hx : ∀ (l : Lm) (e : l = g.map.put lba place) (h1 : j < l.length), l[j] ≤ 1099511627776 := by
      intro l e h1
      unfold Lm.put at e
      split at e
      · subst e
        rw [List.getElem_set]
        split
        · omega
        · exact h.big j hj'
      · subst e
        exact h.big j hj'
    exact hx _ rfl _
theorem puts_cons (at_ : Int) (e : Entry) (l : List Entry) (slot : Int) (g : Lg) : Lg.puts at_ (e :: l) slot g = Lg.puts at_ l (slot + 1) (if e.kind = 1 ∨ e.kind = 3 then g.put e.lba (at_ * g.sh.slots + slot) else if e.kind = 2 then g.put e.lba (-1) else g) := rfl
theorem ent_len (l : List Entry) : (l.flatMap entCells).length = 2 * l.length := by
  induction l with
  | nil => rfl
  | cons a l ih => rw [List.flatMap_cons, List.length_append, ih]; simp; omega
instance : FLen entCells 2 := ⟨fun _ => rfl⟩
set_option maxHeartbeats 4000000 in
theorem lapply_spec (K : GK) (g : Lg) (h : Lsm K g) (hs : 0 ≤ g.stripe ∧ g.stripe ≤ 1048576) (x : Note) (sv : Value) (hx : x.slots.length ≤ 1024) (_hseq : x.seq < 2 ^ 64) :
    Spec0 Tryz.prog 86 [vp K.lp, .agg #[.int .u64 x.seq, vi x.next, sv]] (Rd sv 2 (x.slots.flatMap entCells)) (fun F => LogB K g F) (fun _ : Unit => True) (fun _ => .tuple #[]) (fun _ F => LogB K (g.apply x) F) := by
  (refine spec_of Tryz.func86 rfl Tryz.ntmps86 rfl (fun F w0 hrd => ?_))
  haveI : RdIn F sv 2 (x.slots.flatMap entCells) := ⟨hrd⟩
  have hsh := h.sh
  have hl2 := ent_len x.slots
  have hsl := (bounds h.ok).slots
  have hsg := h.ok.segments
  refine walk ?_
  intro b
  refine walk ?_
  (refine draw ?_; refine dy 0 ?_; refine ddo 1 ?_)
  refine call (llast_spec K g h) ?_
  intro _ _
  cases hl : g.last with
  | false =>
    have hgo : ¬ (g.last = true ∧ (x.next < 0 ∨ x.next ≥ K.k.sh.segments)) := fun hz => by rw [hl] at hz; exact absurd hz.1 (by decide)
    (refine walk ?_; refine dy 2 ?_; refine dn 3 ?_; refine dn 4 ?_; refine dn 5 ?_; refine dn 6 ?_; refine du 7 ?_; refine du 8 ?_; refine du 9 ?_; refine du 10 ?_; refine du 11 ?_; refine du 12 ?_; refine du 13 ?_; refine du 14 ?_; refine dn 15 ?_; refine dy 16 ?_; refine walk ?_)
    refine walk ?_
    have happ : g.apply x = (if g.last = true then { Lg.puts g.stripe x.slots 0 g with tbl := ((Lg.puts g.stripe x.slots 0 g).tbl.seal_ g.seg x.seq).open_ x.next, seg := x.next, idx := 0 } else { Lg.puts g.stripe x.slots 0 g with idx := g.idx + 1 }) := by
      unfold Lg.apply
      rw [if_neg (by rw [hsh]; exact hgo)]
    refine walk ?_
    refine call (lstripe_spec K g h) ?_
    intro _ _
    refine walk ?_
    refine wc_loop (X := Nat × Lg) (fun y => [(0, vp K.lp), (3, vp b), (4, vi g.stripe), (27, sv), (28, vi x.slots.length), (29, vi y.1)]) (fun y => LogB K y.2 (Cells b [.int .u64 x.seq, vi x.next, sv] :: F))
      (fun y => y.1 ≤ x.slots.length ∧ Lsm K y.2 ∧ Kept g y.2 ∧ Lg.puts g.stripe (x.slots.drop y.1) y.1 y.2 = Lg.puts g.stripe x.slots 0 g) (fun y => x.slots.length - y.1) (0, g) ⟨Nat.zero_le _, h, Kept.refl g, rfl⟩ envs perm (fun y hy => ?_)
    obtain ⟨i, g'⟩ := y
    dsimp only at hy ⊢
    obtain ⟨hi, hsm, hkp, hrem⟩ := hy
    refine walk ?_
    refine wif_dec (fun hlt => ?_) (fun hlt => ?_)
    · have hlt : i < x.slots.length := by omega
      rw [List.drop_eq_getElem_cons hlt, puts_cons, hsm.sh, show (i : Int) + 1 = ((i + 1 : Nat) : Int) by omega] at hrem
      have hpb : 0 ≤ g.stripe * K.k.sh.slots ∧ g.stripe * K.k.sh.slots ≤ 1048576 * 14 := ⟨Int.mul_nonneg hs.1 (by omega), Int.mul_le_mul hs.2 hsl.2 (by omega) (by omega)⟩
      refine walk ?_
      intro c6
      generalize x.slots[i] = e at hrem ⊢
      obtain ⟨kd, lba⟩ := e
      dsimp only [entCells] at hrem ⊢
      refine walk ?_
      refine wif_dec (fun h1 => ?_) (fun h1 => ?_)
      · rw [if_pos (.inl h1)] at hrem
        refine walk ?_
        refine wif_dec (fun _ => ?_) (fun hz => absurd h1 hz)
        (refine draw ?_; refine dy 0 ?_; refine dy 1 ?_; refine dy 2 ?_; refine dy 3 ?_; refine dy 4 ?_; refine dy 5 ?_; refine dy 6 ?_; refine dy 7 ?_; refine dy 8 ?_; refine ddo 9 ?_)
        refine call (place_spec K.k.sh h.ok g.stripe i hs (by omega)) ?_
        intro _ _
        (refine walk ?_; refine ddo 10 ?_)
        refine call (lput_spec K g' hsm lba (g.stripe * K.k.sh.slots + i) (by omega)) ?_
        intro _ _
        refine walk ?_
        refine wq_round (i + 1, g'.put lba (g.stripe * K.k.sh.slots + i)) ⟨by dsimp only; omega, hsm.put _ _ (by omega), hkp.trans (put_kept _ _ _), hrem⟩ (by dsimp only; omega) envs (show Ent _ (LCells K g'.seg g'.idx :: MapAt K.mp (g'.put _ _).map :: TblAt K.tp (g'.put _ _).tbl :: Cells b [.int .u64 x.seq, vi x.next, sv] :: F) from perm)
      · refine walk ?_
        refine wif_dec (fun h3 => ?_) (fun h3 => ?_)
        · rw [if_pos (.inr h3)] at hrem
          refine walk ?_
          (refine draw ?_; refine dy 0 ?_; refine dy 1 ?_; refine dy 2 ?_; refine dy 3 ?_; refine dy 4 ?_; refine dy 5 ?_; refine dy 6 ?_; refine dy 7 ?_; refine dy 8 ?_; refine ddo 9 ?_)
          refine call (place_spec K.k.sh h.ok g.stripe i hs (by omega)) ?_
          intro _ _
          (refine walk ?_; refine ddo 10 ?_)
          refine call (lput_spec K g' hsm lba (g.stripe * K.k.sh.slots + i) (by omega)) ?_
          intro _ _
          refine walk ?_
          refine wq_round (i + 1, g'.put lba (g.stripe * K.k.sh.slots + i)) ⟨by dsimp only; omega, hsm.put _ _ (by omega), hkp.trans (put_kept _ _ _), hrem⟩ (by dsimp only; omega) envs (show Ent _ (LCells K g'.seg g'.idx :: MapAt K.mp (g'.put _ _).map :: TblAt K.tp (g'.put _ _).tbl :: Cells b [.int .u64 x.seq, vi x.next, sv] :: F) from perm)
        · rw [if_neg (by omega)] at hrem
          refine walk ?_
          refine wif_dec (fun h2 => ?_) (fun h2 => ?_)
          · rw [if_pos h2] at hrem
            refine walk ?_
            refine call (lput_spec K g' hsm lba (-1) (by omega)) ?_
            intro _ _
            refine walk ?_
            refine wq_round (i + 1, g'.put lba (-1)) ⟨by dsimp only; omega, hsm.put _ _ (by omega), hkp.trans (put_kept _ _ _), hrem⟩ (by dsimp only; omega) envs (show Ent _ (LCells K g'.seg g'.idx :: MapAt K.mp (g'.put _ _).map :: TblAt K.tp (g'.put _ _).tbl :: Cells b [.int .u64 x.seq, vi x.next, sv] :: F) from perm)
          · rw [if_neg h2] at hrem
            refine walk ?_
            refine wq_round (i + 1, g') ⟨by dsimp only; omega, hsm, hkp, hrem⟩ (by dsimp only; omega) envs perm
    obtain rfl : i = x.slots.length := by omega
    rw [List.drop_length] at hrem
    have hrem : g' = Lg.puts g.stripe x.slots 0 g := hrem
    have hlast' : g'.last = g.last := by unfold Lg.last; rw [hkp.idx, hkp.sh]
    rw [← hrem] at happ
    have ht' := hsm.tbl
    have hii := h.idx
    refine walk ?_
    refine call (llast_spec K g' hsm) ?_
    intro _ _
    rw [hlast', hl]
    have hidx := hkp.idx
    rw [hl, if_neg (by decide)] at happ
    refine walk ?_
    refine wq_ret0 rfl () rfl trivial ?_
    show Ent _ (LogB K (g.apply x) F)
    rw [happ, ← hkp.idx]
    exact perm
  | true =>
    (refine walk ?_; refine dy 2 ?_; refine dg 3 ?_; refine dg 4 ?_; refine dg 5 ?_; refine dg 6 ?_; refine dwhich 13 ?_)
    refine wif_dec (fun hneg => ?_) (fun hneg => ?_)
    · (refine dn 7 ?_; refine dn 8 ?_; refine dn 9 ?_; refine dn 10 ?_; refine dn 11 ?_; refine dn 12 ?_; refine dn 13 ?_; refine dn 14 ?_; refine dg 15 ?_; refine dy 16 ?_)
      refine walk ?_
      have happ : g.apply x = g := by
        unfold Lg.apply
        rw [if_pos ⟨hl, .inl hneg⟩]
      refine wq_ret0 rfl () rfl trivial ?_
      show Ent _ (LogB K (g.apply x) F)
      rw [happ]
      exact perm
    · (refine dg 7 ?_; refine dg 8 ?_; refine dg 9 ?_; refine dg 10 ?_; refine dg 11 ?_; refine dg 12 ?_; refine dg 13 ?_; refine dg 14 ?_; refine dg 15 ?_; refine dy 16 ?_)
      refine walk ?_
      refine wif_dec (fun hge => ?_) (fun hge => ?_)
      · refine walk ?_
        have happ : g.apply x = g := by
          unfold Lg.apply
          rw [if_pos ⟨hl, .inr (by rw [hsh]; exact hge)⟩]
        refine wq_ret0 rfl () rfl trivial ?_
        show Ent _ (LogB K (g.apply x) F)
        rw [happ]
        exact perm
      · have hgo : ¬ (g.last = true ∧ (x.next < 0 ∨ x.next ≥ K.k.sh.segments)) := fun hz => by omega
        have happ : g.apply x = (if g.last = true then { Lg.puts g.stripe x.slots 0 g with tbl := ((Lg.puts g.stripe x.slots 0 g).tbl.seal_ g.seg x.seq).open_ x.next, seg := x.next, idx := 0 } else { Lg.puts g.stripe x.slots 0 g with idx := g.idx + 1 }) := by
          unfold Lg.apply
          rw [if_neg (by rw [hsh]; exact hgo)]
        refine walk ?_
        refine call (lstripe_spec K g h) ?_
        intro _ _
        refine walk ?_
        refine wc_loop (X := Nat × Lg) (fun y => [(0, vp K.lp), (3, vp b), (4, vi g.stripe), (27, sv), (28, vi x.slots.length), (29, vi y.1)]) (fun y => LogB K y.2 (Cells b [.int .u64 x.seq, vi x.next, sv] :: F))
          (fun y => y.1 ≤ x.slots.length ∧ Lsm K y.2 ∧ Kept g y.2 ∧ Lg.puts g.stripe (x.slots.drop y.1) y.1 y.2 = Lg.puts g.stripe x.slots 0 g) (fun y => x.slots.length - y.1) (0, g) ⟨Nat.zero_le _, h, Kept.refl g, rfl⟩ envs perm (fun y hy => ?_)
        obtain ⟨i, g'⟩ := y
        dsimp only at hy ⊢
        obtain ⟨hi, hsm, hkp, hrem⟩ := hy
        refine walk ?_
        refine wif_dec (fun hlt => ?_) (fun hlt => ?_)
        · have hlt : i < x.slots.length := by omega
          rw [List.drop_eq_getElem_cons hlt, puts_cons, hsm.sh, show (i : Int) + 1 = ((i + 1 : Nat) : Int) by omega] at hrem
          have hpb : 0 ≤ g.stripe * K.k.sh.slots ∧ g.stripe * K.k.sh.slots ≤ 1048576 * 14 := ⟨Int.mul_nonneg hs.1 (by omega), Int.mul_le_mul hs.2 hsl.2 (by omega) (by omega)⟩
          refine walk ?_
          intro c6
          generalize x.slots[i] = e at hrem ⊢
          obtain ⟨kd, lba⟩ := e
          dsimp only [entCells] at hrem ⊢
          refine walk ?_
          refine wif_dec (fun h1 => ?_) (fun h1 => ?_)
          · rw [if_pos (.inl h1)] at hrem
            refine walk ?_
            refine wif_dec (fun _ => ?_) (fun hz => absurd h1 hz)
            (refine draw ?_; refine dy 0 ?_; refine dy 1 ?_; refine dy 2 ?_; refine dy 3 ?_; refine dy 4 ?_; refine dy 5 ?_; refine dy 6 ?_; refine dy 7 ?_; refine dy 8 ?_; refine ddo 9 ?_)
            refine call (place_spec K.k.sh h.ok g.stripe i hs (by omega)) ?_
            intro _ _
            (refine walk ?_; refine ddo 10 ?_)
            refine call (lput_spec K g' hsm lba (g.stripe * K.k.sh.slots + i) (by omega)) ?_
            intro _ _
            refine walk ?_
            refine wq_round (i + 1, g'.put lba (g.stripe * K.k.sh.slots + i)) ⟨by dsimp only; omega, hsm.put _ _ (by omega), hkp.trans (put_kept _ _ _), hrem⟩ (by dsimp only; omega) envs (show Ent _ (LCells K g'.seg g'.idx :: MapAt K.mp (g'.put _ _).map :: TblAt K.tp (g'.put _ _).tbl :: Cells b [.int .u64 x.seq, vi x.next, sv] :: F) from perm)
          · refine walk ?_
            refine wif_dec (fun h3 => ?_) (fun h3 => ?_)
            · rw [if_pos (.inr h3)] at hrem
              refine walk ?_
              (refine draw ?_; refine dy 0 ?_; refine dy 1 ?_; refine dy 2 ?_; refine dy 3 ?_; refine dy 4 ?_; refine dy 5 ?_; refine dy 6 ?_; refine dy 7 ?_; refine dy 8 ?_; refine ddo 9 ?_)
              refine call (place_spec K.k.sh h.ok g.stripe i hs (by omega)) ?_
              intro _ _
              (refine walk ?_; refine ddo 10 ?_)
              refine call (lput_spec K g' hsm lba (g.stripe * K.k.sh.slots + i) (by omega)) ?_
              intro _ _
              refine walk ?_
              refine wq_round (i + 1, g'.put lba (g.stripe * K.k.sh.slots + i)) ⟨by dsimp only; omega, hsm.put _ _ (by omega), hkp.trans (put_kept _ _ _), hrem⟩ (by dsimp only; omega) envs (show Ent _ (LCells K g'.seg g'.idx :: MapAt K.mp (g'.put _ _).map :: TblAt K.tp (g'.put _ _).tbl :: Cells b [.int .u64 x.seq, vi x.next, sv] :: F) from perm)
            · rw [if_neg (by omega)] at hrem
              refine walk ?_
              refine wif_dec (fun h2 => ?_) (fun h2 => ?_)
              · rw [if_pos h2] at hrem
                refine walk ?_
                refine call (lput_spec K g' hsm lba (-1) (by omega)) ?_
                intro _ _
                refine walk ?_
                refine wq_round (i + 1, g'.put lba (-1)) ⟨by dsimp only; omega, hsm.put _ _ (by omega), hkp.trans (put_kept _ _ _), hrem⟩ (by dsimp only; omega) envs (show Ent _ (LCells K g'.seg g'.idx :: MapAt K.mp (g'.put _ _).map :: TblAt K.tp (g'.put _ _).tbl :: Cells b [.int .u64 x.seq, vi x.next, sv] :: F) from perm)
              · rw [if_neg h2] at hrem
                refine walk ?_
                refine wq_round (i + 1, g') ⟨by dsimp only; omega, hsm, hkp, hrem⟩ (by dsimp only; omega) envs perm
        obtain rfl : i = x.slots.length := by omega
        rw [List.drop_length] at hrem
        have hrem : g' = Lg.puts g.stripe x.slots 0 g := hrem
        have hlast' : g'.last = g.last := by unfold Lg.last; rw [hkp.idx, hkp.sh]
        rw [← hrem] at happ
        have ht' := hsm.tbl
        have hii := h.idx
        refine walk ?_
        refine call (llast_spec K g' hsm) ?_
        intro _ _
        rw [hlast', hl]
        rw [hl, if_pos rfl] at happ
        refine walk ?_
        (refine draw ?_; refine dy 0 ?_; refine dy 1 ?_; refine dy 2 ?_; refine dy 3 ?_; refine dy 4 ?_; refine dy 5 ?_; refine dy 6 ?_; refine dy 7 ?_; refine dy 8 ?_; refine dy 9 ?_; refine ddo 10 ?_)
        refine call (tseal_spec K.tp g'.tbl g'.seg x.seq ht') ?_
        intro _ _
        refine walk ?_
        (refine draw ?_; refine dy 0 ?_; refine dy 1 ?_; refine dy 2 ?_; refine dy 3 ?_; refine dy 4 ?_; refine dy 5 ?_; refine dy 6 ?_; refine dy 7 ?_; refine ddo 8 ?_)
        refine call (topen_spec K.tp (g'.tbl.seal_ g'.seg x.seq) x.next (by unfold Tbl.seal_; rw [Tbl.upd_length]; exact ht')) ?_
        intro _ _
        refine walk ?_
        refine wq_end0 rfl () rfl trivial ?_
        show Ent _ (LogB K (g.apply x) F)
        rw [happ, ← hkp.seg]
        exact perm
end Go.Proofs.YtohienhoifgmaaaGreat
