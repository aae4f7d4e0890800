/- several texts, one behind the other -/
import Derived.Test.YtohienhoifgmaaaGreatP29

section
/- The first records go into a stripe: the note is made ahead of all else. No program. -/
namespace Go.Sl
open Go
namespace Lg
def dst (g : Lg) : Out Lg Int :=
  match g.batch.getLast? with
  | none => .ok 0 g
  | some e =>
    if g.last = true ∧ g.tbl.first < 0 then .ok 2 g
    else ((aput g.sh g.stripe (chunksB g.sh (g.noteOf g.batch) g.batch) g.rig).lift g.up).bind fun c g1 => if c ≠ 0 then .ok c g1
      else ((ncommit (IntKind.u64.wrap (g.rig.nv.root.durable + 1)) e.seq g1.rig).lift g.up).bind fun _ g2 => .ok 0 (g2.apply (g.noteOf g.batch))
end Lg
theorem wrap64_range (a : Int) : 0 ≤ IntKind.u64.wrap a ∧ IntKind.u64.wrap a ≤ 18446744073709551615 := by
  unfold IntKind.wrap
  simp only [IntKind.signed, IntKind.bits, Bool.false_and, Bool.false_eq_true, if_false]
  omega
/-- a log's numbers, as its law keeps them -/
theorem Tbl.first_range (t : Tbl) : -1 ≤ t.first ∧ t.first < t.length + 1 := by
  rcases Int.lt_or_le t.first 0 with h | h
  · unfold Tbl.first at h ⊢
    cases hf : t.findIdx? (fun s => decide (s.state = 0)) with
    | none => simp; omega
    | some i => rw [hf] at h; simp at h; omega
  · have := Tbl.first_spec h; omega
theorem Lg.Inv.big {g : Lg} (hi : g.Inv) : ∀ (j : Nat) (h : j < g.map.length), g.map[j] ≤ 1099511627776 := fun j h => by
  have h1 := hi.places _ (List.getElem_mem h)
  have hm := hi.shok.members
  have hs := hi.shok.stripes
  have hg := hi.shok.segments
  have h2 : g.sh.all ≤ 64 * 16 := Int.mul_le_mul hg.2 hs.2 (by omega) (by omega)
  have h3 : g.sh.slots ≤ 14 := by unfold Shp.slots; omega
  have h4 : 0 ≤ g.sh.all := Int.mul_nonneg (by omega) (by omega)
  have h5 : g.sh.all * g.sh.slots ≤ 64 * 16 * 14 := Int.mul_le_mul h2 h3 (by unfold Shp.slots; omega) (by omega)
  omega
theorem Lg.Inv.note {g : Lg} (hi : g.Inv) : (g.noteOf g.batch).Fits ∧ (g.noteOf g.batch).slots.length = g.sh.slots.toNat := by
  have hsl : 0 ≤ g.sh.slots := by have := hi.shok.members; unfold Shp.slots; omega
  have hw := wrap64_range (g.rig.nv.root.durable + 1)
  have hfr := Tbl.first_range g.tbl
  have htl := hi.tlen
  have hg := hi.shok.segments
  have hlo := hi.shok.logical
  have hmost : g.sh.most ≤ 61 * 15 * 14 := by
    have hs := hi.shok.stripes
    have hm := hi.shok.members
    have m1 : (g.sh.segments - 3) * (g.sh.stripes - 1) ≤ 61 * 15 := Int.mul_le_mul (by omega) (by omega) (by omega) (by omega)
    exact Int.mul_le_mul m1 (by unfold Shp.slots; omega) (by unfold Shp.slots; omega) (by omega)
  have hbl := Lg.batch_len hsl
  refine ⟨⟨?_, ?_, ?_⟩, ?_⟩
  · show (IntKind.u64.wrap (g.rig.nv.root.durable + 1)).toNat < 2 ^ 64
    omega
  · show -1 ≤ (if g.last = true then g.tbl.first else -1) ∧ (if g.last = true then g.tbl.first else -1) < 65535
    split <;> omega
  · intro e he
    rcases List.mem_append.1 he with he | he
    · obtain ⟨r, hr, rfl⟩ := List.mem_map.1 he
      have h1 := hi.recs r (Lg.batch_sub hr)
      have h2 := h1.kind
      have h3 := h1.lba
      refine ⟨⟨?_, ?_⟩, ⟨?_, ?_⟩, .inl ?_⟩ <;> show _ <;> dsimp only [Lg.entry] <;> omega
    · rw [(List.mem_replicate.1 he).2]
      exact ⟨⟨by decide, by decide⟩, ⟨by decide, by decide⟩, .inr rfl⟩
  · show (g.batch.map Lg.entry ++ List.replicate (g.sh.slots.toNat - g.batch.length) _).length = _
    rw [List.length_append, List.length_map, List.length_replicate]
    omega
theorem Lg.Inv.chunks {g : Lg} (hi : g.Inv) : Chunks g.sh (Lg.chunksB g.sh (g.noteOf g.batch) g.batch) := by
  have hm := hi.shok.members
  have hb := hi.shok.block
  have hn := hi.shok.note
  have hl := hi.note.2
  refine ⟨?_, ?_⟩
  · unfold Lg.chunksB
    rw [List.length_cons, List.length_map, List.length_range]
    unfold Shp.slots at *; omega
  · intro b hb'
    unfold Lg.chunksB at hb'
    rcases List.mem_cons.1 hb' with rfl | h
    · unfold Note.enc
      rw [padTo_length]
      · omega
      · rw [seal_length, Note.bytes_length, hl]
        unfold Shp.note at hn; unfold Shp.slots at hn ⊢; omega
    · obtain ⟨i, _, rfl⟩ := List.mem_map.1 h
      unfold Lg.blockB
      rw [padTo_length]
      · omega
      · rw [List.length_take]; omega
theorem Lg.apply_rig (g : Lg) (x : Note) : (g.apply x).rig = g.rig := by
  unfold Lg.apply
  have := (puts_kept g.stripe x.slots 0 g).rig
  split
  · rfl
  · dsimp only
    split <;> exact this
end Go.Sl
end

section
/- A book's numbers are small; the image of a log fits its pages. No program. -/
namespace Go.Sl
open Go
structure Bok.Fair (b : Bok) : Prop where
  state : ∀ x ∈ b.state, 0 ≤ x ∧ x ≤ 2
  born : ∀ x ∈ b.born, 0 ≤ x ∧ x ≤ 18446744073709551615
  durable : 0 ≤ b.durable ∧ b.durable ≤ 18446744073709551615
theorem Bok.Fair.empty (s : Shp) : (Bok.empty s).Fair := by
  refine ⟨fun x hx => ?_, fun x hx => ?_, by show (0 : Int) ≤ 0 ∧ (0 : Int) ≤ 18446744073709551615; decide⟩
  · rcases List.mem_or_eq_of_mem_set hx with h | rfl
    · rw [(List.mem_replicate.1 h).2]; decide
    · decide
  · rw [(List.mem_replicate.1 hx).2]; decide
theorem Bok.Fair.append {b : Bok} (h : b.Fair) (k lba : Int) (d : Bytes) : (b.append k lba d).2.Fair := by
  unfold Bok.append
  split
  · exact h
  · exact ⟨h.state, h.born, h.durable⟩
theorem Bok.Fair.destage {b : Bok} (h : b.Fair) : b.destage.2.Fair := by
  unfold Bok.destage
  have hw := wrap64_range (b.durable + 1)
  split
  · exact h
  · split
    · exact h
    · dsimp only
      split
      · refine ⟨fun x hx => ?_, fun x hx => ?_, hw⟩
        · rcases List.mem_or_eq_of_mem_set hx with h1 | rfl
          · rcases List.mem_or_eq_of_mem_set h1 with h2 | rfl
            · exact h.state x h2
            · decide
          · decide
        · rcases List.mem_or_eq_of_mem_set hx with h1 | rfl
          · exact h.born x h1
          · exact hw
      · exact ⟨h.state, h.born, hw⟩
theorem Bok.Fair.free {b : Bok} (h : b.Fair) : b.free.Fair := by
  refine ⟨fun x hx => ?_, fun x hx => ?_, h.durable⟩
  · obtain ⟨i, hi, rfl⟩ := List.mem_mapIdx.1 hx
    split
    · decide
    · exact h.state _ (List.getElem_mem _)
  · obtain ⟨i, hi, rfl⟩ := List.mem_mapIdx.1 hx
    split
    · decide
    · exact h.born _ (List.getElem_mem _)
theorem Rel.fits {b : Bok} {g : Lg} (h : Rel b g) (hi : g.Inv) (hf : b.Fair) : g.image.Fits g.sh.segments.toNat g.sh.stripes.toNat g.sh.logical.toNat (g.sh.all * g.sh.slots).toNat := by
  have h1 := hi.seg
  have h2 := hi.idx
  have h3 := hi.tlen
  have h4 := hi.len
  have h5 := hf.durable
  rw [h.durable] at h5
  refine ⟨?_, ?_, ?_, ?_, ?_, ?_, ?_⟩
  · show g.rig.nv.root.durable.toNat < 2 ^ 64
    omega
  · show -1 ≤ g.seg ∧ g.seg < _
    omega
  · show 0 ≤ g.idx ∧ g.idx < _
    omega
  · show (g.tbl.map _).length = _
    rw [List.length_map]; omega
  · intro e he
    obtain ⟨s, hs, rfl⟩ := List.mem_map.1 he
    have h6 := hf.state s.state (by rw [h.state]; exact List.mem_map.2 ⟨s, hs, rfl⟩)
    have h7 := hf.born s.born (by rw [h.born]; exact List.mem_map.2 ⟨s, hs, rfl⟩)
    split
    · exact ⟨⟨by decide, by decide⟩, by decide⟩
    · exact ⟨h6, by show s.born.toNat < 2 ^ 64; omega⟩
  · show g.map.length = _
    omega
  · intro p hp
    have h6 := hi.places p hp
    have h7 := hi.map p hp
    omega
end Go.Sl
end
