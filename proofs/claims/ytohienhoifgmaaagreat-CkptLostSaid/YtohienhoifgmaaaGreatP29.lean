/- several texts, one behind the other -/
import Derived.Test.YtohienhoifgmaaaGreatP28

section
/- Checkpoints in plain Lean: written, read again; whatever one member does. No program. -/
namespace Go.Sl
open Go

def Shp.pageAt (s : Shp) (reg i : Int) : Int := 1 + reg * s.pages + i
/-- at most one member, m, fails; it alone may not be current -/
structure Good (m : Nat) (r : Rig) : Prop where
  limit : r.pow.limit = -1
  broken : r.broken = false
  stale : r.stale = -1 ∨ r.stale = m
  live : ∀ i, i ≠ m → i < r.ds.length → Live (r.at i)
/-- nothing fails -/
structure Calm (r : Rig) : Prop where
  limit : r.pow.limit = -1
  broken : r.broken = false
  stale : r.stale = -1
  live : ∀ i, i < r.ds.length → Live (r.at i)
theorem Calm.good {r : Rig} (h : Calm r) (m : Nat) : Good m r := ⟨h.limit, h.broken, .inl h.stale, fun i _ => h.live i⟩
theorem Calm.tr {S : Nat → Int → Prop} {r r' : Rig} (h : Calm r) (t : Tr0 S r r') : Calm r' := by
  refine ⟨t.limit.trans h.limit, ?_, ?_, fun i hi => t.live i (h.live i (by rw [← t.len]; exact hi))⟩
  · cases hb : r'.broken with
    | false => rfl
    | true =>
      rcases t.broken hb with h1 | ⟨m, hm, h1, _⟩
      · rw [h.broken] at h1; cases h1
      · exact absurd (h.live m hm) h1
  · rcases t.stale with h1 | ⟨_, m, hm, _, h1⟩
    · exact h1.trans h.stale
    · exact absurd (h.live m hm) h1
theorem Good.tr {m : Nat} {S : Nat → Int → Prop} {r r' : Rig} (h : Good m r) (t : Tr0 S r r') : Good m r' := by
  have hst : r'.stale = -1 ∨ r'.stale = m := by
    rcases t.stale with h1 | ⟨_, k, hk, h2, h1⟩
    · rw [h1]; exact h.stale
    · by_cases e : k = m
      · subst e; exact .inr h2
      · exact absurd (h.live k e hk) h1
  refine ⟨t.limit.trans h.limit, ?_, hst, fun i hi hl => t.live i (h.live i hi (by rw [← t.len]; exact hl))⟩
  cases hb : r'.broken with
  | false => rfl
  | true =>
    rcases t.broken hb with h1 | ⟨k, hk, h1, h2, h3⟩
    · rw [h.broken] at h1; cases h1
    · by_cases e : k = m
      · subst e
        rcases hst with h4 | h4
        · exact absurd h4 h3
        · exact absurd h4.symm h2
      · exact absurd (h.live k e hk) h1
theorem Good.nobreak {m : Nat} {S : Nat → Int → Prop} {r r' : Rig} (h : Good m r) (t : Tr0 S r r') : ¬ r'.broken = true := by rw [(h.tr t).broken]; decide

/-- sectors of a region's pages -/
def SP (s : Shp) (reg : Int) : Nat → Int → Prop := fun _ q => s.pageAt reg 0 ≤ q ∧ q < s.pageAt reg s.pages
/-- each member that is current has a region's pages -/
def Paged (s : Shp) (r : Rig) (reg : Int) (l : List Bytes) : Prop := ∀ k (hk : k < l.length), ∀ i, i < r.ds.length → (i : Int) ≠ r.stale → Firm (r.at i) (s.pageAt reg k) l[k]
theorem Paged.tr {s : Shp} {r r' : Rig} {reg : Int} {l : List Bytes} (h : Paged s r reg l) {S : Nat → Int → Prop} (t : Tr0 S r r') (hS : ∀ i k, 0 ≤ k → k < l.length → ¬ S i (s.pageAt reg k)) : Paged s r' reg l := fun k hk i hi hn =>
  t.firm i _ _ (hS i k (by omega) (by omega)) (h k hk i (by rw [← t.len]; exact hi) (t.stale_ne hn))
def putPages (s : Shp) (reg : Int) (l : List Bytes) (r : Rig) : Out Rig Int := each (fun (x : Bytes × Nat) => aputSame s (s.pageAt reg x.2) x.1) l.zipIdx r
theorem putPages_sat {s : Shp} {r : Rig} (hf : Fits s r) {reg : Int} {l : List Bytes} (hreg : 0 ≤ reg ∧ reg ≤ 1) (hl : (l.length : Int) ≤ s.pages) (hb : ∀ b ∈ l, (b.length : Int) = s.block) (hall : 0 ≤ s.all) :
    (putPages s reg l r).Sat (fun e r' => Tr (SP s reg) r r' ∧ ((e = 0 ∧ r'.broken = r.broken ∧ ∀ k (hk : k < l.length), ∀ i, i < r.ds.length → ((i : Int) = r'.stale ∨ (r'.at i).see (s.pageAt reg k) = l[k]) ∧ (Live (r.at i) → (r'.at i).see (s.pageAt reg k) = l[k])) ∨ (e = 3 ∧ r'.broken = true)))
      (fun r' => Tr0 (SP s reg) r r' ∧ 0 ≤ r.pow.limit) := by
  unfold putPages
  have key := each_sat (f := fun (x : Bytes × Nat) => aputSame s (s.pageAt reg x.2) x.1) (l := l.zipIdx)
    (fun n r' => Tr (SP s reg) r r' ∧ r'.broken = r.broken ∧ ∀ k (hk : k < l.length), k < n → ∀ i, i < r.ds.length → ((i : Int) = r'.stale ∨ (r'.at i).see (s.pageAt reg k) = l[k]) ∧ (Live (r.at i) → (r'.at i).see (s.pageAt reg k) = l[k]))
    (fun r' => Tr (SP s reg) r r' ∧ r'.broken = true) (fun r' => Tr0 (SP s reg) r r' ∧ 0 ≤ r.pow.limit) 0 r ⟨Tr.refl r, rfl, fun k hk h => by omega⟩ ?_ (by omega)
  · rw [List.drop_zero] at key
    refine key.mono ?_ (fun _ h => h)
    rintro e r1 (⟨rfl, t1, b1, h2⟩ | ⟨rfl, t1, h2⟩)
    · rw [List.length_zipIdx] at h2
      exact ⟨t1, .inl ⟨rfl, b1, fun k hk => h2 k hk hk⟩⟩
    · exact ⟨t1, .inr ⟨rfl, h2⟩⟩
  · rintro n r1 _ hn ⟨t1, b1, h1⟩
    rw [List.length_zipIdx] at hn
    rw [List.getElem_zipIdx]
    simp only [Nat.zero_add]
    have hp0 : 0 ≤ reg * s.pages := Int.mul_nonneg hreg.1 (by omega)
    have hp1 : reg * s.pages ≤ s.pages := by
      rcases (by omega : reg = 0 ∨ reg = 1) with e | e <;> rw [e] <;> omega
    have hq : 0 ≤ s.pageAt reg n ∧ s.pageAt reg n < s.sectors := by unfold Shp.pageAt Shp.sectors; omega
    have hin : ∀ i x, SA (s.pageAt reg n) i x → SP s reg i x := fun i x e => by
      have e : x = s.pageAt reg n := e
      subst e
      unfold SP Shp.pageAt
      omega
    refine (aputSame_sat (hf.tr t1.toTr0) hq (hb _ (List.getElem_mem hn))).mono ?_ (fun r2 h => ⟨t1.toTr0.trans h.1 (fun _ _ x => x) hin, by rw [← t1.limit]; exact h.2⟩)
    rintro e r2 ⟨t2, ⟨rfl, b2, h2⟩ | ⟨rfl, h2⟩⟩
    · refine .inl ⟨rfl, t1.trans t2 (fun _ _ x => x) hin, b2.trans b1, fun k hk hkn i hi => ?_⟩
      rcases Nat.lt_or_ge k n with h3 | h3
      · have hne : ¬ SA (s.pageAt reg n) i (s.pageAt reg k) := fun e => by
          have e : s.pageAt reg k = s.pageAt reg n := e
          unfold Shp.pageAt at e; omega
        have hon : s.pageAt reg k < ((r1.at i).on.length : Int) := by
          rw [(hf.tr t1.toTr0).on i (by rw [t1.len]; exact hi)]
          unfold Shp.pageAt Shp.sectors; omega
        have hse := t2.see i (s.pageAt reg k) hne (by unfold Shp.pageAt; omega) hon
        obtain ⟨h4, h5⟩ := h1 k hk h3 i hi
        refine ⟨?_, fun hv => hse.trans (h5 hv)⟩
        rcases h4 with h4 | h4
        · exact .inl (by rw [h4]; exact (t2.stale_is (by rw [← h4]; omega)).symm)
        · exact .inr (hse.trans h4)
      · obtain rfl : k = n := by omega
        obtain ⟨h4, h5⟩ := h2 i (by rw [t1.len]; exact hi)
        exact ⟨h4, fun hv => h5 (t1.live i hv)⟩
    · exact .inr ⟨by decide, rfl, t1.trans t2 (fun _ _ x => x) hin, h2⟩

namespace Lg
/-- what a checkpoint of a log holds: dead segments are free in it -/
def image (g : Lg) : Img := ⟨g.rig.nv.root.durable.toNat, g.seg, g.idx, g.tbl.map fun s => if s.state = 2 ∧ s.live = 0 then (0, 0) else (s.state, s.born.toNat), g.map⟩
def pages (g : Lg) (gen : Nat) : List Bytes := pagesB g.sh.block.toNat gen g.sh.pages.toNat g.image.bytes
def ckpt (g : Lg) : Out Lg Int :=
  let gen := IntKind.u64.wrap (g.rig.nv.root.gen + 1)
  ((putPages g.sh (gen % 2) (g.pages gen.toNat) g.rig).lift g.up).bind fun e g1 => if e ≠ 0 then .ok e g1
  else ((aflush g1.rig).lift g1.up).bind fun e g2 => if e ≠ 0 then .ok e g2
  else ((g2.rig.set { g2.rig.nv.root with gen := gen }).lift g2.up).bind fun _ g3 => .ok 0 { g3 with tbl := g3.tbl.clear g.tbl.dead }
end Lg
theorem Lg.Inv.pages_fit {g : Lg} (h : g.Inv) : g.image.bytes.length = (12 + 9 * g.sh.segments + 4 * g.sh.logical).toNat := by
  rw [Img.bytes_length]
  unfold Lg.image
  dsimp only
  rw [List.length_map]
  have h1 := h.tlen
  have h2 := h.len
  omega
theorem Lg.pages_len {g : Lg} (h : g.sh.Ok) (gen : Nat) : ((g.pages gen).length : Int) = g.sh.pages ∧ ∀ b ∈ g.pages gen, (b.length : Int) = g.sh.block := by
  have h1 := h.pages0
  have h2 := h.block
  unfold Lg.pages pagesB
  refine ⟨by simp; omega, fun b hb => ?_⟩
  obtain ⟨i, _, rfl⟩ := List.mem_map.1 hb
  rw [pageB_length (by omega)]
  omega
/-- a checkpoint -/
theorem ckpt_sat {g : Lg} (hi : g.Inv) (hf : Fits g.sh g.rig) {gen : Int} (hgen : gen = IntKind.u64.wrap (g.rig.nv.root.gen + 1)) (_hg0 : 0 ≤ gen) :
    g.ckpt.Sat (fun e g' =>
      (e = 0 ∧ ∃ r' p, Tr (SP g.sh (gen % 2)) g.rig r' ∧ r'.broken = g.rig.broken ∧ Paged g.sh r' (gen % 2) (g.pages gen.toNat) ∧ p.limit = g.rig.pow.limit ∧ g' = { g with rig := { r' with pow := p, nv := { r'.nv with root := { r'.nv.root with gen := gen } } }, tbl := g.tbl.clear g.tbl.dead }) ∨
      (e = 3 ∧ ∃ r', Tr (SP g.sh (gen % 2)) g.rig r' ∧ r'.broken = true ∧ g' = g.up r'))
    (fun g' => 0 ≤ g.rig.pow.limit ∧ ∃ r', Tr0 (SP g.sh (gen % 2)) g.rig r' ∧ g' = g.up r') := by
  obtain ⟨hl, hb⟩ := Lg.pages_len hi.shok gen.toNat
  have hp0 := hi.shok.pages0
  have hall : 0 ≤ g.sh.all := by have := hi.stripe; omega
  unfold Lg.ckpt
  dsimp only
  rw [← hgen]
  have k1 := putPages_sat hf (by omega : 0 ≤ gen % 2 ∧ gen % 2 ≤ 1) (by omega) hb hall
  cases h1 : putPages g.sh (gen % 2) (g.pages gen.toNat) g.rig with
  | gone r1 => rw [h1] at k1; exact ⟨k1.2, r1, k1.1, rfl⟩
  | ok e r1 =>
    rw [h1] at k1
    obtain ⟨t1, ⟨rfl, b1, p1⟩ | ⟨rfl, b1⟩⟩ := k1
    · show Out.Sat (Out.bind (Out.lift (g.up r1).up (aflush r1)) _) _ _
      have k2 := aflush_sat (r := r1)
      cases h2 : aflush r1 with
      | gone r2 =>
        rw [h2] at k2
        exact ⟨by rw [← t1.limit]; exact k2.2, r2, t1.toTr0.trans k2.1 (fun _ _ x => x) S0_of, rfl⟩
      | ok e r2 =>
        rw [h2] at k2
        obtain ⟨t2, ⟨rfl, b2, p2, _⟩ | ⟨rfl, b2⟩⟩ := k2
        · show Out.Sat (Out.bind (Out.lift (g.up r2).up (r2.set { r2.nv.root with gen := gen })) _) _ _
          have t12 := t1.trans t2 (fun _ _ x => x) S0_of
          unfold Rig.set
          cases hp : r2.pow.tick with
          | none =>
            refine ⟨?_, r2, t12.toTr0, rfl⟩
            unfold Pow.tick at hp
            split at hp
            · rename_i h; rw [← t12.limit]; exact h.1
            · cases hp
          | some p =>
            refine .inl ⟨rfl, r2, p, t12, b2.trans b1, fun k hk i hi' hn => ?_, (tick_limit hp).trans t12.limit, rfl⟩
            have hi1 : i < r1.ds.length := by rw [← t2.len]; exact hi'
            have hi0 : i < g.rig.ds.length := by rw [← t1.len]; exact hi1
            have hf1 := hf.tr t1.toTr0
            rcases p2 i hi1 with h3 | h3
            · exact absurd h3 hn
            · rcases (p1 k hk i hi0).1 with h4 | h4
              · exact absurd h4 (t2.stale_ne hn)
              · have hr0 : 0 ≤ gen % 2 := by omega
                have h5 := Int.mul_nonneg hr0 (show 0 ≤ g.sh.pages by omega)
                have h6 : gen % 2 * g.sh.pages ≤ g.sh.pages := by
                  rcases (by omega : gen % 2 = 0 ∨ gen % 2 = 1) with e | e <;> rw [e] <;> omega
                have := h3 (g.sh.pageAt (gen % 2) k) (by unfold Shp.pageAt; omega) (by rw [hf1.on i hi1]; unfold Shp.pageAt Shp.sectors; omega)
                rw [h4] at this
                exact this
        · exact .inr ⟨rfl, r2, t1.trans t2 (fun _ _ x => x) S0_of, b2, rfl⟩
    · exact .inr ⟨rfl, r1, t1, b1, rfl⟩
/-! dead segments are free -/
theorem Tbl.clear_spec (l : List Int) : ∀ t : Tbl, (t.clear l).length = t.length ∧ ∀ i, (t.clear l).see i = if i ∈ l ∧ t.has i = true then Seg.zero else t.see i := by
  induction l with
  | nil => intro t; exact ⟨rfl, fun i => by rw [if_neg (fun h => by cases h.1)]; rfl⟩
  | cons a l ih =>
    intro t
    show (Tbl.clear (t.put a Seg.zero) l).length = _ ∧ ∀ i, (Tbl.clear (t.put a Seg.zero) l).see i = _
    obtain ⟨h1, h2⟩ := ih (t.put a Seg.zero)
    refine ⟨h1.trans (Tbl.upd_length _ _ _), fun i => ?_⟩
    rw [h2]
    unfold Tbl.put
    rw [Tbl.has_upd, Tbl.see_upd]
    by_cases hh : t.has i = true
    · by_cases h3 : i ∈ l
      · rw [if_pos ⟨h3, hh⟩, if_pos ⟨List.mem_cons_of_mem _ h3, hh⟩]
      · rw [if_neg (fun h => h3 h.1)]
        by_cases h4 : i = a
        · rw [if_pos ⟨h4, h4 ▸ hh⟩, if_pos ⟨h4 ▸ List.mem_cons_self, hh⟩]
        · rw [if_neg (fun h => h4 h.1), if_neg (fun h => (List.mem_cons.1 h.1).elim h4 h3)]
    · rw [if_neg (fun h => hh h.2), if_neg (fun (h : i = a ∧ t.has a = true) => hh (by rw [h.1]; exact h.2)), if_neg (fun h => hh h.2)]
theorem Tbl.see_get {t : Tbl} {i : Nat} (h : i < t.length) : t.see i = t[i] := by
  unfold Tbl.see Tbl.has
  rw [if_pos (by simp; omega)]
  simp [List.getD, h]
theorem Tbl.mem_dead {t : Tbl} {i : Nat} (h : i < t.length) : (i : Int) ∈ t.dead ↔ t[i].state = 2 ∧ t[i].live = 0 := by
  unfold Tbl.dead
  simp only [List.mem_map, List.mem_filter, List.mem_range]
  constructor
  · rintro ⟨a, ⟨h1, h2⟩, h3⟩
    have : a = i := by have : (a : Int) = i := h3; omega
    subst this
    simpa [List.getD, h] using h2
  · intro h2
    exact ⟨i, ⟨h, by simpa [List.getD, h] using h2⟩, rfl⟩
theorem Tbl.clear_get {t : Tbl} {i : Nat} (h : i < (t.clear t.dead).length) (h' : i < t.length) : (t.clear t.dead)[i] = if t[i].state = 2 ∧ t[i].live = 0 then Seg.zero else t[i] := by
  rw [← Tbl.see_get h, (Tbl.clear_spec _ _).2]
  have hh : t.has i = true := by unfold Tbl.has; simp; omega
  by_cases hd : t[i].state = 2 ∧ t[i].live = 0
  · rw [if_pos ⟨(Tbl.mem_dead h').2 hd, hh⟩, if_pos hd]
  · rw [if_neg (fun x => hd ((Tbl.mem_dead h').1 x.1)), if_neg hd, Tbl.see_get h']
theorem Lg.Ok.live_get {g : Lg} (h : g.Ok) {i : Nat} (hi : i < g.tbl.length) : (g.tbl[i]).live = Lg.lives g.sh g.map i := by
  rw [← Tbl.see_get hi]
  exact h.live i (by unfold Tbl.has; simp; omega)
theorem freed {b : Bok} {g : Lg} (h : Rel b g) (hi : g.Inv) {r : Rig} (hs : r.nv.root.shape = g.rig.nv.root.shape) (hrecs : r.nv.recs = g.rig.nv.recs) (hn : r.nv.next = g.rig.nv.next) (hd : r.nv.root.durable = g.rig.nv.root.durable) :
    Rel b.free { g with rig := r, tbl := g.tbl.clear g.tbl.dead } ∧ Lg.Inv { g with rig := r, tbl := g.tbl.clear g.tbl.dead } := by
  have hlen := (Tbl.clear_spec g.tbl.dead g.tbl).1
  have hsh : Lg.sh { g with rig := r, tbl := g.tbl.clear g.tbl.dead } = g.sh := hs
  have hst : b.free.state = (g.tbl.clear g.tbl.dead).map (·.state) := by
    apply List.ext_getElem
    · unfold Bok.free
      dsimp only
      rw [List.length_mapIdx, h.state, List.length_map, List.length_map, hlen]
    · intro i h1 h2
      have h3 : i < g.tbl.length := by rw [List.length_map, hlen] at h2; exact h2
      rw [List.getElem_map, Tbl.clear_get (by rw [hlen]; exact h3) h3]
      have h4 : i < b.state.length := by rw [h.state, List.length_map]; exact h3
      have e0 : b.free.state[i] = if b.state[i] = 2 ∧ Lg.lives b.s b.map (i : Int) = 0 then 0 else b.state[i] := List.getElem_mapIdx
      rw [e0]
      simp only [h.state, List.getElem_map, h.s, h.map]
      have hv := hi.toOk.live_get h3
      by_cases hc : g.tbl[i].state = 2 ∧ g.tbl[i].live = 0
      · rw [if_pos hc, if_pos ⟨hc.1, by have := hc.2; omega⟩]; rfl
      · rw [if_neg hc, if_neg (fun x => hc ⟨x.1, by rw [hv, x.2]; rfl⟩)]
  have hbo : b.free.born = (g.tbl.clear g.tbl.dead).map (·.born) := by
    apply List.ext_getElem
    · unfold Bok.free
      dsimp only
      rw [List.length_mapIdx, h.born, List.length_map, List.length_map, hlen]
    · intro i h1 h2
      have h3 : i < g.tbl.length := by rw [List.length_map, hlen] at h2; exact h2
      rw [List.getElem_map, Tbl.clear_get (by rw [hlen]; exact h3) h3]
      have h4 : i < b.born.length := by rw [h.born, List.length_map]; exact h3
      have e0 : b.free.born[i] = if b.state.getD i 0 = 2 ∧ Lg.lives b.s b.map (i : Int) = 0 then 0 else b.born[i] := List.getElem_mapIdx
      rw [e0]
      have e1 : b.state.getD i 0 = g.tbl[i].state := by rw [h.state]; simp [List.getD, h3]
      simp only [e1, h.born, List.getElem_map, h.s, h.map]
      have hv := hi.toOk.live_get h3
      by_cases hc : g.tbl[i].state = 2 ∧ g.tbl[i].live = 0
      · rw [if_pos hc, if_pos ⟨hc.1, by have := hc.2; omega⟩]; rfl
      · rw [if_neg hc, if_neg (fun x => hc ⟨x.1, by rw [hv, x.2]; rfl⟩)]
  refine ⟨⟨by rw [hsh]; exact h.s, h.recs.trans hrecs.symm, h.next.trans hn.symm, h.durable.trans hd.symm, h.seg, h.idx, hst, hbo, h.map⟩, ?_⟩
  have hhas : ∀ i, (g.tbl.clear g.tbl.dead).has i = g.tbl.has i := fun i => by unfold Tbl.has; rw [hlen]
  refine { toOk := ⟨hi.map, by rw [hsh]; exact hi.len, hi.small, fun i hh => ?_⟩, shok := by rw [hsh]; exact hi.shok, seg := by rw [hsh]; exact hi.seg, idx := by rw [hsh]; exact hi.idx, tlen := by rw [hsh]; show ((g.tbl.clear g.tbl.dead).length : Int) = _; rw [hlen]; exact hi.tlen, opened := ?_, recs := by rw [hsh]; show ∀ q ∈ r.nv.recs, _; rw [hrecs]; exact hi.recs, places := by rw [hsh]; exact hi.places }
  · rw [hsh]
    show ((g.tbl.clear g.tbl.dead).see i).live = _
    have hh : g.tbl.has i = true := by rw [← hhas]; exact hh
    obtain ⟨n, rfl⟩ : ∃ n : Nat, i = n := ⟨i.toNat, by unfold Tbl.has at hh; simp at hh; omega⟩
    have hn' : n < g.tbl.length := by unfold Tbl.has at hh; simp at hh; omega
    rw [Tbl.see_get (by rw [hlen]; exact hn'), Tbl.clear_get (by rw [hlen]; exact hn') hn']
    have hv := hi.toOk.live_get hn'
    split
    · rename_i hc; rw [← hv, hc.2]; rfl
    · exact hv
  · show ((g.tbl.clear g.tbl.dead).see g.seg).state = 1
    have hseg := hi.seg
    have htl := hi.tlen
    have ho := hi.opened
    obtain ⟨n, hn2⟩ : ∃ n : Nat, g.seg = n := ⟨g.seg.toNat, by omega⟩
    have hn' : n < g.tbl.length := by omega
    rw [hn2] at ho ⊢
    rw [Tbl.see_get hn'] at ho
    rw [Tbl.see_get (by rw [hlen]; exact hn'), Tbl.clear_get (by rw [hlen]; exact hn') hn', if_neg (fun x => by rw [ho] at x; exact absurd x.1 (by decide))]
    exact ho
end Go.Sl
end

section
/- A new log, and its book; records staged. No program. -/
namespace Go.Sl
open Go
def Tbl.fresh (n : Nat) : Tbl := Tbl.open_ (List.replicate n Seg.zero) 0
def Lg.fresh (r : Rig) : Lg := ⟨r, List.replicate r.nv.root.shape.logical.toNat (-1), Tbl.fresh r.nv.root.shape.segments.toNat, 0, 0⟩
def Bok.empty (s : Shp) : Bok := ⟨s, [], 1, 0, 0, 0, (List.replicate s.segments.toNat 0).set 0 1, List.replicate s.segments.toNat 0, List.replicate s.logical.toNat (-1), []⟩
theorem fresh_rel {s : Shp} {r : Rig} (hs : s.Ok) (h : r.nv = ⟨[], 1, ⟨s, 0, 0, -1⟩⟩) : Rel (Bok.empty s) (Lg.fresh r) ∧ (Lg.fresh r).Inv := by
  have h1 := hs.members
  have h2 := hs.segments
  have h3 := hs.stripes
  have h4 := hs.logical
  have hsh : (Lg.fresh r).sh = s := by show r.nv.root.shape = s; rw [h]
  have hsh' : r.nv.root.shape = s := hsh
  have hmost : s.most ≤ 61 * 15 * 14 := by
    unfold Shp.most Shp.slots
    have a1 : (s.segments - 3) * (s.stripes - 1) ≤ 61 * 15 := Int.mul_le_mul (by omega) (by omega) (by omega) (by omega)
    exact Int.mul_le_mul a1 (by omega) (by omega) (by omega)
  have hin : 0 ≤ (0 : Int) ∧ (0 : Int) < (List.replicate s.segments.toNat Seg.zero).length := by simp; omega
  have htl : (Tbl.fresh s.segments.toNat).length = s.segments.toNat := by unfold Tbl.fresh Tbl.open_; rw [Tbl.upd_length]; simp
  refine ⟨⟨hsh.symm, by show [] = r.nv.recs; rw [h], by show (1 : Int) = r.nv.next; rw [h], by show (0 : Int) = r.nv.root.durable; rw [h], rfl, rfl, ?_, ?_, ?_⟩, ?_⟩
  · show (List.replicate s.segments.toNat 0).set 0 1 = (Tbl.fresh r.nv.root.shape.segments.toNat).map (·.state)
    rw [hsh']
    unfold Tbl.fresh Tbl.open_
    rw [Tbl.map_upd (fun s : Seg => s.state) _ 0 (fun s => { s with state := 1 }) 1 (fun _ => rfl) hin, List.map_replicate]
    rfl
  · show List.replicate s.segments.toNat 0 = (Tbl.fresh r.nv.root.shape.segments.toNat).map (·.born)
    rw [hsh']
    unfold Tbl.fresh Tbl.open_
    rw [Tbl.map_upd_same (fun s : Seg => s.born) _ 0 (fun s => { s with state := 1 }) (fun _ => rfl), List.map_replicate]
    rfl
  · show List.replicate s.logical.toNat (-1) = List.replicate r.nv.root.shape.logical.toNat (-1)
    rw [hsh']
  · have hm : (Lg.fresh r).map = List.replicate s.logical.toNat (-1) := by show List.replicate r.nv.root.shape.logical.toNat (-1) = _; rw [hsh']
    have ht : (Lg.fresh r).tbl = Tbl.fresh s.segments.toNat := by show Tbl.fresh r.nv.root.shape.segments.toNat = _; rw [hsh']
    refine { toOk := ⟨?_, ?_, ?_, ?_⟩, shok := by rw [hsh]; exact hs, seg := by rw [hsh]; show 0 ≤ (0 : Int) ∧ (0 : Int) < _; omega, idx := by rw [hsh]; show 0 ≤ (0 : Int) ∧ (0 : Int) < _; omega, tlen := by rw [hsh, ht, htl]; omega, opened := ?_, recs := ?_, places := ?_ }
    · rw [hm]; intro p hp; rw [List.eq_of_mem_replicate hp]; decide
    · rw [hm, hsh]; simp; omega
    · rw [hm]; simp; omega
    · intro i hi
      rw [hm, ht]
      unfold Tbl.fresh Tbl.open_
      rw [see_upd_live _ 0 i (fun s => { s with state := 1 }) (fun _ => rfl)]
      unfold Lg.lives
      rw [List.countP_replicate, if_neg (by simp)]
      unfold Tbl.see
      split
      · have : i.toNat < s.segments.toNat ∨ ¬ i.toNat < s.segments.toNat := Nat.lt_or_ge _ _ |>.imp id (fun h => by omega)
        rcases this with h5 | h5
        · simp [List.getD, h5, Seg.zero]
        · simp [List.getD, h5, Seg.zero]
      · rfl
    · rw [ht]
      show ((Tbl.fresh s.segments.toNat).see 0).state = 1
      unfold Tbl.fresh Tbl.open_
      rw [Tbl.see_upd, if_pos ⟨rfl, by unfold Tbl.has; simp; omega⟩]
    · show ∀ q ∈ r.nv.recs, _
      rw [h]; intro q hq; cases hq
    · rw [hm, hsh]
      intro p hp
      rw [List.eq_of_mem_replicate hp]
      have := Int.mul_nonneg (show 0 ≤ s.all by unfold Shp.all; exact Int.mul_nonneg (by omega) (by omega)) (show 0 ≤ s.slots by unfold Shp.slots; omega)
      omega
/-- one more record is staged -/
theorem appended {b : Bok} {g : Lg} (h : Rel b g) (hi : g.Inv) {k lba : Int} {data : Bytes} (hr : RecOk g.sh ⟨b.next, k, lba, data⟩) (hroom : ¬ (b.recs.length : Int) ≥ b.s.nv) {r : Rig} (hn : r.nv = { g.rig.nv with recs := g.rig.nv.recs ++ [⟨g.rig.nv.next, k, lba, data⟩], next := IntKind.u64.wrap (g.rig.nv.next + 1) }) :
    b.append k lba data = (true, (b.append k lba data).2) ∧ Rel (b.append k lba data).2 (g.up r) ∧ (g.up r).Inv := by
  have hsh : (g.up r).sh = g.sh := by show r.nv.root.shape = _; rw [hn]; rfl
  have hb : b.append k lba data = (true, { b with recs := b.recs ++ [⟨b.next, k, lba, data⟩], next := IntKind.u64.wrap (b.next + 1) }) := by unfold Bok.append; rw [if_neg hroom]
  rw [hb]
  refine ⟨rfl, ⟨by rw [hsh]; exact h.s, ?_, ?_, ?_, h.seg, h.idx, h.state, h.born, h.map⟩, ?_⟩
  · show b.recs ++ _ = r.nv.recs
    rw [hn, h.recs, h.next]
  · show IntKind.u64.wrap (b.next + 1) = r.nv.next
    rw [hn, h.next]
  · show b.durable = r.nv.root.durable
    rw [hn]; exact h.durable
  · refine { toOk := ⟨hi.map, by rw [hsh]; exact hi.len, hi.small, by rw [hsh]; exact hi.live⟩, shok := by rw [hsh]; exact hi.shok, seg := by rw [hsh]; exact hi.seg, idx := by rw [hsh]; exact hi.idx, tlen := by rw [hsh]; exact hi.tlen, opened := hi.opened, recs := ?_, places := by rw [hsh]; exact hi.places }
    rw [hsh]
    show ∀ q ∈ r.nv.recs, _
    rw [hn]
    intro q hq
    rcases List.mem_append.1 hq with hq | hq
    · exact hi.recs q hq
    · rw [List.mem_singleton.1 hq, ← h.next]; exact hr
end Go.Sl
end
