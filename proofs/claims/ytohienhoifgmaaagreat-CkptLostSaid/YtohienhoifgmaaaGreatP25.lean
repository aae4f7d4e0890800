/- several texts, one behind the other -/
import Derived.Test.YtohienhoifgmaaaGreatP11
import Derived.Test.YtohienhoifgmaaaGreatP05
import Derived.Test.YtohienhoifgmaaaGreatRows
import Derived.Test.YtohienhoifgmaaaGreatP24

section
/- What each law's end leans on: facts of the program's own, each once. -/
namespace Go.Proofs.YtohienhoifgmaaaGreat
open Go Go.Sl
theorem Tryz.own : ownKnob Tryz.prog.godebug = none := by kernel_rfl
theorem Tryz.laidOut : laidOutB Tryz.prog = true := by kernel_rfl
theorem Tryz.same : Tryz.checked.prog = Tryz.prog := by delta Tryz.checked; rfl
/-- how the program was cut, and may be entered -/
theorem Tryz.start : (Tryz.prog.mayEnter && !Tryz.prog.liftsFinal && (Tryz.prog.make == some .cut)) = true := by kernel_rfl
theorem Tryz.mayEnter : Tryz.prog.mayEnter = true := by have := Tryz.start; simp only [Bool.and_eq_true] at this; exact this.1.1
theorem Tryz.lifts : Tryz.prog.liftsFinal = false := by have := Tryz.start; simp only [Bool.and_eq_true, Bool.not_eq_true'] at this; exact this.1.2
theorem Tryz.made : Tryz.prog.make = some .cut := by have := Tryz.start; simp only [Bool.and_eq_true, beq_iff_eq] at this; exact this.2
/-- the facts of a row that are not the program's alone -/
def restFacts (P : Program) (f : FuncId) (fn : Func) (s : ChangeSpec) (c : OpenClaim) : Bool :=
  c.wf (OpenSpec.ofChange s) && mapsRowed P &&
  fn.params.all (P.readableRec ·) && namedTie P (P.varsNamed f) s.vars &&
  (c.stops == []) && (P.stops == []) && (c.knobs == []) && (P.stopKnobs == []) &&
  (c.inPlace == P.inPlace f) && (c.unfollowed == P.unfollowed f) && (c.recurses == P.recurses f) && (c.named == P.varsNamed f) &&
  (c.maps == (fn.params.toList ++ s.plain.varTypes P).any (P.mapsRec ·)) && (c.ifaces == (fn.params.toList ++ s.plain.varTypes P).any (P.ifacesRec ·)) && (c.mapsOut == P.mapsAmong fn.resultTypes.toList) &&
  (c.loops == (fn.params.toList ++ s.plain.varTypes P).any (P.loopsFrom ·)) && (c.wideKeys == (fn.params.toList ++ s.plain.varTypes P ++ fn.resultTypes.toList).any (P.wideKeysFrom ·)) &&
  s.vars.all (P.varReadable ·) && fn.resultTypes.all (fun t => P.readableRec t && decide (t < P.types.size)) && (c.ifacesOut == fn.resultTypes.toList.any (P.ifacesRec ·)) && (c.loopsOut == fn.resultTypes.toList.any (P.loopsFrom ·)) && (c.plainKeys == P.plainKeys) && c.shortTexts.isNone && P.stopsHeard && (c.lifted == false) && (c.make == .cut) && (c.kinds == []) && c.domain.isEmpty && (c.pinned == c.pinnedBy) &&
  (c.veiled == (fn.params.toList ++ s.plain.varTypes P ++ fn.resultTypes.toList).any (P.veiledRec ·)) && c.veiledFits P fn.params.toList (fn.params.toList ++ s.plain.varTypes P ++ fn.resultTypes.toList)
set_option maxRecDepth 20000 in
theorem Tryz.joined {f : FuncId} {fn : Func} {s : ChangeSpec} {c : OpenClaim} (h : restFacts Tryz.prog f fn s c = true) : joinedFacts Tryz.checked.prog f fn s c = true := by
  rw [Tryz.same]
  simp only [restFacts, joinedFacts, Bool.and_eq_true, Tryz.laidOut, Tryz.lifts, Tryz.mayEnter, Tryz.made, beq_iff_eq] at h ⊢
  simp only [h, and_true, if_true]
end Go.Proofs.YtohienhoifgmaaaGreat
end

section
/- What holds of a rig while stripes are put, and read: one member, or two, failing. -/
namespace Go.Proofs.YtohienhoifgmaaaGreat
open Go Go.Sl

/-- members, of which some may fail -/
structure Base (s : Shp) (bad : Nat → Prop) (r : Rig) : Prop where
  fits : Fits s r
  lim : r.pow.limit = -1
  live : ∀ i, i < r.ds.length → ¬ bad i → Live (r.at i)
  stale : r.stale = -1 ∨ ∃ i : Nat, i < r.ds.length ∧ r.stale = i ∧ bad i
theorem Base.tr {s : Shp} {bad : Nat → Prop} {r r' : Rig} (h : Base s bad r) {S : Nat → Int → Prop} (t : Tr0 S r r') : Base s bad r' where
  fits := h.fits.tr t
  lim := t.limit.trans h.lim
  live i hi hb := t.live i (h.live i (by rw [← t.len]; exact hi) hb)
  stale := by
    rcases t.stale with h1 | ⟨h1, m, hm, h2, h3⟩
    · rw [h1, t.len]; exact h.stale
    · exact .inr ⟨m, by rw [t.len]; exact hm, h2, Classical.byContradiction fun hb => h3 (h.live m hm hb)⟩
theorem Base.lt {s : Shp} {bad : Nat → Prop} {r : Rig} (h : Base s bad r) : r.stale < r.ds.length := by
  rcases h.stale with h1 | ⟨i, h1, h2, _⟩ <;> omega
/-- one member alone can't break all -/
theorem Base.whole {s : Shp} {k : Nat} {r r' : Rig} (h : Base s (· = k) r) (hb : r.broken = false) {S : Nat → Int → Prop} (t : Tr0 S r r') : r'.broken = false := by
  cases hb' : r'.broken with
  | false => rfl
  | true =>
    exfalso
    rcases t.broken hb' with h1 | ⟨m, hm, h1, h2, h3⟩
    · rw [hb] at h1; cases h1
    · have hmk : m = k := Classical.byContradiction fun hne => h1 (h.live m hm hne)
      rcases (h.tr t).stale with h4 | ⟨i, _, h5, h6⟩
      · exact h3 h4
      · exact h2 (by rw [h5, h6, hmk])
/-- the stripes that were put -/
def Stripes (s : Shp) (m : IMap UInt8) (r : Rig) : Prop := (m.map (·.1)).Nodup ∧ ∀ t f, 0 ≤ t ∧ t < s.all → mget m t = some f → Holds s r t (chunksOf s f)
theorem Stripes.tr {s : Shp} {m : IMap UInt8} {r r' : Rig} (h : Stripes s m r) (t : Tr0 S0 r r') : Stripes s m r' := ⟨h.1, fun t' f ht hg => (h.2 t' f ht hg).tr t (fun _ x => x)⟩
theorem Stripes.put {s : Shp} {m : IMap UInt8} {r r' : Rig} {t : Int} (h : Stripes s m r) (tr : Tr0 (SA (s.stripeAt t)) r r') (f : UInt8) (hn : Holds s r' t (chunksOf s f)) : Stripes s (mset m t f) r' :=
  ⟨mset_nodup h.1 t f, fun t' f' ht hg => by
    rw [mget_mset] at hg
    by_cases hc : t' = t
    · rw [if_pos hc] at hg; cases hg; rw [hc]; exact hn
    · rw [if_neg hc] at hg
      exact (h.2 t' f' ht hg).tr tr (fun _ x => hc (stripeAt_inj x))⟩
theorem Stripes.del {s : Shp} {m : IMap UInt8} {r r' : Rig} {t : Int} (h : Stripes s m r) (tr : Tr0 (SA (s.stripeAt t)) r r') : Stripes s (mdel m t) r' :=
  ⟨mdel_nodup h.1 t, fun t' f' ht hg => by
    rw [mget_mdel h.1] at hg
    by_cases hc : t' = t
    · rw [if_pos hc] at hg; cases hg
    · rw [if_neg hc] at hg
      exact (h.2 t' f' ht hg).tr tr (fun _ x => hc (stripeAt_inj x))⟩
theorem Stripes.nil (s : Shp) (r : Rig) : Stripes s [] r := ⟨List.nodup_nil, fun _ _ _ h => by cases h⟩

/-- any members failing -/
structure JAny (s : Shp) (bad : Nat → Prop) (m : IMap UInt8) (r : Rig) : Prop where
  base : Base s bad r
  all : Stripes s m r
theorem no_gone {r r' : Rig} {S : Nat → Int → Prop} (hl : r.pow.limit = -1) (h : Tr0 S r r' ∧ 0 ≤ r.pow.limit) : False := by have := h.2; omega
theorem JAny.puts {s : Shp} (hs : s.Ok) (bad : Nat → Prop) : PutJ s true (JAny s bad) := fun m r t f ht hj => by
  refine (aput_sat hs hj.base.fits ht (chunksOf_chunks hs f)).mono ?_ (fun r' h => no_gone hj.base.lim h)
  rintro e r' ⟨t1, ⟨rfl, _, h1, _⟩ | ⟨rfl, h1⟩⟩
  · exact .inl ⟨rfl, hj.base.tr t1.toTr0, hj.all.put t1.toTr0 f h1⟩
  · exact .inr ⟨rfl, rfl, h1, hj.base.tr t1.toTr0, hj.all.del t1.toTr0⟩
theorem JAny.gets {s : Shp} (hs : s.Ok) (bad : Nat → Prop) (m : IMap UInt8) : GetJ s true (JAny s bad m) m := fun r t f c ht hc hg hj => by
  have hL := chunksOf_chunks hs f
  refine (achunk_sat hs hj.base.fits hj.base.lt ht hL (c := c) (by have := hL.many; omega) (hj.all.2 t f ht hg)).mono ?_ (fun r' h => no_gone hj.base.lim h)
  rintro x r' ⟨t1, ⟨rfl, _⟩ | ⟨rfl, h1⟩⟩
  · exact ⟨⟨hj.base.tr t1.toTr0, hj.all.tr t1.toTr0⟩, .inl (by rw [chunksOf_get f hc])⟩
  · exact ⟨⟨hj.base.tr t1.toTr0, hj.all.tr t1.toTr0⟩, .inr ⟨rfl, rfl, h1⟩⟩
/-- one member failing -/
structure JOne (s : Shp) (k : Nat) (m : IMap UInt8) (r : Rig) : Prop where
  base : Base s (· = k) r
  all : Stripes s m r
  whole : r.broken = false
  told : (r.at k).dead = true → r.stale = k
theorem JOne.told' {s : Shp} {k : Nat} {m : IMap UInt8} {r r' : Rig} (hj : JOne s k m r) {S : Nat → Int → Prop} (t : Tr S r r') : (r'.at k).dead = true → r'.stale = k := fun hd => by
  rcases t.told k hd with h | h | h
  · have := hj.told h
    rw [← this]; exact t.stale_is (by rw [this]; omega)
  · exact h.symm
  · rw [hj.base.whole hj.whole t.toTr0] at h; cases h
theorem JOne.puts {s : Shp} (hs : s.Ok) (k : Nat) : PutJ s false (JOne s k) := fun m r t f ht hj => by
  refine (aput_sat hs hj.base.fits ht (chunksOf_chunks hs f)).mono ?_ (fun r' h => no_gone hj.base.lim h)
  rintro e r' ⟨t1, ⟨rfl, _, h1, _⟩ | ⟨rfl, h1⟩⟩
  · exact .inl ⟨rfl, hj.base.tr t1.toTr0, hj.all.put t1.toTr0 f h1, hj.base.whole hj.whole t1.toTr0, hj.told' t1⟩
  · rw [hj.base.whole hj.whole t1.toTr0] at h1; cases h1
theorem JOne.gets {s : Shp} (hs : s.Ok) (k : Nat) (m : IMap UInt8) : GetJ s false (JOne s k m) m := fun r t f c ht hc hg hj => by
  have hL := chunksOf_chunks hs f
  refine (achunk_sat hs hj.base.fits hj.base.lt ht hL (c := c) (by have := hL.many; omega) (hj.all.2 t f ht hg)).mono ?_ (fun r' h => no_gone hj.base.lim h)
  rintro x r' ⟨t1, ⟨rfl, _⟩ | ⟨rfl, h1⟩⟩
  · exact ⟨⟨hj.base.tr t1.toTr0, hj.all.tr t1.toTr0, hj.base.whole hj.whole t1.toTr0, hj.told' t1⟩, .inl (by rw [chunksOf_get f hc])⟩
  · rw [hj.base.whole hj.whole t1.toTr0] at h1; cases h1

/-- a new rig -/
theorem fresh_at {s : Shp} {i : Nat} (hi : i < (Rig.fresh s).ds.length) : (Rig.fresh s).at i = Dsk.blank s.sectors.toNat s.block := by
  unfold Rig.at
  have h1 : (Rig.fresh s).ds = List.replicate s.members.toNat (Dsk.blank s.sectors.toNat s.block) := rfl
  have h2 : i < s.members.toNat := by rw [h1] at hi; simpa using hi
  rw [h1, List.getD, List.getElem?_replicate, if_pos h2]; rfl
theorem fresh_base {s : Shp} (hs : s.Ok) (bad : Nat → Prop) : Base s bad (Rig.fresh s) := by
  have hm := hs.members
  have h0 := hs.at_ (t := 0) (by have := hs.segments; have := hs.stripes; unfold Shp.all; exact ⟨by omega, Int.mul_pos (by omega) (by omega)⟩)
  refine ⟨⟨?_, fun i hi => ?_, fun i hi => ?_⟩, rfl, fun i hi _ => ?_, .inl rfl⟩
  · show ((List.replicate s.members.toNat (Dsk.blank s.sectors.toNat s.block)).length : Int) = s.members
    rw [List.length_replicate]; omega
  · rw [fresh_at hi]; rfl
  · rw [fresh_at hi]
    show ((List.replicate s.sectors.toNat (List.replicate s.block.toNat (0 : UInt8))).length : Int) = s.sectors
    rw [List.length_replicate]; omega
  · rw [fresh_at hi]; exact ⟨rfl, show (-1 : Int) < 0 by decide⟩

theorem at_set {r : Rig} {ds : List Dsk} {m : Nat} {d : Dsk} (hd : ds = r.ds.set m d) (hm : m < r.ds.length) {r' : Rig} (h : r'.ds = ds) (i : Nat) : r'.at i = if i = m then d else r.at i := by
  unfold Rig.at
  rw [h, hd]
  simp only [List.getD, List.getElem?_set]
  by_cases h : m = i
  · subst h; simp [hm]
  · rw [if_neg h, if_neg (fun e => h e.symm)]
/-- a member fails, at some time -/
theorem failing_tr {s : Shp} {bad : Nat → Prop} {r : Rig} (h : Base s bad r) {k : Nat} (hk : k < r.ds.length) (hbad : bad k) (d : Dsk) (h1 : d.on = (r.at k).on) (h2 : d.cache = (r.at k).cache) (h3 : d.size = (r.at k).size) :
    Base s bad { r with ds := r.ds.set k d } ∧ ∀ m, Stripes s m r → Stripes s m { r with ds := r.ds.set k d } := by
  have hat := fun i => at_set (r := r) (m := k) (d := d) rfl hk (r' := { r with ds := r.ds.set k d }) rfl i
  have hl : ({ r with ds := r.ds.set k d } : Rig).ds.length = r.ds.length := by simp
  refine ⟨⟨⟨by rw [hl]; exact h.fits.many, fun i hi => ?_, fun i hi => ?_⟩, h.lim, fun i hi hne => ?_, ?_⟩, fun m hm => ⟨hm.1, fun t f ht hg i hi hne => ?_⟩⟩
  · rw [hl] at hi; rw [hat]; split
    · rename_i e; subst e; rw [h3]; exact h.fits.size i hi
    · exact h.fits.size i hi
  · rw [hl] at hi; rw [hat]; split
    · rename_i e; subst e; rw [h1]; exact h.fits.on i hi
    · exact h.fits.on i hi
  · rw [hl] at hi; rw [hat, if_neg (fun e => hne (by rw [e]; exact hbad))]; exact h.live i hi hne
  · rw [hl]; exact h.stale
  · rw [hl] at hi
    have := hm.2 t f ht hg i hi hne
    rw [hat]; split
    · rename_i e; subst e; exact (firm_congr h1 h2).1 this
    · exact this
theorem fresh_one {s : Shp} (hs : s.Ok) {k : Nat} (hk : k < s.members.toNat) : JOne s k [] (Rig.fresh s) :=
  ⟨fresh_base hs _, Stripes.nil _ _, rfl, fun hd => by
    have h1 : (Rig.fresh s).ds = List.replicate s.members.toNat (Dsk.blank s.sectors.toNat s.block) := rfl
    rw [fresh_at (by rw [h1, List.length_replicate]; exact hk)] at hd; cases hd⟩
/-- where none fails, all are current -/
theorem Base.calm {s : Shp} {r r' : Rig} (h : Base s (fun _ => False) r) (hb : r.broken = false) {S : Nat → Int → Prop} (t : Tr0 S r r') : r'.stale = r.stale ∧ r'.broken = false := by
  refine ⟨?_, ?_⟩
  · rcases t.stale with h1 | ⟨_, m, hm, _, h3⟩
    · exact h1
    · exact absurd (h.live m hm (fun x => x)) h3
  · cases hb' : r'.broken with
    | false => rfl
    | true =>
      exfalso
      rcases t.broken hb' with h1 | ⟨m, hm, h1, _⟩
      · rw [hb] at h1; cases h1
      · exact h1 (h.live m hm (fun x => x))
theorem Base.weak {s : Shp} {bad bad' : Nat → Prop} {r : Rig} (h : Base s bad r) (hb : ∀ i, bad i → bad' i) : Base s bad' r :=
  ⟨h.fits, h.lim, fun i hi hn => h.live i hi (fun x => hn (hb i x)), h.stale.imp id (fun ⟨i, h1, h2, h3⟩ => ⟨i, h1, h2, hb i h3⟩)⟩

/-! what comes in -/
set_option maxRecDepth 100000 in
theorem rdr_small : Rdr Tryz.prog 23 Small (fun a cs _ => cs = [vb a.members, vb a.block, vb a.segments, vb a.stripes, vb a.nv, vb a.logical] ∧ True) := by
  intro H enc W fuel cs x h
  obtain ⟨hl, n, hf⟩ := rdr_struct (P := Tryz.prog) Tryz.underlying23 h
  have hl : cs.length = 6 := hl.trans (by kernel_rfl)
  obtain ⟨c0, c1, c2, c3, c4, c5, rfl⟩ : ∃ a b c d e f, cs = [a, b, c, d, e, f] := by
    match cs, hl with
    | [a, b, c, d, e, f], _ => exact ⟨a, b, c, d, e, f, rfl⟩
  obtain ⟨y0, h0⟩ := hf 0 _ rfl
  obtain ⟨y1, h1⟩ := hf 1 _ rfl
  obtain ⟨y2, h2⟩ := hf 2 _ rfl
  obtain ⟨y3, h3⟩ := hf 3 _ rfl
  obtain ⟨y4, h4⟩ := hf 4 _ rfl
  obtain ⟨y5, h5⟩ := hf 5 _ rfl
  obtain ⟨b0, hb0, _⟩ := rdr_u8 (P := Tryz.prog) (t := 5) enc W n [c0] y0 h0
  obtain ⟨b1, hb1, _⟩ := rdr_u8 (P := Tryz.prog) (t := 5) enc W n [c1] y1 h1
  obtain ⟨b2, hb2, _⟩ := rdr_u8 (P := Tryz.prog) (t := 5) enc W n [c2] y2 h2
  obtain ⟨b3, hb3, _⟩ := rdr_u8 (P := Tryz.prog) (t := 5) enc W n [c3] y3 h3
  obtain ⟨b4, hb4, _⟩ := rdr_u8 (P := Tryz.prog) (t := 5) enc W n [c4] y4 h4
  obtain ⟨b5, hb5, _⟩ := rdr_u8 (P := Tryz.prog) (t := 5) enc W n [c5] y5 h5
  simp only [List.cons.injEq, and_true] at hb0 hb1 hb2 hb3 hb4 hb5
  subst hb0 hb1 hb2 hb3 hb4 hb5
  exact ⟨⟨b0, b1, b2, b3, b4, b5⟩, rfl, trivial⟩
end Go.Proofs.YtohienhoifgmaaaGreat
end
