/- DiskPlays: whatever a disk is asked: what is read, each error, what waits, how often each sector was written, how many operations there were. -/
import Derived.Test.YtapgejjjgeiihaaDpl3
import Derived.Test.YtapgejjjgeiihaaDpl4
import Derived.Test.YtapgejjjgeiihaaDpl5
import Derived.Test.YtapgejjjgeiihaaFin
namespace Go.Proofs.Ytapgejjjgeiihaa
open Go Go.Sl
attribute [local irreducible] Yl WL WC WQ WD

theorem bdo_spec (t : Nat) (b : Bk) (P : List Row) (hb : b.In P) (dox : UInt8) (i : Int) (hi : -128 ≤ i ∧ i ≤ 127) (fill : UInt8) (long : Bool) (keep : Nat) (hkeep : keep < 18446744073709551616) :
    Spec0 Try.prog 60 [vp t, actVal dox i fill long keep] (fun _ => True) (fun F => Cells t b.cells :: Pool P :: F)
      (fun x : Row × (Nat → Row) × List Row => Fresh P (dox.toNat % 10) fill x.1 x.2.1 x.2.2) (fun x => .tuple #[wv (b.act (dox.toNat % 10) i long keep x.1 x.2.1).1.1, vi (b.act (dox.toNat % 10) i long keep x.1 x.2.1).1.2])
      (fun x F => Cells t (b.act (dox.toNat % 10) i long keep x.1 x.2.1).2.cells :: Pool x.2.2 :: F) := by
  by_cases h : dox.toNat % 10 < 5
  · exact bdo1_spec t b P hb dox i hi fill long keep hkeep h
  · exact bdo2_spec t b P hb dox i hi fill long keep hkeep h

set_option maxHeartbeats 2000000 in
theorem equali_spec (v1 v2 : Value) (b1 b2 : List Int) (hb : b1.length ≤ 1099511627776) :
    Spec0 Try.prog 62 [v1, v2] (fun h => Rd v1 1 (b1.map vi) h ∧ Rd v2 1 (b2.map vi) h) (fun F => F) (fun _ : Unit => True) (fun _ => .bool (decide (b1 = b2))) (fun _ F => F) := by
  (refine spec_of Try.func62 rfl Try.ntmps62 rfl (fun F w0 hrd => ?_))
  haveI : RdIn F v1 1 (b1.map vi) := ⟨fun h hs => (hrd h hs).1⟩
  haveI : RdIn F v2 1 (b2.map vi) := ⟨fun h hs => (hrd h hs).2⟩
  refine walk ?_
  refine wif_dec (fun hc => ?_) (fun hc => ?_) <;> refine walk ?_
  · have : b1 ≠ b2 := by intro e; subst e; exact hc rfl
    exact wq_ret1 rfl rfl () (by simp [this]) trivial Ent.refl
  · have hl : b1.length = b2.length := by omega
    refine wc_loop (X := Nat) (fun k => [(0, v1), (1, v2), (12, vi (b1.length : Int)), (13, vi k)]) (fun _ => F) (fun k => k ≤ b1.length ∧ b1.take k = b2.take k) (fun k => b1.length - k) 0 ⟨by omega, rfl⟩
      ⟨rfl, rfl, by simp [Env.get, Nat.beq], rfl, trivial⟩ Ent.refl (fun k hk => ?_)
    obtain ⟨hk, he⟩ := hk
    refine walk ?_
    refine wif_dec (fun hlt => ?_) (fun hlt => ?_) <;> refine walk ?_
    · have hlt : k < b1.length := by omega
      (refine draw ?_; refine dy 0 ?_; refine dy 1 ?_; refine dy 2 ?_; refine dy 3 ?_; refine dy 4 ?_; refine dy 5 ?_; refine dy 6 ?_; refine dy 7 ?_; refine dy 8 ?_; refine walk ?_)
      refine wif_dec (fun hc => ?_) (fun hc => ?_) <;> refine walk ?_
      · refine wq_ret1 rfl rfl () ?_ trivial Ent.refl
        have : b1 ≠ b2 := by intro e; subst e; exact hc rfl
        simp [this]
      · have h1 : b1[k] = b2[k] := by omega
        refine wq_round (k + 1) ⟨by omega, ?_⟩ (by omega) ⟨rfl, rfl, rfl, rfl, trivial⟩ Ent.refl
        rw [List.take_succ_eq_append_getElem hlt, List.take_succ_eq_append_getElem (by omega), he, h1]
    · refine wq_ret1 rfl rfl () ?_ trivial Ent.refl
      have e1 : b1.take k = b1 := List.take_of_length_le (by omega)
      have e2 : b2.take k = b2 := List.take_of_length_le (by omega)
      rw [e1, e2] at he
      simp [he]

structure Act04 where
  dox : UInt8
  i : Int
  fill : UInt8
  long : Bool
  keep : Int
def Act04.cells (a : Act04) : List Value := [vb a.dox, .int .i8 a.i, vb a.fill, .bool a.long, .int .u64 a.keep]
instance : FLen Act04.cells 5 := ⟨fun _ => rfl⟩
def Act04.Ok (a : Act04) : Prop := (-128 ≤ a.i ∧ a.i ≤ 127) ∧ 0 ≤ a.keep ∧ a.keep ≤ 18446744073709551615
set_option maxRecDepth 100000 in
theorem rdr_act04 : Rdr Try.prog 96 Act04 (fun a cs _ => cs = a.cells ∧ a.Ok) := by
  intro H enc W fuel cs x h
  obtain ⟨hl, n, hf⟩ := rdr_struct (P := Try.prog) Try.underlying96 h
  have hl : cs.length = 5 := hl.trans (by kernel_rfl)
  obtain ⟨c0, c1, c2, c3, c4, rfl⟩ : ∃ a b c d e, cs = [a, b, c, d, e] := by
    match cs, hl with
    | [a, b, c, d, e], _ => exact ⟨a, b, c, d, e, rfl⟩
  obtain ⟨y0, h0⟩ := hf 0 _ rfl
  obtain ⟨y1, h1⟩ := hf 1 _ rfl
  obtain ⟨y2, h2⟩ := hf 2 _ rfl
  obtain ⟨y3, h3⟩ := hf 3 _ rfl
  obtain ⟨y4, h4⟩ := hf 4 _ rfl
  obtain ⟨b0, hb0, _⟩ := rdr_u8 (P := Try.prog) (t := 5) enc W n [c0] y0 h0
  obtain ⟨b1, hb1, hi⟩ := rdr_int (P := Try.prog) (t := 63) enc W n [c1] y1 h1
  obtain ⟨b2, hb2, _⟩ := rdr_u8 (P := Try.prog) (t := 5) enc W n [c2] y2 h2
  obtain ⟨b3, hb3⟩ := rdr_bool (P := Try.prog) (t := 4) enc W n [c3] y3 h3
  obtain ⟨b4, hb4, hk⟩ := rdr_int (P := Try.prog) (t := 69) enc W n [c4] y4 h4
  simp only [List.cons.injEq, and_true] at hb0 hb1 hb2 hb3 hb4
  subst hb0 hb1 hb2 hb3 hb4
  exact ⟨⟨b0, b1, b2, b3, b4⟩, rfl, hi, hk⟩

theorem rel_blank (f : Nat → Row) (hf : ∀ i, i < 6 → (f i).2 = [0, 0, 0]) : Rel (Bk.blank f) (Dsk.blank 6 3, ⟨0, -1⟩) :=
  ⟨rfl, rfl, rfl, rfl, rfl, fun i hi => by
    show (List.replicate 6 (List.replicate 3 (0 : UInt8)))[i]? = some (f i).2
    rw [List.getElem?_replicate, if_pos hi, hf i hi]; rfl, fun i hi => rfl, fun e he => (by cases he), List.nodup_nil, fun i hi => by
    show (List.replicate 6 (0 : Int))[i]? = some 0
    rw [List.getElem?_replicate, if_pos hi], rfl, rfl⟩
theorem see_len {d : Dsk} (h : d.Ok) {i : Int} (hi : d.has i = true) : ((d.see i).length : Int) = d.size := by
  unfold Dsk.see
  cases hg : mget d.cache i with
  | some b => exact (h.cache _ (mget_mem hg)).2
  | none =>
    have hi' : 0 ≤ i ∧ i < d.on.length := by simpa [Dsk.has] using hi
    have hlt : i.toNat < d.on.length := by omega
    simp only [Option.getD_none, List.getD, List.getElem?_eq_getElem hlt, Option.getD_some]
    exact h.on _ (List.getElem_mem hlt)
theorem dact_len {k : Nat} {i : Int} {fill : UInt8} {long : Bool} {keep : Nat} {s s' : DP} {x : Bytes} {e : Int} (h : s.1.Ok) (hs : s.1.size = 3) (hm : dact k i fill long keep s = .ok (x, e) s') : x.length ≤ 3 := by
  unfold dact at hm
  split at hm
  · unfold dread at hm
    split at hm
    · rename_i hi
      cases hd : dstep s with
      | gone s1 => rw [hd] at hm; cases hm
      | ok e1 s1 =>
        rw [hd] at hm
        obtain ⟨p, _, rfl, _⟩ := dstep_ok hd
        dsimp only [Out.bind_ok] at hm
        split at hm
        · cases hm
          have := see_len (d := s.1) h hi
          show (s.1.see i).length ≤ 3
          omega
        · cases hm; simp
    · cases hm; simp
  split at hm
  · obtain ⟨rfl, _⟩ := bind_inv hm; simp
  split at hm
  · obtain ⟨rfl, _⟩ := bind_inv hm; simp
  split at hm
  · cases hm; simp
  split at hm
  · cases hm; simp
  split at hm
  · cases hm; simp
  · cases hm; simp

theorem disk_ok {d p : Nat} {s : Dsk} {Γ : List HP} {h : Hp} (hs : Sat (DiskAt d p s :: Γ) h) : s.Ok := by
  obtain ⟨x, hf, _⟩ := DiskAt.opened hs
  exact hf.ok
set_option maxHeartbeats 4000000 in
theorem dplays_spec (v0 : Value) (xs : List Act04) (hb0 : xs.length ≤ 9223372036854775807) (hok : ∀ a ∈ xs, a.Ok) :
    Spec0 Try.prog 15 [v0] (Rd v0 5 (xs.flatMap Act04.cells)) (fun F => F) (fun _ : Unit => True) (fun _ => .bool true) (fun _ F => F) := by
  (refine spec_of Try.func15 rfl Try.ntmps15 rfl (fun F w0 hrd => ?_))
  haveI : RdIn F v0 5 (xs.flatMap Act04.cells) := ⟨hrd⟩
  refine walk ?_
  refine call (awake04_spec) ?_
  intro _ _
  refine walk ?_
  refine wif_dec (fun hc => ?_) (fun hc => ?_) <;> refine walk ?_
  · exact wq_ret1 rfl rfl () rfl trivial perm
  have h1 : xs.length ≤ 80 := by omega
  refine call (pnew_spec (-1)) ?_
  intro p _
  refine walk ?_
  refine call (dnew_spec p 6 3 (by omega) (by omega)) ?_
  intro d _
  rw [show (max (6 : Int) 0).toNat = 6 from rfl, show max (3 : Int) 0 = 3 from rfl]
  refine walk ?_
  refine call (fresh_spec) ?_
  intro f hf
  haveI : ∀ Γ, OneIn Γ (Bk.blank f).cells := cells_one (fun i hi => (hf i hi).2) (fun i r h => by cases h)
  refine walk ?_
  intro t
  refine walk ?_
  refine wc_loop (X := Nat × Bk × DP × List Row) (fun y => [(0, v0), (2, .bool false), (3, vp p), (4, vp d), (5, vp t), (23, v0), (24, vi xs.length), (25, vi y.1)])
    (fun y => Cells t y.2.1.cells :: DiskAt d p y.2.2.1.1 :: PowAt p y.2.2.1.2 :: Pool y.2.2.2 :: F) (fun y => y.1 ≤ xs.length ∧ y.2.1.In y.2.2.2 ∧ Rel y.2.1 y.2.2.1) (fun y => xs.length - y.1)
    (0, Bk.blank f, (Dsk.blank 6 3, ⟨0, -1⟩), (List.range 6).map f) ⟨by simp, ⟨fun i hi => ⟨List.mem_map.2 ⟨i, List.mem_range.2 hi, rfl⟩, (hf i hi).2⟩, fun i r h => by cases h⟩, rel_blank f (fun i hi => (hf i hi).1)⟩ envs perm (fun y hy => ?_)
  clear this hf f
  obtain ⟨k, b, s, P⟩ := y
  dsimp only at hy ⊢
  obtain ⟨hk, hin, hrel⟩ := hy
  refine walk ?_
  refine wif_dec (fun hlt => ?_) (fun hlt => ?_)
  rotate_left
  · refine walk ?_
    exact wq_ret1 rfl rfl () rfl trivial perm
  have hlt : k < xs.length := by omega
  refine WC.ex (fun _ hs => knows4 (disk_ok ((perm : Ent (Cells t b.cells :: DiskAt d p s.1 :: PowAt p s.2 :: Pool P :: F) (DiskAt d p s.1 :: F)) _ hs)) hs) (fun _ hdok => ?_)
  refine walk ?_
  have hao := hok xs[k] (List.getElem_mem hlt)
  generalize xs[k] = a at *
  obtain ⟨dox, i, fill, long, keep⟩ := a
  obtain ⟨hi, hkp⟩ := hao
  dsimp only at hi hkp
  obtain ⟨kn, rfl⟩ : ∃ kn : Nat, keep = kn := ⟨keep.toNat, by omega⟩
  have hkn : kn < 18446744073709551616 := by omega
  dsimp only [Act04.cells]
  intro b7
  refine walk ?_
  have hk10 : dox.toNat % 10 < 10 := by omega
  obtain ⟨⟨x, e⟩, s', hm⟩ : ∃ xe s', dact (dox.toNat % 10) i fill long kn s = .ok xe s' := by
    obtain ⟨s', h, _⟩ := hrel.act hk10 i fill long kn (.slice none 0 0, List.replicate 3 fill) (fun _ => (.slice none 0 0, [0, 0, 0])) rfl (fun _ _ _ => rfl)
    exact ⟨_, s', h⟩
  have hxl := dact_len hdok hrel.size hm
  refine call (ask_spec d p s s' x e dox i hi fill long kn hkn hm) ?_
  intro got _
  refine walk ?_
  refine call (bdo_spec t b P hin dox i hi fill long kn hkn) ?_
  intro y hfr
  obtain ⟨data, f, Q⟩ := y
  dsimp only at hfr ⊢
  obtain ⟨s2, hm2, hrel2⟩ := hrel.act hk10 i fill long kn data f hfr.data.2.1 (fun h9 i hi => (hfr.blank h9 i hi).2.1)
  have hin2 := hin.act hk10 hfr i long kn
  generalize b.act (dox.toNat % 10) i long kn data f = c at *
  obtain ⟨⟨o, e2⟩, b2⟩ := c
  dsimp only at hm2 hrel2 hin2 ⊢
  rw [hm] at hm2
  injection hm2 with hm3 hs2
  injection hm3 with hx he
  subst hs2 hx he
  obtain ⟨hin2, ho⟩ := hin2
  haveI : ∀ F0, RdIn (Pool Q :: F0) (wv o) 1 (((o.map (·.2)).getD []).map vb) := fun F0 => by
    cases o with
    | none => exact ⟨fun _ _ => .inl ⟨rfl, rfl⟩⟩
    | some r => exact Pool.rdIn (ho r rfl)
  refine walk ?_
  (refine draw ?_; refine dy 0 ?_; refine dy 1 ?_; refine dy 2 ?_; refine dy 3 ?_; refine dwhich 44 ?_)
  refine wif_dec (fun h => absurd rfl h) (fun _ => ?_)
  (refine dg 4 ?_; refine dg 5 ?_; refine ddo 6 ?_)
  refine walk ?_
  refine call (equal_spec got (wv o) ((o.map (·.2)).getD []) ((o.map (·.2)).getD []) (by omega)) ?_
  intro _ _
  (refine walk ?_; refine dg 7 ?_; refine dy 8 ?_; refine dy 9 ?_; refine dwhich 50 ?_)
  refine WIf.both (fun h => absurd h (by simp)) (fun _ => ?_)
  (refine dg 10 ?_; refine dg 12 ?_; refine dg 13 ?_; refine ddo 11 ?_)
  refine walk ?_
  refine call (dead_spec d p s'.1) ?_
  intro _ _
  rw [hrel2.dead]
  (refine walk ?_; refine dg 14 ?_; refine dy 15 ?_; refine dy 16 ?_; refine dwhich 57 ?_)
  refine WIf.both (fun h => absurd h (by simp)) (fun _ => ?_)
  (refine dg 17 ?_; refine dg 19 ?_; refine dg 20 ?_; refine ddo 18 ?_)
  refine walk ?_
  refine call (used_spec p s'.2) ?_
  intro _ _
  rw [hrel2.used]
  (refine walk ?_; refine dg 21 ?_; refine dy 22 ?_; refine dy 23 ?_; refine dwhich 64 ?_)
  refine wif_dec (fun h => absurd rfl h) (fun _ => ?_)
  (refine dg 24 ?_; refine ddo 25 ?_)
  refine walk ?_
  refine call (sectors_spec d p s'.1) ?_
  intro _ _
  rw [show s'.1.sectors = 6 from by unfold Dsk.sectors; rw [hrel2.len]; rfl]
  (refine walk ?_; refine dg 26 ?_; refine dy 27 ?_; refine walk ?_)
  refine walk ?_
  refine wif_dec (fun h => absurd rfl h) (fun _ => ?_)
  clear hm hxl this hfr hdok hrel hin ho
  have hwr : ∀ j : Int, (if s'.1.has j then s'.1.writes.getD j.toNat 0 else 0) = if 0 ≤ j ∧ j < 6 then b2.writes j.toNat else 0 := fun j => by
    rw [hrel2.has]
    by_cases h : 0 ≤ j ∧ j < 6
    · rw [if_pos (by simpa using h), if_pos h]
      simp [List.getD, hrel2.writes j.toNat (by omega)]
    · rw [if_neg (by simpa using h), if_neg h]
  refine walk ?_
  refine wc_loop (X := Nat × Value) (fun y => [(0, v0), (2, .bool false), (3, vp p), (4, vp d), (5, vp t), (23, v0), (24, vi xs.length), (25, vi k), (12, y.2), (69, vi y.1)])
    (fun y => Sl y.2 1 ((waitsN b2.wait y.1).map vi) :: Cells t b2.cells :: DiskAt d p s'.1 :: PowAt p s'.2 :: Pool Q :: F) (fun y => y.1 ≤ 6) (fun y => 6 - y.1) (0, .slice none 0 0) (by simp) envs (by refine Ent.trans ?_ (sl_nil 1); exact perm) (fun y hy => ?_)
  obtain ⟨j, w⟩ := y
  dsimp only at hy ⊢
  refine walk ?_
  refine wif_dec (fun hlt6 => ?_) (fun hlt6 => ?_)
  · have hj : j < 6 := by omega
    have hwj : (if s'.1.has (j : Int) then s'.1.writes.getD (j : Int).toNat 0 else 0) = b2.writes j := by
      rw [hwr, if_pos (show 0 ≤ (j : Int) ∧ (j : Int) < 6 from ⟨by omega, hlt6⟩), Int.toNat_natCast]
    refine walk ?_
    refine wl_y (yl_indexA1 (m := 6) rfl rfl (by omega)) rfl ?_
    refine wl_y (yl_load (cs := b2.cells) (v := wv (b2.wait j)) rfl (b2.get_wait hj)) rfl ?_
    cases hw : b2.wait j with
    | none =>
      have hnext : waitsN b2.wait (j + 1) = waitsN b2.wait j := by rw [waitsN, hw]; simp
      refine wl_y (yl_nenilv rfl rfl (.inl rfl)) rfl ?_
      rw [show (!isNil (wv none)) = false from rfl]
      refine walk ?_
      refine draw ?_; refine dy 0 ?_; refine dy 1 ?_; refine dy 3 ?_; refine dy 4 ?_
      refine dy 5 ?_ (y := yl_indexA1 (m := 6) rfl rfl (by omega))
      refine dy 6 ?_ (y := yl_load (cs := b2.cells) (v := vi (b2.writes j)) rfl (b2.get_writes hj))
      refine ddx 2 ?_
      refine call (writes_spec d p s'.1 j) ?_
      intro _ _
      rw [hwj]
      refine walk ?_
      refine dy 7 ?_
      refine walk ?_
      refine wif_dec (fun h => absurd rfl h) (fun _ => ?_)
      refine walk ?_
      exact wq_round (j + 1, w) (by dsimp only; omega) (by dsimp only; omega) envs (by dsimp only; rw [hnext]; exact perm)
    | some r =>
      have hnext : waitsN b2.wait (j + 1) = waitsN b2.wait j ++ [(j : Int)] := by rw [waitsN, hw]; simp
      have hr := (hin2.wait j r hw).2
      refine wl_y (yl_nenilv rfl rfl (.inr hr)) rfl ?_
      rw [show (!isNil (wv (some r))) = true from Some1.not hr]
      have hwl : (waitsN b2.wait j).length ≤ 6 := by rw [waitsN_rank]; have := b2.rank_le j; omega
      refine walk ?_
      intro u hul hun
      refine walk ?_
      intro w2 hsl hsn
      refine walk ?_
      refine draw ?_; refine dy 0 ?_; refine dy 1 ?_; refine dy 3 ?_; refine dy 4 ?_
      refine dy 5 ?_ (y := yl_indexA1 (m := 6) rfl rfl (by omega))
      refine dy 6 ?_ (y := yl_load (cs := b2.cells) (v := vi (b2.writes j)) rfl (b2.get_writes hj))
      refine ddx 2 ?_
      refine call (writes_spec d p s'.1 j) ?_
      intro _ _
      rw [hwj]
      refine walk ?_
      refine dy 7 ?_
      refine walk ?_
      refine wif_dec (fun h => absurd rfl h) (fun _ => ?_)
      refine walk ?_
      exact wq_round (j + 1, w2) (by dsimp only; omega) (by dsimp only; omega) envs (by dsimp only; simp only [hnext, List.map_append, List.map_cons, List.map_nil]; exact perm)
  · have hj6 : j = 6 := by omega
    subst hj6
    have hm1 : (if s'.1.has (-1) then s'.1.writes.getD (-1 : Int).toNat 0 else 0) = 0 := by rw [hwr]; exact if_neg (by omega)
    have hm6 : (if s'.1.has 6 then s'.1.writes.getD (6 : Int).toNat 0 else 0) = 0 := by rw [hwr]; exact if_neg (by omega)
    refine walk ?_
    refine call (waiting_spec d p s'.1) ?_
    intro wq _
    rw [hrel2.waiting]
    refine walk ?_
    refine call (equali_spec wq w (waitsN b2.wait 6) (waitsN b2.wait 6) (by rw [waitsN_rank]; have := b2.rank_le 6; omega)) ?_
    intro _ _
    refine walk ?_
    refine wif_dec (fun _ => ?_) (fun h => absurd rfl h)
    refine walk ?_
    refine call (writes_spec d p s'.1 (-1)) ?_
    intro _ _
    rw [hm1]
    refine walk ?_
    refine call (writes_spec d p s'.1 6) ?_
    intro _ _
    rw [hm6]
    refine walk ?_
    refine wif_dec (fun h => absurd rfl h) (fun _ => ?_)
    refine walk ?_
    exact wq_round (k + 1, b2, s', Q) ⟨by dsimp only; omega, hin2, hrel2⟩ (by dsimp only; omega) envs perm

set_option maxRecDepth 100000 in
open Go.RowKit Go.ChangeShapes Go.WideShapes in
theorem diskPlays_lifted (os : Os) (started : os.Started) (H : Type) (enc : TypeId × Value → H) :
    ReturnsInHanded {} Try.checked os 15 .any (Rows.diskPlaysSpec.pre6 enc Try.prog Try.f15 Rows.diskPlaysRow.domain false) (Rows.diskPlaysSpec.post enc Try.prog Try.f15 false true false false) := by
  refine returnsInHanded_of_change (C := Try.checked) Try.own started (by kernel_rfl) Try.func15
    (ChangeSpec.witness6 (enc := enc) (C := Try.checked) false ⟨#[], #[.slice none 0 0], []⟩ 8 (by kernel_rfl) (by kernel_rfl) (by kernel_rfl) (by kernel_rfl)) ?_
  intro W base args ds gs before hval0 hW hcnd _
  rw [Try.same] at hval0 hW hcnd ⊢
  have hval : ∀ (j : Nat) t v, Try.f15.params[j]? = some t → args[j]? = some v → Value.okWide Try.prog W .any base t v := hval0
  have hW' := hW
  obtain ⟨p, q, hA, hV, rfl, hfz, hnd⟩ := hW
  have hA : DataW.TrodAll enc Try.prog W 0 (fun _ => true) true [89] args.toList ds p := hA
  obtain ⟨v0, vs0, d0, ds0, q0, m0, y0, e0, rfl, t0, h0⟩ := trodAll_split1 hA
  obtain ⟨e1, rfl⟩ := trodAll_split0 h0
  have ea : args = [v0].toArray := by apply Array.toList_inj.1; rw [e0, e1]
  subst ea
  obtain ⟨b0, w0, f0, hr0, hb0, hx0⟩ := arg_slice (@rdr_slicef Try.prog 89 96 5 Act04 Act04.cells _ _ (by kernel_rfl) (by decide) @rdr_act04) (hval 0 89 v0 rfl rfl) t0
  obtain rfl : v0 = w0 := by simpa using f0
  refine (dplays_spec v0 b0 hb0 hx0 [Old W] W (fun h hs => (Old.rd hr0).rd h hs) (sat_old W)).mono fun e W' he => ?_
  obtain ⟨hev, ⟨_, _, rfl, hs⟩ | ⟨_, hf, _⟩⟩ := he
  · exact ⟨_, rfl, law_post Try.laidOut rfl hW' rfl Try.underlying4 (by decide +kernel) (by cases gs <;> first | rfl | exact False.elim hV) (Sat.below hev hs)⟩
  · exact hf.elim

set_option maxRecDepth 100000 in
theorem diskPlays_holds : Rows.DiskPlaysSaid :=
  OpenClaim.holds_of_wide 15 Try.f15 rfl rfl rfl rfl rfl rfl rfl ⟨rfl, rfl, rfl, rfl, rfl⟩ rfl rfl rfl rfl rfl (by kernel_rfl) Try.func15 (Try.joined (by kernel_rfl))
    (of_decide_eq_true (by kernel_rfl)) (by unfold Func.isWrapper; first | (rw [if_pos (by decide +kernel)]; kernel_rfl) | (rw [if_neg (by decide +kernel)]; exact ⟨rfl, rfl⟩))
    (fun os started H enc _ => diskPlays_lifted os started H enc)
#print axioms diskPlays_holds
end Go.Proofs.Ytapgejjjgeiihaa
