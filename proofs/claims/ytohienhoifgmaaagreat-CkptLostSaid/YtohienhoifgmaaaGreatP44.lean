/- A log's book: the first records go into a stripe. -/
import Derived.Test.YtohienhoifgmaaaGreatP42
import Derived.Test.YtohienhoifgmaaaGreatP17
import Derived.Test.YtohienhoifgmaaaGreatP43
import Derived.Test.YtohienhoifgmaaaGreatP36

namespace Go.Proofs.YtohienhoifgmaaaGreat
open Go Go.Sl
attribute [local irreducible] Yl WL WC WQ WD
theorem bdone_spec (e : Rec × Value) (c : Nat) (upTo : Int) :
    Spec0 Tryz.prog 124 [.agg (recCells e).toArray, vp c] (Rd e.2 1 (e.1.data.map vb)) (fun F => Cells c [.int .u64 upTo] :: F) (fun _ : Unit => True) (fun _ => .bool (decide (e.1.seq ≤ upTo))) (fun _ F => Cells c [.int .u64 upTo] :: F) := by
  (refine spec_of Tryz.func124 rfl Tryz.ntmps124 rfl (fun F w0 hrd => ?_))
  obtain ⟨r, v⟩ := e
  dsimp only [recCells] at hrd ⊢
  haveI : RdIn F v 1 (r.data.map vb) := ⟨hrd⟩
  refine walk ?_
  intro c2
  refine walk ?_
  exact wq_ret1 rfl rfl () rfl trivial perm
theorem zfirst_lt {l : List Int} (h : 0 ≤ zfirst l) : zfirst l < l.length := by
  unfold zfirst at h ⊢
  cases hf : l.findIdx? (fun x => decide (x = 0)) with
  | none => rw [hf] at h; exact absurd h (by decide)
  | some i =>
    obtain ⟨hi, _⟩ := List.findIdx?_eq_some_iff_getElem.1 hf
    dsimp only
    omega
theorem bputs_drop {at_ : Int} {L : List Rec} {i : Nat} (h : i < L.length) (x : List Int × IMap Bytes) :
    Bok.puts at_ (L.drop i) i x = Bok.puts at_ (L.drop (i + 1)) (i + 1) (x.1.set L[i].lba.toNat (if L[i].kind = 2 then -1 else at_ + i), mset x.2 (at_ + i) L[i].data) := by
  rw [List.drop_eq_getElem_cons h]
  rfl
set_option maxHeartbeats 8000000 in
theorem bdestage_spec (p : Nat) (rows : List Row) (b : Bok) (h : BkOk b) :
    Spec0 Tryz.prog 78 [vp p] (fun h => ∀ r ∈ rows, Rd r.1 1 (r.2.map vb) h) (fun F => BkAt p rows b :: F) (fun _ : Unit => True) (fun _ => .bool b.destage.1) (fun _ F => BkAt p rows b.destage.2 :: F) := by
  (refine spec_of Tryz.func78 rfl Tryz.ntmps78 rfl (fun F w0 hrd => ?_))
  (first | refine WC.ex (fun y => BkAt.opened) (fun x hx => ?_) | refine WL.ex (fun y => BkAt.opened) (fun x hx => ?_) | refine WQ.ex (fun y => BkAt.opened) (fun x hx => ?_))
  have hrl := h.recl hx
  obtain ⟨rv, sv, bv, mv, dc, nc, rs, cs, ns⟩ := x
  obtain ⟨hx1, hx2, hx3, hx4⟩ := hx
  dsimp only at hrl hx1 hx2 hx3 hx4 ⊢
  have hrow : ∀ e ∈ rs, RdIn F e.2 1 (e.1.data.map vb) := fun e he => ⟨fun h hs => hrd h hs _ (hx2 e he)⟩
  haveI hri : ReadIn F (fun h => ∀ e ∈ rs, Rd e.2 1 (e.1.data.map vb) h) := ⟨fun h hs e he => hrd h hs _ (hx2 e he)⟩
  have hm := h.ok.members
  have hsg := h.ok.segments
  have hst := h.ok.stripes
  obtain ⟨n, hn⟩ : ∃ n : Nat, b.s.members - 2 = n := ⟨(b.s.members - 2).toNat, by omega⟩
  have hsl : b.s.slots = n := hn
  have hvl := vw_length rkey rs
  have hl := rec_len (vw rkey rs)
  obtain ⟨B, hB⟩ : ∃ B, B = (vw rkey rs).take n := ⟨_, rfl⟩
  have hBl := rec_len B
  have hBn : B.length = min n (vw rkey rs).length := by rw [hB, List.length_take]
  have hBb : B.map (·.1) = b.batch := by
    unfold Bok.batch
    rw [hB, hsl, List.map_take, ← hx1, ← vw_map (fun r : Rec => r.lba) (fun e : Rec × Value => e.1)]
    rfl
  have hBm : ∀ e ∈ B, (e.2, e.1.data) ∈ rows := fun e he => hx2 e (vw_mem (List.mem_of_mem_take (hB ▸ he)))
  have hBr : ∀ e ∈ B, RdIn F e.2 1 (e.1.data.map vb) := fun e he => hrow e (vw_mem (List.mem_of_mem_take (hB ▸ he)))
  have hBk : ∀ e ∈ B, RecOk b.s e.1 := fun e he => h.rok _ (by rw [← hx1]; exact List.mem_map.2 ⟨e, vw_mem (List.mem_of_mem_take (hB ▸ he)), rfl⟩)
  refine walk ?_
  refine call (bview_spec rv rs hrl) ?_ (hr := fun h hs => ⟨RdIn.rd h hs, ReadIn.rd (rd := fun h => ∀ e ∈ rs, Rd e.2 1 (e.1.data.map vb) h) h hs⟩) (hg := by exact frameL)
  intro vv _
  refine walk ?_
  have hmn : (min ((vw rkey rs).length : Int) (b.s.members - 2)).toNat = B.length := by omega
  refine wl_y (yl_sliceH (vs := (vw rkey rs).flatMap recCells) (k := 4) rfl rfl (by decide) (by omega) (by omega)) rfl ?_
  rw [hmn]
  refine WL.ent (Γ' := Sl (slSub vv 4 0 B.length) 4 (B.flatMap recCells) :: BParts p ⟨rv, sv, bv, mv, dc, nc, rs, cs, ns⟩ b F) ?_ ?_
  · refine Ent.trans (Γ' := Sl vv 4 ((vw rkey rs).flatMap recCells) :: BParts p ⟨rv, sv, bv, mv, dc, nc, rs, cs, ns⟩ b F) permL (Ent.imp fun h hr => ?_)
    have := Sl.sub (lo := 0) (hi := B.length) (by decide) hr (Nat.zero_le _) (by omega)
    rw [Nat.sub_zero, Nat.zero_mul, List.drop_zero, recs_take, show (vw rkey rs).take B.length = B by rw [hBn, ← List.take_eq_take_min, ← hB]] at this
    exact this
  generalize slSub vv 4 0 B.length = wv
  dsimp only [BParts, bcells]
  refine walk ?_
  unfold Bok.destage
  rw [← hBb]
  refine wif_dec (fun hz => ?_) (fun hz => ?_)
  · obtain rfl : B = [] := List.length_eq_zero_iff.1 (by omega)
    refine walk ?_
    refine wq_ret1 rfl rfl () rfl trivial ?_
    refine Ent.trans ?_ (BkAt.shut (b := b) ⟨rv, sv, bv, mv, dc, nc, rs, cs, ns⟩ ⟨hx1, hx2, hx3, hx4⟩)
    exact permL
  have hpos : 0 < B.length := by omega
  have hlt : B.length - 1 < B.length := by omega
  obtain ⟨e, he⟩ : ∃ e, (B.map (·.1)).getLast? = some e := ⟨_, List.getLast?_eq_some_getLast (by intro h0; rw [List.map_eq_nil_iff.1 h0] at hpos; exact absurd hpos (by simp))⟩
  have hes : e = B[B.length - 1].1 := by
    rw [List.getLast?_map, List.getLast?_eq_getElem?, List.getElem?_eq_getElem hlt] at he
    exact (Option.some.inj he).symm
  rw [he]
  dsimp only
  have hw := wrap64_range (b.durable + 1)
  rw [show b.s.members - 2 = (n : Int) from hn]
  have hz0 : (List.replicate n (⟨0, 0⟩ : Entry)).flatMap entCells = (List.replicate (Int.toNat (n : Int)) (Array.toList (Value.cells (Value.agg #[Value.int IntKind.i64 0, Value.int IntKind.i64 0])))).flatten := by
    rw [List.flatMap_def, List.map_replicate]; rfl
  refine walk ?_
  refine wc_join (X := Nat × Value) (fun y => [(0, vp p), (3, vi n), (4, wv), (5, vp y.1)]) (fun y => Cells y.1 [.int .u64 (IntKind.u64.wrap (b.durable + 1)), vi (-1), y.2] :: Sl y.2 2 ((List.replicate n (⟨0, 0⟩ : Entry)).flatMap entCells) :: Sl wv 4 (B.flatMap recCells) :: BParts p ⟨rv, sv, bv, mv, dc, nc, rs, cs, ns⟩ b F) (fun _ => True) ?_ (fun y _ => ?_)
  · (refine draw ?_; refine dy 0 ?_; refine dy 1 ?_; refine dy 2 ?_; refine dy 3 ?_; refine dy 4 ?_; refine dy 5 ?_)
    refine fork2 6 8 ?_ ?_
    · refine walk ?_
      intro ev _ _
      (refine walk ?_; refine dy 7 ?_; refine ddx 8 ?_)
      refine walk ?_
      intro c5
      (refine walk ?_; refine ddx 9 ?_; refine walk ?_)
      refine wq_meet _ _ _ (c5, ev) trivial envs ?_
      dsimp only
      rw [hz0]
      exact permL
    · refine walk ?_
      intro c5
      (refine walk ?_; refine ddx 6 ?_)
      refine walk ?_
      intro ev _ _
      (refine walk ?_; refine dy 7 ?_; refine ddx 9 ?_; refine walk ?_)
      refine wq_meet _ _ _ (c5, ev) trivial envs ?_
      dsimp only
      rw [hz0]
      exact permL
  obtain ⟨c5, ev⟩ := y
  dsimp only
  refine walk ?_
  refine call (bfree_spec0 p b h ⟨rv, sv, bv, mv, dc, nc, rs, cs, ns⟩) ?_ (hg := frameL)
  intro _ _
  refine walk ?_
  (refine draw ?_; refine dy 0 ?_; refine dy 1 ?_; refine dy 2 ?_; refine dy 3 ?_; refine dy 4 ?_; refine dy 5 ?_; refine dy 6 ?_; refine dy 7 ?_; refine dy 8 ?_; refine dy 9 ?_; refine dy 10 ?_; refine dy 11 ?_; refine walk ?_)
  have hq2 : b.seg * b.s.stripes ≤ 64 * 16 := Int.mul_le_mul (by have := h.seg; omega) hst.2 (by omega) (by omega)
  have hq3 : 0 ≤ b.seg * b.s.stripes := Int.mul_nonneg h.seg.1 (by omega)
  obtain ⟨T, hT⟩ : ∃ T, T = b.seg * b.s.stripes + b.idx := ⟨_, rfl⟩
  have hT0 : 0 ≤ T ∧ T ≤ 2000 := by have := h.idx; omega
  have hTn : 0 ≤ T * n ∧ T * n ≤ 2000 * 16 := ⟨Int.mul_nonneg hT0.1 (by omega), Int.mul_le_mul hT0.2 (by omega) (by omega) (by omega)⟩
  have hpl : b.place = T * n := by unfold Bok.place; rw [hT, hsl]
  rw [hpl]
  obtain ⟨L, hL⟩ : ∃ L, L = B.map (·.1) := ⟨_, rfl⟩
  have hLl : L.length = B.length := by rw [hL, List.length_map]
  have hml := h.map
  rw [← hL]
  refine wif_meet (X := Int) (fun _ => [(0, vp p), (3, vi n), (4, wv), (5, vp c5), (6, vi b.first), (8, .bool (decide (b.idx = b.s.stripes - 1)))]) (fun nx => Cells c5 [.int .u64 (IntKind.u64.wrap (b.durable + 1)), vi nx, ev] :: Sl ev 2 ((List.replicate n (⟨0, 0⟩ : Entry)).flatMap entCells) :: Sl wv 4 (B.flatMap recCells) :: BParts p ⟨rv, sv, bv, mv, dc, nc, rs, cs, ns⟩ b F) (fun _ => ¬ (b.last = true ∧ b.first < 0)) (wif_dec (fun hl => ?_) (fun hl => ?_)) (fun nx hroom => ?_)
  · have hbl : b.last = true := by unfold Bok.last; simpa using hl
    refine walk ?_
    refine wif_dec (fun hneg => ?_) (fun hneg => ?_)
    · rw [if_pos ⟨hbl, hneg⟩]
      refine walk ?_
      refine wq_ret1 rfl rfl () rfl trivial ?_
      refine Ent.trans ?_ (BkAt.shut (b := b) ⟨rv, sv, bv, mv, dc, nc, rs, cs, ns⟩ ⟨hx1, hx2, hx3, hx4⟩)
      exact permL
    · refine walk ?_
      exact wq_meet _ _ _ b.first (fun x => hneg x.2) envs permL
  · have hbl : ¬ b.last = true := by unfold Bok.last; simpa using hl
    refine walk ?_
    exact wq_meet _ _ _ (-1) (fun x => hbl x.1) envs permL
  rw [if_neg hroom]
  dsimp only [BParts, bcells]
  refine walk ?_
  (refine draw ?_; refine dy 0 ?_; refine dy 1 ?_; refine dy 2 ?_; refine dy 3 ?_; refine dy 4 ?_; refine dy 5 ?_; refine dy 6 ?_; refine dy 7 ?_; refine dy 8 ?_; refine dy 9 ?_; refine dy 10 ?_; refine dy 11 ?_; refine dy 12 ?_; refine dy 13 ?_; refine dy 14 ?_; refine dy 15 ?_; refine walk ?_)
  rw [← hT]
  refine walk ?_
  refine wc_loop (X := Nat × List Entry × List Int × Both) (fun y => [(0, vp p), (3, vi n), (4, wv), (5, vp c5), (6, vi b.first), (8, .bool (decide (b.idx = b.s.stripes - 1))), (9, vi T), (77, wv), (78, vi B.length), (79, vi y.1)])
    (fun y => Cells c5 [.int .u64 (IntKind.u64.wrap (b.durable + 1)), vi nx, ev] :: Sl ev 2 (y.2.1.flatMap entCells) :: Sl wv 4 (B.flatMap recCells) :: Cells p [vi b.s.members, vi b.s.block, vi b.s.segments, vi b.s.stripes, vi b.s.nv, vi b.s.logical, rv, .int .u64 b.next, .int .u64 b.durable, vi b.seg, vi b.idx, sv, bv, mv, .map (some dc), .map (some nc)] ::
      Sl rv 4 (rs.flatMap recCells) :: Sl sv 1 (b.state.map vi) :: Sl bv 1 (b.born.map fun i => .int .u64 i) :: Sl mv 1 (y.2.2.1.map vi) :: MapI dc (Both.vals y.2.2.2) :: MapI nc ns :: F)
    (fun y => y.1 ≤ B.length ∧ y.2.1.length = n ∧ y.2.2.1.length = b.map.length ∧ (∀ e ∈ y.2.2.2, e.2 ∈ rows) ∧ Bok.puts (T * n) (L.drop y.1) y.1 (y.2.2.1, Both.data y.2.2.2) = Bok.puts (T * n) L 0 (b.map, b.data)) (fun y => B.length - y.1)
    (0, List.replicate n ⟨0, 0⟩, b.map, cs) ⟨Nat.zero_le _, List.length_replicate, rfl, hx4, by rw [hx3]; rfl⟩ envs permL (fun y hy => ?_)
  obtain ⟨i, E, M, C⟩ := y
  dsimp only at hy ⊢
  obtain ⟨hib, hEl, hMl, hC, hpu⟩ := hy
  have hE2 := ent_len E
  refine walk ?_
  refine wif_dec (fun hlt2 => ?_) (fun hlt2 => ?_)
  · have hlt2 : i < B.length := by omega
    haveI := hBr _ (List.getElem_mem hlt2)
    have hrk := hBk _ (List.getElem_mem hlt2)
    have hrw := hBm _ (List.getElem_mem hlt2)
    have hLi : L[i]'(by omega) = B[i].1 := by simp [hL]
    rw [bputs_drop (by omega), hLi] at hpu
    refine walk ?_
    intro c7
    generalize B[i] = eb at this hrk hrw hpu ⊢
    obtain ⟨⟨sq, kd, lb, dt⟩, ub⟩ := eb
    have hlb := hrk.lba
    dsimp only at hlb
    obtain ⟨k, rfl⟩ : ∃ k : Nat, lb = k := ⟨lb.toNat, by omega⟩
    obtain ⟨Y, hY⟩ : ∃ Y, Y = B.flatMap recCells := ⟨_, rfl⟩
    rw [← hY]
    dsimp only [recCells] at this hpu ⊢
    refine walk ?_
    refine wl_storesSl (us := [vi kd, vi (k : Int)]) (m' := 2) rfl rfl rfl (by decide) ?_ ?_
    · omega
    rw [show ([vi kd, vi (k : Int)] : List Value).length = 2 from rfl, show ([vi kd, vi (k : Int)] : List Value) = entCells ⟨kd, k⟩ from rfl, ent_set (by omega)]
    obtain ⟨E', hE'⟩ : ∃ E', E' = E.set i ⟨kd, k⟩ := ⟨_, rfl⟩
    have hEl' : E'.length = n := by rw [hE', List.length_set]; exact hEl
    rw [← hE']
    have hMm : (M.map vi).length = b.map.length := by rw [List.length_map, hMl]
    refine walk ?_
    (refine draw ?_; refine dy 0 ?_; refine dy 1 ?_; refine dy 2 ?_; refine dy 3 ?_; refine dy 4 ?_; refine dy 5 ?_; refine dy 6 ?_; refine dy 7 ?_; refine dy 8 ?_; refine dy 9 ?_; refine dy 10 ?_; refine dy 11 ?_; refine ddx 12 ?_)
    refine walk ?_
    have hMz : (M.set k (T * n + i)).length = b.map.length := by rw [List.length_set, hMl]
    refine wif_dec (fun h2 => ?_) (fun h2 => ?_)
    · rw [if_pos h2] at hpu
      refine walk ?_
      (refine draw ?_; refine dy 0 ?_; refine dy 1 ?_; refine dy 2 ?_; refine dy 3 ?_; refine dy 4 ?_; refine dy 5 ?_; refine dy 6 ?_; refine ddx 7 ?_)
      refine walk ?_
      rw [List.set_set]
      (refine draw ?_; refine dy 0 ?_; refine dy 1 ?_; refine dy 2 ?_; refine dy 3 ?_; refine dy 4 ?_; refine dy 5 ?_; refine dy 6 ?_; refine dy 7 ?_; refine dy 8 ?_; refine dy 9 ?_; refine dy 10 ?_; refine ddx 11 ?_)
      refine walk ?_
      rw [← Both.vals_set C _ (ub, dt)]
      refine wq_round (i + 1, E', M.set k (-1), mset C (T * n + i) (ub, dt)) ⟨by dsimp only; omega, hEl', by dsimp only; rw [List.length_set, hMl], ?_, ?_⟩ (by dsimp only; omega) envs permL
      · intro q hq
        rcases mset_in hq with rfl | hq
        · exact hrw
        · exact hC q hq
      · dsimp only
        rw [Both.data_set]
        exact hpu
    · rw [if_neg h2] at hpu
      refine walk ?_
      (refine draw ?_; refine dy 0 ?_; refine dy 1 ?_; refine dy 2 ?_; refine dy 3 ?_; refine dy 4 ?_; refine dy 5 ?_; refine dy 6 ?_; refine dy 7 ?_; refine dy 8 ?_; refine dy 9 ?_; refine dy 10 ?_; refine ddx 11 ?_)
      refine walk ?_
      rw [← Both.vals_set C _ (ub, dt)]
      refine wq_round (i + 1, E', M.set k (T * n + i), mset C (T * n + i) (ub, dt)) ⟨by dsimp only; omega, hEl', by dsimp only; rw [List.length_set, hMl], ?_, ?_⟩ (by dsimp only; omega) envs permL
      · intro q hq
        rcases mset_in hq with rfl | hq
        · exact hrw
        · exact hC q hq
      · dsimp only
        rw [Both.data_set]
        exact hpu
  · obtain rfl : i = B.length := by omega
    rw [List.drop_of_length_le (by omega)] at hpu
    refine walk ?_
    (refine draw ?_; refine dy 0 ?_; refine dy 1 ?_; refine dy 2 ?_; refine dy 3 ?_; refine dy 4 ?_; refine dy 5 ?_; refine ddx 6 ?_)
    refine walk ?_
    rw [show (B.length : Int) - 1 = ((B.length - 1 : Nat) : Int) by omega]
    refine walk ?_
    refine wl_y (yl_loadx (k' := 4) rfl (show (B.flatMap recCells)[(B.length - 1) * 4 + 0]? = some (.int .u64 e.seq) from by rw [hes]; exact flat_cell B (B.length - 1) 0 hlt (by decide))) rfl ?_
    refine walk ?_
    intro c12
    refine walk ?_
    refine call (ndelete_spec bdone_spec rv rs c12 e.seq hrl) ?_ (hr := fun h hs => ReadIn.rd (rd := fun h => ∀ e ∈ rs, Rd e.2 1 (e.1.data.map vb) h) h hs) (hg := frameL)
    intro rv' _
    have hfr : (rs.filter fun e' => decide (¬ e'.1.seq ≤ e.seq)).map (·.1) = b.recs.filter (fun r => decide (¬ r.seq ≤ e.seq)) := by
      rw [← hx1, ← filter_map_rec]
    have hfm : ∀ e' ∈ rs.filter (fun e' => decide (¬ e'.1.seq ≤ e.seq)), (e'.2, e'.1.data) ∈ rows := fun e' he' => hx2 e' (List.mem_filter.1 he').1
    have hpu : (M, Both.data C) = Bok.puts (T * n) L 0 (b.map, b.data) := hpu
    have hidx := h.idx
    rw [← hpu]
    refine walk ?_
    refine wif_dec (fun hl => ?_) (fun hl => ?_)
    · have hbl : b.last = true := by unfold Bok.last; simpa using hl
      refine WC.slots (env' := [(0, vp p), (5, vp c5), (6, vi b.first)]) envs ?_
      rw [if_pos hbl]
      have hf0 : 0 ≤ zfirst b.state := by
        change 0 ≤ b.first
        rcases Int.lt_or_le b.first 0 with h9 | h9
        · exact absurd ⟨hbl, h9⟩ hroom
        · exact h9
      have hf1 := zfirst_lt hf0
      change b.first < b.state.length at hf1
      change 0 ≤ b.first at hf0
      obtain ⟨sg, hsg2⟩ : ∃ sg : Nat, b.seg = sg := ⟨b.seg.toNat, by have := h.seg; omega⟩
      obtain ⟨f1, hf2⟩ : ∃ f1 : Nat, b.first = f1 := ⟨b.first.toNat, by omega⟩
      have hsg3 := h.seg
      have hst2 := h.state
      have hbo2 := h.born
      have hs31 : (b.state.set sg 2).length = b.state.length := List.length_set
      rw [hsg2, hf2]
      clear hpu hBr hBk hBm hrow hri
      refine walk ?_
      (refine draw ?_; refine dy 0 ?_; refine dy 1 ?_; refine dy 2 ?_; refine dy 3 ?_; refine dy 4 ?_; refine dy 5 ?_; refine dy 6 ?_; refine dy 7 ?_; refine dy 8 ?_; refine dy 9 ?_; refine dy 10 ?_; refine dy 11 ?_; refine dy 12 ?_; refine dy 13 ?_; refine dy 14 ?_; refine dy 15 ?_; refine dy 16 ?_; refine dy 17 ?_; refine dy 18 ?_; refine ddx 19 ?_)
      (refine walk ?_; refine dy 20 ?_; refine ddx 21 ?_)
      (refine walk ?_)
      refine wq_ret1 rfl rfl () rfl trivial ?_
      refine Ent.trans ?_ (BkAt.shut (b := { b with recs := b.recs.filter (fun r => decide (¬ r.seq ≤ e.seq)), durable := IntKind.u64.wrap (b.durable + 1), map := M, data := Both.data C, state := (b.state.set (Int.toNat (sg : Int)) 2).set (Int.toNat (f1 : Int)) 1, born := b.born.set (Int.toNat (sg : Int)) (IntKind.u64.wrap (b.durable + 1)), seg := f1, idx := 0 }) ⟨rv', sv, bv, mv, dc, nc, rs.filter (fun e' => decide (¬ e'.1.seq ≤ e.seq)), C, mset ns T (.agg #[.int .u64 (IntKind.u64.wrap (b.durable + 1)), vi nx, ev])⟩ ⟨hfr, hfm, rfl, hC⟩)
      dsimp only [BParts, bcells]
      rw [Int.toNat_natCast, Int.toNat_natCast]
      exact permL
    · have hbl : ¬ b.last = true := by unfold Bok.last; simpa using hl
      rw [if_neg hbl]
      refine walk ?_
      refine wq_ret1 rfl rfl () rfl trivial ?_
      refine Ent.trans ?_ (BkAt.shut (b := { b with recs := b.recs.filter (fun r => decide (¬ r.seq ≤ e.seq)), durable := IntKind.u64.wrap (b.durable + 1), map := M, data := Both.data C, idx := b.idx + 1 }) ⟨rv', sv, bv, mv, dc, nc, rs.filter (fun e' => decide (¬ e'.1.seq ≤ e.seq)), C, mset ns T (.agg #[.int .u64 (IntKind.u64.wrap (b.durable + 1)), vi nx, ev])⟩ ⟨hfr, hfm, rfl, hC⟩)
      dsimp only [BParts, bcells]
      exact permL
end Go.Proofs.YtohienhoifgmaaaGreat
