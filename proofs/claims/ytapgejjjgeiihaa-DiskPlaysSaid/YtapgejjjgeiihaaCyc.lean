/- Disks: Cycle. -/
import Derived.Test.YtapgejjjgeiihaaDsk4
import Derived.Test.YtapgejjjgeiihaaSrt
namespace Go.Proofs.Ytapgejjjgeiihaa
open Go Go.Sl
attribute [local irreducible] Yl WL WC WQ WD

theorem bit_eq (keep : Nat) (hk : keep < 18446744073709551616) (b : Nat) (hb : b < 64) :
    IntKind.u64.wrap ((BitVec.ofInt 64 ((keep : Int).fdiv (2 ^ (min ((b : Int).toNat) 64))) &&& BitVec.ofInt 64 1 : BitVec 64).toNat : Nat) = (((keep >>> b) % 2 : Nat) : Int) := by
  have h1 : (keep : Int).fdiv (2 ^ (min ((b : Int).toNat) 64)) = ((keep >>> b : Nat) : Int) := by
    rw [Int.fdiv_eq_ediv_of_nonneg _ (by exact Int.le_of_lt (Int.pow_pos (by decide)))]
    rw [show min ((b : Int).toNat) 64 = b from by simp; omega, Nat.shiftRight_eq_div_pow]
    simp
  have h2 : (BitVec.ofInt 64 ((keep >>> b : Nat) : Int) &&& BitVec.ofInt 64 1 : BitVec 64).toNat = (keep >>> b) % 2 := by
    rw [BitVec.toNat_and]
    have h3 : (BitVec.ofInt 64 ((keep >>> b : Nat) : Int)).toNat = keep >>> b := by
      rw [BitVec.ofInt_natCast, BitVec.toNat_ofNat]
      refine Nat.mod_eq_of_lt (Nat.lt_of_le_of_lt ?_ hk)
      rw [Nat.shiftRight_eq_div_pow]; exact Nat.div_le_self _ _
    have h4 : (BitVec.ofInt 64 1).toNat = 1 := by decide
    rw [h3, h4, Nat.and_one_is_mod]
  rw [h1, h2]
  have h5 : (keep >>> b) % 2 < 2 := Nat.mod_lt _ (by decide)
  exact wrap_u64 (by omega) (by omega)

theorem bit_eq' (keep : Nat) (hk : keep < 18446744073709551616) (k : Nat) :
    IntKind.u64.wrap ((BitVec.ofInt 64 ((keep : Int).fdiv (2 ^ (min (((k : Int) % 64).toNat) 64))) &&& BitVec.ofInt 64 1 : BitVec 64).toNat : Nat) = (((keep >>> (k % 64)) % 2 : Nat) : Int) := by
  rw [← bit_eq keep hk (k % 64) (by omega), show ((k : Int) % 64) = ((k % 64 : Nat) : Int) from by omega]

theorem waiting_perm (s : Dsk) : s.waiting.Perm (s.cache.map (·.1)) := List.mergeSort_perm _ _
theorem _root_.Go.Sl.Dsk.Ok.few {d : Dsk} (h : d.Ok) : d.cache.length ≤ d.on.length := by
  have h1 : ((d.cache.map (·.1)).map Int.toNat).Nodup := by
    rw [List.Nodup, List.pairwise_map]
    refine List.Pairwise.imp_of_mem ?_ h.keys
    intro a b ha hb hab e
    obtain ⟨x, hx, rfl⟩ := List.mem_map.1 ha
    obtain ⟨y, hy, rfl⟩ := List.mem_map.1 hb
    have := (h.cache x hx).1
    have := (h.cache y hy).1
    exact hab (by omega)
  have := nodup_bound h1 (n := d.on.length) (fun j hj => by
    obtain ⟨k, hk, rfl⟩ := List.mem_map.1 hj
    obtain ⟨x, hx, rfl⟩ := List.mem_map.1 hk
    have := (h.cache x hx).1
    omega)
  simpa using this
theorem _root_.Go.Sl.Dsk.Ok.wait {d : Dsk} (h : d.Ok) : d.waiting.length ≤ 1073741824 := by
  have h1 := (waiting_perm d).length_eq
  have := h.few
  have := h.many
  simp at h1
  omega

theorem waiting_spec (d pp : Nat) (s : Dsk) :
    Spec0 Try.prog 54 [vp d] (fun _ => True) (fun F => DiskAt d pp s :: F) (fun _ : Value => True) (fun r => r) (fun r F => Sl r 1 (s.waiting.map vi) :: DiskAt d pp s :: F) := by
  (refine spec_of Try.func54 rfl Try.ntmps54 rfl (fun F w0 hrd => ?_))
  (first | refine WC.ex (fun y => DiskAt.opened) (fun x hf => ?_) | refine WL.ex (fun y => DiskAt.opened) (fun x hf => ?_) | refine WQ.ex (fun y => DiskAt.opened) (fun x hf => ?_))
  have hkeys : x.cs.vals.map (·.1) = s.cache.map (·.1) := by rw [← hf.cache, Both.vals_keys, Both.data_keys]
  have hlen : x.cs.vals.length = s.cache.length := by simpa using congrArg List.length hkeys
  have hfew := hf.ok.few
  have hmany := hf.ok.many
  refine walk ?_
  refine call (keys_spec x.c) ?_
  intro b _
  refine walk ?_
  refine call (sorted_spec b x.c x.cs.vals (by omega) (fun e he => by
    have h1 : e.1 ∈ s.cache.map (·.1) := by rw [← hkeys]; exact List.mem_map.2 ⟨e, he, rfl⟩
    obtain ⟨q, hq, hqe⟩ := List.mem_map.1 h1
    have := (hf.ok.cache q hq).1
    omega)) ?_
  intro r _
  rw [hkeys]
  refine walk ?_
  refine wq_ret1 rfl rfl r rfl trivial ?_
  rw [show s.waiting = (s.cache.map (·.1)).mergeSort (fun x y => decide (x ≤ y)) from rfl]
  exact Ent.trans (Γ' := Sl r 1 (((s.cache.map (·.1)).mergeSort (fun x y => decide (x ≤ y))).map vi) :: DParts d pp x s F) perm (Ent.skip (DiskAt.shut x hf))


set_option maxHeartbeats 1000000 in
theorem cycle_spec (d pp : Nat) (s : Dsk) (keep : Nat) (hkeep : keep < 18446744073709551616) :
    Spec0 Try.prog 53 [vp d, .int .u64 keep] (fun _ => True) (fun F => DiskAt d pp s :: F) (fun _ : Unit => True) (fun _ => .tuple #[]) (fun _ F => DiskAt d pp (s.cycle keep) :: F) := by
  (refine spec_of Try.func53 rfl Try.ntmps53 rfl (fun F w0 hrd => ?_))
  refine walk ?_
  refine call (waiting_spec d pp s) ?_
  intro wv _
  refine WL.ent Ent.swap ?_
  (first | refine WC.ex (fun y => DiskAt.opened) (fun x hf => ?_) | refine WL.ex (fun y => DiskAt.opened) (fun x hf => ?_) | refine WQ.ex (fun y => DiskAt.opened) (fun x hf => ?_))
  have hl : x.ons.length = s.on.length := by have := congrArg List.length hf.on; simpa using this
  have hnd : (x.cs.map (·.1)).Nodup := by rw [← Both.data_keys, hf.cache]; exact hf.ok.keys
  have hmemw : ∀ k, k ∈ s.waiting ↔ (mget x.cs k).isSome := fun k => by
    rw [(waiting_perm s).mem_iff, ← hf.cache, Both.data_keys]
    cases hg : mget x.cs k with
    | none => simpa using mget_none.1 hg
    | some r => simpa using ⟨r.1, r.2, mget_mem hg⟩
  have hwl := hf.ok.wait
  have hndw : s.waiting.Nodup := (waiting_perm s).nodup_iff.2 hf.ok.keys
  refine walk ?_
  refine wc_loop (X := Nat × List Row) (fun y => [(0, vp d), (1, .int .u64 keep), (7, wv), (8, vi s.waiting.length), (9, vi y.1)])
    (fun y => Sl wv 1 (s.waiting.map vi) :: DCells d pp x s :: Sl x.onv 1 (y.2.map (·.1)) :: Sl x.wv 1 (s.writes.map vi) :: MapI x.c x.cs.vals :: Pool x.rows :: F)
    (fun y => y.1 ≤ s.waiting.length ∧ LaidOf x.cs ((s.waiting.take y.1).filter fun i => keepBit keep (s.waiting.idxOf i)) x.ons y.2 ∧ ∀ r ∈ y.2, r ∈ x.rows) (fun y => s.waiting.length - y.1) (0, x.ons) ⟨by simp, ⟨rfl, fun i => by simp⟩, hf.mem⟩ envs perm (fun y hy => ?_)
  obtain ⟨k, ons⟩ := y
  dsimp only at hy ⊢
  obtain ⟨hk, hlaid, hmem⟩ := hy
  refine walk ?_
  refine wif_dec (fun hlt => ?_) (fun hlt => ?_)
  · have hlt : k < s.waiting.length := by omega
    have hr0 : 0 ≤ (k : Int) % 64 := by omega
    have hin : s.waiting[k] ∈ s.waiting := List.getElem_mem hlt
    obtain ⟨r, hr⟩ := Option.isSome_iff_exists.1 ((hmemw _).1 hin)
    have hidx : s.waiting.idxOf s.waiting[k] = k := List.Nodup.idxOf_getElem hndw k hlt
    have hkin := (hf.ok.cache (s.waiting[k], r.2) (by rw [← hf.cache]; exact List.mem_map.2 ⟨_, mget_mem hr, rfl⟩)).1
    have htake : s.waiting.take (k + 1) = s.waiting.take k ++ [s.waiting[k]] := List.take_succ_eq_append_getElem hlt
    have hol := hlaid.1
    refine walk ?_
    generalize s.waiting[k] = w at *
    dsimp only at hkin
    have hbit := bit_eq' keep hkeep k
    refine wif_dec (fun hc => ?_) (fun hc => ?_)
    · have hkb : keepBit keep (s.waiting.idxOf w) = true := by
        have h1 := hbit.symm.trans hc
        rw [hidx]; unfold keepBit; simpa using (by omega : (keep >>> (k % 64)) % 2 = 1)
      haveI : RdIn (Pool x.rows :: F) r.1 1 (r.2.map vb) := Pool.rdIn (hf.mem2 _ (mget_mem hr))
      have hget : (mget x.cs.vals w).getD (.slice none 0 0) = r.1 := by rw [Both.vals_get, hr]; rfl
      (refine draw ?_; refine dy 0 ?_; refine dy 1 ?_; refine dy 2 ?_; refine dy 3 ?_; refine dy 4 ?_; refine dy 5 ?_; refine dy 6 ?_; refine dy 7 ?_; refine dy 8 ?_; refine dy 9 ?_; refine dy 10 ?_; refine dy 11 ?_; refine dlast 12 ?_)
      rw [hget]
      (refine walk ?_)
      refine wq_round (k + 1, ons.set w.toNat r) ⟨by dsimp only; omega, ?_, ?_⟩ (by dsimp only; omega) envs ?_
      · dsimp only
        rw [htake, List.filter_append, List.filter_cons_of_pos (by simpa using hkb), List.filter_nil]
        exact hlaid.next hr hkin.1
      · intro q hq
        rcases List.mem_or_eq_of_mem_set hq with hq | rfl
        · exact hmem q hq
        · exact hf.mem2 _ (mget_mem hr)
      · dsimp only
        rw [List.map_set]
        exact perm
    · have hkb : keepBit keep (s.waiting.idxOf w) = false := by
        have h1 : ¬ (((keep >>> (k % 64)) % 2 : Nat) : Int) = 1 := fun h => hc (hbit.trans h)
        rw [hidx]; unfold keepBit; simpa using (by omega : ¬ (keep >>> (k % 64)) % 2 = 1)
      refine walk ?_
      refine wq_round (k + 1, ons) ⟨by dsimp only; omega, ?_, hmem⟩ (by dsimp only; omega) envs perm
      dsimp only
      rw [htake, List.filter_append, List.filter_cons_of_neg (by simpa using hkb), List.filter_nil, List.append_nil]
      exact hlaid
  · refine walk ?_
    have hk' : k = s.waiting.length := by omega
    subst hk'
    rw [List.take_length] at hlaid
    have hon := hlaid.settled hf (fun i => keepBit keep (s.waiting.idxOf i)) (fun k r h => by rw [List.mem_filter, hmemw, h]; simp) (fun k hk => (hmemw k).1 (List.mem_filter.1 hk).1)
    refine wq_end0 rfl () rfl trivial ?_
    refine Ent.trans (Γ' := DCells d pp x s :: Sl x.onv 1 (ons.map (·.1)) :: Sl x.wv 1 (s.writes.map vi) :: MapI x.c [] :: Pool x.rows :: F) perm ?_
    exact (DiskAt.shut (s := s.cycle keep) { x with ons := ons, cs := [] } ⟨hf.ok.settle _, hon, rfl, hmem, (fun e he => by cases he)⟩)
end Go.Proofs.Ytapgejjjgeiihaa
