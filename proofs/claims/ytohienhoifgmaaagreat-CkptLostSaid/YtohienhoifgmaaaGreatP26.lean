/- several texts, one behind the other -/
import Derived.Test.YtohienhoifgmaaaGreatP12

section
/- Numbers in bytes, sums, notes, pages, labels, in plain Lean. No program. -/
namespace Go.Sl
open Go

/-! numbers, the lowest byte first -/
def le : Nat → Nat → Bytes
  | 0, _ => []
  | k + 1, n => UInt8.ofNat n :: le k (n / 256)
def unle : Bytes → Nat
  | [] => 0
  | b :: l => b.toNat + 256 * unle l
theorem le_length (k n : Nat) : (le k n).length = k := by
  induction k generalizing n with
  | zero => rfl
  | succ k ih => simp [le, ih]
theorem unle_le (k n : Nat) : unle (le k n) = n % 256 ^ k := by
  induction k generalizing n with
  | zero => simp [le, unle, Nat.mod_one]
  | succ k ih =>
    simp only [le, unle, ih]
    rw [UInt8.toNat_ofNat', show 256 ^ (k + 1) = 256 * 256 ^ k from by rw [Nat.pow_succ, Nat.mul_comm]]
    exact (Nat.mod_mul (a := 256) (b := 256 ^ k) (x := n)).symm
theorem unle_lt (l : Bytes) : unle l < 256 ^ l.length := by
  induction l with
  | nil => simp [unle]
  | cons b l ih =>
    simp only [unle, List.length_cons, Nat.pow_succ]
    have := b.toNat_lt
    omega
theorem le_get (k n i : Nat) (hi : i < k) : (le k n)[i]? = some (UInt8.ofNat (n >>> (8 * i))) := by
  induction k generalizing n i with
  | zero => omega
  | succ k ih =>
    cases i with
    | zero => simp [le]
    | succ i =>
      simp only [le, List.getElem?_cons_succ]
      rw [ih _ _ (by omega)]
      congr 2
      rw [Nat.shiftRight_eq_div_pow, Nat.shiftRight_eq_div_pow, Nat.div_div_eq_div_mul, show 8 * (i + 1) = 8 + 8 * i by omega, Nat.pow_add]
/-- so many bytes taken off: the number, and the rest; none, if there aren't as many -/
def takeN (k : Nat) (b : Bytes) : Option (Nat × Bytes) := if k ≤ b.length then some (unle (b.take k), b.drop k) else none
theorem takeN_le (k n : Nat) (r : Bytes) : takeN k (le k n ++ r) = some (n % 256 ^ k, r) := by
  unfold takeN
  rw [if_pos (by simp [le_length])]
  rw [List.take_left' (le_length k n), List.drop_left' (le_length k n), unle_le]

/-! sums -/
def crcBit (c : UInt32) : UInt32 := if c &&& 1 = 1 then (c >>> 1) ^^^ 0xEDB88320 else c >>> 1
def crcBits : Nat → UInt32 → UInt32
  | 0, c => c
  | k + 1, c => crcBits k (crcBit c)
def crcByte (c : UInt32) (x : UInt8) : UInt32 := crcBits 8 (c ^^^ x.toUInt32)
def sumOf (b : Bytes) : UInt32 := ~~~ (b.foldl crcByte 0xFFFFFFFF)
def seal_ (b : Bytes) : Bytes := b ++ le 4 (sumOf b).toNat
/-- sealed bytes, without their sum: or why not -/
def opened (b : Bytes) : Bytes ⊕ Int :=
  if b.length < 4 then .inr 6
  else if (sumOf (b.take (b.length - 4))).toNat = unle (b.drop (b.length - 4)) then .inl (b.take (b.length - 4)) else .inr 5
theorem seal_length (b : Bytes) : (seal_ b).length = b.length + 4 := by simp [seal_, le_length]
theorem opened_seal (b : Bytes) : opened (seal_ b) = .inl b := by
  unfold opened
  rw [seal_length, if_neg (by omega)]
  have h1 : (seal_ b).take (b.length + 4 - 4) = b := by unfold seal_; rw [show b.length + 4 - 4 = b.length by omega, List.take_left' rfl]
  have h2 : (seal_ b).drop (b.length + 4 - 4) = le 4 (sumOf b).toNat := by unfold seal_; rw [show b.length + 4 - 4 = b.length by omega, List.drop_left' rfl]
  rw [h1, h2, unle_le, if_pos (Nat.mod_eq_of_lt (sumOf b).toNat_lt).symm]
/-- noughts behind, to so many -/
def padTo (n : Nat) (b : Bytes) : Bytes := b ++ List.replicate (n - b.length) 0
theorem padTo_length (n : Nat) (b : Bytes) (h : b.length ≤ n) : (padTo n b).length = n := by simp [padTo]; omega
theorem padTo_take (n : Nat) (b : Bytes) : (padTo n b).take b.length = b := by unfold padTo; rw [List.take_left' rfl]
theorem padTo_drop (n : Nat) (b : Bytes) : (padTo n b).drop b.length = List.replicate (n - b.length) 0 := by unfold padTo; rw [List.drop_left' rfl]

/-! notes -/
structure Entry where
  kind : Int
  lba : Int
deriving DecidableEq
structure Note where
  seq : Nat
  next : Int
  slots : List Entry
deriving DecidableEq
def Entry.bytes (e : Entry) : Bytes := le 1 e.kind.toNat ++ le 4 e.lba.toNat
def Note.bytes (x : Note) : Bytes := le 1 78 ++ le 8 x.seq ++ le 2 (x.next + 1).toNat ++ x.slots.flatMap Entry.bytes
def Note.enc (x : Note) (block : Nat) : Bytes := padTo block (seal_ x.bytes)
/-- so many entries -/
def takeSlots : Nat → Bytes → List Entry × Bytes
  | 0, b => ([], b)
  | k + 1, b =>
    let p := (takeN 1 b).getD (0, [])
    let q := (takeN 4 p.2).getD (0, [])
    let r := takeSlots k q.2
    (⟨p.1, q.1⟩ :: r.1, r.2)
def Entry.good (e : Entry) : Bool := decide (e.kind ≤ 3 ∧ (e.kind ≠ 0 ∨ e.lba = 0))
/-- a note of so many slots; or why not -/
def Note.dec (b : Bytes) (slots : Nat) : Note ⊕ Int :=
  if slots > b.length ∨ b.length < 15 + 5 * slots then .inr 6
  else match opened (b.take (15 + 5 * slots)) with
    | .inr e => .inr e
    | .inl h =>
      let p := (takeN 1 h).getD (0, [])
      let q := (takeN 8 p.2).getD (0, [])
      let r := (takeN 2 q.2).getD (0, [])
      let s := takeSlots slots r.2
      if p.1 = 78 ∧ (∀ e ∈ s.1, e.good = true) ∧ ∀ c ∈ b.drop (15 + 5 * slots), c = 0 then .inl ⟨q.1, (r.1 : Int) - 1, s.1⟩ else .inr 4
theorem Entry.bytes_length (e : Entry) : e.bytes.length = 5 := by simp [Entry.bytes, le_length]
theorem slots_length (l : List Entry) : (l.flatMap Entry.bytes).length = 5 * l.length := by
  induction l with
  | nil => rfl
  | cons e l ih => rw [List.flatMap_cons, List.length_append, Entry.bytes_length, ih, List.length_cons]; omega
theorem Note.bytes_length (x : Note) : x.bytes.length = 11 + 5 * x.slots.length := by
  simp only [Note.bytes, List.length_append, le_length, slots_length]
/-- an entry that may be -/
def Entry.fits (e : Entry) : Prop := (0 ≤ e.kind ∧ e.kind ≤ 3) ∧ (0 ≤ e.lba ∧ e.lba < 4294967296) ∧ (e.kind ≠ 0 ∨ e.lba = 0)
theorem takeSlots_bytes (l : List Entry) (h : ∀ e ∈ l, e.fits) (r : Bytes) : takeSlots l.length (l.flatMap Entry.bytes ++ r) = (l, r) := by
  induction l with
  | nil => rfl
  | cons e l ih =>
    have he := h e List.mem_cons_self
    rw [List.flatMap_cons, Entry.bytes]
    simp only [List.length_cons, takeSlots, List.append_assoc]
    rw [takeN_le]
    simp only [Option.getD_some]
    rw [takeN_le]
    simp only [Option.getD_some]
    rw [ih (fun e he => h e (List.mem_cons_of_mem _ he))]
    have h1 : e.kind.toNat % 256 ^ 1 = e.kind.toNat := Nat.mod_eq_of_lt (by have := he.1; omega)
    have h2 : e.lba.toNat % 256 ^ 4 = e.lba.toNat := Nat.mod_eq_of_lt (by have := he.2.1; omega)
    rw [h1, h2]
    obtain ⟨k, l'⟩ := e
    simp only [Prod.mk.injEq, List.cons.injEq, Entry.mk.injEq, and_true]
    have := he.1; have := he.2.1
    dsimp only at *
    omega
structure Note.Fits (x : Note) : Prop where
  seq : x.seq < 2 ^ 64
  next : -1 ≤ x.next ∧ x.next < 65535
  slots : ∀ e ∈ x.slots, e.fits
theorem Note.dec_enc (x : Note) (h : x.Fits) (block : Nat) (hb : 15 + 5 * x.slots.length ≤ block) : Note.dec (x.enc block) x.slots.length = .inl x := by
  have hl : (seal_ x.bytes).length = 15 + 5 * x.slots.length := by rw [seal_length, Note.bytes_length]; omega
  have ht : (x.enc block).take (15 + 5 * x.slots.length) = seal_ x.bytes := by unfold Note.enc; rw [← hl]; exact padTo_take _ _
  have hd : (x.enc block).drop (15 + 5 * x.slots.length) = List.replicate (block - (seal_ x.bytes).length) 0 := by unfold Note.enc; rw [← hl]; exact padTo_drop _ _
  have hlen : (x.enc block).length = block := padTo_length _ _ (by omega)
  unfold Note.dec
  rw [hlen, if_neg (by omega), ht, opened_seal, hd]
  dsimp only
  unfold Note.bytes
  rw [List.append_assoc, List.append_assoc, takeN_le]
  simp only [Option.getD_some]
  rw [takeN_le]
  simp only [Option.getD_some]
  rw [takeN_le]
  simp only [Option.getD_some]
  have hs := takeSlots_bytes x.slots h.slots []
  rw [List.append_nil] at hs
  rw [hs]
  dsimp only
  have h1 : x.seq % 256 ^ 8 = x.seq := Nat.mod_eq_of_lt (by have := h.seq; omega)
  have h2 : ((((x.next + 1).toNat % 256 ^ 2 : Nat) : Int) - 1) = x.next := by
    rw [Nat.mod_eq_of_lt (by have := h.next; omega)]
    have := h.next
    omega
  have hg : ∀ e ∈ x.slots, e.good = true := fun e he => by
    have := h.slots e he
    unfold Entry.good
    unfold Entry.fits at this
    simp only [decide_eq_true_eq]
    exact ⟨this.1.2, this.2.2⟩
  rw [if_pos ⟨by decide, hg, fun c hc => List.eq_of_mem_replicate hc⟩, h1, h2]
end Go.Sl
end

section
/- Segments, where each block lies, what is staged, and a log, in plain Lean: what each operation does. No program. -/
namespace Go.Sl
open Go

/-! segments -/
structure Seg where
  state : Int
  live : Int
  born : Int
deriving DecidableEq
def Seg.zero : Seg := ⟨0, 0, 0⟩
abbrev Tbl := List Seg
namespace Tbl
def has (t : Tbl) (i : Int) : Bool := decide (0 ≤ i ∧ i < t.length)
def see (t : Tbl) (i : Int) : Seg := if t.has i then t.getD i.toNat Seg.zero else Seg.zero
def upd (t : Tbl) (i : Int) (f : Seg → Seg) : Tbl := if t.has i then t.set i.toNat (f (t.getD i.toNat Seg.zero)) else t
def put (t : Tbl) (i : Int) (s : Seg) : Tbl := t.upd i fun _ => s
def live (t : Tbl) (i more : Int) : Tbl := t.upd i fun s => { s with live := w64 (s.live + more) }
def open_ (t : Tbl) (i : Int) : Tbl := t.upd i fun s => { s with state := 1 }
def seal_ (t : Tbl) (i born : Int) : Tbl := t.upd i fun s => { s with state := 2, born := born }
def many (t : Tbl) (x : Int) : Int := (t.filter fun s => s.state = x).length
/-- the first free one; -1: there is none -/
def first (t : Tbl) : Int := match t.findIdx? (fun s => s.state = 0) with
  | none => -1
  | some i => i
/-- the sealed ones in which nothing lives, rising -/
def dead (t : Tbl) : List Int := ((List.range t.length).filter fun i => (t.getD i Seg.zero).state = 2 ∧ (t.getD i Seg.zero).live = 0).map Int.ofNat
def clear (t : Tbl) (l : List Int) : Tbl := l.foldl (fun t i => t.put i Seg.zero) t
theorem upd_length (t : Tbl) (i : Int) (f : Seg → Seg) : (t.upd i f).length = t.length := by unfold upd; split <;> simp
theorem has_upd (t : Tbl) (i j : Int) (f : Seg → Seg) : has (t.upd i f) j = t.has j := by unfold has; rw [upd_length]
theorem see_upd (t : Tbl) (i j : Int) (f : Seg → Seg) : see (t.upd i f) j = if j = i ∧ t.has i = true then f (t.see i) else t.see j := by
  unfold see
  rw [has_upd]
  by_cases hj : t.has j = true
  · rw [if_pos hj]
    unfold upd
    by_cases hi : t.has i = true
    · rw [if_pos hi]
      have h1 : 0 ≤ i ∧ i < t.length := by simpa [has] using hi
      have h2 : 0 ≤ j ∧ j < t.length := by simpa [has] using hj
      by_cases e : j = i
      · subst e
        rw [if_pos ⟨rfl, hi⟩, if_pos hi]
        have : j.toNat < t.length := by omega
        simp [List.getD, this]
      · rw [if_neg (fun x => e x.1), if_pos hj]
        have : i.toNat ≠ j.toNat := by omega
        simp [List.getD, this]
    · rw [if_neg hi, if_neg (fun x => hi x.2), if_pos hj]
  · rw [if_neg hj]
    by_cases e : j = i ∧ t.has i = true
    · exact absurd (e.1 ▸ e.2) hj
    · rw [if_neg e, if_neg hj]
end Tbl

/-! where each block lies; -1: nowhere -/
abbrev Lm := List Int
namespace Lm
def has (m : Lm) (lba : Int) : Bool := decide (0 ≤ lba ∧ lba < m.length)
def look (m : Lm) (lba : Int) : Int := if m.has lba then m.getD lba.toNat (-1) else -1
def put (m : Lm) (lba place : Int) : Lm := if m.has lba then m.set lba.toNat (max place (-1)) else m
def many (m : Lm) : Int := (m.filter fun p => 0 ≤ p).length
/-- each is -1, or a place -/
def Ok (m : Lm) : Prop := ∀ p ∈ m, -1 ≤ p
theorem put_length (m : Lm) (l p : Int) : (m.put l p).length = m.length := by unfold put; split <;> simp
theorem look_put (m : Lm) (l p j : Int) : look (m.put l p) j = if j = l ∧ m.has l = true then max p (-1) else m.look j := by
  unfold look
  have hh : has (m.put l p) j = m.has j := by unfold has; rw [put_length]
  rw [hh]
  by_cases hj : m.has j = true
  · rw [if_pos hj]
    unfold put
    by_cases hl : m.has l = true
    · rw [if_pos hl]
      have h1 : 0 ≤ l ∧ l < m.length := by simpa [has] using hl
      have h2 : 0 ≤ j ∧ j < m.length := by simpa [has] using hj
      by_cases e : j = l
      · subst e
        rw [if_pos ⟨rfl, hl⟩]
        have : j.toNat < m.length := by omega
        simp [List.getD, this]
      · rw [if_neg (fun x => e x.1), if_pos hj]
        have : l.toNat ≠ j.toNat := by omega
        simp [List.getD, this]
    · rw [if_neg hl, if_neg (fun x => hl x.2), if_pos hj]
  · rw [if_neg hj]
    by_cases e : j = l ∧ m.has l = true
    · exact absurd (e.1 ▸ e.2) hj
    · rw [if_neg e, if_neg hj]
theorem Ok.put {m : Lm} (h : m.Ok) (l p : Int) : (Lm.put m l p).Ok := by
  unfold Lm.put
  split
  · intro q hq
    rcases List.mem_or_eq_of_mem_set hq with hq | rfl
    · exact h q hq
    · omega
  · exact h
end Lm

/-! what is staged -/
/-- of each block the last one of its records, in order -/
def view : List Rec → List Rec
  | [] => []
  | r :: l => if l.any (fun x => x.lba = r.lba) then view l else r :: view l
/-- a block's last record -/
def lastOf (l : List Rec) (lba : Int) : Option Rec := l.reverse.find? fun r => r.lba = lba
def batch (l : List Rec) (most : Int) : List Rec := (view l).take most.toNat
theorem view_mem {l : List Rec} {r : Rec} (h : r ∈ view l) : r ∈ l := by
  induction l with
  | nil => cases h
  | cons x l ih =>
    unfold view at h
    split at h
    · exact List.mem_cons_of_mem _ (ih h)
    · rcases List.mem_cons.1 h with rfl | h
      · exact List.mem_cons_self
      · exact List.mem_cons_of_mem _ (ih h)
theorem view_nil {l : List Rec} (h : view l = []) : l = [] := by
  induction l with
  | nil => rfl
  | cons x l ih =>
    unfold view at h
    split at h
    · rename_i hx
      rw [ih h] at hx
      cases hx
    · cases h

/-! a log -/
structure Lg where
  rig : Rig
  map : Lm
  tbl : Tbl
  seg : Int
  idx : Int
namespace Lg
def sh (g : Lg) : Shp := g.rig.nv.root.shape
def stripe (g : Lg) : Int := g.seg * g.sh.stripes + g.idx
def last (g : Lg) : Bool := decide (g.idx = g.sh.stripes - 1)
def usable (g : Lg) : Int := g.sh.stripes - g.idx + g.tbl.many 0 * g.sh.stripes - 1
def room (g : Lg) : Bool := decide (g.usable - g.sh.stripes ≥ (g.rig.nv.recs.length + g.sh.slots) / g.sh.slots)
/-- the segment of a place -/
def home (s : Shp) (place : Int) : Int := place / s.slots / s.stripes
/-- a block lies there now; what lived where it lay -/
def put (g : Lg) (lba place : Int) : Lg :=
  let t := if 0 ≤ g.map.look lba then g.tbl.live (home g.sh (g.map.look lba)) (-1) else g.tbl
  { g with map := g.map.put lba place, tbl := if 0 ≤ place ∧ lba < g.sh.logical then t.live (home g.sh place) 1 else t }
/-- the slots of a note, from one on -/
def puts (at_ : Int) : List Entry → Int → Lg → Lg
  | [], _, g => g
  | e :: l, slot, g => puts at_ l (slot + 1) (if e.kind = 1 ∨ e.kind = 3 then g.put e.lba (at_ * g.sh.slots + slot) else if e.kind = 2 then g.put e.lba (-1) else g)
/-- a stripe stays -/
def apply (x : Note) (g : Lg) : Lg :=
  if g.last = true ∧ (x.next < 0 ∨ x.next ≥ g.sh.segments) then g
  else
    let h := puts g.stripe x.slots 0 g
    if g.last = true then { h with tbl := (h.tbl.seal_ g.seg x.seq).open_ x.next, seg := x.next, idx := 0 } else { h with idx := g.idx + 1 }
end Lg
end Go.Sl
end
