/- Runes out of bytes. No program. -/
import Derived.Test.YtihkfklpoliilaaDoorScr
import Derived.Shelf.Unicode.DecodeSlow
namespace Go.Sl
open Go
def bAt (l : Bytes) (k : Nat) : Nat := (l.getD k 0).toNat
def bCont (l : Bytes) (k : Nat) : Bool := decide (k < l.length) && (bAt l k / 64 == 2)
/-- the rune ahead, and how many bytes it takes -/
def dec (l : Bytes) : Nat × Nat :=
  if bAt l 0 < 0x80 then (bAt l 0, 1)
  else if bAt l 0 / 32 == 6 && bCont l 1 then
    let c := (bAt l 0 % 32) * 64 + bAt l 1 % 64
    if c ≥ 0x80 then (c, 2) else (Utf8.runeError, 1)
  else if bAt l 0 / 16 == 14 && bCont l 1 && bCont l 2 then
    let c := (bAt l 0 % 16) * 4096 + (bAt l 1 % 64) * 64 + bAt l 2 % 64
    if c ≥ 0x800 && Utf8.valid c then (c, 3) else (Utf8.runeError, 1)
  else if bAt l 0 / 8 == 30 && bCont l 1 && bCont l 2 && bCont l 3 then
    let c := (bAt l 0 % 8) * 262144 + (bAt l 1 % 64) * 4096 + (bAt l 2 % 64) * 64 + bAt l 3 % 64
    if c ≥ 0x10000 && Utf8.valid c then (c, 4) else (Utf8.runeError, 1)
  else (Utf8.runeError, 1)
theorem get_drop (l : Bytes) (p k : Nat) : ((ByteArray.mk l.toArray).get! (p + k)).toNat = bAt (l.drop p) k := by
  unfold bAt
  have : (ByteArray.mk l.toArray).get! (p + k) = l.toArray[p + k]! := rfl
  rw [this]
  simp [List.getD_eq_getElem?_getD, List.getElem?_drop]
  rfl
theorem decode_drop (l : Bytes) (p : Nat) : Utf8.decode ⟨l.toArray⟩ p = dec (l.drop p) := by
  have hc : ∀ k, decide (p + k < (ByteArray.mk l.toArray).size) = decide (k < (l.drop p).length) := by
    intro k
    rw [ba_size, List.length_drop]
    exact decide_eq_decide.2 (by omega)
  unfold Utf8.decode dec bCont
  simp only [hc, get_drop]
theorem decodeGo_eq (l : Bytes) (h : l ≠ []) : Lib.decodeGo ⟨l.toArray⟩ = dec l := by
  unfold Lib.decodeGo
  rw [if_neg (by rw [ba_size]; simpa using h), decode_drop, List.drop_zero]
theorem dec_ok (l : Bytes) (h : l ≠ []) : Utf8.valid ((dec l).1 : Int) = true ∧ 1 ≤ (dec l).2 ∧ (dec l).2 ≤ l.length := by
  have hpos : 0 < l.length := List.length_pos_iff.2 h
  have hlt : ∀ k, bCont l k = true → k < l.length := fun k hk => by
    unfold bCont at hk; rw [Bool.and_eq_true] at hk; exact of_decide_eq_true hk.1
  have he : Utf8.valid ((Utf8.runeError : Nat) : Int) = true := by decide
  have hval : ∀ c : Nat, c < 2048 → Utf8.valid (c : Int) = true := fun c hc => by simp [Utf8.valid]; omega
  unfold dec
  by_cases c1 : bAt l 0 < 0x80
  · rw [if_pos c1]; exact ⟨hval _ (by dsimp only; omega), Nat.le_refl _, hpos⟩
  rw [if_neg c1]
  by_cases c2 : (bAt l 0 / 32 == 6 && bCont l 1) = true
  · rw [if_pos c2]
    rw [Bool.and_eq_true] at c2
    have h1 := hlt 1 c2.2
    dsimp only
    split
    · exact ⟨hval _ (by dsimp only; omega), by dsimp only; omega, h1⟩
    · exact ⟨he, by decide, hpos⟩
  rw [if_neg c2]
  by_cases c3 : (bAt l 0 / 16 == 14 && bCont l 1 && bCont l 2) = true
  · rw [if_pos c3]
    rw [Bool.and_eq_true] at c3
    have h1 := hlt 2 c3.2
    dsimp only
    split
    · rename_i hv
      rw [Bool.and_eq_true] at hv
      exact ⟨hv.2, by dsimp only; omega, h1⟩
    · exact ⟨he, by decide, hpos⟩
  rw [if_neg c3]
  by_cases c4 : (bAt l 0 / 8 == 30 && bCont l 1 && bCont l 2 && bCont l 3) = true
  · rw [if_pos c4]
    rw [Bool.and_eq_true] at c4
    have h1 := hlt 3 c4.2
    dsimp only
    split
    · rename_i hv
      rw [Bool.and_eq_true] at hv
      exact ⟨hv.2, by dsimp only; omega, h1⟩
    · exact ⟨he, by decide, hpos⟩
  rw [if_neg c4]; exact ⟨he, by decide, hpos⟩
/-- a text's runes; whether all of it is such -/
def runes : Nat → Bytes → List Nat × Bool
  | 0, _ => ([], true)
  | f + 1, l =>
    if l = [] then ([], true)
    else if (dec l).1 = 65533 ∧ (dec l).2 = 1 then ([], false)
    else ((dec l).1 :: (runes f (l.drop (dec l).2)).1, (runes f (l.drop (dec l).2)).2)
theorem runes_fuel : ∀ (f : Nat) (l : Bytes), l.length ≤ f → runes f l = runes l.length l := by
  have key : ∀ (f g : Nat) (l : Bytes), l.length ≤ f → l.length ≤ g → runes f l = runes g l := by
    intro f
    induction f with
    | zero =>
      intro g l h _
      have : l = [] := List.eq_nil_of_length_eq_zero (by omega)
      subst this
      cases g <;> rfl
    | succ f ih =>
      intro g l h hg
      cases g with
      | zero =>
        have : l = [] := List.eq_nil_of_length_eq_zero (by omega)
        subst this; rfl
      | succ g =>
        unfold runes
        by_cases hl : l = []
        · rw [if_pos hl, if_pos hl]
        · rw [if_neg hl, if_neg hl]
          split
          · rfl
          · have := (dec_ok l hl).2.1
            rw [ih g (l.drop (dec l).2) (by rw [List.length_drop]; omega) (by rw [List.length_drop]; omega)]
  exact fun f l h => key f l.length l h (Nat.le_refl _)
def runesOf (l : Bytes) : List Nat × Bool := runes l.length l
theorem runesOf_nil : runesOf [] = ([], true) := rfl
theorem runesOf_bad (l : Bytes) (h : l ≠ []) (hb : (dec l).1 = 65533 ∧ (dec l).2 = 1) : runesOf l = ([], false) := by
  unfold runesOf
  obtain ⟨n, hn⟩ : ∃ n, l.length = n + 1 := ⟨l.length - 1, by have := List.length_pos_iff.2 h; omega⟩
  rw [hn]; unfold runes
  rw [if_neg h, if_pos hb]
theorem runesOf_cons (l : Bytes) (h : l ≠ []) (hb : ¬ ((dec l).1 = 65533 ∧ (dec l).2 = 1)) :
    runesOf l = ((dec l).1 :: (runesOf (l.drop (dec l).2)).1, (runesOf (l.drop (dec l).2)).2) := by
  have hw := (dec_ok l h).2.1
  unfold runesOf
  obtain ⟨n, hn⟩ : ∃ n, l.length = n + 1 := ⟨l.length - 1, by have := List.length_pos_iff.2 h; omega⟩
  conv => lhs; rw [hn]; unfold runes
  rw [if_neg h, if_neg hb, runes_fuel n _ (by rw [List.length_drop]; omega)]
theorem runesOf_ok : ∀ (n : Nat) (l : Bytes), l.length ≤ n → (∀ r ∈ (runesOf l).1, Utf8.valid (r : Int) = true) ∧ (runesOf l).1.length ≤ l.length := by
  intro n
  induction n with
  | zero =>
    intro l h
    have : l = [] := List.eq_nil_of_length_eq_zero (by omega)
    subst this
    exact ⟨fun r hr => (by cases hr), Nat.le_refl _⟩
  | succ n ih =>
    intro l h
    by_cases hl : l = []
    · subst hl; exact ⟨fun r hr => (by cases hr), Nat.le_refl _⟩
    · by_cases hb : (dec l).1 = 65533 ∧ (dec l).2 = 1
      · rw [runesOf_bad l hl hb]; exact ⟨fun r hr => (by cases hr), Nat.zero_le _⟩
      · rw [runesOf_cons l hl hb]
        obtain ⟨d1, d2, d3⟩ := dec_ok l hl
        obtain ⟨i1, i2⟩ := ih (l.drop (dec l).2) (by rw [List.length_drop]; omega)
        refine ⟨fun r hr => ?_, ?_⟩
        · rcases List.mem_cons.1 hr with rfl | hr
          · exact d1
          · exact i1 r hr
        · rw [List.length_drop] at i2
          simp only [List.length_cons]; omega
end Go.Sl
