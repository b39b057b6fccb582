/- Plain laws of the reference's reading: what its tests answer, and that what it finds at the front is what utf.Next finds. No program in sight. -/
import Derived.Test.YtlkphbcdgkjnoaaDoorS3
namespace Go.Proofs.YtlkphbcdgkjnoaaDoor

/-- The reference's 'value', behind the bytes 1 to k - 1. -/
def offOf (n : Nat) : Int := if n = 2 then 192 else if n = 3 then 224 else if n = 4 then 240 else 0
def valI (l : List UInt8) : Nat → Int
  | 0 => 0
  | 1 => bt l 0 - offOf l.length
  | k + 2 => valI l (k + 1) * 64 + bt l (k + 1) - 128
theorem valI_one (l : List UInt8) : valI l 1 = bt l 0 - offOf l.length := rfl
theorem valI_succ (l : List UInt8) (k : Nat) (h : 1 ≤ k) : valI l (k + 1) = valI l k * 64 + bt l k - 128 := by
  obtain ⟨j, rfl⟩ : ∃ j, k = j + 1 := ⟨k - 1, by omega⟩
  rfl
/-- The reference's 'whole'. -/
def wholeB (l : List UInt8) : Bool := Lib.validRune (valI l l.length) && (encB (valI l l.length) == l)

theorem valI_encB (z : Int) (hv : Lib.validRune z = true) : valI (encB z) (encB z).length = z := by
  rw [validRune_iff] at hv
  by_cases c1 : z ≤ 127
  · obtain ⟨x0, hx0⟩ : ∃ x, UInt8.ofNat z.toNat = x := ⟨_, rfl⟩
    have n0 : (x0.toNat : Int) = z := by rw [← hx0]; exact ofNat_toNat (by omega) (by omega)
    have ee : encB z = [x0] := by rw [encB, Lib.encodeRuneZ_one (by omega) c1, ← hx0]; rfl
    rw [ee]
    show (x0.toNat : Int) - 0 = z
    omega
  by_cases c2 : z ≤ 2047
  · obtain ⟨x0, hx0⟩ : ∃ x, UInt8.ofNat (192 + z / 64).toNat = x := ⟨_, rfl⟩
    obtain ⟨x1, hx1⟩ : ∃ x, UInt8.ofNat (128 + z % 64).toNat = x := ⟨_, rfl⟩
    have n0 : (x0.toNat : Int) = 192 + z / 64 := by rw [← hx0]; exact ofNat_toNat (by omega) (by omega)
    have n1 : (x1.toNat : Int) = 128 + z % 64 := by rw [← hx1]; exact ofNat_toNat (by omega) (by omega)
    have ee : encB z = [x0, x1] := by rw [encB, Lib.encodeRuneZ_two (by omega) c2, ← hx0, ← hx1]; rfl
    rw [ee]
    show ((x0.toNat : Int) - 192) * 64 + (x1.toNat : Int) - 128 = z
    omega
  by_cases c3 : z ≤ 65535
  · obtain ⟨x0, hx0⟩ : ∃ x, UInt8.ofNat (224 + z / 4096).toNat = x := ⟨_, rfl⟩
    obtain ⟨x1, hx1⟩ : ∃ x, UInt8.ofNat (128 + z / 64 % 64).toNat = x := ⟨_, rfl⟩
    obtain ⟨x2, hx2⟩ : ∃ x, UInt8.ofNat (128 + z % 64).toNat = x := ⟨_, rfl⟩
    have n0 : (x0.toNat : Int) = 224 + z / 4096 := by rw [← hx0]; exact ofNat_toNat (by omega) (by omega)
    have n1 : (x1.toNat : Int) = 128 + z / 64 % 64 := by rw [← hx1]; exact ofNat_toNat (by omega) (by omega)
    have n2 : (x2.toNat : Int) = 128 + z % 64 := by rw [← hx2]; exact ofNat_toNat (by omega) (by omega)
    have ee : encB z = [x0, x1, x2] := by rw [encB, Lib.encodeRuneZ_three (by omega), ← hx0, ← hx1, ← hx2]; rfl
    rw [ee]
    show (((x0.toNat : Int) - 224) * 64 + (x1.toNat : Int) - 128) * 64 + (x2.toNat : Int) - 128 = z
    omega
  · obtain ⟨x0, hx0⟩ : ∃ x, UInt8.ofNat (240 + z / 262144).toNat = x := ⟨_, rfl⟩
    obtain ⟨x1, hx1⟩ : ∃ x, UInt8.ofNat (128 + z / 4096 % 64).toNat = x := ⟨_, rfl⟩
    obtain ⟨x2, hx2⟩ : ∃ x, UInt8.ofNat (128 + z / 64 % 64).toNat = x := ⟨_, rfl⟩
    obtain ⟨x3, hx3⟩ : ∃ x, UInt8.ofNat (128 + z % 64).toNat = x := ⟨_, rfl⟩
    have n0 : (x0.toNat : Int) = 240 + z / 262144 := by rw [← hx0]; exact ofNat_toNat (by omega) (by omega)
    have n1 : (x1.toNat : Int) = 128 + z / 4096 % 64 := by rw [← hx1]; exact ofNat_toNat (by omega) (by omega)
    have n2 : (x2.toNat : Int) = 128 + z / 64 % 64 := by rw [← hx2]; exact ofNat_toNat (by omega) (by omega)
    have n3 : (x3.toNat : Int) = 128 + z % 64 := by rw [← hx3]; exact ofNat_toNat (by omega) (by omega)
    have ee : encB z = [x0, x1, x2, x3] := by rw [encB, Lib.encodeRuneZ_four (by omega) (by omega), ← hx0, ← hx1, ← hx2, ← hx3]; rfl
    rw [ee]
    show ((((x0.toNat : Int) - 240) * 64 + (x1.toNat : Int) - 128) * 64 + (x2.toNat : Int) - 128) * 64 + (x3.toNat : Int) - 128 = z
    omega

/-- The front of k bytes is whole for the reference: then it is what utf.Next finds. -/
theorem whole_nx {l : List UInt8} {k : Nat} (hk : k ≤ l.length) (h : wholeB (l.take k) = true) : nx l = (valI (l.take k) k, k, true) := by
  have hlen : (l.take k).length = k := by rw [List.length_take]; omega
  unfold wholeB at h
  rw [hlen] at h
  obtain ⟨hv, he⟩ := Bool.and_eq_true_iff.1 h
  have he : encB (valI (l.take k) k) = l.take k := by simpa using he
  have h1 := nx_encB (valI (l.take k) k) (l.drop k) hv
  rw [he, List.take_append_drop, hlen] at h1
  exact h1
theorem nx_whole {l : List UInt8} (hl : l ≠ []) (h : (nx l).2.2 = true) : wholeB (l.take (nx l).2.1) = true := by
  obtain ⟨hv, he⟩ := encB_nx hl h
  unfold wholeB
  rw [← he, valI_encB _ hv, hv]
  simp
/-- Where no front is whole: the sign, and how long it stands for. -/
theorem nx_none {l : List UInt8} (hl : l ≠ []) (h : ∀ k, 1 ≤ k → k ≤ 4 → k ≤ l.length → wholeB (l.take k) = false) : nx l = (65533, runLen l, false) := by
  have hw : (nx l).2.2 = false := by
    cases hw : (nx l).2.2 with
    | false => rfl
    | true =>
      have h1 := nx_whole hl hw
      have h2 := nx_le hl
      have h3 := (nx_whole_iff hl).1 hw
      rw [nx_width hl] at h1 h2
      rw [h _ h2.1 (by have := lenOf_le (bt l 0); omega) h2.2] at h1
      cases h1
  have h1 : (runLen l : Int) ≠ lenOf (bt l 0) := fun e => by rw [(nx_whole_iff hl).2 e] at hw; cases hw
  exact nx_bad hl rfl h1
theorem pass_three {l : List UInt8} (hl : l ≠ []) (h : (nx l).2.2 = false) : runLen l ≤ 3 := by
  have h4 : runLen l ≤ 4 := by
    unfold runLen; (repeat' split) <;> omega
  by_cases e : runLen l = 4
  · have p := pass_of_runLen (l := l) (i := 3) (by omega) (by omega)
    have := p.1
    have := lenOf_le (bt l 0)
    rw [(nx_whole_iff hl).2 (by omega)] at h
    cases h
  · omega
end Go.Proofs.YtlkphbcdgkjnoaaDoor
