/- What utf.Next computes, in plain numbers and lists; no program in sight. -/
import Derived.Lib.DecodeN
import Derived.Shelf.Unicode.DecodeSlow
namespace Go.Proofs.YtlkphbcdgkjnoaaDoor

def lowOf (b : Int) : Int := if b < 128 then 0 else if 194 ≤ b ∧ b ≤ 223 then 128 else if b = 224 then 160 else if 225 ≤ b ∧ b ≤ 239 then 128 else if b = 240 then 144 else if 241 ≤ b ∧ b ≤ 244 then 128 else 0
def highOf (b : Int) : Int := if b < 128 then 0 else if 194 ≤ b ∧ b ≤ 223 then 191 else if b = 237 then 159 else if 224 ≤ b ∧ b ≤ 239 then 191 else if b = 244 then 143 else if 240 ≤ b ∧ b ≤ 243 then 191 else 0
def lenOf (b : Int) : Int := if b < 128 then 1 else if 194 ≤ b ∧ b ≤ 223 then 2 else if 224 ≤ b ∧ b ≤ 239 then 3 else if 240 ≤ b ∧ b ≤ 244 then 4 else 0

/-- The byte at a place, as a number; 0 beyond the end. -/
def bt (l : List UInt8) (j : Nat) : Int := ((l.getD j 0).toNat : Int)
theorem bt_nonneg (l : List UInt8) (j : Nat) : 0 ≤ bt l j := by unfold bt; omega
theorem bt_lt (l : List UInt8) (j : Nat) : bt l j ≤ 255 := by
  unfold bt
  have := (l.getD j 0).toNat_lt
  omega

def loAt (l : List UInt8) (j : Nat) : Int := if j = 1 then lowOf (bt l 0) else 128
def hiAt (l : List UInt8) (j : Nat) : Int := if j = 1 then highOf (bt l 0) else 191
/-- The byte at place j goes on with what began. -/
def Pass (l : List UInt8) (j : Nat) : Prop := (j : Int) < lenOf (bt l 0) ∧ j < l.length ∧ loAt l j ≤ bt l j ∧ bt l j ≤ hiAt l j
instance (l : List UInt8) (j : Nat) : Decidable (Pass l j) := by unfold Pass; exact inferInstance

def runLen (l : List UInt8) : Nat := if ¬ Pass l 1 then 1 else if ¬ Pass l 2 then 2 else if ¬ Pass l 3 then 3 else 4

theorem lenOf_le (b : Int) : lenOf b ≤ 4 := by unfold lenOf; repeat' split
                                               all_goals omega
theorem runLen_of {l : List UInt8} {k : Nat} (h1 : 1 ≤ k) (hp : ∀ i, 1 ≤ i → i < k → Pass l i) (hn : ¬ Pass l k) : runLen l = k := by
  have h4 : k ≤ 4 := by
    by_cases h : k ≤ 4
    · exact h
    · have := (hp 4 (by omega) (by omega)).1
      have := lenOf_le (bt l 0)
      omega
  unfold runLen
  obtain rfl | rfl | rfl | rfl : k = 1 ∨ k = 2 ∨ k = 3 ∨ k = 4 := by omega
  · rw [if_pos hn]
  · rw [if_neg (fun h => h (hp 1 (by omega) (by omega))), if_pos hn]
  · rw [if_neg (fun h => h (hp 1 (by omega) (by omega))), if_neg (fun h => h (hp 2 (by omega) (by omega))), if_pos hn]
  · rw [if_neg (fun h => h (hp 1 (by omega) (by omega))), if_neg (fun h => h (hp 2 (by omega) (by omega))), if_neg (fun h => h (hp 3 (by omega) (by omega)))]

/-- What k bytes come to. -/
def val (l : List UInt8) (k : Nat) : Int :=
  if k = 1 then bt l 0 else if k = 2 then bt l 0 % 32 * 64 + bt l 1 % 64
  else if k = 3 then bt l 0 % 16 * 4096 + bt l 1 % 64 * 64 + bt l 2 % 64
  else bt l 0 % 8 * 262144 + bt l 1 % 64 * 4096 + bt l 2 % 64 * 64 + bt l 3 % 64

/-- utf.Next. -/
def nx (l : List UInt8) : Int × Nat × Bool :=
  if l = [] then (0, 0, false)
  else if (runLen l : Int) = lenOf (bt l 0) then (val l (runLen l), runLen l, true) else (65533, runLen l, false)

theorem get!_eq (s : ByteArray) (j : Nat) : (s.get! j).toNat = (s.data.toList.getD j 0).toNat := by
  show (s.data[j]!).toNat = _
  rw [getElem!_def]
  simp only [List.getD_eq_getElem?_getD, Array.getElem?_toList]
  cases s.data[j]? <;> rfl

theorem room2 (b : Int) (h : 194 ≤ b ∧ b ≤ 223) : lowOf b = 128 ∧ highOf b = 191 := by
  constructor <;> (first | unfold lowOf | unfold highOf) <;> (repeat' split) <;> omega
theorem room3 (b : Int) (h : 224 ≤ b ∧ b ≤ 239) : 128 ≤ lowOf b ∧ highOf b ≤ 191 ∧ (b = 224 → 160 ≤ lowOf b) ∧ (b = 237 → highOf b ≤ 159) := by
  refine ⟨?_, ?_, fun e => ?_, fun e => ?_⟩ <;> (first | unfold lowOf | unfold highOf) <;> (repeat' split) <;> omega
theorem room4 (b : Int) (h : 240 ≤ b ∧ b ≤ 244) : 128 ≤ lowOf b ∧ highOf b ≤ 191 ∧ (b = 240 → 144 ≤ lowOf b) ∧ (b = 244 → highOf b ≤ 143) := by
  refine ⟨?_, ?_, fun e => ?_, fun e => ?_⟩ <;> (first | unfold lowOf | unfold highOf) <;> (repeat' split) <;> omega

theorem decodeN_whole (n0 n1 n2 n3 m k : Nat) (h0 : n0 < 256) (h1 : n1 < 256) (h2 : n2 < 256) (h3 : n3 < 256) (hm : m = k) (hk : (k : Int) = lenOf n0)
    (p1 : 1 < k → lowOf n0 ≤ n1 ∧ n1 ≤ highOf n0) (p2 : 2 < k → 128 ≤ n2 ∧ n2 ≤ 191) (p3 : 3 < k → 128 ≤ n3 ∧ n3 ≤ 191) (hk1 : 1 ≤ k) :
    (Lib.decodeN m n0 n1 n2 n3).1 = if k = 1 then n0 else if k = 2 then n0 % 32 * 64 + n1 % 64 else if k = 3 then n0 % 16 * 4096 + n1 % 64 * 64 + n2 % 64 else n0 % 8 * 262144 + n1 % 64 * 4096 + n2 % 64 * 64 + n3 % 64 := by
  subst hm
  obtain rfl | rfl | rfl | rfl : m = 1 ∨ m = 2 ∨ m = 3 ∨ m = 4 := by have := lenOf_le n0; omega
  · have hb : n0 < 128 := by
      unfold lenOf at hk; repeat' split at hk
      all_goals omega
    unfold Lib.decodeN
    simp [hb]
  · have hb : 194 ≤ n0 ∧ n0 ≤ 223 := by
      unfold lenOf at hk; repeat' split at hk
      all_goals omega
    have p1 := p1 (by omega)
    have r := room2 n0 (by omega)
    unfold Lib.decodeN
    repeat' split
    all_goals first | (exfalso; omega) | omega
  · have hb : 224 ≤ n0 ∧ n0 ≤ 239 := by
      unfold lenOf at hk; repeat' split at hk
      all_goals omega
    have p1 := p1 (by omega)
    have p2 := p2 (by omega)
    have r := room3 n0 (by omega)
    have q : 128 ≤ n1 ∧ n1 ≤ 191 ∧ (n0 = 224 → 160 ≤ n1) ∧ (n0 = 237 → n1 ≤ 159) := by omega
    clear p1 r
    unfold Lib.decodeN
    repeat' split
    all_goals first | (exfalso; omega) | omega
  · have hb : 240 ≤ n0 ∧ n0 ≤ 244 := by
      unfold lenOf at hk; repeat' split at hk
      all_goals omega
    have p1 := p1 (by omega)
    have p2 := p2 (by omega)
    have p3 := p3 (by omega)
    have r := room4 n0 (by omega)
    have q : 128 ≤ n1 ∧ n1 ≤ 191 ∧ (n0 = 240 → 144 ≤ n1) ∧ (n0 = 244 → n1 ≤ 143) := by omega
    clear p1 r
    unfold Lib.decodeN
    repeat' split
    all_goals first | (exfalso; omega) | omega

theorem decodeGo_whole {s : ByteArray} {k : Nat} (hs : k ≤ s.size) (h1 : 1 ≤ k) (hp : ∀ i, 1 ≤ i → i < k → Pass s.data.toList i) (hk : (k : Int) = lenOf (bt s.data.toList 0)) :
    ((Lib.decodeGo (s.extract 0 k)).1 : Int) = val s.data.toList k := by
  have hsz : (s.extract 0 k).size = k := by simp; omega
  have hg : ∀ j, j < k → ((s.extract 0 k).get! j).toNat = (s.data.toList.getD j 0).toNat := by
    intro j hj
    rw [get!_eq]
    congr 1
    simp [List.getElem?_take, hj]
  unfold Lib.decodeGo
  rw [hsz, if_neg (by omega), Lib.decode_at, hsz]
  have h4 : k ≤ 4 := by have := lenOf_le (bt s.data.toList 0); omega
  have e0 := hg 0 (by omega)
  have P1 := fun h : 1 < k => hp 1 (by omega) h
  have P2 := fun h : 2 < k => hp 2 (by omega) h
  have P3 := fun h : 3 < k => hp 3 (by omega) h
  have e1 := fun h : 1 < k => hg 1 h
  have e2 := fun h : 2 < k => hg 2 h
  have e3 := fun h : 3 < k => hg 3 h
  have w0 := ((s.extract 0 k).get! 0).toNat_lt
  have w1 := ((s.extract 0 k).get! 1).toNat_lt
  have w2 := ((s.extract 0 k).get! 2).toNat_lt
  have w3 := ((s.extract 0 k).get! 3).toNat_lt
  simp only [Nat.zero_add]
  have hv : val s.data.toList k = ((if k = 1 then ((s.extract 0 k).get! 0).toNat else if k = 2 then ((s.extract 0 k).get! 0).toNat % 32 * 64 + ((s.extract 0 k).get! 1).toNat % 64
      else if k = 3 then ((s.extract 0 k).get! 0).toNat % 16 * 4096 + ((s.extract 0 k).get! 1).toNat % 64 * 64 + ((s.extract 0 k).get! 2).toNat % 64
      else ((s.extract 0 k).get! 0).toNat % 8 * 262144 + ((s.extract 0 k).get! 1).toNat % 64 * 4096 + ((s.extract 0 k).get! 2).toNat % 64 * 64 + ((s.extract 0 k).get! 3).toNat % 64 : Nat) : Int) := by
    unfold val bt
    rw [← e0]
    obtain rfl | rfl | rfl | rfl : k = 1 ∨ k = 2 ∨ k = 3 ∨ k = 4 := by omega
    · simp
    · rw [← e1 (by omega)]; simp
    · rw [← e1 (by omega), ← e2 (by omega)]; simp
    · rw [← e1 (by omega), ← e2 (by omega), ← e3 (by omega)]; simp
  rw [hv]
  congr 1
  unfold Pass loAt hiAt bt at P1 P2 P3
  unfold bt at hk
  rw [← e0] at hk P1 P2 P3
  refine decodeN_whole _ _ _ _ _ k (by omega) (by omega) (by omega) (by omega) (by omega) hk (fun h => ?_) (fun h => ?_) (fun h => ?_) h1
  · have := P1 h; rw [← e1 h] at this; simpa using this.2.2
  · have := P2 h; rw [← e2 h] at this; have := this.2.2; simp at this; omega
  · have := P3 h; rw [← e3 h] at this; have := this.2.2; simp at this; omega

theorem bt_get (s : ByteArray) (k : Nat) (h : k < s.size) : bt s.data.toList k = (s[k].toNat : Int) := by
  unfold bt
  have h' : k < s.data.size := h
  simp only [List.getD_eq_getElem?_getD, Array.getElem?_toList, Array.getElem?_eq_getElem h', Option.getD_some]
  rfl
theorem length_toList (s : ByteArray) : s.data.toList.length = s.size := rfl
theorem ne_nil_of_pos {s : ByteArray} (h : 0 < s.size) : s.data.toList ≠ [] := by
  intro e
  have := length_toList s
  rw [e] at this
  simp at this
  omega
theorem nx_bad {l : List UInt8} {k : Nat} (hl : l ≠ []) (h : runLen l = k) (hk : (k : Int) ≠ lenOf (bt l 0)) : nx l = (65533, k, false) := by
  unfold nx
  rw [if_neg hl, h, if_neg hk]
theorem nx_good {l : List UInt8} {k : Nat} (hl : l ≠ []) (h : runLen l = k) (hk : (k : Int) = lenOf (bt l 0)) : nx l = (val l k, k, true) := by
  unfold nx
  rw [if_neg hl, h, if_pos hk]
theorem runLen_at {s : ByteArray} {k : Nat} (h1 : 1 ≤ k) (hp : ∀ i, 1 ≤ i → i < k → Pass s.data.toList i)
    (hn : lenOf (bt s.data.toList 0) ≤ k ∨ s.size ≤ k ∨ (∃ h : k < s.size, (s[k].toNat : Int) < loAt s.data.toList k) ∨ (∃ h : k < s.size, hiAt s.data.toList k < (s[k].toNat : Int))) : runLen s.data.toList = k := by
  refine runLen_of h1 hp ?_
  rintro ⟨p1, p2, p3, p4⟩
  rw [length_toList] at p2
  rw [bt_get s k p2] at p3 p4
  rcases hn with h | h | ⟨_, h⟩ | ⟨_, h⟩ <;> omega

theorem runLen_pos (l : List UInt8) : 1 ≤ runLen l := by unfold runLen; repeat' split
                                                         all_goals omega
theorem runLen_le {l : List UInt8} (h : l ≠ []) : runLen l ≤ l.length := by
  have hl : 0 < l.length := List.length_pos_iff.2 h
  unfold runLen
  split
  · omega
  · rename_i h1
    have h1 := (Decidable.not_not.1 h1).2.1
    split
    · omega
    · rename_i h2
      have h2 := (Decidable.not_not.1 h2).2.1
      split
      · omega
      · rename_i h3
        have h3 := (Decidable.not_not.1 h3).2.1
        omega
theorem nx_width {l : List UInt8} (h : l ≠ []) : (nx l).2.1 = runLen l := by
  unfold nx
  rw [if_neg h]
  split <;> dsimp only
theorem nx_le {l : List UInt8} (h : l ≠ []) : 1 ≤ (nx l).2.1 ∧ (nx l).2.1 ≤ l.length := by
  rw [nx_width h]
  exact ⟨runLen_pos l, runLen_le h⟩

theorem nx_drop_lt {l : List UInt8} (h : l ≠ []) : (l.drop (nx l).2.1).length < l.length := by
  have := nx_le h
  rw [List.length_drop]
  omega
/-- utf.Decode. -/
def decL (l : List UInt8) : List Int :=
  if h : l = [] then [] else (nx l).1 :: decL (l.drop (nx l).2.1)
termination_by l.length
decreasing_by exact nx_drop_lt h
/-- utf.Valid. -/
def valL (l : List UInt8) : Bool :=
  if h : l = [] then true else (nx l).2.2 && valL (l.drop (nx l).2.1)
termination_by l.length
decreasing_by exact nx_drop_lt h
theorem decL_nil : decL [] = [] := by unfold decL; simp
theorem valL_nil : valL [] = true := by unfold valL; simp
theorem decL_cons {l : List UInt8} (h : l ≠ []) : decL l = (nx l).1 :: decL (l.drop (nx l).2.1) := by
  rw [decL]; simp [h]
theorem valL_cons {l : List UInt8} (h : l ≠ []) : valL l = ((nx l).2.2 && valL (l.drop (nx l).2.1)) := by
  rw [valL]; simp [h]
theorem decL_length (l : List UInt8) : (decL l).length ≤ l.length := by
  by_cases h : l = []
  · subst h; simp [decL_nil]
  · rw [decL_cons h]
    have := decL_length (l.drop (nx l).2.1)
    have := nx_drop_lt h
    simp only [List.length_cons]
    omega
termination_by l.length
decreasing_by exact nx_drop_lt h
end Go.Proofs.YtlkphbcdgkjnoaaDoor
