/- The law's 'works' returns true, in whatever memory in which the tables lie as laid. -/
import Derived.Test.YtlkphbcdgkjnoaaDoorA4
namespace Go.Proofs.YtlkphbcdgkjnoaaDoor
open Go.RowKit Go.Shelf

theorem nx_e1 : nx [226, 130, 65] = (65533, 2, false) := by decide +kernel
theorem nx_e2 : nx [226, 130, 65, 255] = (65533, 2, false) := by decide +kernel
theorem nx_e3 : nx [65, 255] = (65, 1, true) := by decide +kernel
theorem nx_e4 : nx [255] = (65533, 1, false) := by decide +kernel
theorem nx_e5 : nx [237, 160, 128] = (65533, 1, false) := by decide +kernel
theorem dec_e : decL [226, 130, 65, 255] = [65533, 65, 65533] := by
  rw [decL_cons (by simp), nx_e2, show List.drop ((65533, 2, false) : Int × Nat × Bool).2.1 ([226, 130, 65, 255] : List UInt8) = [65, 255] from rfl,
    decL_cons (by simp), nx_e3, show List.drop ((65, 1, true) : Int × Nat × Bool).2.1 ([65, 255] : List UInt8) = [255] from rfl,
    decL_cons (by simp), nx_e4, show List.drop ((65533, 1, false) : Int × Nat × Bool).2.1 ([255] : List UInt8) = [] from rfl, decL_nil]
theorem val_e : valL [237, 160, 128] = false := by
  rw [valL_cons (by simp), nx_e5]
  rfl
theorem enc_e : encS [65, 128512] = ⟨#[65, 240, 159, 152, 128]⟩ ∧ encE [65, 128512] = 0 := by decide +kernel

set_option maxRecDepth 100000 in
set_option maxHeartbeats 1000000 in
theorem works_any (w : World) (hT : Tabs w) :
    Calls Tryd.prog 8 #[] w fun e w' => e = .returned (.bool true) ∧ Below w.heap.size w w' := by
  have c1 := next_any ⟨#[226, 130, 65]⟩ (by decide) w hT
  rw [show (⟨#[226, 130, 65]⟩ : ByteArray).data.toList = [226, 130, 65] from rfl, nx_e1] at c1
  have C1 := Lib.hid c1
  clear c1
  go_enter Tryd.func8, Tryd.ntmps8
  go_wp2_with (go_at_call 14; refine C1.out.mono ?_; rintro e w1 ⟨rfl, hB1⟩)
  have hT1 := hT.below hB1
  have hrd : ReadsI (w1.alloc (.cells #[.int .i32 65, .int .i32 128512] 21)) (w1.alloc (.cells #[.int .i32 65, .int .i32 128512] 21)).heap.size (some ⟨w1.heap.size, 0, none⟩) [65, 128512] := by
    intro k z hz
    refine ⟨_, rfl, by simp, ?_⟩
    match k, hz with
    | 0, hz => simp at hz; subst hz; simp [Addr.add]
    | 1, hz => simp at hz; subst hz; simp [Addr.add]
    | k + 2, hz => simp at hz
  have c2 := encode_any (some ⟨w1.heap.size, 0, none⟩) 2 [65, 128512] (by simp) _ hrd
  rw [enc_e.1, enc_e.2, show ([65, 128512] : List Int).length = 2 from rfl] at c2
  have C2 := Lib.hid c2
  clear c2
  go_wp2_with (go_at_call 9; refine C2.out.mono ?_; rintro e w2 ⟨rfl, hB2⟩)
  have hB12 : Below w1.heap.size w1 w2 := ((Below.refl _ w1).alloc (Nat.le_refl _) _).trans (hB2.mono (by simp))
  have hT2 := hT1.below hB12
  have c3 := decode_any ⟨#[226, 130, 65, 255]⟩ (by decide) w2 hT2
  rw [show (⟨#[226, 130, 65, 255]⟩ : ByteArray).data.toList = [226, 130, 65, 255] from rfl, dec_e] at c3
  have C3 := Lib.hid c3
  clear c3
  go_wp2_with (go_at_call 12; refine C3.out.mono ?_; rintro e w3 ⟨v, rfl, hrun, hB3⟩)
  obtain ⟨A, cap, hv, hcap, hrd3⟩ := hrun.form
  rw [show ([65533, 65, 65533] : List Int).length = 3 from rfl] at hv
  obtain ⟨ad, hA, _, hc⟩ := hrd3 1 65 rfl
  subst hA
  subst hv
  have hc1 : w3.cell? ⟨ad.block, ad.off + 1, none⟩ = some (.int .i32 65) := by simpa [Addr.add] using hc
  clear hc hrun hrd3 hcap
  have hT3 := hT2.below hB3
  have c4 := valid_any ⟨#[237, 160, 128]⟩ (by decide) w3 hT3
  rw [show (⟨#[237, 160, 128]⟩ : ByteArray).data.toList = [237, 160, 128] from rfl, val_e] at c4
  have C4 := Lib.hid c4
  clear c4
  go_wp2_with (go_at_call 11; refine C4.out.mono ?_; rintro e w4 ⟨rfl, hB4⟩)
  go_simp
  go_wp2_with (go_at_call 11; refine C4.out.mono ?_; rintro e w4 ⟨rfl, hB4⟩)
  go_ret
  exact ⟨rfl, hB1.trans ((hB12.trans ((hB3.trans (hB4.mono hB3.size)).mono hB12.size)).mono hB1.size)⟩
end Go.Proofs.YtlkphbcdgkjnoaaDoor
