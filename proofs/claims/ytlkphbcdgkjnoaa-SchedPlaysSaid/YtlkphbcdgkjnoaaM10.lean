/- Who is ahead: what the call answers. -/
import Derived.Test.YtlkphbcdgkjnoaaM8
import Derived.BigRegion
namespace Go.Proofs.Ytlkphbcdgkjnoaa
open Go.RowKit Go.Maps

/-- Is (a, o) ahead of (a', o')? -/
def ahd (a o a' o' : Int) : Bool := decide (a < a') || (decide (a = a') && decide (o < o'))

set_option maxRecDepth 100000 in
set_option maxHeartbeats 1000000 in
theorem ahead_any {w : World} {b c : Nat} {a o a' o' : Int} (h4 : w.cell? ⟨b, 4, none⟩ = some (.int .u64 a)) (h1 : w.cell? ⟨b, 1, none⟩ = some (.int .u64 o)) (h4' : w.cell? ⟨c, 4, none⟩ = some (.int .u64 a')) (h1' : w.cell? ⟨c, 1, none⟩ = some (.int .u64 o')) :
    Calls Try.prog 44 #[ptr b, ptr c] w fun e w' => e = .returned (.bool (ahd a o a' o')) ∧ ∃ m, w' = w.drewN m := by
  unfold ahd
  cases c1 : decide (a < a')
  · cases c2 : decide (a = a')
    · have c3 : (a == a') = false := by simpa using c2
      clear c2
      go_enter Try.func44, Try.ntmps44
      go_wp2
      go_quiet (fail)
      go_wp2
      go_ret
      exact ⟨rfl, _, rfl⟩
    · have c3 : (a == a') = true := by simpa using c2
      clear c2
      go_enter Try.func44, Try.ntmps44
      go_wp2
      go_quiet (fail)
      go_wp2
      go_ret
      exact ⟨by simp, _, rfl⟩
  · go_enter Try.func44, Try.ntmps44
    go_wp2
    go_quiet (fail)
    go_wp2
    go_ret
    exact ⟨rfl, _, rfl⟩
end Go.Proofs.Ytlkphbcdgkjnoaa
