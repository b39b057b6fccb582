/- The document's scheduler: Sleep, Until, Wake, Add: what each returns and what it turns. -/
import Derived.Test.YtlkphbcdgkjnoaaR1
namespace Go.Proofs.Ytlkphbcdgkjnoaa
open Go.RowKit Go.Maps

def ROwn (r : Nat) (rv : Value) (k : Nat) : Prop := k = r ∨ rv.ownBlock = some k
theorem RMem.own_lt {B : Nat} {W : World} {r : Nat} {rv : Value} {pat now : Int} {L : List R} (h : RMem B W r rv pat now L) {k : Nat} (hk : ROwn r rv k) : B ≤ k ∧ k < W.heap.size := by
  rcases hk with rfl | e
  · exact ⟨h.hr, h.str.lt⟩
  · exact h.row.lt k e
theorem RMem.same {B : Nat} {W W' : World} {r : Nat} {rv : Value} {pat now : Int} {L : List R} (h : RMem B W r rv pat now L) (hb : ∀ k, ROwn r rv k → W'.heap[k]? = W.heap[k]?) : RMem B W' r rv pat now L :=
  ⟨(hb r (.inl rfl)).trans h.str, row_same h.row (fun k e => hb k (.inr e)), h.hr⟩
theorem RMem.fr {O : Nat → Prop} {B : Nat} {W W' : World} {r : Nat} {rv : Value} {pat now : Int} {L : List R} (h : RMem B W r rv pat now L) (f : Fr O W W') (hO : ∀ k, ROwn r rv k → ¬ O k) : RMem B W' r rv pat now L :=
  h.same (fun k hk => f.block k (h.own_lt hk).2 (hO k hk))
/-- What the document's scheduler holds at one id. -/
structure RAt (L : List R) (id : Int) (k : Nat) (t : R) : Prop where
  at' : L[k]? = some t
  id' : t.id = id
  fst : ∀ j u, j < k → L[j]? = some u → u.id ≠ id

theorem RMem.one {B : Nat} {W : World} {r g cap : Nat} {pat now : Int} {L : List R} (h : RMem B W r (.slice (some ⟨g, 0, none⟩) L.length cap) pat now L) {k : Nat} {t : R} (hk : L[k]? = some t) (j : Nat) (hj : j < 5) (v : Value) (t' : R) (hv : t'.vals = t.vals.set j v) :
    RMem B (W.setCell ⟨g, k * 5 + j, none⟩ v) r (.slice (some ⟨g, 0, none⟩) L.length cap) pat now (L.set k t') := by
  obtain ⟨h1, h2⟩ := h.row.stored (k * 5 + j) v
  have hne : r ≠ g := by
    rintro rfl
    rcases h.row.2 with ⟨e, _⟩ | ⟨g', c', cur, e, _, hg, _⟩
    · cases e
    · cases e
      have := (show W.heap[r]? = _ from h.str).symm.trans hg
      simp at this
  refine ⟨h.str.kept h2 (by simpa using hne), ?_, h.hr⟩
  rw [List.length_set, ← vals_set L k t t' hk j hj v hv]
  exact h1
/-- A whole handler is written. -/
def put5 (W : World) (g o : Nat) (u : R) : World := ((((W.setCell ⟨g, o, none⟩ (.int .u64 u.id)).setCell ⟨g, o + 1, none⟩ (.bool u.asleep)).setCell ⟨g, o + 2, none⟩ (.bool u.timed)).setCell ⟨g, o + 3, none⟩ (.int .u64 u.at_)).setCell ⟨g, o + 4, none⟩ (.int .i64 u.age)
theorem Fr.put5 {O : Nat → Prop} {w W : World} (h : Fr O w W) {g : Nat} (hg : g < w.heap.size → O g) (o : Nat) (u : R) : Fr O w (put5 W g o u) :=
  ((((h.set hg _ _).set hg _ _).set hg _ _).set hg _ _).set hg _ _
theorem RMem.put {B : Nat} {W : World} {r g cap : Nat} {pat now : Int} {L : List R} (h : RMem B W r (.slice (some ⟨g, 0, none⟩) L.length cap) pat now L) {k : Nat} {t : R} (hk : L[k]? = some t) (u : R) :
    RMem B (put5 W g (k * 5) u) r (.slice (some ⟨g, 0, none⟩) L.length cap) pat now (L.set k u) := by
  have hkl := (List.getElem?_eq_some_iff.1 hk).1
  have again : ∀ (W' : World) (t1 t2 : R) (j : Nat) (hj : j < 5) (v : Value), RMem B W' r (.slice (some ⟨g, 0, none⟩) L.length cap) pat now (L.set k t1) → t2.vals = t1.vals.set j v →
      RMem B (W'.setCell ⟨g, k * 5 + j, none⟩ v) r (.slice (some ⟨g, 0, none⟩) L.length cap) pat now (L.set k t2) := fun W' t1 t2 j hj v h' hv => by
    have e : (L.set k t1).length = L.length := List.length_set
    have h2 : RMem B W' r (.slice (some ⟨g, 0, none⟩) (L.set k t1).length cap) pat now (L.set k t1) := by rw [e]; exact h'
    have := h2.one (k := k) (t := t1) (by rw [List.getElem?_set_self hkl]) j hj v t2 hv
    rw [e, List.set_set] at this
    exact this
  have h0 := h.one hk 0 (by omega) (.int .u64 u.id) { t with id := u.id } rfl
  have h1 := again _ _ { t with id := u.id, asleep := u.asleep } 1 (by omega) (.bool u.asleep) h0 rfl
  have h2 := again _ _ { t with id := u.id, asleep := u.asleep, timed := u.timed } 2 (by omega) (.bool u.timed) h1 rfl
  have h3 := again _ _ { t with id := u.id, asleep := u.asleep, timed := u.timed, at_ := u.at_ } 3 (by omega) (.int .u64 u.at_) h2 rfl
  exact again _ _ u 4 (by omega) (.int .i64 u.age) h3 rfl

set_option maxHeartbeats 1000000 in
theorem rsleep_ok {B : Nat} {w : World} {r : Nat} {rv : Value} {pat now : Int} {L : List R} (h : RMem B w r rv pat now L) (hlen : L.length ≤ 1000000) {id : Int} {k : Nat} {t : R} (ht : RAt L id k t) (hs : (t.asleep && !t.timed) = false) :
    Calls Try.prog 31 #[ptr r, .int .u64 id] w fun e w' => e = .returned (.int .i64 0) ∧ RMem B w' r rv pat now (L.set k ⟨id, true, false, 0, 0⟩) ∧ Fr (ROwn r rv) w w' := by
  have hF := rfind_at h hlen ht.at' ht.id' ht.fst
  obtain ⟨g, cap, rfl, ⟨d0, d1, d2, d3, d4⟩, df⟩ := h.at ht.at'
  obtain ⟨c0, c1, c2⟩ := h.str.three
  have hkl := (List.getElem?_eq_some_iff.1 ht.at').1
  have H1 := h.put ht.at' ⟨id, true, false, 0, 0⟩
  have F1 := (Fr.refl (ROwn r (.slice (some ⟨g, 0, none⟩) L.length cap)) w).put5 (fun _ => .inr rfl) (k * 5) ⟨id, true, false, 0, 0⟩
  go_enter Try.func31, Try.ntmps31
  go_wp2_with (go_at_call 45; refine hF.mono ?_; rintro e w1 ⟨rfl, rfl⟩)
  all_goals first
    | (go_ret; exact ⟨rfl, H1, F1⟩)
    | (exfalso; simp_all)
set_option maxHeartbeats 1000000 in
theorem rsleep_bad {B : Nat} {w : World} {r : Nat} {rv : Value} {pat now : Int} {L : List R} (h : RMem B w r rv pat now L) (hlen : L.length ≤ 1000000) {id : Int} {k : Nat} {t : R} (ht : RAt L id k t) (ha : t.asleep = true) (hs : t.timed = false) :
    Calls Try.prog 31 #[ptr r, .int .u64 id] w fun e w' => e = .returned (.int .i64 3) ∧ w = w' := by
  have hF := rfind_at h hlen ht.at' ht.id' ht.fst
  obtain ⟨g, cap, rfl, ⟨d0, d1, d2, d3, d4⟩, df⟩ := h.at ht.at'
  obtain ⟨c0, c1, c2⟩ := h.str.three
  have hkl := (List.getElem?_eq_some_iff.1 ht.at').1
  rw [ha] at d1
  rw [hs] at d2
  clear ha hs
  go_enter Try.func31, Try.ntmps31
  go_wp2_with (go_at_call 45; refine hF.mono ?_; rintro e w1 ⟨rfl, rfl⟩)
  go_ret
  exact ⟨rfl, rfl⟩
theorem rsleep_none {B : Nat} {w : World} {r : Nat} {rv : Value} {pat now : Int} {L : List R} (h : RMem B w r rv pat now L) (hlen : L.length ≤ 1000000) {id : Int} (hno : ∀ u ∈ L, u.id ≠ id) :
    Calls Try.prog 31 #[ptr r, .int .u64 id] w fun e w' => e = .returned (.int .i64 5) ∧ w = w' := by
  have hF := rfind_no h hlen hno
  clear hno
  go_enter Try.func31, Try.ntmps31
  go_wp2_with (go_at_call 45; refine hF.mono ?_; rintro e w1 ⟨rfl, rfl⟩)
  go_ret
  exact ⟨rfl, rfl⟩

set_option maxHeartbeats 1000000 in
theorem rwake_ok {B : Nat} {w : World} {r : Nat} {rv : Value} {pat now : Int} {L : List R} (h : RMem B w r rv pat now L) (hlen : L.length ≤ 1000000) {id : Int} {k : Nat} {t : R} (ht : RAt L id k t) (hs : t.asleep = true) :
    Calls Try.prog 33 #[ptr r, .int .u64 id] w fun e w' => e = .returned (.int .i64 0) ∧ RMem B w' r rv pat now (L.set k ⟨id, false, false, 0, 0⟩) ∧ Fr (ROwn r rv) w w' := by
  have hF := rfind_at h hlen ht.at' ht.id' ht.fst
  obtain ⟨g, cap, rfl, ⟨d0, d1, d2, d3, d4⟩, df⟩ := h.at ht.at'
  obtain ⟨c0, c1, c2⟩ := h.str.three
  have hkl := (List.getElem?_eq_some_iff.1 ht.at').1
  have H1 := h.put ht.at' ⟨id, false, false, 0, 0⟩
  have F1 := (Fr.refl (ROwn r (.slice (some ⟨g, 0, none⟩) L.length cap)) w).put5 (fun _ => .inr rfl) (k * 5) ⟨id, false, false, 0, 0⟩
  rw [hs] at d1
  clear hs
  go_enter Try.func33, Try.ntmps33
  go_wp2_with (go_at_call 45; refine hF.mono ?_; rintro e w1 ⟨rfl, rfl⟩)
  go_ret
  exact ⟨rfl, H1, F1⟩
set_option maxHeartbeats 1000000 in
theorem rwake_bad {B : Nat} {w : World} {r : Nat} {rv : Value} {pat now : Int} {L : List R} (h : RMem B w r rv pat now L) (hlen : L.length ≤ 1000000) {id : Int} {k : Nat} {t : R} (ht : RAt L id k t) (ha : t.asleep = false) :
    Calls Try.prog 33 #[ptr r, .int .u64 id] w fun e w' => e = .returned (.int .i64 3) ∧ w = w' := by
  have hF := rfind_at h hlen ht.at' ht.id' ht.fst
  obtain ⟨g, cap, rfl, ⟨d0, d1, d2, d3, d4⟩, df⟩ := h.at ht.at'
  obtain ⟨c0, c1, c2⟩ := h.str.three
  have hkl := (List.getElem?_eq_some_iff.1 ht.at').1
  rw [ha] at d1
  clear ha
  go_enter Try.func33, Try.ntmps33
  go_wp2_with (go_at_call 45; refine hF.mono ?_; rintro e w1 ⟨rfl, rfl⟩)
  go_ret
  exact ⟨rfl, rfl⟩
theorem rwake_none {B : Nat} {w : World} {r : Nat} {rv : Value} {pat now : Int} {L : List R} (h : RMem B w r rv pat now L) (hlen : L.length ≤ 1000000) {id : Int} (hno : ∀ u ∈ L, u.id ≠ id) :
    Calls Try.prog 33 #[ptr r, .int .u64 id] w fun e w' => e = .returned (.int .i64 5) ∧ w = w' := by
  have hF := rfind_no h hlen hno
  clear hno
  go_enter Try.func33, Try.ntmps33
  go_wp2_with (go_at_call 45; refine hF.mono ?_; rintro e w1 ⟨rfl, rfl⟩)
  go_ret
  exact ⟨rfl, rfl⟩

set_option maxHeartbeats 1000000 in
theorem runtil_ok {B : Nat} {w : World} {r : Nat} {rv : Value} {pat now : Int} {L : List R} (h : RMem B w r rv pat now L) (hlen : L.length ≤ 1000000) {id : Int} {k : Nat} {t : R} (ht : RAt L id k t) (z : Int) (hz : now < z) :
    Calls Try.prog 32 #[ptr r, .int .u64 id, .int .u64 z] w fun e w' => e = .returned (.int .i64 0) ∧ RMem B w' r rv pat now (L.set k ⟨id, true, true, z, 0⟩) ∧ Fr (ROwn r rv) w w' := by
  have hF := rfind_at h hlen ht.at' ht.id' ht.fst
  obtain ⟨g, cap, rfl, ⟨d0, d1, d2, d3, d4⟩, df⟩ := h.at ht.at'
  obtain ⟨c0, c1, c2⟩ := h.str.three
  have hkl := (List.getElem?_eq_some_iff.1 ht.at').1
  have H1 := h.put ht.at' ⟨id, true, true, z, 0⟩
  have F1 := (Fr.refl (ROwn r (.slice (some ⟨g, 0, none⟩) L.length cap)) w).put5 (fun _ => .inr rfl) (k * 5) ⟨id, true, true, z, 0⟩
  have hd : decide (z ≤ now) = false := by simpa using hz
  go_enter Try.func32, Try.ntmps32
  go_wp2_with (go_at_call 45; refine hF.mono ?_; rintro e w1 ⟨rfl, rfl⟩)
  go_ret
  exact ⟨rfl, H1, F1⟩
set_option maxHeartbeats 1000000 in
theorem runtil_past {B : Nat} {w : World} {r : Nat} {rv : Value} {pat now : Int} {L : List R} (h : RMem B w r rv pat now L) (hlen : L.length ≤ 1000000) {id : Int} {k : Nat} {t : R} (ht : RAt L id k t) (z : Int) (hz : z ≤ now) :
    Calls Try.prog 32 #[ptr r, .int .u64 id, .int .u64 z] w fun e w' => e = .returned (.int .i64 2) ∧ w = w' := by
  have hF := rfind_at h hlen ht.at' ht.id' ht.fst
  obtain ⟨c0, c1, c2⟩ := h.str.three
  have hkl := (List.getElem?_eq_some_iff.1 ht.at').1
  go_enter Try.func32, Try.ntmps32
  go_wp2_with (go_at_call 45; refine hF.mono ?_; rintro e w1 ⟨rfl, rfl⟩)
  go_ret
  exact ⟨rfl, rfl⟩
theorem runtil_none {B : Nat} {w : World} {r : Nat} {rv : Value} {pat now : Int} {L : List R} (h : RMem B w r rv pat now L) (hlen : L.length ≤ 1000000) {id : Int} (hno : ∀ u ∈ L, u.id ≠ id) (z : Int) :
    Calls Try.prog 32 #[ptr r, .int .u64 id, .int .u64 z] w fun e w' => e = .returned (.int .i64 5) ∧ w = w' := by
  have hF := rfind_no h hlen hno
  clear hno
  go_enter Try.func32, Try.ntmps32
  go_wp2_with (go_at_call 45; refine hF.mono ?_; rintro e w1 ⟨rfl, rfl⟩)
  go_ret
  exact ⟨rfl, rfl⟩

theorem radd_there {B : Nat} {w : World} {r : Nat} {rv : Value} {pat now : Int} {L : List R} (h : RMem B w r rv pat now L) (hlen : L.length ≤ 1000000) {id : Int} {k : Nat} {t : R} (ht : RAt L id k t) :
    Calls Try.prog 30 #[ptr r, .int .u64 id] w fun e w' => e = .returned (.int .i64 9) ∧ w = w' := by
  have hF := rfind_at h hlen ht.at' ht.id' ht.fst
  go_enter Try.func30, Try.ntmps30
  go_wp2_with (go_at_call 45; refine hF.mono ?_; rintro e w1 ⟨rfl, rfl⟩)
  go_ret
  exact ⟨rfl, rfl⟩
theorem Try.inf82 : (Try.prog.info? 82).map (fun i => (i.zero, i.size, i.bytes)) = some (some (.agg #[.int .u64 0, .bool false, .bool false, .int .u64 0, .int .i64 0]), 5, 32) := by kernel_rfl
theorem Try.und41 : Try.prog.underlying 41 = some (.slice 82) := by kernel_rfl
theorem cells_new (w : World) (vs : List Value) (t : TypeId) : ∀ j u, vs[j]? = some u → (w.alloc (.cells ⟨vs⟩ t)).cell? ((⟨w.heap.size, 0, none⟩ : Addr).add j) = some u := by
  intro j u hj
  have hadd : (⟨w.heap.size, 0, none⟩ : Addr).add j = ⟨w.heap.size, j, none⟩ := by unfold Addr.add; split <;> simp_all
  rw [hadd]
  exact (Blk.new w t ⟨vs⟩).cell j (by simpa using hj)
theorem one_vals (t : R) : ∀ u ∈ t.vals, u.oneCell' = true := by
  intro u hu
  simp only [R.vals, List.mem_cons, List.mem_nil_iff, or_false] at hu
  rcases hu with rfl | rfl | rfl | rfl | rfl <;> rfl
theorem vals_snoc (L : List R) (t : R) : L.flatMap R.vals ++ t.vals = (L ++ [t]).flatMap R.vals := by simp
set_option maxRecDepth 100000 in
set_option maxHeartbeats 1000000 in
theorem radd_new {B : Nat} {w : World} {r : Nat} {rv : Value} {pat now : Int} {L : List R} (h : RMem B w r rv pat now L) (hlen : L.length < 1024) {id : Int} (hno : ∀ u ∈ L, u.id ≠ id) (hBw : B ≤ w.heap.size) :
    Calls Try.prog 30 #[ptr r, .int .u64 id] w fun e w' => e = .returned (.int .i64 0) ∧ (∃ rv', RMem B w' r rv' pat now (L ++ [⟨id, false, false, 0, 0⟩]) ∧ ∀ k, rv'.ownBlock = some k → rv.ownBlock = some k ∨ w.heap.size ≤ k) ∧ Fr (ROwn r rv) w w' := by
  have hF := rfind_no h (by omega) hno
  obtain ⟨A, cap, rfl⟩ := row_form h.row
  obtain ⟨c0, c1, c2⟩ := h.str.three
  obtain ⟨i0, hi, hy0, hy1, hy2⟩ := info_parts Try.inf82
  have hf := fun k => h.str.frozen k
  have A1 := h.row.alloc (.cells #[.int .u64 id, .bool false, .bool false, .int .u64 0, .int .i64 0] 82)
  have S1 := h.str.alloc (.cells #[.int .u64 id, .bool false, .bool false, .int .u64 0, .int .i64 0] 82)
  have F1 := (Fr.refl (ROwn r (.slice A L.length cap)) w).alloc (.cells #[.int .u64 id, .bool false, .bool false, .int .u64 0, .int .i64 0] 82)
  have hnew := cells_new w [.int .u64 id, .bool false, .bool false, .int .u64 0, .int .i64 0] 82
  have hrr := h.hr
  clear hno h
  go_enter Try.func30, Try.ntmps30
  go_wp2_with (first
    | (at_builtin; refine wpList_append_own_at _ rfl _ _ 41 rfl B 82 i0 (.agg #[.int .u64 0, .bool false, .bool false, .int .u64 0, .int .i64 0]) 5 32 Try.und41 hi hy0 hy1 hy2 rfl (by decide) _ _ _ rfl A1 ⟨w.heap.size, 0, none⟩ 1 1 [.int .u64 id, .bool false, .bool false, .int .u64 0, .int .i64 0] rfl rfl hnew (one_vals ⟨id, false, false, 0, 0⟩) (by unfold maxLen; omega) (by omega) (by simp; omega) ?_)
    | (go_at_call 45; refine hF.mono ?_; rintro e w1 ⟨rfl, rfl⟩))
  intro v' w1 hown' hgrow _ hloc
  obtain ⟨g', cap', rfl⟩ := ownsRow_succ hown'
  have S2 := S1.kept hgrow (S1.not_row (by decide) A1)
  have F2 := F1.grown hgrow (fun k hk _ => .inr hk)
  have F3 := F2.set (fun _ => .inl rfl) 2 (.slice (some ⟨g', 0, none⟩) (L.length + 1) cap')
  have S3 := S2.set 2 (.slice (some ⟨g', 0, none⟩) (L.length + 1) cap')
  have A3 := hown'.kept (grownBy_set w1 r 2 (.slice (some ⟨g', 0, none⟩) (L.length + 1) cap')) (.inr (S2.not_row (by decide) hown').symm)
  have e2 := vals_snoc L ⟨id, false, false, 0, 0⟩
  have hloc2 : ∀ k, (Value.slice (some ⟨g', 0, none⟩) (L.length + 1) cap').ownBlock = some k → (Value.slice A L.length cap).ownBlock = some k ∨ w.heap.size ≤ k := by
    intro k hk
    rcases hloc with e | e
    · exact .inl (e.symm.trans hk)
    · rw [e] at hk
      injection hk with hk
      exact .inr (by omega)
  obtain ⟨d0, d1, d2⟩ := S2.three
  have df := fun k => S2.frozen k
  have E2 := Lib.hid e2
  have FIN : RMem B (w1.setCell ⟨r, 2, none⟩ (.slice (some ⟨g', 0, none⟩) (L.length + 1) cap')) r (.slice (some ⟨g', 0, none⟩) (L.length + 1) cap') pat now (L ++ [⟨id, false, false, 0, 0⟩]) := by
    refine ⟨S3, ?_, hrr⟩
    rw [← e2, List.length_append]
    exact A3
  clear c0 c1 c2 hf S3 A3 e2 hown' hgrow hloc S2 F2
  go_wp2
  go_ret
  exact ⟨rfl, ⟨_, FIN, hloc2⟩, F3⟩
end Go.Proofs.Ytlkphbcdgkjnoaa
