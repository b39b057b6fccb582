/- Pick, whatever the patience: what the call returns, and what it turns. (The proof is pick_any's; printed by mkF3.py.) -/
import Derived.Test.YtlkphbcdgkjnoaaM6
namespace Go.Proofs.Ytlkphbcdgkjnoaa
open Go.RowKit Go.Shelf Go.Maps
attribute [local go_sem] Oper.semAt_some

set_option maxRecDepth 100000 in
set_option maxHeartbeats 4000000 in
theorem pick_full {B : Nat} {w : World} {s mb n : Nat} {vt : Value} {A : Option Addr} {cap : Nat} {st : St} (h : Mem B w s (.slice A st.l.length cap) mb vt n st) (x : Int) (hx0 : 0 ≤ x) (hx1 : x < 18446744073709551616)
    (hp0 : 0 ≤ st.pat) (hp1 : st.pat ≤ 9223372036854775807) (hage : ∀ t ∈ st.l, 0 ≤ t.age ∧ t.age ≤ 1000000) (hlen : st.l.length ≤ 1000000) :
    Calls Try.prog 10 #[ptr s, .int .u64 x] w fun e w' => PickEnds B w s (.slice A st.l.length cap) mb vt n st (chosen st x.toNat) e w' := by
  have hfoot := h.foot
  have hLo := Lo.low (B := B) (w := w) (n := n) (l := st.l) hfoot
  have hLoB := fun bs => Lo.low (B := B) (w := w) (n := n) (l := st.l) (hfoot.bump bs)
  have hap := h.apart
  have hN := none_any h.str
  refine (callsIn_wide (n := 6)).1 ?_
  refine callsIn_of_wp_marks Try.func10 rfl trivial ?_ rfl
  simp only [Try.ntmps10, List.size_toArray, List.length_cons, List.length_nil, Nat.reduceAdd, Nat.reduceSub, Array.replicate_succ, Array.replicate_zero, List.push_toArray, List.append_toArray, List.nil_append, List.cons_append]
  gi_wp2_with fail
  refine ⟨trivial, ?_⟩
  refine (callsIn_wide.2 (none_any ((h.str.alloc _).alloc _))).mono ?_
  rintro e w' ⟨rfl, rfl⟩
  gi_wp2_with fail
  refine ⟨trivial, ?_⟩
  refine (callsIn_wide.2 (awake_any s _)).mono ?_
  rintro e w' ⟨rfl, rfl⟩
  gi_wp2_with fail
  simp only [Nat.add_assoc, Nat.reduceAdd]
  have pk0 : Pk (Lo B w s (.slice A st.l.length cap) mb vt n st.l st) w.heap.size (((((w.alloc (.cells #[ptr s] 24)).alloc (.cells #[.int .u64 x] 29)).alloc (.cells #[.pointer none] 60)).alloc (.cells #[.int .u64 0] 29)).alloc (.cells #[ptr s] 24)) s x (.pointer none) 0 (w.heap.size + 4) [] := by
    have b0 := (((((Boxed.new w 24 (ptr s)).alloc (.cells #[.int .u64 x] 29)).alloc (.cells #[.pointer none] 60)).alloc (.cells #[.int .u64 0] 29)).alloc (.cells #[ptr s] 24))
    have b1 := ((((Boxed.new (w.alloc (.cells #[ptr s] 24)) 29 (.int .u64 x)).alloc (.cells #[.pointer none] 60)).alloc (.cells #[.int .u64 0] 29)).alloc (.cells #[ptr s] 24))
    have b2 := (((Boxed.new ((w.alloc (.cells #[ptr s] 24)).alloc (.cells #[.int .u64 x] 29)) 60 (.pointer none)).alloc (.cells #[.int .u64 0] 29)).alloc (.cells #[ptr s] 24))
    have b3 := ((Boxed.new (((w.alloc (.cells #[ptr s] 24)).alloc (.cells #[.int .u64 x] 29)).alloc (.cells #[.pointer none] 60)) 29 (.int .u64 0)).alloc (.cells #[ptr s] 24))
    have b4 := Boxed.new ((((w.alloc (.cells #[ptr s] 24)).alloc (.cells #[.int .u64 x] 29)).alloc (.cells #[.pointer none] 60)).alloc (.cells #[.int .u64 0] 29)) 24 (ptr s)
    simp only [World.size_alloc] at b1 b2 b3 b4
    refine ⟨⟨((((h.alloc _).alloc _).alloc _).alloc _).alloc _, ?_⟩, b0, b1, b2, b3, b4, by omega, by simp⟩
    have hB := (((((Below.refl w.heap.size w).alloc (Nat.le_refl _) (.cells #[ptr s] 24)).alloc (by simp) (.cells #[.int .u64 x] 29)).alloc (by simp; omega) (.cells #[.pointer none] 60)).alloc (by simp; omega) (.cells #[.int .u64 0] 29)).alloc (by simp; omega) (.cells #[ptr s] 24)
    exact ⟨hB.os, hB.tape, hB.output, hB.size, fun k hk _ => hB.block k hk⟩
  revert pk0
  generalize (((((w.alloc (.cells #[ptr s] 24)).alloc (.cells #[.int .u64 x] 29)).alloc (.cells #[.pointer none] 60)).alloc (.cells #[.int .u64 0] 29)).alloc (.cells #[ptr s] 24)) = W0
  intro pk0
  have hsz0 := pk0.size
  have hawl : (aw st.l).length ≤ st.l.length := List.length_filter_le _ _
  refine range_awake (Bs := w.heap.size + 4) (s := s) (A := A) (cap := cap) (la := look st.l) rfl rfl
    (fun j W => Pk (Lo B w s (.slice A st.l.length cap) mb vt n st.l st) w.heap.size W s x (optp (old st.pat ((aw st.l).take j) none)) j (w.heap.size + 4) [])
    (fun _ _ _ => False)
    (fun j W h => look_of h.lo.1 h.bs hlen)
    (fun j W W' h hb => h.grow hLo hb)
    (fun j W l o o' h hle hl ho => h.put hLo o' hl ho (by omega) (by simp))
    (fun c j W l o o' h hle hl ho => h)
    pk0 ?a1 ?assign ?body ?done ?stop
  case assign =>
    intro l b W K hK
    gi_wp2
    exact hK
  case body =>
    intro l j b W hb hI
    rw [awakes_look, List.getElem?_map, Option.map_eq_some_iff] at hb
    obtain ⟨t, ht, rfl⟩ := hb
    have htm : t ∈ st.l := (List.mem_filter.1 (List.mem_of_getElem? ht)).1
    have hjl := (List.getElem?_eq_some_iff.1 ht).1
    have hag := hage t htm
    have hsn : old st.pat ((aw st.l).take (j + 1)) none = oldStep st.pat (old st.pat ((aw st.l).take j) none) t := by
      rw [List.take_add_one, ht]
      exact old_snoc
    have HSN := Lib.hid hsn
    have pk1 := hI.set3 hLo (j + 1)
    have c3 := hI.b3.cell
    have f3 := hI.b3.frozen
    have d0 := pk1.b0.cell
    have d2 := pk1.b2.cell
    have d2f := pk1.b2.frozen
    obtain ⟨e0, e1, e2, e3, e4, e5⟩ := (pk1.lo.1.tasks t htm).six
    obtain ⟨g0, g1, g2, g3, g4, g5⟩ := pk1.lo.1.str.six
    clear hsn ht
    generalize hO : old st.pat ((aw st.l).take j) none = O at *
    cases cb : decide (st.pat ≤ t.age)
    · have hst : oldStep st.pat O t = O := by unfold oldStep; rw [cb]; rfl
      rw [hst] at HSN
      gi_wp2
      refine region_quiet_round (by kernel_rfl) (by kernel_rfl) (by kernel_rfl) ?_
      repeat (gi_big_quiet_step (fail))
      refine wpQuietIn_nil ?_
      rintro _ ⟨nq, rfl⟩
      gi_wp2
      have pk2 := pk1.drew hLo nq
      refine ⟨((KeepsOthers.setCell W _ _).trans (keeps_drewN _ nq)).from _, ?_⟩
      show Pk _ _ _ _ _ (optp (old st.pat ((aw st.l).take (j + 1)) none)) _ _ _
      rw [HSN.out]
      exact pk2
    · cases O with
      | none =>
        have hst : oldStep st.pat none t = some t := by unfold oldStep; rw [cb]; rfl
        rw [hst] at HSN
        have d2' : (W.setCell ⟨w.heap.size + 3, 0, none⟩ (.int .u64 (j + 1))).cell? ⟨w.heap.size + 2, 0, none⟩ = some (.pointer none) := d2
        clear d2
        gi_wp2
        refine region_quiet_round (by kernel_rfl) (by kernel_rfl) (by kernel_rfl) ?_
        repeat (gi_big_quiet_step (fail))
        refine wpQuietIn_nil ?_
        rintro _ ⟨nq, rfl⟩
        gi_wp2
        have pk2 := (pk1.drew hLo nq).set2 hLo (ptr t.b)
        refine ⟨(((KeepsOthers.setCell W _ _).trans (keeps_drewN _ nq)).trans (KeepsOthers.setCell _ _ _)).from _, ?_⟩
        show Pk _ _ _ _ _ (optp (old st.pat ((aw st.l).take (j + 1)) none)) _ _ _
        rw [HSN.out]
        exact pk2
      | some u =>
        have hu : u ∈ st.l := (List.mem_filter.1 (List.mem_of_mem_take (old_mem hO).1)).1
        obtain ⟨u0, u1, u2, u3, u4, u5⟩ := (pk1.lo.1.tasks u hu).six
        have d2' : (W.setCell ⟨w.heap.size + 3, 0, none⟩ (.int .u64 (j + 1))).cell? ⟨w.heap.size + 2, 0, none⟩ = some (ptr u.b) := d2
        clear d2
        cases cd : decide (u.age < t.age)
        · have hst : oldStep st.pat (some u) t = some u := by show (if (decide (st.pat ≤ t.age) && decide (u.age < t.age)) = true then some t else some u) = _; rw [cb, cd]; rfl
          rw [hst] at HSN
          gi_wp2
          refine region_quiet_round (by kernel_rfl) (by kernel_rfl) (by kernel_rfl) ?_
          repeat (gi_big_quiet_step (fail))
          refine wpQuietIn_nil ?_
          rintro _ ⟨nq, rfl⟩
          gi_wp2
          have pk2 := pk1.drew hLo nq
          refine ⟨((KeepsOthers.setCell W _ _).trans (keeps_drewN _ nq)).from _, ?_⟩
          show Pk _ _ _ _ _ (optp (old st.pat ((aw st.l).take (j + 1)) none)) _ _ _
          rw [HSN.out]
          exact pk2
        · have hst : oldStep st.pat (some u) t = some t := by show (if (decide (st.pat ≤ t.age) && decide (u.age < t.age)) = true then some t else some u) = _; rw [cb, cd]; rfl
          rw [hst] at HSN
          gi_wp2
          refine region_quiet_round (by kernel_rfl) (by kernel_rfl) (by kernel_rfl) ?_
          repeat (gi_big_quiet_step (fail))
          refine wpQuietIn_nil ?_
          rintro _ ⟨nq, rfl⟩
          gi_wp2
          have pk2 := (pk1.drew hLo nq).set2 hLo (ptr t.b)
          refine ⟨(((KeepsOthers.setCell W _ _).trans (keeps_drewN _ nq)).trans (KeepsOthers.setCell _ _ _)).from _, ?_⟩
          show Pk _ _ _ _ _ (optp (old st.pat ((aw st.l).take (j + 1)) none)) _ _ _
          rw [HSN.out]
          exact pk2
  case done =>
    intro D1 W1 hD1 hI hK1
    rw [awakes_look, List.length_map, List.take_length] at hI
    have pkA : Pk (Lo B w s (.slice A st.l.length cap) mb vt n st.l st) w.heap.size W1 s x (optp (old st.pat (aw st.l) none)) (aw st.l).length (w.heap.size + 4) [D1] :=
      ⟨hI.lo, hI.b0, hI.b1, hI.b2, hI.b3, hI.bs, hI.hs, fun d hd => by rw [List.mem_singleton] at hd; subst hd; exact hK1⟩
    have a0 := pkA.b0.cell
    have a1 := pkA.b1.cell
    have a3 := pkA.b3.cell
    have a2 := pkA.b2.cell
    have f1 := pkA.b1.frozen
    by_cases h0 : aw st.l = []
    · have hch : chosen st x.toNat = none := by
        unfold chosen
        rw [h0]
        rfl
      rw [h0] at a3
      have hlo := pkA.lo
      gi_wp2
      refine ⟨by simp, .inl ⟨_, _, rfl, run_takeDeferred hK1, ?_⟩⟩
      refine ⟨_, results_tmp2 rfl _ _ _, ?_⟩
      rw [hch]
      exact ⟨rfl, hLo _ _ hlo (below_putN _ (by omega) _)⟩
    · obtain ⟨L, hL⟩ : ∃ L, (aw st.l).length = L := ⟨_, rfl⟩
      have hLpos : 0 < L := by
        rw [← hL]
        exact List.length_pos_iff.2 h0
      rw [hL] at a3 pkA
      cases ho : old st.pat (aw st.l) none with
      | some t =>
        have hch : chosen st x.toNat = some t := by
          unfold chosen
          rw [ho]
        have ht : t ∈ aw st.l := (old_mem ho).1
        rw [ho] at a2 pkA
        have a2' : W1.cell? ⟨w.heap.size + 2, 0, none⟩ = some (ptr t.b) := a2
        clear a2
        have HL := Lib.hid hL
        have HO := Lib.hid ho
        have HCH := Lib.hid hch
        clear hL ho hch
        gi_wp2_with fail
        refine ⟨trivial, ?_⟩
        refine (callsIn_wide.2 (awake_any s _)).mono ?_
        rintro e w' ⟨rfl, rfl⟩
        gi_wp2_with fail
        have pk3 := Pk.rebox hLo pkA
        have hd3 := pkA.dlt
        have hsz3 := pkA.size
        have hszE : (W1.alloc (.cells #[ptr s] 24)).heap.size = W1.heap.size + 1 := World.size_alloc _ _
        revert pk3 hszE
        generalize W1.alloc (.cells #[ptr s] 24) = W3
        intro pk3 hszE
        refine range_awake (Bs := W1.heap.size) (s := s) (A := A) (cap := cap) (la := look st.l) rfl rfl
          (fun j W => Pk (Lo B w s (.slice A st.l.length cap) mb vt n st.l { st with l := bump (((aw st.l).take j).map (·.b)) st.l }) w.heap.size W s x (ptr t.b) L W1.heap.size [D1])
          (fun _ _ _ => False)
          (fun j W h => look_of_bump h.lo.1 h.bs hlen)
          (fun j W W' h hb => h.grow (hLoB _) hb)
          (fun j W l o o' h hle hl ho => h.put (hLoB _) o' hl ho (by omega) (fun d hd => by have := hd3 d hd; omega))
          (fun c j W l o o' h hle hl ho => h)
          (by simp only [List.take_zero, List.map_nil, bump_nil]; exact pk3) ?b1x ?assign3x ?body3x ?done3x ?stop3x
        case assign3x =>
          intro l b W K hK
          gi_wp2
          exact hK
        case body3x =>
          intro l j b W hb hI
          rw [awakes_look, List.getElem?_map, Option.map_eq_some_iff] at hb
          obtain ⟨u, hu, rfl⟩ := hb
          have hum : u ∈ st.l := (List.mem_filter.1 (List.mem_of_getElem? hu)).1
          have hag := hage u hum
          have hfr := aw_fresh hap hu
          have hub := bump_mem hum hfr
          obtain ⟨e0, e1, e2, e3, e4, e5⟩ := (hI.lo.1.tasks u hub).six
          have ef := (hI.lo.1.tasks u hub).frozen 5
          have tm := hI.lo.1.turn hub 5 (.int .i64 (u.age + 1)) { u with age := u.age + 1 } rfl rfl rfl
          simp only at tm
          rw [bump_succ hap hum hfr] at tm
          have pk4 := hI.relo (Lo' := Lo B w s (.slice A st.l.length cap) mb vt n st.l { st with l := bump (((aw st.l).take (j + 1)).map (·.b)) st.l }) (hI.lo.1.tasks u hub) (hfoot.l u hum) 5 (.int .i64 (u.age + 1)) ⟨by rw [List.take_add_one, hu]; simpa using tm, hI.lo.2.task hum 5 _⟩
          have HU := Lib.hid hu
          clear hu tm hfr hub
          gi_wp2
          exact ⟨(KeepsOthers.setCell W _ _).from _, pk4⟩
        case done3x =>
          intro D3 W4 hD3 hI hK3
          rw [awakes_look, List.length_map, List.take_length] at hI
          have htl := aw_mem.1 ht
          have hub := bump_mem' (bs := (aw st.l).map (·.b)) htl.1 (List.mem_map.2 ⟨t, ht, rfl⟩)
          obtain ⟨e0, e1, e2, e3, e4, e5⟩ := (hI.lo.1.tasks _ hub).six
          simp only at e0 e1 e2 e3 e4 e5
          have ef := (hI.lo.1.tasks _ hub).frozen 5
          simp only at ef
          have e9 := hI.b2.cell
          have tm := hI.lo.1.turn hub 5 (.int .i64 0) { t with age := 0 } rfl rfl rfl
          simp only at tm
          rw [picked_eq hap ht] at tm
          have fm := hI.lo.2.task htl.1 5 (.int .i64 0)
          have ddk := hI.dd
          clear hub
          gi_wp2
          have hLoP := Lo.low (B := B) (w := w) (n := n) (l := st.l) (hfoot.picked t.b)
          have htN := hfoot.l t htl.1
          have k5 : ∀ d, w.heap.size ≤ d → (W4.setCell ⟨t.b, 5, none⟩ (.int .i64 0)).heap[d]? = W4.heap[d]? := fun d hd => Below.heap_setCell W4 _ _ d (by show d ≠ t.b; omega)
          refine ⟨by simp, .inl ⟨_, _, rfl, run_takeDeferred ((k5 D3 (by omega)).trans hK3), ?_⟩⟩
          refine ⟨by simp, .inl ⟨_, _, rfl, run_takeDeferred ((World.putObj_heap_other (by have := hd3 D1 (by simp); omega)).trans ((k5 D1 (by omega)).trans (ddk D1 (by simp)))), ?_⟩⟩
          refine ⟨_, results_tmp2 rfl _ _ _, ?_⟩
          rw [HCH.out]
          exact ⟨rfl, hLoP _ _ (hLoP _ _ ⟨tm, fm⟩ (below_putN _ (by omega) _)) (below_putN _ (by omega) _)⟩
        case stop3x =>
          rintro D c j W hD h _
          exact h.elim
      | none =>
        rw [ho] at a2 pkA
        have hL6 : L ≤ 1000000 := by omega
        replace pkA : Pk (Lo B w s (.slice A st.l.length cap) mb vt n st.l st) w.heap.size W1 s x (.pointer none) L (w.heap.size + 4) [D1] := pkA
        have a2' : W1.cell? ⟨w.heap.size + 2, 0, none⟩ = some (.pointer none) := a2
        clear a2
        obtain ⟨m, hm⟩ : ∃ m : Nat, x % (L : Int) = m := ⟨(x % (L : Int)).toNat, by rw [Int.toNat_of_nonneg (Int.emod_nonneg _ (by omega))]⟩
        have hmL : m < L := by
          have := Int.emod_lt_of_pos x (show (0 : Int) < L by omega)
          omega
        have hmx : x.toNat % L = m := by
          have e : ((x.toNat % L : Nat) : Int) = m := by rw [Int.natCast_emod, Int.toNat_of_nonneg hx0, hm]
          omega
        obtain ⟨t, hmt⟩ : ∃ t, (aw st.l)[m]? = some t := ⟨_, List.getElem?_eq_getElem (by rw [hL]; exact hmL)⟩
        have ht : t ∈ aw st.l := List.mem_of_getElem? hmt
        have hch : chosen st x.toNat = some t := by
          unfold chosen
          rw [ho]
          show (aw st.l)[x.toNat % (aw st.l).length]? = _
          rw [hL, hmx, hmt]
        have HL := Lib.hid hL
        have HO := Lib.hid ho
        have HCH := Lib.hid hch
        have HMT := Lib.hid hmt
        clear hL ho hch hmx hmt
        gi_wp2_with fail
        rw [hm]
        refine ⟨trivial, ?_⟩
        refine (callsIn_wide.2 (awake_any s _)).mono ?_
        rintro e w' ⟨rfl, rfl⟩
        gi_wp2_with fail
        have pkB := (pkA.set1 hLo m).rebox hLo
        have hdB := (pkA.set1 hLo m).dlt
        have hszB := (pkA.set1 hLo m).size
        have hszF : ((W1.setCell ⟨w.heap.size + 1, 0, none⟩ (.int .u64 m)).alloc (.cells #[ptr s] 24)).heap.size = (W1.setCell ⟨w.heap.size + 1, 0, none⟩ (.int .u64 m)).heap.size + 1 := World.size_alloc _ _
        have hszG : (W1.setCell ⟨w.heap.size + 1, 0, none⟩ (.int .u64 m)).heap.size = W1.heap.size := by simp
        rw [hszG] at hszF hdB hszB pkB
        revert pkB hszF
        generalize (W1.setCell ⟨w.heap.size + 1, 0, none⟩ (.int .u64 m)).alloc (.cells #[ptr s] 24) = W2
        intro pkB hszF
        refine range_awake (Bs := W1.heap.size) (s := s) (A := A) (cap := cap) (la := look st.l) rfl rfl
          (fun j W => j ≤ m ∧ Pk (Lo B w s (.slice A st.l.length cap) mb vt n st.l st) w.heap.size W s ((m : Int) - (j : Int)) (.pointer none) L W1.heap.size [D1])
          (fun c _ W => c = .exit 2 ∧ Pk (Lo B w s (.slice A st.l.length cap) mb vt n st.l st) w.heap.size W s 0 (ptr t.b) L W1.heap.size [D1])
          (fun j W h => look_of h.2.lo.1 h.2.bs hlen)
          (fun j W W' h hb => ⟨h.1, h.2.grow hLo hb⟩)
          (fun j W l o o' h hle hl ho => ⟨h.1, h.2.put hLo o' hl ho (by omega) (fun d hd => by have := hdB d hd; omega)⟩)
          (fun c j W l o o' h hle hl ho => ⟨h.1, h.2.put hLo o' hl ho (by omega) (fun d hd => by have := hdB d hd; omega)⟩)
          ⟨Nat.zero_le _, by simpa using pkB⟩ ?b2 ?assign2 ?body2 ?done2 ?stop2
        case assign2 =>
          intro l b W K hK
          gi_wp2
          exact hK
        case body2 =>
          rintro l j b W hb ⟨hjm, hI⟩
          rw [awakes_look, List.getElem?_map, Option.map_eq_some_iff] at hb
          obtain ⟨u, hu, rfl⟩ := hb
          have c1 := hI.b1.cell
          have f1' := hI.b1.frozen
          have f2' := hI.b2.frozen
          have c2' := hI.b2.cell
          by_cases hjm' : j = m
          · subst hjm'
            have : u = t := by
              have := hu.symm.trans HMT.out
              injection this
            subst this
            rw [Int.sub_self] at c1 hI
            have pkE := hI.set2 hLo (ptr u.b)
            clear hu
            gi_wp2
            exact ⟨(KeepsOthers.setCell W _ _).from _, rfl, pkE⟩
          · obtain ⟨z, hz⟩ : ∃ z : Int, (m : Int) - (j : Int) = z := ⟨_, rfl⟩
            have hz1 : 1 ≤ z := by omega
            have hz2 : z ≤ 1000000 := by omega
            rw [hz] at c1 hI
            have hz3 : ((m : Int) - ((j + 1 : Nat) : Int)) = z - 1 := by omega
            have pkE := hI.set1 hLo (z - 1)
            have HZ := Lib.hid hz3
            clear hu hz hz3
            gi_wp2
            refine ⟨(KeepsOthers.setCell W _ _).from _, by omega, ?_⟩
            rw [HZ.out]
            exact pkE
        case done2 =>
          rintro D W hD ⟨hjm, _⟩ hK
          rw [awakes_look, List.length_map, HL.out] at hjm
          omega
        case stop2 =>
          rintro D2 c j W3a hD2 ⟨rfl, hI2⟩ hK2
          have pkC : Pk (Lo B w s (.slice A st.l.length cap) mb vt n st.l st) w.heap.size W3a s 0 (ptr t.b) L W1.heap.size [D2, D1] :=
            ⟨hI2.lo, hI2.b0, hI2.b1, hI2.b2, hI2.b3, hI2.bs, hI2.hs, fun d hd => by
              rcases List.mem_cons.1 hd with rfl | hd
              · exact hK2
              · exact hI2.dd d hd⟩
          have hd12 : D1 < D2 := by
            have := hdB D1 (by simp)
            omega
          have a0 := pkC.b0.cell
          have a2'' : W3a.cell? ⟨w.heap.size + 2, 0, none⟩ = some (ptr t.b) := pkC.b2.cell
          clear a1 a3 a2' f1
          gi_wp2_with fail
          refine ⟨trivial, ?_⟩
          refine (callsIn_wide.2 (awake_any s _)).mono ?_
          rintro e w' ⟨rfl, rfl⟩
          gi_wp2_with fail
          have pk3 := Pk.rebox hLo pkC
          have hd3 := pkC.dlt
          have hsz3 := pkC.size
          have hszE : (W3a.alloc (.cells #[ptr s] 24)).heap.size = W3a.heap.size + 1 := World.size_alloc _ _
          revert pk3 hszE
          generalize W3a.alloc (.cells #[ptr s] 24) = W3
          intro pk3 hszE
          refine range_awake (Bs := W3a.heap.size) (s := s) (A := A) (cap := cap) (la := look st.l) rfl rfl
            (fun j W => Pk (Lo B w s (.slice A st.l.length cap) mb vt n st.l { st with l := bump (((aw st.l).take j).map (·.b)) st.l }) w.heap.size W s 0 (ptr t.b) L W3a.heap.size [D2, D1])
            (fun _ _ _ => False)
            (fun j W h => look_of_bump h.lo.1 h.bs hlen)
            (fun j W W' h hb => h.grow (hLoB _) hb)
            (fun j W l o o' h hle hl ho => h.put (hLoB _) o' hl ho (by omega) (fun d hd => by have := hd3 d hd; omega))
            (fun c j W l o o' h hle hl ho => h)
            (by simp only [List.take_zero, List.map_nil, bump_nil]; exact pk3) ?b1y ?assign3y ?body3y ?done3y ?stop3y
          case assign3y =>
            intro l b W K hK
            gi_wp2
            exact hK
          case body3y =>
            intro l j b W hb hI
            rw [awakes_look, List.getElem?_map, Option.map_eq_some_iff] at hb
            obtain ⟨u, hu, rfl⟩ := hb
            have hum : u ∈ st.l := (List.mem_filter.1 (List.mem_of_getElem? hu)).1
            have hag := hage u hum
            have hfr := aw_fresh hap hu
            have hub := bump_mem hum hfr
            obtain ⟨e0, e1, e2, e3, e4, e5⟩ := (hI.lo.1.tasks u hub).six
            have ef := (hI.lo.1.tasks u hub).frozen 5
            have tm := hI.lo.1.turn hub 5 (.int .i64 (u.age + 1)) { u with age := u.age + 1 } rfl rfl rfl
            simp only at tm
            rw [bump_succ hap hum hfr] at tm
            have pk4 := hI.relo (Lo' := Lo B w s (.slice A st.l.length cap) mb vt n st.l { st with l := bump (((aw st.l).take (j + 1)).map (·.b)) st.l }) (hI.lo.1.tasks u hub) (hfoot.l u hum) 5 (.int .i64 (u.age + 1)) ⟨by rw [List.take_add_one, hu]; simpa using tm, hI.lo.2.task hum 5 _⟩
            have HU := Lib.hid hu
            clear hu tm hfr hub
            gi_wp2
            exact ⟨(KeepsOthers.setCell W _ _).from _, pk4⟩
          case done3y =>
            intro D3 W4 hD3 hI hK3
            rw [awakes_look, List.length_map, List.take_length] at hI
            have htl := aw_mem.1 ht
            have hub := bump_mem' (bs := (aw st.l).map (·.b)) htl.1 (List.mem_map.2 ⟨t, ht, rfl⟩)
            obtain ⟨e0, e1, e2, e3, e4, e5⟩ := (hI.lo.1.tasks _ hub).six
            simp only at e0 e1 e2 e3 e4 e5
            have ef := (hI.lo.1.tasks _ hub).frozen 5
            simp only at ef
            have e9 := hI.b2.cell
            have tm := hI.lo.1.turn hub 5 (.int .i64 0) { t with age := 0 } rfl rfl rfl
            simp only at tm
            rw [picked_eq hap ht] at tm
            have fm := hI.lo.2.task htl.1 5 (.int .i64 0)
            have ddk := hI.dd
            clear hub
            gi_wp2
            have hLoP := Lo.low (B := B) (w := w) (n := n) (l := st.l) (hfoot.picked t.b)
            have htN := hfoot.l t htl.1
            have k5 : ∀ d, w.heap.size ≤ d → (W4.setCell ⟨t.b, 5, none⟩ (.int .i64 0)).heap[d]? = W4.heap[d]? := fun d hd => Below.heap_setCell W4 _ _ d (by show d ≠ t.b; omega)
            refine ⟨by simp, .inl ⟨_, _, rfl, run_takeDeferred ((k5 D3 (by omega)).trans hK3), ?_⟩⟩
            refine ⟨by simp, .inl ⟨_, _, rfl, run_takeDeferred ((World.putObj_heap_other (by have := hd3 D2 (by simp); omega)).trans ((k5 D2 (by omega)).trans (ddk D2 (by simp)))), ?_⟩⟩
            refine ⟨by simp, .inl ⟨_, _, rfl, run_takeDeferred ((World.putObj_heap_other (by have := hd3 D1 (by simp); omega)).trans ((World.putObj_heap_other (by have := hd3 D1 (by simp); omega)).trans ((k5 D1 (by omega)).trans (ddk D1 (by simp))))), ?_⟩⟩
            refine ⟨_, results_tmp2 rfl _ _ _, ?_⟩
            rw [HCH.out]
            exact ⟨rfl, hLoP _ _ (hLoP _ _ (hLoP _ _ ⟨tm, fm⟩ (below_putN _ (by omega) _)) (below_putN _ (by omega) _)) (below_putN _ (by omega) _)⟩
          case stop3y =>
            rintro D c j W hD h _
            exact h.elim
  case stop =>
    rintro D c j W hD h _
    exact h.elim
end Go.Proofs.Ytlkphbcdgkjnoaa
