/- Done: what the call returns, what it turns, what it leaves alone. -/
import Derived.Test.YtlkphbcdgkjnoaaF7
namespace Go.Proofs.Ytlkphbcdgkjnoaa
open Go.RowKit Go.Maps

theorem turned_set {l : List T} (hap : l.Pairwise fun t u => t.b ≠ u.b) {k : Nat} {t t' : T} (hk : l[k]? = some t) : turned t.b t' l = l.set k t' := by
  apply List.ext_getElem?
  intro i
  obtain ⟨hkl, ek⟩ := List.getElem?_eq_some_iff.1 hk
  rw [List.getElem?_set]
  unfold turned
  rw [List.getElem?_map]
  by_cases e : k = i
  · subst e
    rw [if_pos rfl, if_pos hkl, hk]
    simp
  · rw [if_neg e]
    cases hi : l[i]? with
    | none => rfl
    | some u =>
      obtain ⟨hil, ei⟩ := List.getElem?_eq_some_iff.1 hi
      have hne : u.b ≠ t.b := by
        intro e2
        have hp := List.pairwise_iff_getElem.1 hap
        rcases Nat.lt_or_gt_of_ne e with h | h
        · exact hp k i hkl hil h (by rw [ek, ei]; exact e2.symm)
        · exact hp i k hil hkl h (by rw [ek, ei]; exact e2)
      simp [hne]
theorem mem_erase {l : List T} {k : Nat} {t u : T} (hk : l[k]? = some t) (hu : u ∈ l) (hne : u ≠ t) : u ∈ l.eraseIdx k := by
  obtain ⟨i, hi, e⟩ := List.getElem_of_mem hu
  have hi2 : l[i]? = some u := by rw [List.getElem?_eq_getElem hi, e]
  by_cases h : i < k
  · exact List.mem_of_getElem? (i := i) (by rw [List.getElem?_eraseIdx, if_pos h]; exact hi2)
  · have : i ≠ k := by
      rintro rfl
      rw [hk] at hi2
      injection hi2 with hi2
      exact hne hi2.symm
    exact List.mem_of_getElem? (i := i - 1) (by rw [List.getElem?_eraseIdx, if_neg (by omega), show i - 1 + 1 = i by omega]; exact hi2)
theorem find_erase {l : List T} (hid : l.Pairwise fun t u => t.id ≠ u.id) {k : Nat} {t : T} (hk : l[k]? = some t) (id : Int) : blkOf (l.eraseIdx k) id = if id = t.id then -1 else blkOf l id := by
  induction l generalizing k with
  | nil => simp at hk
  | cons u l ih =>
    rw [List.pairwise_cons] at hid
    cases k with
    | zero =>
      simp at hk
      subst hk
      show blkOf l id = _
      by_cases e : id = u.id
      · rw [if_pos e]
        unfold blkOf
        have : l.find? (fun v => v.id == id) = none := by
          rw [List.find?_eq_none]
          intro v hv
          have := hid.1 v hv
          simp
          intro x
          exact this (by rw [x, e])
        rw [this]
      · rw [if_neg e]
        unfold blkOf
        rw [List.find?_cons]
        have : (u.id == id) = false := by simpa using fun x => e x.symm
        rw [this]
    | succ k =>
      have hk' : l[k]? = some t := by simpa using hk
      have ih := ih hid.2 hk'
      show blkOf (u :: l.eraseIdx k) id = _
      unfold blkOf at ih ⊢
      rw [List.find?_cons, List.find?_cons]
      cases e : (u.id == id)
      · exact ih
      · have e : u.id = id := by simpa using e
        have := hid.1 t (List.mem_of_getElem? hk')
        rw [if_neg (by rw [← e]; exact this)]
theorem shift_row {l : List Nat} {k : Nat} (hk : k < l.length) : rowOf (shift (at' l) k l.length) (l.length - 1) = l.eraseIdx k := by
  apply List.ext_getElem?
  intro i
  have hel : (l.eraseIdx k).length = l.length - 1 := List.length_eraseIdx_of_lt hk
  by_cases hi : i < l.length - 1
  · rw [at_get (by rw [rowOf_length]; exact hi), at_rowOf hi, List.getElem?_eraseIdx]
    unfold shift
    by_cases h : i < k
    · rw [if_neg (by omega), if_pos h, at_get (by omega)]
    · rw [if_pos (by omega), if_neg h, at_get (by omega)]
  · rw [List.getElem?_eq_none (by rw [rowOf_length]; omega), List.getElem?_eq_none (by omega)]
theorem good_erase {st : St} (G : Good st) (hap : st.l.Pairwise fun t u => t.b ≠ u.b) {k : Nat} {t : T} (hk : st.l[k]? = some t) (hn : t.b ∉ st.hp) : Good { st with l := st.l.eraseIdx k } := by
  have hsub := List.eraseIdx_sublist st.l k
  have hap2 : (st.l.eraseIdx k).Pairwise fun t u => t.b ≠ u.b := hap.sublist hsub
  have hin : ∀ b ∈ st.hp, ∃ u ∈ st.l.eraseIdx k, u ∈ st.l ∧ u.b = b := fun b hb => by
    obtain ⟨u, hu, e⟩ := G.sub b hb
    exact ⟨u, mem_erase hk hu (by rintro rfl; exact hn (by rw [e]; exact hb)), hu, e⟩
  refine ⟨G.nodup, fun u hu => G.mem u (hsub.subset hu), fun b hb => ?_, ?_⟩
  · obtain ⟨u, h1, _, h2⟩ := hin b hb
    exact ⟨u, h1, h2⟩
  · refine heap_cong (fun _ _ => rfl) (fun i hi => ?_) G.heap
    obtain ⟨u, h1, h2, h3⟩ := hin _ (at_mem hi)
    rw [← h3, keyOf_mem hap h2, keyOf_mem hap2 h1]

theorem erase_map {α β : Type} (f : α → β) : ∀ (l : List α) (k : Nat), (l.map f).eraseIdx k = (l.eraseIdx k).map f
  | [], _ => rfl
  | _ :: _, 0 => rfl
  | a :: l, k + 1 => by
    show f a :: (l.map f).eraseIdx k = f a :: (l.eraseIdx k).map f
    rw [erase_map f l k]
theorem turned_ids {l : List T} {b : Nat} {t' : T} (h : ∀ u ∈ l, u.b = b → u.id = t'.id) : (turned b t' l).map T.id = l.map T.id := by
  unfold turned
  rw [List.map_map]
  refine List.map_congr_left fun u hu => ?_
  simp only [Function.comp]
  split
  · rename_i e; exact (h u hu e).symm
  · rfl
theorem turned_bs {l : List T} {b : Nat} {t' : T} (h : t'.b = b) : (turned b t' l).map T.b = l.map T.b := by
  unfold turned
  rw [List.map_map]
  refine List.map_congr_left fun u hu => ?_
  simp only [Function.comp]
  split
  · rename_i e; rw [h, e]
  · rfl
set_option maxRecDepth 100000 in
set_option maxHeartbeats 1000000 in
theorem done_full {B : Nat} {w : World} {s mb n : Nat} {va vt : Value} {st : St} (h : Mem B w s va mb vt n st) (hG : Good st) {k : Nat} {t : T} (hk : st.l[k]? = some t) (hids : st.l.Pairwise fun t u => t.id ≠ u.id) (hid : (Lit.int .u64 t.id).wf = true) (hb : blkOf st.l t.id = t.b) (hlen : st.hp.length ≤ 100000) (hll : st.l.length ≤ 100000) (hBw : B ≤ w.heap.size) :
    Calls Try.prog 19 #[ptr s, .int .u64 t.id] w fun e w' => e = .returned (.int .i64 0) ∧ (∃ va' vt' hp', hp'.length ≤ st.hp.length ∧ va'.ownBlock = va.ownBlock ∧ vt'.ownBlock = vt.ownBlock ∧ Mem B w' s va' mb vt' n { st with l := st.l.eraseIdx k, hp := hp' } ∧ Good { st with l := st.l.eraseIdx k, hp := hp' }) ∧ Fr (Own s va mb vt st.l) w w' := by
  have ht := List.mem_of_getElem? hk
  have hF := find_some h hid hb
  have hA := h.alloc (.cells #[ptr t.b] 60)
  have hR := ready_full hA hG ht (by omega)
  have hbox := Boxed.new w 60 (ptr t.b)
  have hap := h.apart
  have hFA := (Fr.refl (Own s va mb vt st.l) w).alloc (.cells #[ptr t.b] 60)
  have hol : ∀ x, Own s va mb vt st.l x → x < w.heap.size := fun x hx => (h.own_lt hx).2
  have HOL := Lib.hid hol
  have HK := Lib.hid hk
  clear hol hk
  go_enter Try.func19, Try.ntmps19
  go_wp2_with (go_at_call 26; refine hF.mono ?_; rintro e w3 ⟨rfl, rfl⟩)
  refine hR.mono ?_
  rintro e w1 ⟨rfl, ⟨vt1, hp1, hob, hl1, hm1, M1, G1⟩, F1⟩
  have hkl := (List.getElem?_eq_some_iff.1 HK.out).1
  obtain ⟨l1, hl⟩ : ∃ l1, turned t.b t.rested st.l = l1 := ⟨_, rfl⟩
  rw [hl] at M1 G1
  have hset : l1 = st.l.set k t.rested := by rw [← hl]; exact turned_set hap HK.out
  have hk1 : l1[k]? = some t.rested := by rw [hset, List.getElem?_set_self hkl]
  have her : l1.eraseIdx k = st.l.eraseIdx k := by rw [hset, List.eraseIdx_set_eq]
  have hlen1 : l1.length = st.l.length := by rw [hset, List.length_set]
  have hid1 : l1.map T.id = st.l.map T.id := by rw [← hl]; exact turned_ids (fun u hu e => by rw [apart_eq hap ht hu e]; rfl)
  have hbs1 : l1.map T.b = st.l.map T.b := by rw [← hl]; exact turned_bs rfl
  have hids1 : l1.Pairwise fun t u => t.id ≠ u.id := by
    have h1 : (st.l.map T.id).Pairwise (· ≠ ·) := List.pairwise_map.2 hids
    rw [← hid1] at h1
    exact List.pairwise_map.1 h1
  have hnin : t.rested.b ∉ hp1 := fun x => ((hm1 t.b).1 x).2 rfl
  have G2 := good_erase G1 M1.apart hk1 hnin
  have G2 : Good { st with l := st.l.eraseIdx k, hp := hp1 } := by
    have := G2
    simp only [her] at this
    exact this
  -- the row
  obtain ⟨bs, hbs⟩ : ∃ bs, l1.map T.b = bs := ⟨_, rfl⟩
  have hbl : bs.length = l1.length := by rw [← hbs, List.length_map]
  have hrow : w1.ownsRow B 60 1 va bs.length (bs.map ptr) := by
    have := M1.all
    rw [hbl, ← hbs, List.map_map]
    exact this
  have hndup : bs.Nodup := by rw [← hbs]; exact List.pairwise_map.2 M1.apart
  have hkb : k < bs.length := by omega
  have hatk : at' bs k = t.b := by
    have h1 := at_get hkb
    rw [← hbs, List.getElem?_map, hk1] at h1
    injection h1 with h1
    rw [← hbs]
    exact h1.symm
  rcases hrow.2 with ⟨_, e0⟩ | ⟨g, cap, cur, rfl, hBg, hgb, _⟩
  · omega
  obtain ⟨_, _, hc1, hc2, hH⟩ := hrow_of hrow
  have hgB : Blk w1 g 60 cur := hgb
  have hat : ∀ i, i < bs.length → ∃ u ∈ l1, u.b = at' bs i := fun i hi => by
    have h1 := at_mem hi
    have h2 : at' bs i ∈ l1.map T.b := by rw [hbs]; exact h1
    obtain ⟨u, hu, e⟩ := List.mem_map.1 h2
    exact ⟨u, hu, e⟩
  have hgw : g < w.heap.size := HOL.out g (.inr (.inr (.inl rfl)))
  have hbox1 : w1.cell? ⟨w.heap.size, 0, none⟩ = some (ptr (at' bs k)) := by
    rw [hatk]
    exact (World.cell?_of_block (a := ⟨w.heap.size, 0, none⟩) (F1.block w.heap.size (by rw [World.size_alloc]; omega) (fun x => by have := HOL.out _ x; omega))).trans hbox.cell
  have hD := delete_func hH hkb (by omega) hc1 hc2 (fun i hi hne e => hne (at_inj hndup hi hkb e)) (fun i hi => by
    obtain ⟨u, hu, e⟩ := hat i hi
    exact ⟨_, e ▸ M1.tasks u hu⟩) hbox1 (by omega) (fun i hi => by
    obtain ⟨u, hu, e⟩ := hat i hi
    rw [← e]
    exact (M1.tasks u hu).ne hgB (by decide))
  have hsg : s ≠ g := M1.str.ne hgB (by decide)
  have htg : ∀ u ∈ l1, u.b ≠ g := fun u hu => (M1.tasks u hu).ne hgB (by decide)
  have hmg : g ≠ mb := M1.map.ne hgB
  have hvg : vt1.ownBlock ≠ some g := M1.rows g rfl
  obtain ⟨c0, c1, c2, c3, c4, c5⟩ := M1.str.six
  obtain ⟨nb, hnb⟩ : ∃ nb, bs.length = nb := ⟨_, rfl⟩
  have hsh := shift_row hkb
  rw [hnb] at hc1 hD c3 hsh
  have HD := Lib.hid (show nb = st.l.length by omega)
  have HSH := Lib.hid hsh
  have HBS := Lib.hid (hbs.symm.trans hbs1)
  have HER := Lib.hid her
  have HID1 := Lib.hid hids1
  have HK1 := Lib.hid hk1
  have HOB := Lib.hid hob
  have HVG := Lib.hid hvg
  have HTG := Lib.hid htg
  have HG2 := Lib.hid G2
  have HM1 := Lib.hid M1
  have F2 := hFA.trans F1 (fun _ _ x => x)
  clear hl hset hk1 her hlen1 hid1 hbs1 hids1 hnin hbs hbl hrow hndup hatk hgb hH hat hbox1 hsh hnb hob G1 G2 hm1 hkb hgB hids hb hR hF hA hbox h hvg htg M1
  go_wp2_with fail
  refine hD.mono ?_
  rintro e w2 ⟨rfl, hH2, hg2⟩
  have S2 := HM1.out.str.kept hg2 (by simpa using hsg)
  have A2 := row_of hH2 hBg (by omega) hc2
  have T2 := HM1.out.tim.kept hg2 (.inr HVG.out)
  have P2 := HM1.out.map.kept hg2 (by simpa using hmg.symm)
  have K2 := fun u hu => (HM1.out.tasks u hu).kept hg2 (by simpa using HTG.out u hu)
  have F3 := F2.grown hg2 (fun x hx _ => by cases hx; exact .inr (.inr (.inl rfl)))
  have k3 := grownBy_set w2 s 3 (.slice (some ⟨g, 0, none⟩) (nb - 1) cap)
  have S3 : Blk (w2.setCell ⟨s, 3, none⟩ (.slice (some ⟨g, 0, none⟩) (nb - 1) cap)) s 59 #[.int .i64 st.pat, .int .u64 st.now, .int .u64 st.ord, .slice (some ⟨g, 0, none⟩) (nb - 1) cap, .map (some mb), vt1] := S2.set 3 _
  have A3 := A2.kept k3 (.inr (S2.not_row (by decide) A2).symm)
  have T3 := T2.kept k3 (.inr (S2.not_row (by decide) T2).symm)
  have P3 := P2.kept k3 (by simpa using (P2.ne S2).symm)
  have K3 := fun u hu => (K2 u hu).kept k3 (by simpa using (K2 u hu).ne S2 (by decide))
  have F4 := F3.set (b := s) (fun _ => .inl rfl) 3 (.slice (some ⟨g, 0, none⟩) (nb - 1) cap)
  obtain ⟨d0, d1, d2, d3, d4, d5⟩ := S2.six
  have df := fun x => S2.frozen x
  obtain ⟨e0, e1, e2, e3, e4, e5⟩ := S3.six
  have mt := Lib.hid (P3.not_row T3)
  have ma := Lib.hid (P3.not_row A3)
  obtain ⟨D, hDo, hDm, hDa⟩ := P3
  have HDA := Lib.hid hDa
  have hkey := keyOf_int_mk Try.und29 hid
  have HT3 := Lib.hid T3
  have HA3 := Lib.hid A3
  clear c0 c1 c2 c3 c4 c5 S2 A2 T2 P2 K2 F3 k3 hDa hH2 hg2 T3 A3
  go_wp2_with (at_delete; refine wpList_delete_own _ rfl _ _ 55 29 rfl 60 law29 Try.und55 ptrElem mb n D rfl hDo _ _ rfl hkey ?_)
  intro w4 hown4 hturn4
  have g4 := hturn4.grown
  have M4 : ById w4 mb n (st.l.eraseIdx k) := by
    refine ⟨_, hown4, hDm.del _, fun id' hid' => ?_⟩
    have hfe := find_erase HID1.out HK1.out id'
    have hrid : t.rested.id = t.id := rfl
    rw [HER.out, hrid] at hfe
    rw [hfe]
    by_cases e : id' = t.id
    · subst e
      rw [atKey_del_same, if_pos rfl]
    · rw [atKey_del_other (by intro e'; cases e'; exact e rfl), HDA.out id' hid', if_neg e]
  have FIN : Mem B w4 s (.slice (some ⟨g, 0, none⟩) (nb - 1) cap) mb vt1 n { st with l := st.l.eraseIdx k, hp := hp1 } := by
    have mne := M4
    have hsub : ∀ u ∈ st.l.eraseIdx k, u ∈ l1 := fun u hu => by
      rw [← HER.out] at hu
      exact (List.eraseIdx_sublist l1 k).subset hu
    have hmb : ∀ {b t vs}, Blk (w2.setCell ⟨s, 3, none⟩ (.slice (some ⟨g, 0, none⟩) (nb - 1) cap)) b t vs → b ≠ mb := fun hb e => by
      obtain ⟨es, clock, _, _, h1, _⟩ := hturn4
      subst e
      rw [show _ = _ from hb] at h1
      cases h1
    refine ⟨S3.kept g4 (by simpa using hmb S3), ?_, ?_, ?_, M4, fun u hu => (K3 u (hsub u hu)).kept g4 (by simpa using hmb (K3 u (hsub u hu))), ?_, HM1.out.hs, HM1.out.hm, fun u hu => HM1.out.ht u (hsub u hu)⟩
    · have := HA3.out.kept g4 (.inr ma.out.symm)
      rw [HSH.out, HBS.out, erase_map, List.map_map] at this
      show World.ownsRow _ _ _ _ _ (st.l.eraseIdx k).length _
      rw [List.length_eraseIdx_of_lt hkl, ← HD.out]
      exact this
    · exact HT3.out.kept g4 (.inr mt.out.symm)
    · intro x hx
      cases hx
      exact HVG.out
    · exact hap.sublist (List.eraseIdx_sublist _ _)
  have F5 := F4.grown g4 (fun x hx _ => by cases hx; exact .inr (.inl rfl))
  go_wp2
  go_ret
  exact ⟨rfl, ⟨.slice (some ⟨g, 0, none⟩) (nb - 1) cap, vt1, hp1, hl1, rfl, HOB.out, FIN, HG2.out⟩, F5⟩
end Go.Proofs.Ytlkphbcdgkjnoaa
