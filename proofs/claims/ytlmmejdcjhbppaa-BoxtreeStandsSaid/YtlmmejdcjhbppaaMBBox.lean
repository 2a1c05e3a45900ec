/- boxtree: Box; what a tree that is none answers -/
import Derived.Test.YtlmmejdcjhbppaaMBBuild
set_option linter.unusedSimpArgs false
set_option linter.unusedVariables false
namespace Go.Proofs.Ytlmmejdcjhbppaa
open Go.RowKit Go.Geo
attribute [local go_sem] Oper.semAt_some
set_option maxRecDepth 100000 in
set_option maxHeartbeats 2000000 in
theorem BoxT_in (g i : Nat) (L : List Bx) (w : World) (h : TreeIs w g L) (hi : i < L.length) :
    Calls Try.prog 25 #[.pointer (some ⟨g, 0, none⟩), .int .i64 (i : Int)] w fun e w' => e = .returned (.tuple #[boxV (L.getD i bx0).1 (L.getD i bx0).2, .int .i64 0]) ∧ Below w.heap.size w w' := by
  have hf := h.few
  obtain ⟨⟨B, lv, ov, nv, O, N, hm, _⟩, _⟩ := h
  obtain ⟨la, lc, hlv, hix⟩ := hm.own.l.is
  obtain ⟨n, hn⟩ : ∃ n, n = L.length := ⟨_, rfl⟩
  rw [← hn] at hlv hix hi hf
  subst hlv
  obtain ⟨b, hb⟩ : ∃ b, b = L.getD i bx0 := ⟨_, rfl⟩
  rw [← hb]
  obtain ⟨W, hW⟩ : ∃ W, W = w.alloc (.cells #[.int .i64 0, .int .i64 0, .int .i64 0, .int .i64 0] 33) := ⟨_, rfl⟩
  have hbw : Below w.heap.size w W := by rw [hW]; exact (Below.refl _ _).alloc (Nat.le_refl _) _
  have hr4 : W.heap[w.heap.size]? = some (.cells (boxRow 0 0 0 0) 33 (0, 0)) := by rw [hW]; exact alloc_new _ _
  obtain ⟨lb, off, rfl, d0, d1, d2, d3⟩ := (hix.later hbw (Nat.le_refl _)).at hi
  rw [← hb] at d0 d1 d2 d3
  obtain ⟨c0, c1, _, _⟩ := (hm.row.later hbw).cell
  obtain ⟨z0, z1, z2, z3⟩ := box_cells hr4
  obtain ⟨f0, f1, f2, f3⟩ := box_frozen hr4
  have HR4 := Lib.hid hr4
  have HB := Lib.hid hbw
  have hlc := hix.2.2.1
  have hnl := hix.2.1
  unfold maxLen at hlc
  have hi0 : (0 : Int) ≤ (i : Int) := by omega
  have hi5 : (i : Int) < (n : Int) := by omega
  have hi6 : ¬ (n : Int) ≤ (i : Int) := by omega
  have hi7 : ¬ (i : Int) < 0 := by omega
  rw [hW] at d0 d1 d2 d3 c0 c1 z0 z1 z2 z3 f0 f1 f2 f3
  clear hm hix hr4 hbw hb hn
  go_enter Try.func25, Try.ntmps25
  go_wp2_with fail
  have hput : (w.alloc (.cells (boxRow b.1.x b.1.y b.2.x b.2.y) 33)).heap[w.heap.size]? = some (.cells (boxRow b.1.x b.1.y b.2.x b.2.y) 33 (0, 0)) := alloc_new _ _
  exact bodyPost_ret (results_box rfl rfl hput) rfl ⟨rfl, (Below.refl _ _).alloc (Nat.le_refl _) _⟩
set_option maxRecDepth 100000 in
set_option maxHeartbeats 2000000 in
theorem BoxT_out (g : Nat) (i : Int) (L : List Bx) (w : World) (h : TreeIs w g L) (hi : i < 0 ∨ (L.length : Int) ≤ i) :
    Calls Try.prog 25 #[.pointer (some ⟨g, 0, none⟩), .int .i64 i] w fun e w' => e = .returned (.tuple #[boxV p0 p0, .int .i64 6]) ∧ Below w.heap.size w w' := by
  have hf := h.few
  obtain ⟨⟨B, lv, ov, nv, O, N, hm, _⟩, _⟩ := h
  obtain ⟨la, lc, hlv, hix⟩ := hm.own.l.is
  obtain ⟨n, hn⟩ : ∃ n, n = L.length := ⟨_, rfl⟩
  rw [← hn] at hlv hix hi hf
  subst hlv
  obtain ⟨W, hW⟩ : ∃ W, W = w.alloc (.cells #[.int .i64 0, .int .i64 0, .int .i64 0, .int .i64 0] 33) := ⟨_, rfl⟩
  have hbw : Below w.heap.size w W := by rw [hW]; exact (Below.refl _ _).alloc (Nat.le_refl _) _
  have hr4 : W.heap[w.heap.size]? = some (.cells (boxRow 0 0 0 0) 33 (0, 0)) := by rw [hW]; exact alloc_new _ _
  obtain ⟨c0, c1, _, _⟩ := (hm.row.later hbw).cell
  obtain ⟨z0, z1, z2, z3⟩ := box_cells hr4
  obtain ⟨f0, f1, f2, f3⟩ := box_frozen hr4
  have HR4 := Lib.hid hr4
  have HB := Lib.hid hbw
  rw [hW] at c0 c1 z0 z1 z2 z3 f0 f1 f2 f3
  clear hm hix hr4 hbw hn
  by_cases hneg : i < 0
  · clear hi
    go_enter Try.func25, Try.ntmps25
    go_wp2_with fail
    rw [← hW]
    exact bodyPost_ret (results_box rfl rfl HR4.out) rfl ⟨rfl, HB.out⟩
  · have hge : (n : Int) ≤ i := by omega
    clear hi
    go_enter Try.func25, Try.ntmps25
    go_wp2_with fail
    rw [← hW]
    exact bodyPost_ret (results_box rfl rfl HR4.out) rfl ⟨rfl, HB.out⟩
/-- a tree that is none, or that Build did not make. -/
def NoTree (w : World) (v : Value) : Prop := v = .pointer none ∨ ∃ g, v = .pointer (some ⟨g, 0, none⟩) ∧ w.heap[g]? = some (.cells #[.bool false, .slice none 0 0, .slice none 0 0, .slice none 0 0] 55 (0, 0))
theorem NoTree.later {w w' : World} {v : Value} (h : NoTree w v) (hb : Below w.heap.size w w') : NoTree w' v := by
  rcases h with h | ⟨g, h1, h2⟩
  · exact .inl h
  · exact .inr ⟨g, h1, (hb.block _ (heap_lt2 h2)).trans h2⟩
set_option maxRecDepth 100000 in
set_option maxHeartbeats 2000000 in
theorem Box_none (v : Value) (i : Int) (w : World) (h : NoTree w v) :
    Calls Try.prog 25 #[v, .int .i64 i] w fun e w' => e = .returned (.tuple #[boxV p0 p0, .int .i64 1]) ∧ Below w.heap.size w w' := by
  obtain ⟨W, hW⟩ : ∃ W, W = w.alloc (.cells #[.int .i64 0, .int .i64 0, .int .i64 0, .int .i64 0] 33) := ⟨_, rfl⟩
  have hbw : Below w.heap.size w W := by rw [hW]; exact (Below.refl _ _).alloc (Nat.le_refl _) _
  have hr4 : W.heap[w.heap.size]? = some (.cells (boxRow 0 0 0 0) 33 (0, 0)) := by rw [hW]; exact alloc_new _ _
  have hnt := h.later hbw
  obtain ⟨z0, z1, z2, z3⟩ := box_cells hr4
  obtain ⟨f0, f1, f2, f3⟩ := box_frozen hr4
  have HR4 := Lib.hid hr4
  have HB := Lib.hid hbw
  clear hr4 hbw h
  rcases hnt with rfl | ⟨g, rfl, hg⟩
  · rw [hW] at z0 z1 z2 z3 f0 f1 f2 f3
    go_enter Try.func25, Try.ntmps25
    go_wp2_with fail
    rw [← hW]
    exact bodyPost_ret (results_box rfl rfl HR4.out) rfl ⟨rfl, HB.out⟩
  · have c0 : W.cell? ⟨g, 0, none⟩ = some (.bool false) := cell_of_row _ _ _ _ _ _ hg
    rw [hW] at z0 z1 z2 z3 f0 f1 f2 f3 c0
    clear hg
    go_enter Try.func25, Try.ntmps25
    go_wp2_with fail
    rw [← hW]
    exact bodyPost_ret (results_box rfl rfl HR4.out) rfl ⟨rfl, HB.out⟩
set_option maxRecDepth 100000 in
theorem Len_noneT (v : Value) (w : World) (h : NoTree w v) : Calls Try.prog 12 #[v] w fun e w' => e = .returned (.int .i64 0) ∧ w = w' := by
  rcases h with rfl | ⟨g, rfl, hg⟩
  · go_enter Try.func12, Try.ntmps12
    go_wp2_with fail
    go_ret
    exact ⟨rfl, rfl⟩
  · have c1 : w.cell? ⟨g, 1, none⟩ = some (.slice none 0 0) := cell_of_row _ _ _ _ _ _ hg
    clear hg
    go_enter Try.func12, Try.ntmps12
    go_wp2_with fail
    go_ret
    exact ⟨rfl, rfl⟩
set_option maxRecDepth 100000 in
theorem Depth_noneT (v : Value) (w : World) (h : NoTree w v) : Calls Try.prog 18 #[v] w fun e w' => e = .returned (.int .i64 0) ∧ w = w' := by
  have HLE := Lib.hid (Len_noneT v w h)
  have hv : ∃ o, v = .pointer o := by
    rcases h with h | ⟨g, h, _⟩
    · exact ⟨_, h⟩
    · exact ⟨_, h⟩
  obtain ⟨o, rfl⟩ := hv
  clear h
  go_enter Try.func18, Try.ntmps18
  go_wp2_with fail
  refine HLE.out.mono ?_
  rintro e w1 ⟨rfl, rfl⟩
  go_wp2_with fail
  go_ret
  exact ⟨rfl, rfl⟩
set_option maxRecDepth 100000 in
theorem Order_noneT (v : Value) (w : World) (h : NoTree w v) : Calls Try.prog 19 #[v] w fun e w' => e = .returned (.slice none 0 0) ∧ w = w' := by
  rcases h with rfl | ⟨g, rfl, hg⟩
  · go_enter Try.func19, Try.ntmps19
    go_wp2_with fail
    go_ret
    exact ⟨rfl, rfl⟩
  · have c2 : w.cell? ⟨g, 2, none⟩ = some (.slice none 0 0) := cell_of_row _ _ _ _ _ _ hg
    have hcon := Go.Proofs.AnyG.slices_Clone_int_nil Try.cloneI 0 0 w
    change Calls Try.prog 37 _ _ _ at hcon
    have HC := Lib.hid hcon
    clear hg hcon
    go_enter Try.func19, Try.ntmps19
    go_wp2_with fail
    refine HC.out.mono ?_
    rintro e w1 ⟨rfl, rfl⟩
    go_wp2_with fail
    go_ret
    exact ⟨rfl, rfl⟩
set_option maxRecDepth 100000 in
theorem walk_noneT (g fid pb : Nat) (w : World) (hg : w.heap[g]? = some (.cells #[.bool false, .slice none 0 0, .slice none 0 0, .slice none 0 0] 55 (0, 0))) :
    Calls Try.prog 46 #[.pointer (some ⟨g, 0, none⟩), .int .i64 0, .func (.func fid) #[] #[.pointer (some ⟨pb, 0, none⟩)]] w fun e w' => e = .returned (.slice none 0 0) ∧ w = w' := by
  have c3 : w.cell? ⟨g, 3, none⟩ = some (.slice none 0 0) := cell_of_row _ _ _ _ _ _ hg
  clear hg
  go_enter Try.func46, Try.ntmps46
  go_wp2_with fail
  go_ret
  exact ⟨rfl, rfl⟩
set_option maxRecDepth 100000 in
theorem asks_noneT (v : Value) (fid pb : Nat) (w : World) (h : NoTree w v) : Calls Try.prog 30 #[v, .func (.func fid) #[] #[.pointer (some ⟨pb, 0, none⟩)]] w fun e w' => e = .returned (.slice none 0 0) ∧ Below w.heap.size w w' := by
  rcases h with rfl | ⟨g, rfl, hg⟩
  · refine (asks_nil _ _).mono ?_
    rintro e w' ⟨rfl, rfl⟩
    exact ⟨rfl, Below.refl _ _⟩
  · have HW := Lib.hid (walk_noneT g fid pb w hg)
    have HS := Lib.hid (Sort_ints w.heap.size (.slice none 0 0) [] w (OwnI.nil _ _) (by simp))
    clear hg
    go_enter Try.func30, Try.ntmps30
    go_wp2_with fail
    refine HW.out.mono ?_
    rintro e w1 ⟨rfl, rfl⟩
    go_wp2_with fail
    refine HS.out.mono ?_
    rintro e w2 ⟨rfl, M, _, _, _, hg⟩
    have HB := Lib.hid ((Below.refl w.heap.size w).grown hg (Nat.le_refl _) (fun k hk => by simp [Value.ownBlock] at hk))
    clear hg
    go_wp2_with fail
    go_ret
    exact ⟨rfl, HB.out⟩
set_option maxRecDepth 100000 in
theorem At_noneT (v : Value) (p : Pt) (w : World) (h : NoTree w v) : Calls Try.prog 13 #[v, ptV p] w fun e w' => e = .returned (.slice none 0 0) ∧ Below w.heap.size w w' := by
  obtain ⟨W, hW⟩ : ∃ W, W = w.alloc (.cells #[.int .i64 p.x, .int .i64 p.y] 31) := ⟨_, rfl⟩
  have hb : Below w.heap.size w W := by rw [hW]; exact (Below.refl _ _).alloc (Nat.le_refl _) _
  have HA := Lib.hid (asks_noneT v 31 w.heap.size W (h.later hb))
  have HB := Lib.hid hb
  have hv : ∃ o, v = .pointer o := by
    rcases h with h | ⟨g, h, _⟩
    · exact ⟨_, h⟩
    · exact ⟨_, h⟩
  obtain ⟨o, rfl⟩ := hv
  clear h hb
  unfold ptV
  go_enter Try.func13, Try.ntmps13
  go_wp2_with fail
  rw [← hW]
  clear hW
  refine HA.out.mono ?_
  rintro e w1 ⟨rfl, hb1⟩
  have HB1 := Lib.hid (HB.out.trans (hb1.mono HB.out.size))
  clear hb1
  go_wp2_with fail
  go_ret
  exact ⟨rfl, HB1.out⟩
set_option maxRecDepth 100000 in
theorem Over_noneT (v : Value) (x : Bx) (w : World) (h : NoTree w v) : Calls Try.prog 16 #[v, boxV x.1 x.2] w fun e w' => e = .returned (.slice none 0 0) ∧ Below w.heap.size w w' := by
  obtain ⟨W, hW⟩ : ∃ W, W = w.alloc (.cells #[.int .i64 x.1.x, .int .i64 x.1.y, .int .i64 x.2.x, .int .i64 x.2.y] 33) := ⟨_, rfl⟩
  have hb : Below w.heap.size w W := by rw [hW]; exact (Below.refl _ _).alloc (Nat.le_refl _) _
  have HA := Lib.hid (asks_noneT v 33 w.heap.size W (h.later hb))
  have HB := Lib.hid hb
  have hv : ∃ o, v = .pointer o := by
    rcases h with h | ⟨g, h, _⟩
    · exact ⟨_, h⟩
    · exact ⟨_, h⟩
  obtain ⟨o, rfl⟩ := hv
  clear h hb
  unfold boxV
  go_enter Try.func16, Try.ntmps16
  go_wp2_with fail
  rw [← hW]
  clear hW
  refine HA.out.mono ?_
  rintro e w1 ⟨rfl, hb1⟩
  have HB1 := Lib.hid (HB.out.trans (hb1.mono HB.out.size))
  clear hb1
  go_wp2_with fail
  go_ret
  exact ⟨rfl, HB1.out⟩
end Go.Proofs.Ytlmmejdcjhbppaa
