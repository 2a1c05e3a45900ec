/- frame.Scan, walked -/
import Derived.Test.YtjkkfjmloleedaaGreatDBad
import Derived.Test.YtjkkfjmloleedaaGreatKit
import Derived.Test.YtjkkfjmloleedaaGreatScanReg
import Derived.Test.YtjkkfjmloleedaaGreatLOpen1
namespace Go.Proofs.YtjkkfjmloleedaaGreat
open Go.RowKit Go.Shelf
attribute [local go_sem] Oper.semAt_some
theorem frames_any (ao : Option Addr) (n cap : Nat) (p : Option Addr) (w : World) :
    Calls Tryz.prog 90 #[.slice ao n cap, .pointer p] w fun e w' => e = .returned (.func (.func 97) #[] #[.pointer (some ⟨w.heap.size, 0, none⟩), .pointer (some ⟨w.heap.size + 1, 0, none⟩)]) ∧
      (w.alloc (.cells #[.slice ao n cap] 36)).alloc (.cells #[.pointer p] 124) = w' := by
  go_enter Tryz.func90, Tryz.ntmps90
  go_wp2
  go_ret
  exact ⟨rfl, rfl⟩
/-- what the loop of Scan keeps. -/
structure ScanInv (w0 : World) (B : Nat) (ao : Option Addr) (n cap : Nat) (bs : List UInt8) (pre : List (List UInt8)) (k : Nat) (W : World) : Prop where
  out : ∃ v, W.heap[B]? = some (.cells #[v] 70 (0, 0)) ∧ Lists W (B + 5) v pre
  size : W.heap[B + 1]? = some (.cells #[.int .i64 (k : Int)] 3 (0, 0))
  rest : W.heap[B + 2]? = some (.cells #[.int .i64 0] 3 (0, 0))
  bb : W.heap[B + 3]? = some (.cells #[.slice ao n cap] 36 (0, 0))
  br : W.heap[B + 4]? = some (.cells #[.pointer (some ⟨B + 2, 0, none⟩)] 124 (0, 0))
  bytes : IsBytes W ao n cap bs
  few : 12 * pre.length ≤ k ∧ k ≤ n
  below : Below B w0 W
theorem ScanInv.later {w0 : World} {B : Nat} {ao : Option Addr} {n cap : Nat} {bs : List UInt8} {pre : List (List UInt8)} {k : Nat} {W W' : World} (h : ScanInv w0 B ao n cap bs pre k W) (hb : Below W.heap.size W W') : ScanInv w0 B ao n cap bs pre k W' := by
  have key : ∀ j o, W.heap[j]? = some o → W'.heap[j]? = some o := fun j o e => (hb.block j (Array.getElem?_eq_some_iff.1 e).1).trans e
  obtain ⟨v, hv, hl⟩ := h.out
  have hlt := (Array.getElem?_eq_some_iff.1 hv).1
  exact ⟨⟨v, key _ _ hv, hl.later hb⟩, key _ _ h.size, key _ _ h.rest, key _ _ h.bb, key _ _ h.br, h.bytes.later hb, h.few, h.below.trans (hb.mono (by omega))⟩
theorem ScanInv.putObj {w0 : World} {B : Nat} {ao : Option Addr} {n cap : Nat} {bs : List UInt8} {pre : List (List UInt8)} {k r : Nat} {W : World} {o o' : Obj} (h : ScanInv w0 B ao n cap bs pre k W) (hB : B ≤ r) (hr : W.heap[r]? = some o) (ho : o.isCells = false) :
    ScanInv w0 B ao n cap bs pre k (W.putObj r o') := by
  have hne : ∀ j c t f, W.heap[j]? = some (Obj.cells c t f) → j ≠ r := by
    intro j c t f hj e; subst e; rw [hr] at hj; cases hj; simp [Obj.isCells] at ho
  have key : ∀ j c t f, W.heap[j]? = some (Obj.cells c t f) → (W.putObj r o').heap[j]? = some (Obj.cells c t f) := fun j c t f e => (World.putObj_heap_other (hne _ _ _ _ e)).trans e
  obtain ⟨v, hv, hl⟩ := h.out
  refine ⟨⟨v, key _ _ _ _ hv, hl.putObj hr ho⟩, key _ _ _ _ h.size, key _ _ _ _ h.rest, key _ _ _ _ h.bb, key _ _ _ _ h.br, ?_, h.few, ?_⟩
  · refine ⟨h.bytes.1, h.bytes.2.1, h.bytes.2.2.1, fun hl' => ?_, h.bytes.2.2.2.2⟩
    obtain ⟨b, off, e, hc⟩ := h.bytes.2.2.2.1 hl'
    refine ⟨b, off, e, fun i hi' => ?_⟩
    rw [← hc i hi']
    have hbl : ¬ b = r := by
      intro e'
      have h0 := hc 0 (by cases bs; exact absurd rfl hl'; simp)
      rw [e'] at h0
      cases o <;> simp_all [World.cell?, Obj.isCells]
    exact World.cell?_of_block (by exact World.putObj_heap_other hbl)
  · exact h.below.trans ⟨rfl, rfl, rfl, by simp, fun j hj => World.putObj_heap_other (by omega)⟩
theorem ScanInv.mem {w0 : World} {B : Nat} {ao : Option Addr} {n cap : Nat} {bs : List UInt8} {pre : List (List UInt8)} {k : Nat} {W : World} (h : ScanInv w0 B ao n cap bs pre k W) : FramesMem ao n cap bs (B + 3) (B + 4) (B + 2) W :=
  ⟨by rw [cell_of_row _ _ _ _ _ _ h.bb]; rfl, by rw [cell_of_row _ _ _ _ _ _ h.br]; rfl, ⟨_, by rw [cell_of_row _ _ _ _ _ _ h.rest]; rfl⟩, frozen_of_row _ _ _ _ _ h.rest, h.bytes⟩
set_option maxRecDepth 100000 in
set_option maxHeartbeats 1000000 in
theorem Scan_any (ao : Option Addr) (n cap : Nat) (bs : List UInt8) (w : World) (hs : IsBytes w ao n cap bs) (hn : n ≤ 4294967296) :
    Calls Tryz.prog 74 #[.slice ao n cap] w fun e w' => ∃ v, e = .returned (.tuple #[v, .int .i64 ((Fr.scanF bs).2.1 : Int), .int .i64 ((Fr.scanF bs).2.2 : Int)]) ∧ Lists w' w.heap.size v (Fr.scanF bs).1 ∧ Below w.heap.size w w' := by
  obtain ⟨i0, hi, hz0, hz1, hz2⟩ := info_parts Tryz.infoSlice
  refine (callsIn_wide (n := 2)).1 ?_
  refine callsIn_of_wp_marks Tryz.func74 rfl trivial ?_ rfl
  simp only [Tryz.ntmps74, List.size_toArray, List.length_cons, List.length_nil, Nat.reduceAdd, Nat.reduceSub, Array.replicate_succ, Array.replicate_zero, List.push_toArray, List.append_toArray, List.nil_append, List.cons_append]
  gi_wp2_with fail
  refine ⟨trivial, ?_⟩
  refine (callsIn_wide.2 (frames_any _ _ _ _ _)).mono ?_
  rintro e w1 ⟨rfl, hw1⟩
  obtain ⟨B, hB⟩ : ∃ B, B = w.heap.size := ⟨_, rfl⟩
  have hinv : ScanInv w B ao n cap bs [] 0 w1 := by
    have a0 := heap_alloc_new w (.cells #[.slice none 0 0] 70)
    have a1 := heap_alloc_new (w.alloc (.cells #[.slice none 0 0] 70)) (.cells #[.int .i64 0] 3)
    have a2 := heap_alloc_new ((w.alloc (.cells #[.slice none 0 0] 70)).alloc (.cells #[.int .i64 0] 3)) (.cells #[.int .i64 0] 3)
    have a3 := heap_alloc_new (((w.alloc (.cells #[.slice none 0 0] 70)).alloc (.cells #[.int .i64 0] 3)).alloc (.cells #[.int .i64 0] 3)) (.cells #[.slice ao n cap] 36)
    have a4 := heap_alloc_new ((((w.alloc (.cells #[.slice none 0 0] 70)).alloc (.cells #[.int .i64 0] 3)).alloc (.cells #[.int .i64 0] 3)).alloc (.cells #[.slice ao n cap] 36)) (.cells #[.pointer (some ⟨w.heap.size + 1 + 1, 0, none⟩)] 124)
    simp only [World.size_alloc] at a1 a2 a3 a4
    have hb : Below B w w1 := by
      rw [hB, ← hw1]
      exact ((((((Below.refl _ w).alloc (Nat.le_refl _) _).alloc (by simp) _).alloc (by simp; omega) _).alloc (by simp; omega) _).alloc (by simp; omega) _)
    have up : ∀ (X : World) (o o' : Obj) (j : Nat), X.heap[j]? = some o → (X.alloc o').heap[j]? = some o := fun X o o' j h => (Below.heap_alloc X o' j (Array.getElem?_eq_some_iff.1 h).1).trans h
    refine ⟨⟨_, ?_, Lists.nil _ _⟩, ?_, ?_, ?_, ?_, hs.later (by rw [← hB]; exact hb), by simp, hb⟩
    · rw [hB, ← hw1]; exact up _ _ _ _ (up _ _ _ _ (up _ _ _ _ (up _ _ _ _ a0)))
    · rw [hB, ← hw1]; exact up _ _ _ _ (up _ _ _ _ (up _ _ _ _ a1))
    · rw [hB, ← hw1]; exact up _ _ _ _ (up _ _ _ _ a2)
    · rw [hB, ← hw1]; exact up _ _ _ _ a3
    · rw [hB, ← hw1]; exact a4
  have hsz : w1.heap.size = B + 5 := by rw [← hw1, hB]; simp
  have hblk : bs ≠ [] → ∀ x, ao = some x → x.block < B := by
    intro hne x hx
    obtain ⟨b, off, e, hc⟩ := hs.2.2.2.1 hne
    rw [hx] at e; cases e
    rw [hB]; exact hc.lt hne
  simp only [World.size_alloc, ← hB]
  clear hw1 hs
  have HB := Lib.hid hB
  have HSZ := Lib.hid hsz
  have HI := Lib.hid hinv
  have HK := Lib.hid hblk
  clear hB hsz hinv hblk
  gi_wp2_with fail
  refine wpIn_range_frames 0 (B + 3) (B + 4) (B + 2) ao n cap bs rfl rfl (by omega) (ScanInv w B ao n cap bs) (fun pre k A B' h hb => h.later hb) (fun pre k A r o o' h hr ho hc => h.putObj (by rw [HSZ.out] at hr; omega) ho hc) (fun pre k A h => h.mem) (by rw [HSZ.out]; omega) HI.out
    (fun x y => { tmps := #[.slice ao n cap, undef, .slice none 0 0, .int .i64 0, .int .i64 0, .pointer (some ⟨B, 0, none⟩), .pointer (some ⟨B + 1, 0, none⟩), .pointer (some ⟨B + 2, 0, none⟩), x, y, .slice ao n cap, .func (.func 97) #[] #[.pointer (some ⟨B + 3, 0, none⟩), .pointer (some ⟨B + 4, 0, none⟩)], x, y, undef, undef, undef, undef, undef, undef, undef, undef, undef, undef], defers := [] }) ?assign ?body ?done
  case assign =>
    intro l x y W K hK
    gi_wp2
    exact hK
  case body =>
    intro l pre k r ao' n' cap' W hi' hr hao hkn hrl hlt
    have HI' := Lib.hid hi'
    have HR := Lib.hid hr
    have HAO := Lib.hid hao
    clear hi' hr hao
    gi_wp2_with fail
    obtain ⟨v, hv, vs, hvl, ⟨hvo, hva⟩, hvi⟩ := HI'.out.out
    have hBW : B < W.heap.size := (Array.getElem?_eq_some_iff.1 hv).1
    have hB5 : B + 5 ≤ W.heap.size := by have := HSZ.out; omega
    have hsz1 := HI'.out.size
    have hfew := HI'.out.few
    refine wpIn_region_inv (I := fun L a wr => ∃ t14 t15 t16 t17 t18 t19 t20, a = { tmps := #[.slice ao n cap, undef, .slice none 0 0, .int .i64 0, .int .i64 0, .pointer (some ⟨B, 0, none⟩), .pointer (some ⟨B + 1, 0, none⟩), .pointer (some ⟨B + 2, 0, none⟩), .slice ao' n' cap', .int .i64 ((k + (r.length + 12) : Nat) : Int), .slice ao n cap, .func (.func 97) #[] #[.pointer (some ⟨B + 3, 0, none⟩), .pointer (some ⟨B + 4, 0, none⟩)], .slice ao' n' cap', .int .i64 ((k + (r.length + 12) : Nat) : Int), t14, t15, t16, t17, t18, t19, t20, undef, undef, undef], defers := [] } ∧ RegW W B (k + (r.length + 12)) v pre r (.slice ao' n' cap') L wr t14 t15 t16 t17 t18 t19 t20) (by kernel_rfl) (by kernel_rfl) ?step ?fin ?start
    case start =>
      exact ⟨undef, undef, undef, undef, undef, undef, undef, rfl, RegW.start _ _ _ _ _ _ _ _ _ _ _ _ _ _⟩
    case fin =>
      rintro L a wr hall ⟨t14, t15, t16, t17, t18, t19, t20, rfl, h⟩
      have h5 := hall 5 (by decide)
      have h7 := hall 7 (by decide)
      have h8 := hall 8 (by decide)
      have key : ∀ j c t f, W.heap[j]? = some (Obj.cells c t f) → j ≠ B → j ≠ B + 1 → t ≠ 36 → wr.heap[j]? = some (Obj.cells c t f) := fun j c t f hj n1 n2 n3 =>
        (h.keep j (Array.getElem?_eq_some_iff.1 hj).1 (fun _ => n1) (fun _ => n2) (fun _ => box_ne hj hvo n3)).trans hj
      have hlow : ∀ j, j < B → wr.heap[j]? = W.heap[j]? := fun j hj => h.keep j (by omega) (fun _ => by omega) (fun _ => by omega) (fun _ e => by have := (hvo.lt j e.symm).1; omega)
      have hbb : wr.heap[B + 3]? = W.heap[B + 3]? := h.keep _ (Array.getElem?_eq_some_iff.1 HI'.out.bb).1 (fun _ => by omega) (fun _ => by omega) (fun _ e => by have := (hvo.lt _ e.symm).1; omega)
      refine ⟨⟨Nat.le_trans h.size (Nat.le_refl _), fun j o hB' hj ho => ?_⟩, ⟨⟨t19, h.h7 h7, h.h19 h5⟩, h.h8 h8, key _ _ _ _ HI'.out.rest (by omega) (by omega) (by decide), hbb.trans HI'.out.bb, key _ _ _ _ HI'.out.br (by omega) (by omega) (by decide), ?_, ?_, ?_⟩⟩
      · rw [HSZ.out] at hB'
        rw [← hj]
        refine h.keep j (Array.getElem?_eq_some_iff.1 hj).1 (fun _ => by omega) (fun _ => by omega) (fun _ e => ?_)
        rcases hvo.2 with ⟨rfl, _⟩ | ⟨g, cap2, cur, rfl, _, hg, _⟩
        · simp [Value.ownBlock] at e
        · simp only [Value.ownBlock] at e
          injection e with e
          subst e
          rw [hg] at hj
          cases hj
          simp [Obj.isCells] at ho
      · refine ⟨HI'.out.bytes.1, HI'.out.bytes.2.1, HI'.out.bytes.2.2.1, fun hl => ?_, HI'.out.bytes.2.2.2.2⟩
        obtain ⟨b, off, e, hc⟩ := HI'.out.bytes.2.2.2.1 hl
        refine ⟨b, off, e, fun i hi => ?_⟩
        rw [← hc i hi]
        exact World.cell?_of_block (hlow b (HK.out hl _ e))
      · simp; omega
      · exact HI'.out.below.trans ⟨h.os, h.tape, h.output, h.size, hlow⟩
    case step =>
      rintro i hi9 L a wr hL hcome ⟨t14, t15, t16, t17, t18, t19, t20, rfl, h⟩
      have hi9 : i < 9 := hi9
      have hcase : i = 0 ∨ i = 1 ∨ i = 2 ∨ i = 3 ∨ i = 4 ∨ i = 5 ∨ i = 6 ∨ i = 7 ∨ i = 8 := by omega
      rcases hcase with rfl | rfl | rfl | rfl | rfl | rfl | rfl | rfl | rfl
      · have hn5 : L 5 = false := by cases e : L 5 with | false => rfl | true => rw [h.o50 e] at hL; cases hL
        have hcell : wr.cell? ⟨B, 0, none⟩ = some v := by
          rw [cell_of_row _ _ _ _ _ _ ((h.keep B hBW (fun e => by rw [h.o7 e] at hn5; cases hn5) (fun _ => by omega) (fun e => by rw [e] at hn5; cases hn5)).trans hv)]; rfl
        refine wpOpIn_value rfl rfl (fun c e => by cases e) rfl (v := v) (w' := wr) (by go_simp) ?_
        exact ⟨_, t15, t16, t17, t18, t19, t20, rfl, h.op0⟩
      · refine wpOpIn_value rfl rfl (fun c e => by cases e) rfl (v := .slice (some ⟨wr.heap.size, 0, none⟩) 0 0) (w' := wr.alloc (.cells #[] 5)) (by go_simp) ?_
        exact ⟨t14, _, t16, t17, t18, t19, t20, rfl, h.op1 hL⟩
      · refine wpOpIn_value rfl rfl (fun c e => by cases e) rfl (v := .slice ao' n' cap') (w' := wr) rfl ?_
        exact ⟨t14, t15, _, t17, t18, t19, t20, rfl, h.op2⟩
      · have hd : L 1 = true ∧ L 2 = true := by simpa [mayCome, Region.binds] using hcome
        have hn5 : L 5 = false := by cases e : L 5 with | false => rfl | true => rw [h.o4 (h.o5 e)] at hL; cases hL
        obtain rfl := h.h16 hd.2
        obtain ⟨x, w', hrun, hx, hg, _⟩ := run_append_bytes 36 W.heap.size t15 [] (h.h15 hd.1 hL) ao' n' cap' r (h.bytes hn5 HR.out) (by have := HR.out.1; simp; omega) h.size
        refine wpOpIn_value (o := ⟨some 17, .call { callee := .builtin .append, args := #[.tmp 15, .tmp 16], argTypes := #[36, 36] }, _, _, _, none⟩) rfl rfl (fun c e => by cases e) (by simp [Oper.about, resolve, Target.leads, Sem.run_pure]) (v := x) (w' := w') ?_ ?_
        · unfold execOp
          simp only [resolve, invoke, builtin, Sem.run_bind, Sem.run_pure, Result.andThen_ok, List.map_toArray, List.map_cons, List.map_nil]
          exact (congrArg (fun z => Result.andThen z _) hrun)
        rw [List.nil_append] at hx
        exact ⟨t14, t15, _, _, t18, t19, t20, rfl, h.op3 hL hd.1 hd.2 hx hg⟩
      · have hd : L 3 = true := by simpa [mayCome, Region.binds] using hcome
        obtain ⟨ao17, c17, rfl⟩ := ownsRow_shape (h.h17 hd).1
        refine wpOpIn_value rfl rfl (fun c e => by cases e) rfl (v := .slice (some ⟨wr.heap.size, 0, none⟩) 1 1) (w' := wr.alloc (.cells #[.slice ao17 r.length c17] 36)) (by go_simp) ?_
        exact ⟨t14, t15, t16, _, _, t19, t20, rfl, h.op4 hL hd⟩
      · have hd : L 0 = true ∧ L 4 = true ∧ L 3 = true := by simpa [mayCome, Region.binds] using hcome
        obtain ⟨hd0, hd4, _⟩ := hd
        obtain rfl := h.h14 hd0
        obtain ⟨g, rfl, hgW, hg18⟩ := h.h18 hd4 hL
        obtain ⟨ao17, c17, rfl⟩ := ownsRow_shape (h.h17 (h.o4 hd4)).1
        obtain ⟨x, w', hrun, hx, hg, hxa, _, _⟩ := run_append_all (P := Tryz.prog) wr (B + 5) 70 70 36 i0 (.slice none 0 0) 1 24 Tryz.underlying70 hi hz0 hz1 hz2 rfl (by decide) t14 pre.length vs (h.row hL hvo).1 ⟨g, 0, none⟩ 1 1 [.slice ao17 r.length c17] rfl
          (by
            intro j u hu
            match j, hu with
            | 0, hu =>
              simp at hu; subst hu
              rw [show (⟨g, 0, none⟩ : Addr).add 0 = ⟨g, 0, none⟩ from rfl, cell_of_row _ _ _ _ _ _ hg18]; rfl)
          (by intro u hu; simp at hu; subst hu; rfl) (by unfold maxLen; omega) (by omega) (Nat.le_trans hB5 h.size) (fun u => plainV u = true) (fun u hu => by simp [Value.cells] at hu; subst hu; rfl) (fun u hu => by simp at hu; subst hu; rfl) (hva.move (h.row hL hvo).2)
        refine wpOpIn_value (o := ⟨some 19, .call { callee := .builtin .append, args := #[.tmp 14, .tmp 18], argTypes := #[70, 70] }, _, _, _, none⟩) rfl rfl (fun c e => by cases e) (by simp [Oper.about, resolve, Target.leads, Sem.run_pure]) (v := x) (w' := w') ?_ ?_
        · unfold execOp
          simp only [resolve, invoke, builtin, Sem.run_bind, Sem.run_pure, Result.andThen_ok, List.map_toArray, List.map_cons, List.map_nil]
          exact (congrArg (fun z => Result.andThen z _) hrun)
        exact ⟨_, t15, t16, _, _, _, t20, rfl, h.op5 hL hd0 hd4 hvl hB5 hvo hvi ⟨hx, hxa⟩ hg⟩
      · refine wpOpIn_value rfl rfl (fun c e => by cases e) rfl (v := .int .i64 ((k + (r.length + 12) : Nat) : Int)) (w' := wr) rfl ?_
        exact ⟨t14, t15, t16, t17, t18, t19, _, rfl, h.op6⟩
      · have hd : L 5 = true := by have := hcome; simp [mayCome, Region.binds] at this; simp [this]
        have hbox : wr.heap[B]? = some (.cells #[v] 70 (0, 0)) := by
          rw [h.keep B hBW (fun e => by rw [e] at hL; cases hL) (fun _ => by omega) (fun _ => box_ne hv hvo (by decide))]; exact hv
        obtain ⟨vs19, _, ⟨ho19, _⟩, _⟩ := h.h19 hd
        obtain ⟨ao19, c19, rfl⟩ := ownsRow_shape ho19
        have hcell : wr.cell? ⟨B, 0, none⟩ = some v := by rw [cell_of_row _ _ _ _ _ _ hbox]; rfl
        have hfr : wr.frozen? ⟨B, 0, none⟩ = false := frozen_of_row _ _ _ _ _ hbox
        refine wpOpIn_skip rfl rfl (fun c e => by cases e) rfl (w' := wr.setCell ⟨B, 0, none⟩ (.slice ao19 (pre ++ [r]).length c19)) (by go_simp) ?_
        exact ⟨t14, t15, t16, t17, t18, _, t20, rfl, h.op7 hL hd hbox⟩
      · have hd : L 6 = true ∧ L 7 = true := by have := hcome; simp [mayCome, Region.binds] at this; simp [this]
        obtain ⟨hd6, hd7⟩ := hd
        obtain rfl := h.h20 hd6
        have hbox : wr.heap[B + 1]? = some (.cells #[.int .i64 (k : Int)] 3 (0, 0)) := by
          rw [h.keep (B + 1) (Array.getElem?_eq_some_iff.1 hsz1).1 (fun _ => by omega) (fun e => by rw [e] at hL; cases hL) (fun _ => box_ne hsz1 hvo (by decide))]; exact hsz1
        have hcell : wr.cell? ⟨B + 1, 0, none⟩ = some (.int .i64 (k : Int)) := by rw [cell_of_row _ _ _ _ _ _ hbox]; rfl
        have hfr : wr.frozen? ⟨B + 1, 0, none⟩ = false := frozen_of_row _ _ _ _ _ hbox
        refine wpOpIn_skip rfl rfl (fun c e => by cases e) rfl (w' := wr.setCell ⟨B + 1, 0, none⟩ (.int .i64 ((k + (r.length + 12) : Nat) : Int))) (by go_simp) ?_
        exact ⟨t14, t15, t16, t17, t18, t19, _, rfl, h.op8 hL hd7 hbox⟩
  case done =>
    intro D W hD hI hdef
    obtain ⟨v, hv, hl⟩ := hI.out
    obtain ⟨vs, _, ⟨hvo, _⟩, _⟩ := hl
    obtain ⟨av, cv, rfl⟩ := ownsRow_shape hvo
    have hrest := hI.rest
    have ho2 : (W.setCell ⟨B + 2, 0, none⟩ (.int .i64 ((Fr.scanF bs).2.2 : Int))).heap[B + 2]? = some (.cells #[.int .i64 ((Fr.scanF bs).2.2 : Int)] 3 (0, 0)) := by rw [heap_setCell_same _ _ _ _ _ _ hrest]; rfl
    have ho0 : (W.setCell ⟨B + 2, 0, none⟩ (.int .i64 ((Fr.scanF bs).2.2 : Int))).heap[B]? = some (.cells #[.slice av (Fr.scanF bs).1.length cv] 70 (0, 0)) := by rw [Below.heap_setCell _ _ _ _ (by simp)]; exact hv
    have ho1 : (W.setCell ⟨B + 2, 0, none⟩ (.int .i64 ((Fr.scanF bs).2.2 : Int))).heap[B + 1]? = some (.cells #[.int .i64 ((Fr.scanF bs).2.1 : Int)] 3 (0, 0)) := by rw [Below.heap_setCell _ _ _ _ (by simp)]; exact hI.size
    have hll := (show Lists W (B + 5) (.slice av (Fr.scanF bs).1.length cv) (Fr.scanF bs).1 from by obtain ⟨v', hv', hl'⟩ := hI.out; rw [hv] at hv'; cases hv'; exact hl')
    have hfin : Lists (W.setCell ⟨B + 2, 0, none⟩ (.int .i64 ((Fr.scanF bs).2.2 : Int))) (B + 5) (.slice av (Fr.scanF bs).1.length cv) (Fr.scanF bs).1 := hll.setCell hrest (by decide) (by decide)
    have hbel : Below B w (W.setCell ⟨B + 2, 0, none⟩ (.int .i64 ((Fr.scanF bs).2.2 : Int))) := hI.below.setCell (by simp) _
    obtain ⟨W', hW'⟩ : ∃ W', W' = W.setCell ⟨B + 2, 0, none⟩ (.int .i64 ((Fr.scanF bs).2.2 : Int)) := ⟨_, rfl⟩
    rw [← hW'] at ho0 ho1 ho2 hfin hbel hdef ⊢
    have hc0 : W'.cell? ⟨B, 0, none⟩ = some (.slice av (Fr.scanF bs).1.length cv) := by rw [cell_of_row _ _ _ _ _ _ ho0]; rfl
    have hc1 : W'.cell? ⟨B + 1, 0, none⟩ = some (.int .i64 ((Fr.scanF bs).2.1 : Int)) := by rw [cell_of_row _ _ _ _ _ _ ho1]; rfl
    have hc2 : W'.cell? ⟨B + 2, 0, none⟩ = some (.int .i64 ((Fr.scanF bs).2.2 : Int)) := by rw [cell_of_row _ _ _ _ _ _ ho2]; rfl
    have HF := Lib.hid hfin
    have HBl := Lib.hid hbel
    have HD := Lib.hid hdef
    clear hW' hI hv hvo hrest ho0 ho1 ho2 hll hfin hbel hdef
    gi_wp2_with fail
    gi_region
    gi_wp2_with fail
    refine ⟨by simp, .inl ⟨_, _, rfl, run_takeDeferred HD.out, ?_⟩⟩
    refine ⟨_, results_tmp3 rfl _ _ _, _, rfl, ?_, ?_⟩
    · rw [← HB.out]
      have hdr : Lists W'.drew (B + 5) (.slice av (Fr.scanF bs).1.length cv) (Fr.scanF bs).1 := HF.out.later (Below.refl _ _).drew
      exact (hdr.putObj (r := D) HD.out rfl).base (by omega)
    · rw [← HB.out]
      have hdl := (Array.getElem?_eq_some_iff.1 HD.out).1
      exact HBl.out.trans ⟨rfl, rfl, rfl, by simp, fun j hj => World.putObj_heap_other (by rw [HSZ.out] at hD; omega)⟩
end Go.Proofs.YtjkkfjmloleedaaGreat

/- ledger: Open, whatever its disk holds -/
set_option linter.unusedSimpArgs false
set_option linter.unusedVariables false
namespace Go.Proofs.YtjkkfjmloleedaaGreat
open Go.RowKit
set_option linter.unusedSectionVars false
/-- the blocks between two marks. -/
@[reducible] def Zi (lo hi : Nat) : Zone := ⟨fun k => lo ≤ k ∧ k < hi⟩
/-- what Open tells. -/
def OpenR (Z : Zone) (o : Int × Option LSig × List (List UInt8) × Sig) (d mb base : Nat) (w : World) (e : Ending) (w' : World) : Prop :=
  ∃ lv v, e = .returned (.tuple #[lv, v, .int .i64 o.1]) ∧ @DSig Z w' d mb base o.2.2.2 ∧ Lists w' w.heap.size v o.2.2.1 ∧ FD base none w w' ∧ ((o.2.1 = none ∧ lv = .pointer none) ∨ ∃ L l, o.2.1 = some L ∧ lv = .pointer (some ⟨l, 0, none⟩) ∧ w.heap.size ≤ l ∧ LedRow w' l d L.nm L.n L.size L.br)
theorem Read_none_S [Zone] (s : ByteArray) (d mb base : Nat) (g : Sig) (w : World) (h : DSig w d mb base g) (hc : (readG s g).1 ≠ 0) :
    Calls Tryz.prog 33 #[.pointer (some ⟨d, 0, none⟩), .string s] w fun e w' => e = .returned (.tuple #[.slice none 0 0, .int .i64 (readG s g).1]) ∧ w = w' := by
  obtain ⟨M, C, fu, h1, h2, h3⟩ := id h
  obtain ⟨hn, hm16⟩ := h1.once
  have hz := atZ_is s g.R
  unfold readG at hc ⊢
  by_cases ho : g.out = true
  · rw [if_pos ho]
    have hd := h1.dm.2.2.1
    rw [ho] at hd
    exact Read_ref d 10 w (.inr rfl) (NoOpen.of_out d mb _ fu s w hd)
  · rw [if_neg ho] at hc ⊢
    by_cases hneg : atZ s g.R < 0
    · rw [if_pos hneg]
      obtain ⟨hfo, hno⟩ := h2.no hz hneg
      have ho : g.out = false := by simpa using ho
      rw [ho] at h1
      exact Read_ref d 6 w (.inl rfl) (NoOpen.of_none d mb M _ fu w h1.dm hfo)
    · rw [if_neg hneg] at hc
      exact absurd rfl hc
theorem openG_new {nm : ByteArray} {g g1 g3 : Sig} {c0 c2 : Int} (h6 : (readG nm g).1 = 6) (h1 : appG nm [] g = (c0, g1)) (h3 : syncG nm g1 = (c2, g3)) :
    openG nm g = if c0 ≠ 0 then (c0, none, [], g1) else if c2 ≠ 0 then (c2, none, [], g3) else (0, some ⟨nm, 0, 0, false⟩, [], g3) := by
  unfold openG openE
  rw [if_pos h6, h1]
  dsimp only
  rw [h3]
theorem openG_old {nm : ByteArray} {g g2 g3 : Sig} {c1 c2 : Int} {bs : List UInt8} {recs : List (List UInt8)} {sz rest : Nat} (h0 : readG nm g = (0, bs)) (hs : Fr.scanF bs = (recs, sz, rest)) (h2 : (c1, g2) = if rest = 2 then (4, g) else if rest = 1 then cutG nm (sz : Nat) g else (0, g)) (h3 : syncG nm g2 = (c2, g3)) :
    openG nm g = if c1 ≠ 0 then (c1, none, [], g2) else if c2 ≠ 0 then (c2, none, [], g3) else (0, some ⟨nm, (recs.length : Nat), (sz : Nat), false⟩, recs, g3) := by
  unfold openG openE
  rw [h0]
  dsimp only
  rw [if_neg (by omega), if_neg (by simp), hs]
  dsimp only
  by_cases r2 : rest = 2
  · rw [if_pos r2] at h2 ⊢
    injection h2 with h2 h4
    subst h2
    subst h4
    rw [if_pos (by omega)]
  · rw [if_neg r2] at h2 ⊢
    by_cases r1 : rest = 1
    · rw [if_pos r1] at h2 ⊢
      rw [← h2]
      dsimp only
      rw [h3]
    · rw [if_neg r1] at h2 ⊢
      injection h2 with h2 h4
      subst h2
      subst h4
      rw [h3, if_neg (show ¬ ((0 : Int) ≠ 0) by simp)]
theorem open_slice_eq {a b c d e f : Value} (h : Ending.returned (.tuple #[a, b, c]) = .returned (.tuple #[d, e, f])) : b = e := by
  injection h with h
  injection h with h
  injection h with h
  injection h with _ h
  injection h with h _
set_option maxRecDepth 100000 in
set_option maxHeartbeats 4000000 in
theorem Open_fresh [Z : Zone] (nm : ByteArray) (hss : nm.size ≤ 1099511627776) (base d mb q k : Nat) (g : Sig) (w : World) (hbs : base ≤ w.heap.size) (hd : DSig w d mb base g) (hl : Lim q k g) (hq : q + 1 ≤ 4294967296) (hk : k + 2 ≤ 1000000) (h6 : (readG nm g).1 = 6) :
    Calls Tryz.prog 43 #[.pointer (some ⟨d, 0, none⟩), .string nm] w fun e w' => OpenR Z (openG nm g) d mb base w e w' ∧ ∀ lv v z, e = .returned (.tuple #[lv, v, z]) → v = .slice none 0 0 := by
  have hmf : ∀ (fn : Fn) (first cap : Array Value) (w : World), (Instr.makeFunc fn first cap).run Tryz.prog w = .ok (.func fn first cap) w := fun _ _ _ _ => rfl
  obtain ⟨c0, g1, h1⟩ : ∃ c g1, appG nm [] g = (c, g1) := ⟨_, _, rfl⟩
  obtain ⟨c2, g3, h3⟩ : ∃ c g3, syncG nm g1 = (c, g3) := ⟨_, _, rfl⟩
  have hl1 : Lim q (k + 1) g1 := by have := hl.app (s := nm) (B := []) (q' := q) (k' := k + 1) (by simp) (Nat.le_refl _); rw [h1] at this; exact this
  have HO := Lib.hid (openG_new h6 h1 h3)
  have HD := Lib.hid hd
  have HRD := Lib.hid (fun w' (hb : Below w.heap.size w w') => Read_none_S nm d mb base g w' (hd.later hb) (by omega))
  have HS1 := Lib.hid (fun (N E F : Nat) w' (hb : base ≤ w'.heap.size) a0 a1 a2 (hd' : DSig w' d mb base g) => step1_S base N E F d mb q k nm hss g w' hb a0 a1 a2 hd' hl (by omega) (by omega))
  have HS3 := Lib.hid (fun (N : Nat) w' (hb : base ≤ w'.heap.size) a0 a1 (hd' : DSig w' d mb base g1) => step3_S base N d mb q (k + 1) nm g1 w' hb a0 a1 hd' hl1 (by omega))
  rw [h6] at HRD
  rw [h1] at HS1
  rw [h3] at HS3
  clear hd hl hl1 h1 h3 h6 hss
  go_enter Tryz.func43, Tryz.ntmps43
  go_wp2_with fail
  generalize hw1 : (((w.alloc (.cells #[.pointer (some ⟨d, 0, none⟩)] 24)).alloc (.cells #[.string nm] 9)).alloc (.cells #[.int .i64 0] 3)).alloc (.cells #[.int .i64 0] 3) = w1
  obtain ⟨b0, b1, b2, b3, hB1, hS1⟩ := open_boxes _ nm w w1 hw1
  clear hw1
  have HW := Lib.hid (show ∃ n, n = w.heap.size from ⟨_, rfl⟩)
  obtain ⟨N, hN⟩ : ∃ N, N = w.heap.size := ⟨_, rfl⟩
  rw [← hN] at b0 b1 b2 b3 hS1 hbs ⊢
  have HX := Lib.hid (And.intro b0 (And.intro b1 (And.intro b2 (And.intro b3 (And.intro hB1 (And.intro (HD.out.later hB1) hN))))))
  clear b0 b1 b2 b3 hN HW
  refine (HRD.out w1 hB1).mono ?_
  rintro e w' ⟨rfl, rfl⟩
  clear hB1
  go_wp2_with fail
  generalize hX : (World.alloc (World.alloc (World.alloc w1 _) _) _) = X
  obtain ⟨hmem, hbX⟩ := open_mem N d nm 6 true 0 0 w1 X hS1 HX.out.1 HX.out.2.1 HX.out.2.2.1 HX.out.2.2.2.1 hX
  have hbwX : Below w.heap.size w X := HX.out.2.2.2.2.1.trans (hbX.mono (by have := HX.out.2.2.2.2.2.2; omega))
  have HXX := Lib.hid (And.intro hmem (And.intro hbwX (HX.out.2.2.2.2.2.1.later hbX)))
  clear hX hbX hmem hbwX
  have en1 := enters_1
  have en2 := enters_2
  have en3 := enters_3
  have HB := Lib.hid hbs
  go_loopw [37] (fun i wr => ∃ j : Nat, j ≤ 3 ∧ i = .int .i64 j ∧ Hid (OpenMem wr N (N + 4) (N + 4 + 1) (N + 4 + 1 + 1) (some ⟨d, 0, none⟩) nm 6 true 0 0) ∧ Hid (FD base none w wr) ∧ Hid ((j = 0 ∧ DSig wr d mb base g) ∨ ((j = 1 ∨ j = 2) ∧ c0 = 0 ∧ DSig wr d mb base g1) ∨ (j = 3 ∧ c0 = 0 ∧ c2 = 0 ∧ DSig wr d mb base g3))) (fun i _ => 3 - (intOf i).toNat)
  case atStart => exact ⟨0, by omega, rfl, Lib.hid HXX.out.1, Lib.hid (FD.of_below HXX.out.2.1 (by have := HX.out.2.2.2.2.2.2; have := HB.out; omega)), Lib.hid (.inl ⟨rfl, HXX.out.2.2⟩)⟩
  case round =>
    obtain ⟨j, hj, rfl, hm, hF, hD⟩ := hrel
    obtain ⟨f0, f1, f2⟩ := hm.out.funcs
    have hj4 : j = 0 ∨ j = 1 ∨ j = 2 ∨ j = 3 := by omega
    have hbr : base ≤ wr.heap.size := Nat.le_trans (by have := HX.out.2.2.2.2.2.2; have := HB.out; omega) hF.out.below.size
    have HBR := Lib.hid hbr
    clear hbr
    rcases hj4 with rfl | rfl | rfl | rfl
    · have hdr : DSig wr d mb base g := by
        rcases hD.out with ⟨_, h⟩ | ⟨h, _⟩ | ⟨h, _⟩
        · exact h
        · omega
        · omega
      have HDR := Lib.hid hdr
      clear hdr
      go_wp2_with fail
      refine (HS1.out N (N + 4) (N + 4 + 1) wr HBR.out hm.out.box hm.out.name hm.out.fresh HDR.out).mono ?_
      rintro e w2 ⟨rfl, hd2, hf2⟩
      have HREL := Lib.hid (And.intro (hm.out.fd hf2) (And.intro (hF.out.trans hf2) hd2))
      clear hd2 hf2
      by_cases hc0 : c0 = 0
      · have HC0 := Lib.hid hc0
        have hcb : (c0 == 0) = true := by simpa using hc0
        have hcb2 : (c0 != 0) = false := by simpa using hc0
        clear hc0
        go_wp2_with fail
        go_roundw
        case rel => exact ⟨1, by omega, rfl, Lib.hid HREL.out.1, Lib.hid HREL.out.2.1, Lib.hid (.inr (.inl ⟨.inl rfl, HC0.out, HREL.out.2.2⟩))⟩
        case measure => simp [intOf]
      · have hcb : (c0 == 0) = false := by simpa using hc0
        have hcb2 : (c0 != 0) = true := by simpa using hc0
        have HC0 := Lib.hid hc0
        clear hc0
        go_wp2_with fail
        go_ret3
        rw [HO.out, if_pos HC0.out]
        exact ⟨⟨_, _, rfl, HREL.out.2.2, Lists.nil _ _, HREL.out.2.1, .inl (by simp)⟩, fun lv v z e => (open_slice_eq e).symm⟩
    · go_wp2_with fail
      refine (step2_whole N wr hm.out.rest).mono ?_
      rintro e w2 ⟨rfl, rfl⟩
      go_wp2_with fail
      go_roundw
      case rel =>
        refine ⟨2, by omega, rfl, hm, hF, Lib.hid (.inr (.inl ⟨.inr rfl, ?_⟩))⟩
        rcases hD.out with ⟨h, _⟩ | ⟨_, h⟩ | ⟨h, _⟩
        · omega
        · exact h
        · omega
      case measure => simp [intOf]
    · have hdr : c0 = 0 ∧ DSig wr d mb base g1 := by
        rcases hD.out with ⟨h, _⟩ | ⟨_, h⟩ | ⟨h, _⟩
        · omega
        · exact h
        · omega
      have HDR := Lib.hid hdr
      clear hdr
      go_wp2_with fail
      refine (HS3.out N wr HBR.out hm.out.box hm.out.name HDR.out.2).mono ?_
      rintro e w2 ⟨rfl, hd2, hf2⟩
      have HREL := Lib.hid (And.intro (hm.out.fd hf2) (And.intro (hF.out.trans hf2) hd2))
      clear hd2 hf2
      by_cases hc2 : c2 = 0
      · have HC2 := Lib.hid hc2
        have hcb : (c2 == 0) = true := by simpa using hc2
        have hcb2 : (c2 != 0) = false := by simpa using hc2
        clear hc2
        go_wp2_with fail
        go_roundw
        case rel => exact ⟨3, by omega, rfl, Lib.hid HREL.out.1, Lib.hid HREL.out.2.1, Lib.hid (.inr (.inr ⟨rfl, HDR.out.1, HC2.out, HREL.out.2.2⟩))⟩
        case measure => simp [intOf]
      · have hcb : (c2 == 0) = false := by simpa using hc2
        have hcb2 : (c2 != 0) = true := by simpa using hc2
        have HC2 := Lib.hid hc2
        clear hc2
        go_wp2_with fail
        go_ret3
        rw [HO.out, if_neg (by have := HDR.out.1; omega), if_pos HC2.out]
        exact ⟨⟨_, _, rfl, HREL.out.2.2, Lists.nil _ _, HREL.out.2.1, .inl (by simp)⟩, fun lv v z e => (open_slice_eq e).symm⟩
    · have hdr : c0 = 0 ∧ c2 = 0 ∧ DSig wr d mb base g3 := by
        rcases hD.out with ⟨h, _⟩ | ⟨h, _⟩ | ⟨_, h⟩
        · omega
        · omega
        · exact h
      have HDR := Lib.hid hdr
      have g0 : wr.cell? ⟨N, 0, none⟩ = some (.pointer (some ⟨d, 0, none⟩)) := cell_of_row _ _ _ _ _ _ hm.out.box
      have g1 : wr.cell? ⟨N + 1, 0, none⟩ = some (.string nm) := cell_of_row _ _ _ _ _ _ hm.out.name
      have g2 : wr.cell? ⟨N + 1 + 1, 0, none⟩ = some (.int .i64 0) := cell_of_row _ _ _ _ _ _ hm.out.size
      clear hdr
      go_wp2_with fail
      go_ret3
      rw [HO.out, if_neg (by have := HDR.out.1; omega), if_neg (by have := HDR.out.2.1; omega)]
      exact ⟨⟨_, _, rfl, HDR.out.2.2.later ((Below.refl _ _).alloc (Nat.le_refl _) _), Lists.nil _ _, hF.out.trans (FD.of_below ((Below.refl _ _).alloc (Nat.le_refl _) _) HBR.out), .inr ⟨_, wr.heap.size, rfl, rfl, hF.out.below.size, heap_alloc_new _ _⟩⟩, fun lv v z e => (open_slice_eq e).symm⟩
end Go.Proofs.YtjkkfjmloleedaaGreat

/- one ledger on a disk of one file: what the calls make of it, plainly -/
set_option linter.unusedSimpArgs false
set_option linter.unusedVariables false
namespace Go.Proofs.YtjkkfjmloleedaaGreat
open Go.RowKit
set_option linter.unusedSectionVars false
/-- a disk of one file, all of it safe; no fuse. -/
def oneG (s : ByteArray) (S : List UInt8) (N lf : Int) : Sig := ⟨[(s, S, [])], N, false, lf, false⟩
def zeroG (N lf : Int) : Sig := ⟨[], N, false, lf, false⟩
theorem atZ_nil (s : ByteArray) : atZ s [] = -1 := (AtR.eq (.inr ⟨rfl, fun j hj => absurd hj (by simp)⟩)).symm
theorem atZ_one (s : ByteArray) (x : List UInt8 × List Deed) : atZ s [(s, x)] = 0 := (AtR.eq (.inl ⟨0, rfl, by simp, rfl, fun j hj => absurd hj (by omega)⟩)).symm
theorem insK_nil (s : ByteArray) : insK s [] = 0 := (InsAt.eq (k := 0) ⟨Nat.le_refl _, fun j hj => absurd hj (by omega), fun h => absurd h (by simp)⟩).symm
theorem runD_addB (S B : List UInt8) : runD S (addB B) = S ++ B := by
  unfold addB
  split
  · rename_i h; subst h; simp [runD]
  · simp [runD]
theorem doneG_free {R R' : List FileV} {N lf : Int} {o : Bool} : doneG ⟨R, N, false, lf, o⟩ R' = (0, ⟨R', N + 1, false, lf, false⟩) := by
  unfold doneG
  simp
theorem app_zero {s : ByteArray} {N lf : Int} (hs : nameP s.data.toList = true) (B : List UInt8) (hB : B.length ≤ 1048576) : appG s B (zeroG N lf) = (0, ⟨[(s, [], addB B)], N + 1, false, lf, false⟩) := by
  unfold appG zeroG
  rw [if_neg (by simp), if_neg (by rw [hs]; simp)]
  dsimp only
  rw [if_pos (by rw [atZ_nil]; decide), if_neg (by simp), if_neg (by omega), insK_nil, doneG_free]
  rfl
theorem app_one {s : ByteArray} {S : List UInt8} {N lf : Int} (hs : nameP s.data.toList = true) (B : List UInt8) (hB : S.length + B.length ≤ 1048576) : appG s B (oneG s S N lf) = (0, ⟨[(s, S, addB B)], N + 1, false, lf, false⟩) := by
  unfold appG oneG
  rw [if_neg (by simp), if_neg (by rw [hs]; simp)]
  dsimp only
  rw [if_neg (by rw [atZ_one]; decide), atZ_one]
  rw [if_neg (by simp [runD]; omega), doneG_free]
  simp
theorem sync_one {s : ByteArray} {S : List UInt8} {D : List Deed} {N lf : Int} : syncG s ⟨[(s, S, D)], N, false, lf, false⟩ = (0, oneG s (runD S D) (N + 1) lf) := by
  unfold syncG oneG
  rw [if_neg (by simp)]
  dsimp only
  rw [if_neg (by rw [atZ_one]; decide), atZ_one, doneG_free]
  simp
theorem read_zero {s : ByteArray} {N lf : Int} : readG s (zeroG N lf) = (6, []) := by
  unfold readG zeroG
  rw [if_neg (by simp)]
  dsimp only
  rw [if_pos (by rw [atZ_nil]; decide)]
theorem read_one {s : ByteArray} {S : List UInt8} {N lf : Int} : readG s (oneG s S N lf) = (0, S) := by
  unfold readG oneG
  rw [if_neg (by simp)]
  dsimp only
  rw [if_neg (by rw [atZ_one]; decide), atZ_one]
  simp [runD]
theorem add_one {s : ByteArray} {S : List UInt8} {N lf n z : Int} (hs : nameP s.data.toList = true) (B : List UInt8) (hB : B.length ≤ 65536) (hS : S.length + B.length + 12 ≤ 1048576) :
    addG B ⟨s, n, z, false⟩ (oneG s S N lf) = (0, ⟨s, n + 1, z + ((Fr.putF B).length : Nat), false⟩, oneG s (S ++ Fr.putF B) (N + 2) lf) := by
  have hp := putF_len B
  have h1 : appG s (Fr.putF B) (oneG s S N lf) = _ := app_one hs (Fr.putF B) (by omega)
  unfold addG
  dsimp only
  rw [if_neg (by simp), if_neg (by omega), h1]
  dsimp only
  rw [if_neg (by decide), if_neg (by simp), sync_one, if_neg (by simp), runD_addB]
  rw [show N + 1 + 1 = N + 2 by omega]
theorem open_zero {s : ByteArray} {N lf : Int} (hs : nameP s.data.toList = true) : openG s (zeroG N lf) = (0, some ⟨s, 0, 0, false⟩, [], oneG s [] (N + 2) lf) := by
  unfold openG
  rw [read_zero, if_pos rfl, app_zero hs [] (by simp), if_neg (by simp)]
  unfold openE
  rw [sync_one, if_neg (by simp), runD_addB]
  rw [show N + 1 + 1 = N + 2 by omega]
  rfl
theorem open_one {s : ByteArray} {S : List UInt8} {N lf : Int} {recs : List (List UInt8)} {sz : Nat} (h : Fr.scanF S = (recs, sz, 0)) : openG s (oneG s S N lf) = (0, some ⟨s, (recs.length : Nat), (sz : Nat), false⟩, recs, oneG s S (N + 1) lf) := by
  unfold openG
  rw [read_one, if_neg (by simp), if_neg (by simp), h]
  dsimp only
  rw [if_neg (by decide), if_neg (by decide)]
  unfold openE oneG
  rw [sync_one, if_neg (by simp)]
  rfl
theorem scan_two : Fr.scanF ([] ++ Fr.putF [1, 2] ++ Fr.putF []) = ([[1, 2], []], 26, 0) := by
  have h := Fr.scanF_put [1, 2] (Fr.putF []) (by simp)
  have h2 := Fr.scanF_put [] [] (by simp)
  rw [Fr.scanF_nil] at h2
  rw [List.append_nil] at h2
  rw [h2] at h
  rw [List.nil_append, h]
  rfl
/-- one file alone is within the bounds. -/
theorem oneG_lim {s : ByteArray} {S : List UInt8} {N lf : Int} {q k : Nat} (hS : S.length ≤ q) (hN : 0 ≤ N) (hk : N ≤ k) (hf : 0 ≤ lf ∧ lf ≤ 9223372036854775807) : Lim q k (oneG s S N lf) :=
  ⟨fun x hx => by
    have e : x = (s, S, []) := by simpa [oneG] using hx
    subst e
    simpa [unitsD] using hS, hN, hk, hf.1, hf.2⟩
end Go.Proofs.YtjkkfjmloleedaaGreat
