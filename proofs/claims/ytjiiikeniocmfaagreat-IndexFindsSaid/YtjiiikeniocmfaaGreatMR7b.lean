/- the document's numbers: Of -/
import Derived.Test.YtjiiikeniocmfaaGreatMNum6
import Derived.IntWalk
import Derived.Test.YtjiiikeniocmfaaGreatMQCont
set_option linter.unusedSimpArgs false
set_option linter.unusedVariables false
namespace Go.Proofs.YtjiiikeniocmfaaGreat
open Go.RowKit Go.Geo
attribute [local go_sem] Oper.semAt_some
def ofL (U : Int) : Nat → List Int
  | 0 => [0, 0, 0, 0, 0, 0, 0, 0, 0, 0, 0, 0]
  | 1 => [U % 65536, 0, 0, 0, 0, 0, 0, 0, 0, 0, 0, 0]
  | 2 => [U % 65536, U / 65536 % 65536, 0, 0, 0, 0, 0, 0, 0, 0, 0, 0]
  | 3 => [U % 65536, U / 65536 % 65536, U / 4294967296 % 65536, 0, 0, 0, 0, 0, 0, 0, 0, 0]
  | _ => [U % 65536, U / 65536 % 65536, U / 4294967296 % 65536, U / 281474976710656 % 65536, 0, 0, 0, 0, 0, 0, 0, 0]
theorem of_canon (n U : Int) (q : Bool) (hq : q = decide (n < 0)) (hU : U = if n < 0 then -n else n) (h1 : -4611686018427387904 ≤ n) (h2 : n ≤ 4611686018427387904) : Canon q (ofL U 4) n ∧ Four (ofL U 4) := by
  have u0 : 0 ≤ U := by rw [hU]; split <;> omega
  have u1 : U ≤ 4611686018427387904 := by rw [hU]; split <;> omega
  have hv : valD (ofL U 4) = U := by
    simp only [ofL, valD]
    omega
  refine ⟨⟨rfl, ?_, ?_, ?_⟩, ?_⟩
  · intro d hd
    simp only [ofL, List.mem_cons, List.not_mem_nil, or_false] at hd
    omega
  · unfold numZ
    rw [hv, hU, hq]
    by_cases h : n < 0 <;> simp [h]
  · rw [hv, hU, hq]
    intro h
    by_cases h0 : n < 0
    · rw [if_pos h0] at h; omega
    · simp [h0]
  · intro j hj
    by_cases h : j < 12
    · have : j = 4 ∨ j = 5 ∨ j = 6 ∨ j = 7 ∨ j = 8 ∨ j = 9 ∨ j = 10 ∨ j = 11 := by omega
      rcases this with rfl | rfl | rfl | rfl | rfl | rfl | rfl | rfl <;> rfl
    · rw [List.getD_eq_getElem?_getD, List.getElem?_eq_none (by show (12:Nat) ≤ j; omega)]; rfl
theorem of_end {fn : Func} {p : Tmp} {w2 w3 : World} {a : Act} {q n0 : Bool} {D D0 : List Int} {g : Nat} {Q : Ending → World → Prop} (h : fn.results = #[.cell p 220]) (hp : a.tmps.getD p undef = .pointer (some ⟨g, 0, none⟩)) (hd : a.defers = [])
    (hr : w2.heap[g]? = some (.cells (numA n0 D0) 220 (0, 0))) (hl0 : D0.length = 12) (hl : D.length = 12) (hq : Q (.returned (.agg (numA q D))) (w2.setCells g 0 (numA q D).toList)) (hw : w3 = w2.setCells g 0 (numA q D).toList) :
    bodyPost Tryz.prog fn Q .ret a w3 := by
  subst hw
  have hrow := put13 hr hl0 (numA q D) (numA_size hl)
  exact bodyPost_ret (results_cell_row h a.tmps _ _ _ _ _ _ hp hrow Tryz.underlying220 rfl (by rw [numA_size hl]; exact info_num)) hd hq
theorem mask16 (z : Int) (h0 : 0 ≤ z) (h1 : z < 18446744073709551616) : bits .and .u64 z 65535 = z % 65536 := by go_bits2
set_option maxRecDepth 100000 in
set_option maxHeartbeats 4000000 in
theorem Of_any (n : Int) (w : World) (h1 : -4611686018427387904 ≤ n) (h2 : n ≤ 4611686018427387904) :
    Calls Tryz.prog 179 #[.int .i64 n] w fun e w' => ∃ neg D, e = .returned (.agg (numA neg D)) ∧ Canon neg D n ∧ Four D ∧ Grew w w' := by
  obtain ⟨U, hU⟩ : ∃ U, U = if n < 0 then -n else n := ⟨_, rfl⟩
  obtain ⟨q, hq⟩ : ∃ q, q = decide (n < 0) := ⟨_, rfl⟩
  have hc := of_canon n U q hq hU h1 h2
  have u0 : 0 ≤ U := by rw [hU]; split <;> omega
  have u1 : U ≤ 4611686018427387904 := by rw [hU]; split <;> omega
  obtain ⟨Q, hQ⟩ : ∃ Q : Ending → World → Prop, Q = fun e w' => ∃ neg D, e = .returned (.agg (numA neg D)) ∧ Canon neg D n ∧ Four D ∧ Grew w w' := ⟨_, rfl⟩
  rw [← hQ]
  have HQ := Lib.hid (And.intro hQ hc)
  clear hQ hc
  obtain ⟨W0, hW0⟩ : ∃ W, W = (w.alloc (.cells (numA false [0,0,0,0,0,0,0,0,0,0,0,0]) 220)).alloc (.cells (numA q [0,0,0,0,0,0,0,0,0,0,0,0]) 220) := ⟨_, rfl⟩
  have h0r : W0.heap[w.heap.size]? = some (.cells (numA false [0,0,0,0,0,0,0,0,0,0,0,0]) 220 (0, 0)) := by
    rw [hW0]; exact (Below.heap_alloc _ _ _ (by simp)).trans (alloc_new _ _)
  have h1r : W0.heap[w.heap.size + 1]? = some (.cells (numA q [0,0,0,0,0,0,0,0,0,0,0,0]) 220 (0, 0)) := by
    rw [hW0]; exact alloc_new2 _ _ _
  have hg0 : Grew w W0 := by rw [hW0]; exact ((Grew.refl _).alloc _).alloc _
  have H0 := Lib.hid (And.intro h0r (And.intro h1r hg0))
  simp only [numA_lit] at hW0
  clear h0r h1r hg0
  have tail : ∀ (wr : World) (F : List Int), F = ofL U 4 → Hid (wr.heap[w.heap.size]? = some (.cells (numA false [0,0,0,0,0,0,0,0,0,0,0,0]) 220 (0, 0)) ∧ wr.heap[w.heap.size + 1]? = some (.cells (numA q F) 220 (0, 0)) ∧ Grew w wr) → Q (.returned (.agg (numA q (ofL U 4)))) (wr.setCells w.heap.size 0 (numA q (ofL U 4)).toList) := by
    intro wr F hF hr
    rw [HQ.out.1]
    exact ⟨q, _, rfl, HQ.out.2.1, HQ.out.2.2, grew_setCells hr.out.2.2 (Nat.le_refl _) _ _⟩
  have HT := Lib.hid tail
  clear tail
  by_cases hn : n < 0
  · skip
    obtain ⟨a0, ha0⟩ : ∃ a, a = n + 18446744073709551616 := ⟨_, rfl⟩
    have s1 : IntKind.u64.wrap n = a0 := by rw [IntKind.wrap_u64]; omega
    have s2 : IntKind.u64.wrap (-a0) = U := by rw [IntKind.wrap_u64, hU, if_pos hn]; omega
    have hqq : q = true := by rw [hq]; simp [hn]
    subst hqq
    clear ha0
    clear hU hq
    go_enter Tryz.func179, Tryz.ntmps179
    go_wp2_with fail
    try rw [← hW0]
    have HW0 := Lib.hid hW0
    clear hW0 s1 hn s2
    go_loopw [5] (fun i wr => ∃ k : Nat, k ≤ 4 ∧ i = .int .i64 k ∧ ∃ F, F = ofL U k ∧ Hid (wr.heap[w.heap.size]? = some (.cells (numA false [0,0,0,0,0,0,0,0,0,0,0,0]) 220 (0, 0)) ∧ wr.heap[w.heap.size + 1]? = some (.cells (numA true F) 220 (0, 0)) ∧ Grew w wr)) (fun i _ => 4 - (intOf i).toNat)
    case atStart => exact ⟨0, by omega, rfl, _, rfl, H0⟩
    case round =>
      obtain ⟨k, hk, rfl, F, hF, hr⟩ := hrel
      by_cases hlt : k < 4
      · have hcase : k = 0 ∨ k = 1 ∨ k = 2 ∨ k = 3 := by omega
        rcases hcase with rfl | rfl | rfl | rfl
        · obtain ⟨f0, f1, f2, f3, f4, f5, f6, f7, f8, f9, f10, f11, f12⟩ := fro13 hr.out.2.1
          obtain ⟨x0, x1, x2, x3, x4, x5, x6, x7, x8, x9, x10, x11, x12⟩ := num13 (by have h := hr.out.2.1; rw [hF] at h; exact h)
          obtain ⟨v, hv⟩ : ∃ v, v = U % 65536 := ⟨_, rfl⟩
          have hm : bits .and .u64 (U) 65535 = v := by rw [hv]; exact mask16 _ (by omega) (by omega)
          have hm2 : (bits .and .u64 (U) 65535 : Int) = v := hm
          have v0 : 0 ≤ v := by omega
          have v1 : v ≤ 65535 := by omega
          have HV := Lib.hid hv
          clear hv f0 x0 f2 x2 f3 x3 f4 x4 f5 x5 f6 x6 f7 x7 f8 x8 f9 x9 f10 x10 f11 x11 f12 x12
          go_wp2_with fail
          go_roundw
          case rel =>
            refine ⟨1, by omega, by go_num, _, rfl, Lib.hid ⟨?_, ?_, ?_⟩⟩
            · exact (heap_other (by omega)).trans hr.out.1
            · have hp := num_put hr.out.2.1 0 v
              rw [hF] at hp
              rw [HV.out] at hp ⊢
              exact hp
            · exact grew_setCell hr.out.2.2 (by omega) _
          case measure => simp [intOf]
        · obtain ⟨f0, f1, f2, f3, f4, f5, f6, f7, f8, f9, f10, f11, f12⟩ := fro13 hr.out.2.1
          obtain ⟨x0, x1, x2, x3, x4, x5, x6, x7, x8, x9, x10, x11, x12⟩ := num13 (by have h := hr.out.2.1; rw [hF] at h; exact h)
          obtain ⟨v, hv⟩ : ∃ v, v = U / 65536 % 65536 := ⟨_, rfl⟩
          have hm : bits .and .u64 (U / 65536) 65535 = v := by rw [hv]; exact mask16 _ (by omega) (by omega)
          have hm2 : (bits .and .u64 (U / 65536) 65535 : Int) = v := hm
          have v0 : 0 ≤ v := by omega
          have v1 : v ≤ 65535 := by omega
          have HV := Lib.hid hv
          clear hv f0 x0 f1 x1 f3 x3 f4 x4 f5 x5 f6 x6 f7 x7 f8 x8 f9 x9 f10 x10 f11 x11 f12 x12
          go_wp2_with fail
          go_roundw
          case rel =>
            refine ⟨2, by omega, by go_num, _, rfl, Lib.hid ⟨?_, ?_, ?_⟩⟩
            · exact (heap_other (by omega)).trans hr.out.1
            · have hp := num_put hr.out.2.1 1 v
              rw [hF] at hp
              rw [HV.out] at hp ⊢
              exact hp
            · exact grew_setCell hr.out.2.2 (by omega) _
          case measure => simp [intOf]
        · obtain ⟨f0, f1, f2, f3, f4, f5, f6, f7, f8, f9, f10, f11, f12⟩ := fro13 hr.out.2.1
          obtain ⟨x0, x1, x2, x3, x4, x5, x6, x7, x8, x9, x10, x11, x12⟩ := num13 (by have h := hr.out.2.1; rw [hF] at h; exact h)
          obtain ⟨v, hv⟩ : ∃ v, v = U / 4294967296 % 65536 := ⟨_, rfl⟩
          have hm : bits .and .u64 (U / 4294967296) 65535 = v := by rw [hv]; exact mask16 _ (by omega) (by omega)
          have hm2 : (bits .and .u64 (U / 4294967296) 65535 : Int) = v := hm
          have v0 : 0 ≤ v := by omega
          have v1 : v ≤ 65535 := by omega
          have HV := Lib.hid hv
          clear hv f0 x0 f1 x1 f2 x2 f4 x4 f5 x5 f6 x6 f7 x7 f8 x8 f9 x9 f10 x10 f11 x11 f12 x12
          go_wp2_with fail
          go_roundw
          case rel =>
            refine ⟨3, by omega, by go_num, _, rfl, Lib.hid ⟨?_, ?_, ?_⟩⟩
            · exact (heap_other (by omega)).trans hr.out.1
            · have hp := num_put hr.out.2.1 2 v
              rw [hF] at hp
              rw [HV.out] at hp ⊢
              exact hp
            · exact grew_setCell hr.out.2.2 (by omega) _
          case measure => simp [intOf]
        · obtain ⟨f0, f1, f2, f3, f4, f5, f6, f7, f8, f9, f10, f11, f12⟩ := fro13 hr.out.2.1
          obtain ⟨x0, x1, x2, x3, x4, x5, x6, x7, x8, x9, x10, x11, x12⟩ := num13 (by have h := hr.out.2.1; rw [hF] at h; exact h)
          obtain ⟨v, hv⟩ : ∃ v, v = U / 281474976710656 % 65536 := ⟨_, rfl⟩
          have hm : bits .and .u64 (U / 281474976710656) 65535 = v := by rw [hv]; exact mask16 _ (by omega) (by omega)
          have hm2 : (bits .and .u64 (U / 281474976710656) 65535 : Int) = v := hm
          have v0 : 0 ≤ v := by omega
          have v1 : v ≤ 65535 := by omega
          have HV := Lib.hid hv
          clear hv f0 x0 f1 x1 f2 x2 f3 x3 f5 x5 f6 x6 f7 x7 f8 x8 f9 x9 f10 x10 f11 x11 f12 x12
          go_wp2_with fail
          go_roundw
          case rel =>
            refine ⟨4, by omega, by go_num, _, rfl, Lib.hid ⟨?_, ?_, ?_⟩⟩
            · exact (heap_other (by omega)).trans hr.out.1
            · have hp := num_put hr.out.2.1 3 v
              rw [hF] at hp
              rw [HV.out] at hp ⊢
              exact hp
            · exact grew_setCell hr.out.2.2 (by omega) _
          case measure => simp [intOf]
      · obtain rfl : k = 4 := by omega
        have ht := HT.out wr F hF hr
        obtain ⟨x0, x1, x2, x3, x4, x5, x6, x7, x8, x9, x10, x11, x12⟩ := num13 (by rw [hF] at hr; exact hr.out.2.1)
        obtain ⟨f0, f1, f2, f3, f4, f5, f6, f7, f8, f9, f10, f11, f12⟩ := fro13 hr.out.1
        obtain ⟨y0, y1, y2, y3, y4, y5, y6, y7, y8, y9, y10, y11, y12⟩ := num13 hr.out.1
        have HTT := Lib.hid (And.intro ht ht)
        clear ht
        go_wp2_with fail
        exact of_end (g := w.heap.size) (D := ofL U 4) rfl rfl rfl hr.out.1 rfl rfl HTT.out.1 rfl
  · skip
    have s1 : IntKind.u64.wrap n = U := by rw [IntKind.wrap_u64, hU, if_neg hn]; omega
    have hqq : q = false := by rw [hq]; simp [hn]
    subst hqq
    clear hU hq
    go_enter Tryz.func179, Tryz.ntmps179
    go_wp2_with fail
    try rw [← hW0]
    have HW0 := Lib.hid hW0
    clear hW0 s1 hn
    go_loopw [5] (fun i wr => ∃ k : Nat, k ≤ 4 ∧ i = .int .i64 k ∧ ∃ F, F = ofL U k ∧ Hid (wr.heap[w.heap.size]? = some (.cells (numA false [0,0,0,0,0,0,0,0,0,0,0,0]) 220 (0, 0)) ∧ wr.heap[w.heap.size + 1]? = some (.cells (numA false F) 220 (0, 0)) ∧ Grew w wr)) (fun i _ => 4 - (intOf i).toNat)
    case atStart => exact ⟨0, by omega, rfl, _, rfl, H0⟩
    case round =>
      obtain ⟨k, hk, rfl, F, hF, hr⟩ := hrel
      by_cases hlt : k < 4
      · have hcase : k = 0 ∨ k = 1 ∨ k = 2 ∨ k = 3 := by omega
        rcases hcase with rfl | rfl | rfl | rfl
        · obtain ⟨f0, f1, f2, f3, f4, f5, f6, f7, f8, f9, f10, f11, f12⟩ := fro13 hr.out.2.1
          obtain ⟨x0, x1, x2, x3, x4, x5, x6, x7, x8, x9, x10, x11, x12⟩ := num13 (by have h := hr.out.2.1; rw [hF] at h; exact h)
          obtain ⟨v, hv⟩ : ∃ v, v = U % 65536 := ⟨_, rfl⟩
          have hm : bits .and .u64 (U) 65535 = v := by rw [hv]; exact mask16 _ (by omega) (by omega)
          have hm2 : (bits .and .u64 (U) 65535 : Int) = v := hm
          have v0 : 0 ≤ v := by omega
          have v1 : v ≤ 65535 := by omega
          have HV := Lib.hid hv
          clear hv f0 x0 f2 x2 f3 x3 f4 x4 f5 x5 f6 x6 f7 x7 f8 x8 f9 x9 f10 x10 f11 x11 f12 x12
          go_wp2_with fail
          go_roundw
          case rel =>
            refine ⟨1, by omega, by go_num, _, rfl, Lib.hid ⟨?_, ?_, ?_⟩⟩
            · exact (heap_other (by omega)).trans hr.out.1
            · have hp := num_put hr.out.2.1 0 v
              rw [hF] at hp
              rw [HV.out] at hp ⊢
              exact hp
            · exact grew_setCell hr.out.2.2 (by omega) _
          case measure => simp [intOf]
        · obtain ⟨f0, f1, f2, f3, f4, f5, f6, f7, f8, f9, f10, f11, f12⟩ := fro13 hr.out.2.1
          obtain ⟨x0, x1, x2, x3, x4, x5, x6, x7, x8, x9, x10, x11, x12⟩ := num13 (by have h := hr.out.2.1; rw [hF] at h; exact h)
          obtain ⟨v, hv⟩ : ∃ v, v = U / 65536 % 65536 := ⟨_, rfl⟩
          have hm : bits .and .u64 (U / 65536) 65535 = v := by rw [hv]; exact mask16 _ (by omega) (by omega)
          have hm2 : (bits .and .u64 (U / 65536) 65535 : Int) = v := hm
          have v0 : 0 ≤ v := by omega
          have v1 : v ≤ 65535 := by omega
          have HV := Lib.hid hv
          clear hv f0 x0 f1 x1 f3 x3 f4 x4 f5 x5 f6 x6 f7 x7 f8 x8 f9 x9 f10 x10 f11 x11 f12 x12
          go_wp2_with fail
          go_roundw
          case rel =>
            refine ⟨2, by omega, by go_num, _, rfl, Lib.hid ⟨?_, ?_, ?_⟩⟩
            · exact (heap_other (by omega)).trans hr.out.1
            · have hp := num_put hr.out.2.1 1 v
              rw [hF] at hp
              rw [HV.out] at hp ⊢
              exact hp
            · exact grew_setCell hr.out.2.2 (by omega) _
          case measure => simp [intOf]
        · obtain ⟨f0, f1, f2, f3, f4, f5, f6, f7, f8, f9, f10, f11, f12⟩ := fro13 hr.out.2.1
          obtain ⟨x0, x1, x2, x3, x4, x5, x6, x7, x8, x9, x10, x11, x12⟩ := num13 (by have h := hr.out.2.1; rw [hF] at h; exact h)
          obtain ⟨v, hv⟩ : ∃ v, v = U / 4294967296 % 65536 := ⟨_, rfl⟩
          have hm : bits .and .u64 (U / 4294967296) 65535 = v := by rw [hv]; exact mask16 _ (by omega) (by omega)
          have hm2 : (bits .and .u64 (U / 4294967296) 65535 : Int) = v := hm
          have v0 : 0 ≤ v := by omega
          have v1 : v ≤ 65535 := by omega
          have HV := Lib.hid hv
          clear hv f0 x0 f1 x1 f2 x2 f4 x4 f5 x5 f6 x6 f7 x7 f8 x8 f9 x9 f10 x10 f11 x11 f12 x12
          go_wp2_with fail
          go_roundw
          case rel =>
            refine ⟨3, by omega, by go_num, _, rfl, Lib.hid ⟨?_, ?_, ?_⟩⟩
            · exact (heap_other (by omega)).trans hr.out.1
            · have hp := num_put hr.out.2.1 2 v
              rw [hF] at hp
              rw [HV.out] at hp ⊢
              exact hp
            · exact grew_setCell hr.out.2.2 (by omega) _
          case measure => simp [intOf]
        · obtain ⟨f0, f1, f2, f3, f4, f5, f6, f7, f8, f9, f10, f11, f12⟩ := fro13 hr.out.2.1
          obtain ⟨x0, x1, x2, x3, x4, x5, x6, x7, x8, x9, x10, x11, x12⟩ := num13 (by have h := hr.out.2.1; rw [hF] at h; exact h)
          obtain ⟨v, hv⟩ : ∃ v, v = U / 281474976710656 % 65536 := ⟨_, rfl⟩
          have hm : bits .and .u64 (U / 281474976710656) 65535 = v := by rw [hv]; exact mask16 _ (by omega) (by omega)
          have hm2 : (bits .and .u64 (U / 281474976710656) 65535 : Int) = v := hm
          have v0 : 0 ≤ v := by omega
          have v1 : v ≤ 65535 := by omega
          have HV := Lib.hid hv
          clear hv f0 x0 f1 x1 f2 x2 f3 x3 f5 x5 f6 x6 f7 x7 f8 x8 f9 x9 f10 x10 f11 x11 f12 x12
          go_wp2_with fail
          go_roundw
          case rel =>
            refine ⟨4, by omega, by go_num, _, rfl, Lib.hid ⟨?_, ?_, ?_⟩⟩
            · exact (heap_other (by omega)).trans hr.out.1
            · have hp := num_put hr.out.2.1 3 v
              rw [hF] at hp
              rw [HV.out] at hp ⊢
              exact hp
            · exact grew_setCell hr.out.2.2 (by omega) _
          case measure => simp [intOf]
      · obtain rfl : k = 4 := by omega
        have ht := HT.out wr F hF hr
        obtain ⟨x0, x1, x2, x3, x4, x5, x6, x7, x8, x9, x10, x11, x12⟩ := num13 (by rw [hF] at hr; exact hr.out.2.1)
        obtain ⟨f0, f1, f2, f3, f4, f5, f6, f7, f8, f9, f10, f11, f12⟩ := fro13 hr.out.1
        obtain ⟨y0, y1, y2, y3, y4, y5, y6, y7, y8, y9, y10, y11, y12⟩ := num13 hr.out.1
        have HTT := Lib.hid (And.intro ht ht)
        clear ht
        go_wp2_with fail
        exact of_end (g := w.heap.size) (D := ofL U 4) rfl rfl rfl hr.out.1 rfl rfl HTT.out.1 rfl
end Go.Proofs.YtjiiikeniocmfaaGreat

/- the document's numbers: Sign -/
set_option linter.unusedSimpArgs false
set_option linter.unusedVariables false
namespace Go.Proofs.YtjiiikeniocmfaaGreat
open Go.RowKit Go.Geo
attribute [local go_sem] Oper.semAt_some
theorem canon_abs {n : Bool} {D : List Int} {z : Int} (h : Canon n D z) : valD D = (z.natAbs : Int) := by
  obtain ⟨_, h2, h3, _⟩ := h
  have := (valD_range D h2).1
  unfold numZ at h3
  cases n <;> simp at h3 <;> omega
theorem prod_abs (a b : Int) (ha : -4611686018427387904 ≤ a ∧ a ≤ 4611686018427387904) (hb : -4611686018427387904 ≤ b ∧ b ≤ 4611686018427387904) : (a * b).natAbs ≤ 4611686018427387904 * 4611686018427387904 := by
  rw [Int.natAbs_mul]
  exact Nat.mul_le_mul (by omega) (by omega)
set_option maxRecDepth 100000 in
set_option maxHeartbeats 4000000 in
theorem rSign_any (a b c d : Int) (w : World) (ha : -4611686018427387904 ≤ a ∧ a ≤ 4611686018427387904) (hb : -4611686018427387904 ≤ b ∧ b ≤ 4611686018427387904) (hc : -4611686018427387904 ≤ c ∧ c ≤ 4611686018427387904) (hd : -4611686018427387904 ≤ d ∧ d ≤ 4611686018427387904) :
    Calls Tryz.prog 157 #[.int .i64 a, .int .i64 b, .int .i64 c, .int .i64 d] w fun e w' => e = .returned (.int .i64 (sgnN (a * b - c * d))) ∧ Grew w w' := by
  have HO := Lib.hid (fun (n : Int) (w : World) (h : -4611686018427387904 ≤ n ∧ n ≤ 4611686018427387904) => Of_any n w h.1 h.2)
  have HB := Lib.hid (And.intro ha (And.intro hb (And.intro hc hd)))
  have b1 := prod_abs a b ha hb
  have b2 := prod_abs c d hc hd
  have HP := Lib.hid (And.intro b1 b2)
  clear ha hb hc hd b1 b2
  go_enter Tryz.func157, Tryz.ntmps157
  go_wp2_with fail
  refine (HO.out _ _ HB.out.1).mono ?_
  rintro e w1 ⟨n1, D1, rfl, c1, f1, g1⟩
  have H1 := Lib.hid (And.intro c1 (And.intro f1 g1))
  clear c1 f1 g1
  go_wp2_with fail
  refine (HO.out _ _ HB.out.2.1).mono ?_
  rintro e w2 ⟨n2, D2, rfl, c2, f2, g2⟩
  have H2 := Lib.hid (And.intro c2 (And.intro f2 (H1.out.2.2.trans g2)))
  clear c2 f2 g2
  go_wp2_with fail
  refine (Mul_num _ _ _ _ _ _ _ H1.out.1 H2.out.1 H1.out.2.1 H2.out.2.1).mono ?_
  rintro e w3 ⟨n3, D3, rfl, c3, g3⟩
  have H3 := Lib.hid (And.intro c3 (H2.out.2.2.trans g3))
  clear c3 g3
  go_wp2_with fail
  refine (HO.out _ _ HB.out.2.2.1).mono ?_
  rintro e w4 ⟨n4, D4, rfl, c4, f4, g4⟩
  have H4 := Lib.hid (And.intro c4 (And.intro f4 (H3.out.2.trans g4)))
  clear c4 f4 g4
  go_wp2_with fail
  refine (HO.out _ _ HB.out.2.2.2).mono ?_
  rintro e w5 ⟨n5, D5, rfl, c5, f5, g5⟩
  have H5 := Lib.hid (And.intro c5 (And.intro f5 (H4.out.2.2.trans g5)))
  clear c5 f5 g5
  go_wp2_with fail
  refine (Mul_num _ _ _ _ _ _ _ H4.out.1 H5.out.1 H4.out.2.1 H5.out.2.1).mono ?_
  rintro e w6 ⟨n6, D6, rfl, c6, g6⟩
  have H6 := Lib.hid (And.intro c6 (H5.out.2.2.trans g6))
  clear c6 g6
  go_wp2_with fail
  refine (Less_any _ _ _ _ H6.out.1).mono ?_
  rintro e w7 ⟨n7, D7, rfl, c7, g7⟩
  have H7 := Lib.hid (And.intro c7 (H6.out.2.trans g7))
  clear c7 g7
  go_wp2_with fail
  refine (Plus_num _ _ _ _ _ _ _ H3.out.1 H7.out.1 (by
    rw [canon_abs H3.out.1, canon_abs H7.out.1]
    have h1 := HP.out.1
    have h2 := HP.out.2
    rw [show (-(c * d)).natAbs = (c * d).natAbs from Int.natAbs_neg _]
    have e : (65536 : Int) ^ 12 = 6277101735386680763835789423207666416102355444464034512896 := by decide
    rw [e]
    generalize (a * b).natAbs = p at *
    generalize (c * d).natAbs = q at *
    omega)).mono ?_
  rintro e w8 ⟨n8, D8, rfl, c8, g8⟩
  have H8 := Lib.hid (And.intro c8 (H7.out.2.trans g8))
  clear c8 g8
  go_wp2_with fail
  refine (Sgn_any _ _ _ _ H8.out.1).mono ?_
  rintro e w9 ⟨rfl, g9⟩
  have H9 := Lib.hid (H8.out.2.trans g9)
  clear g9
  go_wp2_with fail
  go_ret
  exact ⟨by rw [Int.sub_eq_add_neg]; rfl, H9.out⟩
end Go.Proofs.YtjiiikeniocmfaaGreat

/- the document's points: fits, Valid, between, Turn, On -/
set_option linter.unusedSimpArgs false
set_option linter.unusedVariables false
namespace Go.Proofs.YtjiiikeniocmfaaGreat
open Go.RowKit Go.Geo
theorem three_cells {w w5 : World} {ax ay bx bY cx cy : Int} (hg : Grew (((w.alloc (Obj.cells #[.int .i64 ax, .int .i64 ay] 24)).alloc (Obj.cells #[.int .i64 bx, .int .i64 bY] 24)).alloc (Obj.cells #[.int .i64 cx, .int .i64 cy] 24)) w5) :
    Grew w w5 ∧ w5.cell? ⟨w.heap.size, 0, none⟩ = some (.int .i64 ax) ∧ w5.cell? ⟨w.heap.size, 1, none⟩ = some (.int .i64 ay) ∧ w5.cell? ⟨w.heap.size + 1, 0, none⟩ = some (.int .i64 bx) ∧ w5.cell? ⟨w.heap.size + 1, 1, none⟩ = some (.int .i64 bY) ∧ w5.cell? ⟨w.heap.size + 1 + 1, 0, none⟩ = some (.int .i64 cx) ∧ w5.cell? ⟨w.heap.size + 1 + 1, 1, none⟩ = some (.int .i64 cy) := by
  have hs : ((w.alloc (Obj.cells #[.int .i64 ax, .int .i64 ay] 24)).alloc (Obj.cells #[.int .i64 bx, .int .i64 bY] 24)).heap.size = w.heap.size + 1 + 1 := by simp
  refine ⟨((((Grew.refl w).alloc _).alloc _).alloc _).trans hg, ?_, ?_, ?_, ?_, ?_, ?_⟩
  · exact hg.cell ((((Grew.refl _).alloc _).alloc _).cell (cell_of_row _ _ _ _ _ _ (alloc_new w _)))
  · exact hg.cell ((((Grew.refl _).alloc _).alloc _).cell (cell_of_row _ _ _ _ _ _ (alloc_new w _)))
  · exact hg.cell (((Grew.refl _).alloc _).cell (cell_of_row _ _ _ _ _ _ (alloc_new2 w _ _)))
  · exact hg.cell (((Grew.refl _).alloc _).cell (cell_of_row _ _ _ _ _ _ (alloc_new2 w _ _)))
  · exact hg.cell (by rw [← hs]; exact cell_of_row _ _ _ _ _ _ (alloc_new _ _))
  · exact hg.cell (by rw [← hs]; exact cell_of_row _ _ _ _ _ _ (alloc_new _ _))
theorem rfits_any (n : Int) (w : World) :
    Calls Tryz.prog 121 #[.int .i64 n] w fun e w' => e = .returned (.bool (fitsC n)) ∧ w = w' := by
  unfold fitsC
  by_cases h1 : -1099511627775 ≤ n
  · by_cases h2 : n ≤ 1099511627775
    · go_enter Tryz.func121, Tryz.ntmps121
      go_wp2
      go_ret
      exact ⟨by simp [h1, h2], rfl⟩
    · go_enter Tryz.func121, Tryz.ntmps121
      go_wp2
      go_ret
      exact ⟨by simp; omega, rfl⟩
  · go_enter Tryz.func121, Tryz.ntmps121
    go_wp2
    go_ret
    exact ⟨by simp; omega, rfl⟩
theorem rValid_any (p : Pt) (w : World) :
    Calls Tryz.prog 91 #[ptV p] w fun e w' => e = .returned (.bool (validP p)) ∧ Grew w w' := by
  obtain ⟨x, y⟩ := p
  unfold validP ptV
  dsimp only
  have HX := Lib.hid (rfits_any x)
  have HY := Lib.hid (rfits_any y)
  generalize fitsC x = b at *
  generalize fitsC y = c at *
  cases b
  · go_enter Tryz.func91, Tryz.ntmps91
    go_wp2_with fail
    refine (HX.out _).mono ?_
    rintro e w' ⟨rfl, rfl⟩
    go_wp2_with fail
    go_ret
    exact ⟨rfl, (Grew.refl _).alloc _⟩
  · go_enter Tryz.func91, Tryz.ntmps91
    go_wp2_with fail
    refine (HX.out _).mono ?_
    rintro e w' ⟨rfl, rfl⟩
    go_wp2_with fail
    refine (HY.out _).mono ?_
    rintro e w' ⟨rfl, rfl⟩
    go_wp2_with fail
    go_ret
    exact ⟨rfl, (Grew.refl _).alloc _⟩
theorem rbetween_any (n a b : Int) (w : World) :
    Calls Tryz.prog 158 #[.int .i64 n, .int .i64 a, .int .i64 b] w fun e w' => e = .returned (.bool (betw n a b)) ∧ w = w' := by
  unfold betw
  by_cases hab : a ≤ b
  · by_cases h1 : a ≤ n
    · by_cases hab2 : a < b
      · go_enter Tryz.func158, Tryz.ntmps158
        go_wp2
        all_goals (go_ret; refine ⟨ret_bool ?_, rfl⟩; first | (simp only [Bool.and_eq_true, decide_eq_true_eq, true_iff, Bool.false_eq_true, false_iff]; omega) | (simp only [Bool.and_eq_true, decide_eq_true_eq]; omega))
      · have hab3 : b ≤ a := by omega
        go_enter Tryz.func158, Tryz.ntmps158
        go_wp2
        all_goals (go_ret; refine ⟨ret_bool ?_, rfl⟩; first | (simp only [Bool.and_eq_true, decide_eq_true_eq, true_iff, Bool.false_eq_true, false_iff]; omega) | (simp only [Bool.and_eq_true, decide_eq_true_eq]; omega))
    · go_enter Tryz.func158, Tryz.ntmps158
      go_wp2
      all_goals (go_ret; refine ⟨ret_bool ?_, rfl⟩; first | (simp only [Bool.and_eq_true, decide_eq_true_eq, true_iff, Bool.false_eq_true, false_iff]; omega) | (simp only [Bool.and_eq_true, decide_eq_true_eq]; omega))
  · have hab3 : b < a := by omega
    have hab4 : b ≤ a := by omega
    by_cases h1 : b ≤ n
    · go_enter Tryz.func158, Tryz.ntmps158
      go_wp2
      all_goals (go_ret; refine ⟨ret_bool ?_, rfl⟩; first | (simp only [Bool.and_eq_true, decide_eq_true_eq, true_iff, Bool.false_eq_true, false_iff]; omega) | (simp only [Bool.and_eq_true, decide_eq_true_eq]; omega))
    · go_enter Tryz.func158, Tryz.ntmps158
      go_wp2
      all_goals (go_ret; refine ⟨ret_bool ?_, rfl⟩; first | (simp only [Bool.and_eq_true, decide_eq_true_eq, true_iff, Bool.false_eq_true, false_iff]; omega) | (simp only [Bool.and_eq_true, decide_eq_true_eq]; omega))
set_option maxRecDepth 100000 in
set_option maxHeartbeats 1000000 in
theorem rTurn_any (a b c : Pt) (w : World) :
    Calls Tryz.prog 123 #[ptV a, ptV b, ptV c] w fun e w' => e = .returned (.int .i64 (turnP a b c)) ∧ Grew w w' := by
  have HA := Lib.hid (rValid_any a)
  have HB := Lib.hid (rValid_any b)
  have HC := Lib.hid (rValid_any c)
  obtain ⟨t, ht⟩ : ∃ t, t = turnP a b c := ⟨_, rfl⟩
  rw [← ht]
  unfold turnP at ht
  obtain ⟨va, hva⟩ : ∃ v, v = validP a := ⟨_, rfl⟩
  obtain ⟨vb, hvb⟩ : ∃ v, v = validP b := ⟨_, rfl⟩
  obtain ⟨vc, hvc⟩ : ∃ v, v = validP c := ⟨_, rfl⟩
  rw [← hva, ← hvb, ← hvc] at ht
  rw [← hva] at HA
  rw [← hvb] at HB
  rw [← hvc] at HC
  cases va with
  | false =>
    obtain rfl : t = 0 := by simpa using ht
    clear ht hva hvb hvc
    obtain ⟨ax, ay⟩ := a
    obtain ⟨bx, bY⟩ := b
    obtain ⟨cx, cy⟩ := c
    unfold ptV at *
    dsimp only at *
    go_enter Tryz.func123, Tryz.ntmps123
    go_wp2_with fail
    refine (HA.out _).mono ?_
    rintro e w1 ⟨rfl, hg1⟩
    obtain ⟨G1, a0, a1, b0, b1, c0, c1⟩ := three_cells hg1
    have K1 := Lib.hid G1
    clear hg1 G1
    go_wp2_with fail
    go_ret
    exact ⟨rfl, K1.out⟩
  | true =>
  cases vb with
  | false =>
    obtain rfl : t = 0 := by simpa using ht
    clear ht hva hvb hvc
    obtain ⟨ax, ay⟩ := a
    obtain ⟨bx, bY⟩ := b
    obtain ⟨cx, cy⟩ := c
    unfold ptV at *
    dsimp only at *
    go_enter Tryz.func123, Tryz.ntmps123
    go_wp2_with fail
    refine (HA.out _).mono ?_
    rintro e w1 ⟨rfl, hg1⟩
    obtain ⟨G1, a0, a1, b0, b1, c0, c1⟩ := three_cells hg1
    have K1 := Lib.hid G1
    clear hg1 G1
    go_wp2_with fail
    refine (HB.out _).mono ?_
    rintro e w2 ⟨rfl, hg2⟩
    replace a0 := hg2.cell a0
    replace a1 := hg2.cell a1
    replace b0 := hg2.cell b0
    replace b1 := hg2.cell b1
    replace c0 := hg2.cell c0
    replace c1 := hg2.cell c1
    have K2 := Lib.hid (K1.out.trans hg2)
    clear hg2 K1
    go_wp2_with fail
    go_ret
    exact ⟨rfl, K2.out⟩
  | true =>
  cases vc with
  | false =>
    obtain rfl : t = 0 := by simpa using ht
    clear ht hva hvb hvc
    obtain ⟨ax, ay⟩ := a
    obtain ⟨bx, bY⟩ := b
    obtain ⟨cx, cy⟩ := c
    unfold ptV at *
    dsimp only at *
    go_enter Tryz.func123, Tryz.ntmps123
    go_wp2_with fail
    refine (HA.out _).mono ?_
    rintro e w1 ⟨rfl, hg1⟩
    obtain ⟨G1, a0, a1, b0, b1, c0, c1⟩ := three_cells hg1
    have K1 := Lib.hid G1
    clear hg1 G1
    go_wp2_with fail
    refine (HB.out _).mono ?_
    rintro e w2 ⟨rfl, hg2⟩
    replace a0 := hg2.cell a0
    replace a1 := hg2.cell a1
    replace b0 := hg2.cell b0
    replace b1 := hg2.cell b1
    replace c0 := hg2.cell c0
    replace c1 := hg2.cell c1
    have K2 := Lib.hid (K1.out.trans hg2)
    clear hg2 K1
    go_wp2_with fail
    refine (HC.out _).mono ?_
    rintro e w3 ⟨rfl, hg3⟩
    replace a0 := hg3.cell a0
    replace a1 := hg3.cell a1
    replace b0 := hg3.cell b0
    replace b1 := hg3.cell b1
    replace c0 := hg3.cell c0
    replace c1 := hg3.cell c1
    have K3 := Lib.hid (K2.out.trans hg3)
    clear hg3 K2
    go_wp2_with fail
    go_ret
    exact ⟨rfl, K3.out⟩
  | true =>
    replace ht : t = sgnN ((b.x - a.x) * (c.y - a.y) - (b.y - a.y) * (c.x - a.x)) := by rw [ht]; rfl
    subst ht
    have va := (validP_iff a).1 hva.symm
    have vb := (validP_iff b).1 hvb.symm
    have vc := (validP_iff c).1 hvc.symm
    clear hva hvb hvc
    obtain ⟨ax, ay⟩ := a
    obtain ⟨bx, bY⟩ := b
    obtain ⟨cx, cy⟩ := c
    unfold ptV at *
    dsimp only at *
    have HS := Lib.hid (fun w => rSign_any (bx - ax) (cy - ay) (bY - ay) (cx - ax) w (by omega) (by omega) (by omega) (by omega))
    have w1 : IntKind.i64.wrap (bx - ax) = bx - ax := IntWalk.i64_in _ (by omega)
    have w2 : IntKind.i64.wrap (cy - ay) = cy - ay := IntWalk.i64_in _ (by omega)
    have w3 : IntKind.i64.wrap (bY - ay) = bY - ay := IntWalk.i64_in _ (by omega)
    have w4 : IntKind.i64.wrap (cx - ax) = cx - ax := IntWalk.i64_in _ (by omega)
    clear va vb vc
    go_enter Tryz.func123, Tryz.ntmps123
    go_wp2_with fail
    refine (HA.out _).mono ?_
    rintro e w1 ⟨rfl, hg1⟩
    obtain ⟨G1, a0, a1, b0, b1, c0, c1⟩ := three_cells hg1
    have K1 := Lib.hid G1
    clear hg1 G1
    go_wp2_with fail
    refine (HB.out _).mono ?_
    rintro e w2 ⟨rfl, hg2⟩
    replace a0 := hg2.cell a0
    replace a1 := hg2.cell a1
    replace b0 := hg2.cell b0
    replace b1 := hg2.cell b1
    replace c0 := hg2.cell c0
    replace c1 := hg2.cell c1
    have K2 := Lib.hid (K1.out.trans hg2)
    clear hg2 K1
    go_wp2_with fail
    refine (HC.out _).mono ?_
    rintro e w3 ⟨rfl, hg3⟩
    replace a0 := hg3.cell a0
    replace a1 := hg3.cell a1
    replace b0 := hg3.cell b0
    replace b1 := hg3.cell b1
    replace c0 := hg3.cell c0
    replace c1 := hg3.cell c1
    have K3 := Lib.hid (K2.out.trans hg3)
    clear hg3 K2
    go_wp2_with fail
    refine (HS.out _).mono ?_
    rintro e w7 ⟨rfl, hg7⟩
    have K7 := Lib.hid (K3.out.trans hg7)
    clear hg7
    go_wp2_with fail
    go_ret
    exact ⟨rfl, K7.out⟩
end Go.Proofs.YtjiiikeniocmfaaGreat

/- the document's points: On -/
set_option linter.unusedSimpArgs false
set_option linter.unusedVariables false
namespace Go.Proofs.YtjiiikeniocmfaaGreat
open Go.RowKit Go.Geo
set_option maxRecDepth 100000 in
set_option maxHeartbeats 1000000 in
theorem rOn_any (a b c : Pt) (w : World) :
    Calls Tryz.prog 124 #[ptV a, ptV b, ptV c] w fun e w' => e = .returned (.bool (onP a b c)) ∧ Grew w w' := by
  have HA := Lib.hid (rValid_any a)
  have HB := Lib.hid (rValid_any b)
  have HC := Lib.hid (rValid_any c)
  have HT := Lib.hid (rTurn_any b c a)
  have HX := Lib.hid (rbetween_any a.x b.x c.x)
  have HY := Lib.hid (rbetween_any a.y b.y c.y)
  have HTR := Lib.hid (turnP_range b c a)
  obtain ⟨t, ht⟩ : ∃ t, t = onP a b c := ⟨_, rfl⟩
  rw [← ht]
  unfold onP at ht
  obtain ⟨va, hva⟩ : ∃ v, v = validP a := ⟨_, rfl⟩
  obtain ⟨vb, hvb⟩ : ∃ v, v = validP b := ⟨_, rfl⟩
  obtain ⟨vc, hvc⟩ : ∃ v, v = validP c := ⟨_, rfl⟩
  obtain ⟨p, hp⟩ : ∃ v, v = betw a.x b.x c.x := ⟨_, rfl⟩
  obtain ⟨q, hq⟩ : ∃ v, v = betw a.y b.y c.y := ⟨_, rfl⟩
  obtain ⟨s, hs⟩ : ∃ v, v = turnP b c a := ⟨_, rfl⟩
  rw [← hva, ← hvb, ← hvc, ← hp, ← hq, ← hs] at ht
  rw [← hva] at HA
  rw [← hvb] at HB
  rw [← hvc] at HC
  rw [← hp] at HX
  rw [← hq] at HY
  rw [← hs] at HT HTR
  clear hva hvb hvc hp hq hs
  obtain ⟨ax, ay⟩ := a
  obtain ⟨bx, bY⟩ := b
  obtain ⟨cx, cy⟩ := c
  unfold ptV at *
  dsimp only at *
  cases va with
  | false =>
    obtain rfl : t = false := by simpa using ht
    clear ht
    go_enter Tryz.func124, Tryz.ntmps124
    go_wp2_with fail
    refine (HA.out _).mono ?_
    rintro e w1 ⟨rfl, hg1⟩
    obtain ⟨G1, a0, a1, b0, b1, c0, c1⟩ := three_cells hg1
    have K1 := Lib.hid G1
    clear hg1 G1
    go_wp2_with fail
    go_ret
    exact ⟨rfl, K1.out⟩
  | true =>
  cases vb with
  | false =>
    obtain rfl : t = false := by simpa using ht
    clear ht
    go_enter Tryz.func124, Tryz.ntmps124
    go_wp2_with fail
    refine (HA.out _).mono ?_
    rintro e w1 ⟨rfl, hg1⟩
    obtain ⟨G1, a0, a1, b0, b1, c0, c1⟩ := three_cells hg1
    have K1 := Lib.hid G1
    clear hg1 G1
    go_wp2_with fail
    refine (HB.out _).mono ?_
    rintro e w2 ⟨rfl, hg2⟩
    replace a0 := hg2.cell a0
    replace a1 := hg2.cell a1
    replace b0 := hg2.cell b0
    replace b1 := hg2.cell b1
    replace c0 := hg2.cell c0
    replace c1 := hg2.cell c1
    have K2 := Lib.hid (K1.out.trans hg2)
    clear hg2 K1
    go_wp2_with fail
    go_ret
    exact ⟨rfl, K2.out⟩
  | true =>
  cases vc with
  | false =>
    obtain rfl : t = false := by simpa using ht
    clear ht
    go_enter Tryz.func124, Tryz.ntmps124
    go_wp2_with fail
    refine (HA.out _).mono ?_
    rintro e w1 ⟨rfl, hg1⟩
    obtain ⟨G1, a0, a1, b0, b1, c0, c1⟩ := three_cells hg1
    have K1 := Lib.hid G1
    clear hg1 G1
    go_wp2_with fail
    refine (HB.out _).mono ?_
    rintro e w2 ⟨rfl, hg2⟩
    replace a0 := hg2.cell a0
    replace a1 := hg2.cell a1
    replace b0 := hg2.cell b0
    replace b1 := hg2.cell b1
    replace c0 := hg2.cell c0
    replace c1 := hg2.cell c1
    have K2 := Lib.hid (K1.out.trans hg2)
    clear hg2 K1
    go_wp2_with fail
    refine (HC.out _).mono ?_
    rintro e w3 ⟨rfl, hg3⟩
    replace a0 := hg3.cell a0
    replace a1 := hg3.cell a1
    replace b0 := hg3.cell b0
    replace b1 := hg3.cell b1
    replace c0 := hg3.cell c0
    replace c1 := hg3.cell c1
    have K3 := Lib.hid (K2.out.trans hg3)
    clear hg3 K2
    go_wp2_with fail
    go_ret
    exact ⟨rfl, K3.out⟩
  | true =>
  by_cases h0 : s = 0
  · subst h0
    cases p with
    | false =>
      obtain rfl : t = false := by simpa using ht
      clear ht
      go_enter Tryz.func124, Tryz.ntmps124
      go_wp2_with fail
      refine (HA.out _).mono ?_
      rintro e w1 ⟨rfl, hg1⟩
      obtain ⟨G1, a0, a1, b0, b1, c0, c1⟩ := three_cells hg1
      have K1 := Lib.hid G1
      clear hg1 G1
      go_wp2_with fail
      refine (HB.out _).mono ?_
      rintro e w2 ⟨rfl, hg2⟩
      replace a0 := hg2.cell a0
      replace a1 := hg2.cell a1
      replace b0 := hg2.cell b0
      replace b1 := hg2.cell b1
      replace c0 := hg2.cell c0
      replace c1 := hg2.cell c1
      have K2 := Lib.hid (K1.out.trans hg2)
      clear hg2 K1
      go_wp2_with fail
      refine (HC.out _).mono ?_
      rintro e w3 ⟨rfl, hg3⟩
      replace a0 := hg3.cell a0
      replace a1 := hg3.cell a1
      replace b0 := hg3.cell b0
      replace b1 := hg3.cell b1
      replace c0 := hg3.cell c0
      replace c1 := hg3.cell c1
      have K3 := Lib.hid (K2.out.trans hg3)
      clear hg3 K2
      go_wp2_with fail
      refine (HT.out _).mono ?_
      rintro e w4 ⟨rfl, hg4⟩
      replace a0 := hg4.cell a0
      replace a1 := hg4.cell a1
      replace b0 := hg4.cell b0
      replace b1 := hg4.cell b1
      replace c0 := hg4.cell c0
      replace c1 := hg4.cell c1
      have K4 := Lib.hid (K3.out.trans hg4)
      clear hg4 K3
      go_wp2_with fail
      refine (HX.out _).mono ?_
      rintro e w5 ⟨rfl, rfl⟩
      go_wp2_with fail
      go_ret
      exact ⟨rfl, K4.out⟩
    | true =>
      obtain rfl : t = q := by simpa using ht
      clear ht
      go_enter Tryz.func124, Tryz.ntmps124
      go_wp2_with fail
      refine (HA.out _).mono ?_
      rintro e w1 ⟨rfl, hg1⟩
      obtain ⟨G1, a0, a1, b0, b1, c0, c1⟩ := three_cells hg1
      have K1 := Lib.hid G1
      clear hg1 G1
      go_wp2_with fail
      refine (HB.out _).mono ?_
      rintro e w2 ⟨rfl, hg2⟩
      replace a0 := hg2.cell a0
      replace a1 := hg2.cell a1
      replace b0 := hg2.cell b0
      replace b1 := hg2.cell b1
      replace c0 := hg2.cell c0
      replace c1 := hg2.cell c1
      have K2 := Lib.hid (K1.out.trans hg2)
      clear hg2 K1
      go_wp2_with fail
      refine (HC.out _).mono ?_
      rintro e w3 ⟨rfl, hg3⟩
      replace a0 := hg3.cell a0
      replace a1 := hg3.cell a1
      replace b0 := hg3.cell b0
      replace b1 := hg3.cell b1
      replace c0 := hg3.cell c0
      replace c1 := hg3.cell c1
      have K3 := Lib.hid (K2.out.trans hg3)
      clear hg3 K2
      go_wp2_with fail
      refine (HT.out _).mono ?_
      rintro e w4 ⟨rfl, hg4⟩
      replace a0 := hg4.cell a0
      replace a1 := hg4.cell a1
      replace b0 := hg4.cell b0
      replace b1 := hg4.cell b1
      replace c0 := hg4.cell c0
      replace c1 := hg4.cell c1
      have K4 := Lib.hid (K3.out.trans hg4)
      clear hg4 K3
      go_wp2_with fail
      refine (HX.out _).mono ?_
      rintro e w5 ⟨rfl, rfl⟩
      go_wp2_with fail
      refine (HY.out _).mono ?_
      rintro e w6 ⟨rfl, rfl⟩
      cases t
      all_goals (
        go_wp2_with fail
        go_ret
        exact ⟨rfl, K4.out⟩)
  · obtain rfl : t = false := by simpa [h0] using ht
    clear ht
    go_enter Tryz.func124, Tryz.ntmps124
    go_wp2_with fail
    refine (HA.out _).mono ?_
    rintro e w1 ⟨rfl, hg1⟩
    obtain ⟨G1, a0, a1, b0, b1, c0, c1⟩ := three_cells hg1
    have K1 := Lib.hid G1
    clear hg1 G1
    go_wp2_with fail
    refine (HB.out _).mono ?_
    rintro e w2 ⟨rfl, hg2⟩
    replace a0 := hg2.cell a0
    replace a1 := hg2.cell a1
    replace b0 := hg2.cell b0
    replace b1 := hg2.cell b1
    replace c0 := hg2.cell c0
    replace c1 := hg2.cell c1
    have K2 := Lib.hid (K1.out.trans hg2)
    clear hg2 K1
    go_wp2_with fail
    refine (HC.out _).mono ?_
    rintro e w3 ⟨rfl, hg3⟩
    replace a0 := hg3.cell a0
    replace a1 := hg3.cell a1
    replace b0 := hg3.cell b0
    replace b1 := hg3.cell b1
    replace c0 := hg3.cell c0
    replace c1 := hg3.cell c1
    have K3 := Lib.hid (K2.out.trans hg3)
    clear hg3 K2
    go_wp2_with fail
    refine (HT.out _).mono ?_
    rintro e w4 ⟨rfl, hg4⟩
    replace a0 := hg4.cell a0
    replace a1 := hg4.cell a1
    replace b0 := hg4.cell b0
    replace b1 := hg4.cell b1
    replace c0 := hg4.cell c0
    replace c1 := hg4.cell c1
    have K4 := Lib.hid (K3.out.trans hg4)
    clear hg4 K3
    go_wp2_with fail
    go_ret
    exact ⟨rfl, K4.out⟩
end Go.Proofs.YtjiiikeniocmfaaGreat
