/- ring.ahead -/
import Derived.Test.YtgijaaklhdcgeaaQRing2
import Derived.Test.YtgijaaklhdcgeaaQTurn
import Derived.Test.YtgijaaklhdcgeaaQOn
set_option linter.unusedSimpArgs false
set_option linter.unusedVariables false
namespace Go.Proofs.Ytgijaaklhdcgeaa
open Go.RowKit Go.Geo
attribute [local go_sem] Oper.semAt_some
theorem heap_lt' {w : World} {j : Nat} {o : Obj} (h : w.heap[j]? = some o) : j < w.heap.size := (Array.getElem?_eq_some_iff.1 h).1
def aheadL (l : List Pt) : Option (Int × Int) := (firstP l.length (backP l)).map fun i => (192, (i : Int))
set_option maxRecDepth 100000 in
set_option maxHeartbeats 1000000 in
theorem ahead_any (ao : Option Addr) (n cap : Nat) (P : List Pt) (w : World) (h : IsPts w ao n cap P) (hn : 0 < n) (hs : n ≤ 1048576) :
    Calls Try.prog 58 #[.slice ao n cap] w fun e w' => e = .returned (lookV (aheadL P)) ∧ Grew w w' := by
  have HB := Lib.hid bad_any
  have HAT : Hid (∀ (i : Int) (w : World), IsPts w ao n cap P → -1 ≤ i → i ≤ n → Calls Try.prog 83 #[.slice ao n cap, .int .i64 i] w fun e w' => e = .returned (ptV (atP P (i + n).toNat)) ∧ Grew w w') := Lib.hid (fun i w h h0 h1 => at_any i ao n cap P w h hn hs h0 h1)
  have HI := Lib.hid h
  have hl := h.1
  have hA : Grew w (w.alloc (.cells #[.int .i64 0, .int .i64 0] 32)) := (Grew.refl _).alloc _
  have HA := Lib.hid hA
  clear h hA
  go_enter Try.func58, Try.ntmps58
  go_wp2
  go_loopw [10] (fun i wr => ∃ k : Nat, k ≤ n ∧ i = .int .i64 k ∧ Hid (∀ j, j < k → backP P j = false) ∧ Hid (Grew (w.alloc (.cells #[.int .i64 0, .int .i64 0] 32)) wr)) (fun i _ => n - (intOf i).toNat)
  case atStart => exact ⟨0, by omega, rfl, (fun j hj => absurd hj (by omega)), Grew.refl _⟩
  case round =>
    obtain ⟨k, hk, rfl, hq, hb⟩ := hrel
    by_cases hlt : k < n
    · have hi0 : (0 : Int) ≤ (k : Int) := by omega
      have hi5 : (k : Int) < (n : Int) := by omega
      have hp := (HI.out.grew HA.out).grew hb.out
      obtain ⟨b, off, rfl, e0, e1⟩ := hp.at hlt
      obtain ⟨c, hc⟩ : ∃ c, c = P.getD k p0 := ⟨_, rfl⟩
      rw [← hc] at e0 e1
      have HP := Lib.hid hp
      have HC := Lib.hid hc
      clear hp hc
      obtain ⟨a, ha⟩ : ∃ a, a = atP P ((k : Int) - 1 + n).toNat := ⟨_, rfl⟩
      obtain ⟨d, hd⟩ : ∃ a, a = atP P ((k : Int) + 1 + n).toNat := ⟨_, rfl⟩
      have HAK := Lib.hid (fun w hw => HAT.out ((k : Int) - 1) w hw (by omega) (by omega))
      have HDK := Lib.hid (fun w hw => HAT.out ((k : Int) + 1) w hw (by omega) (by omega))
      rw [← ha] at HAK
      rw [← hd] at HDK
      have HBK : Hid (backP P k = (decide (turnP a c d = 0) && !onP c a d)) := Lib.hid (by
        unfold backP
        rw [HC.out, ha, hd]
        have e1 : ((k : Int) - 1 + n).toNat = k + P.length - 1 := by omega
        have e2 : atP P ((k : Int) + 1 + n).toNat = atP P (k + 1) := by
          unfold atP
          rw [show ((k : Int) + 1 + n).toNat = k + 1 + P.length by omega, Nat.add_mod_right]
        rw [e1, e2])
      unfold ptV at HAK HDK
      clear ha hd
      go_wp2_with fail
      refine (HAK.out _ (HP.out.grew ((Grew.refl _).alloc _))).mono ?_
      rintro e w2 ⟨rfl, g2⟩
      have r2 : w2.heap[wr.heap.size]? = _ := (g2.1.block wr.heap.size (by simp)).trans (alloc_new _ _)
      have H2 := Lib.hid (And.intro ((((Grew.refl wr).alloc (.cells #[.int .i64 c.x, .int .i64 c.y] 27))).trans g2) r2)
      clear g2 r2
      go_wp2_with fail
      refine (HDK.out _ (HP.out.grew H2.out.1)).mono ?_
      rintro e w3 ⟨rfl, g3⟩
      have r3 := (g3.1.block wr.heap.size (heap_lt' H2.out.2)).trans H2.out.2
      have q3 := heap_lt' r3
      have rC : ((w3.alloc (.cells #[.int .i64 a.x, .int .i64 a.y] 27)).alloc (.cells #[.int .i64 d.x, .int .i64 d.y] 27)).heap[wr.heap.size]? = _ := (Below.heap_alloc _ _ _ (by simp; omega)).trans ((Below.heap_alloc _ _ _ q3).trans r3)
      have rA : ((w3.alloc (.cells #[.int .i64 a.x, .int .i64 a.y] 27)).alloc (.cells #[.int .i64 d.x, .int .i64 d.y] 27)).heap[w3.heap.size]? = _ := (Below.heap_alloc _ _ _ (by simp)).trans (alloc_new _ _)
      have rD := alloc_new2 w3 (.cells #[.int .i64 a.x, .int .i64 a.y] 27) (.cells #[.int .i64 d.x, .int .i64 d.y] 27)
      have c0 : ((w3.alloc (.cells #[.int .i64 a.x, .int .i64 a.y] 27)).alloc (.cells #[.int .i64 d.x, .int .i64 d.y] 27)).cell? ⟨wr.heap.size, 0, none⟩ = some (.int .i64 c.x) := cell_of_row _ _ _ _ _ _ rC
      have c1 : ((w3.alloc (.cells #[.int .i64 a.x, .int .i64 a.y] 27)).alloc (.cells #[.int .i64 d.x, .int .i64 d.y] 27)).cell? ⟨wr.heap.size, 1, none⟩ = some (.int .i64 c.y) := cell_of_row _ _ _ _ _ _ rC
      have H3 := Lib.hid (And.intro (((H2.out.1.trans g3).alloc (.cells #[.int .i64 a.x, .int .i64 a.y] 27)).alloc (.cells #[.int .i64 d.x, .int .i64 d.y] 27)) (And.intro rC (And.intro rA rD)))
      have HT := Lib.hid (Turn_any a c d)
      have HON := Lib.hid (On_any c a d)
      unfold ptV at HT HON
      clear g3 r3 H2 q3 rC rA rD
      go_wp2_with fail
      refine (HT.out _).mono ?_
      rintro e w5 ⟨rfl, g5⟩
      have s1 := (g5.1.block _ (heap_lt' H3.out.2.1)).trans H3.out.2.1
      have s2 := (g5.1.block _ (heap_lt' H3.out.2.2.1)).trans H3.out.2.2.1
      have s3 := (g5.1.block _ (heap_lt' H3.out.2.2.2)).trans H3.out.2.2.2
      have H5 := Lib.hid (H3.out.1.trans g5)
      have d0 : w5.cell? ⟨wr.heap.size, 0, none⟩ = some (.int .i64 c.x) := cell_of_row _ _ _ _ _ _ s1
      have d1 : w5.cell? ⟨wr.heap.size, 1, none⟩ = some (.int .i64 c.y) := cell_of_row _ _ _ _ _ _ s1
      have d2 : w5.cell? ⟨w3.heap.size, 0, none⟩ = some (.int .i64 a.x) := cell_of_row _ _ _ _ _ _ s2
      have d3 : w5.cell? ⟨w3.heap.size, 1, none⟩ = some (.int .i64 a.y) := cell_of_row _ _ _ _ _ _ s2
      have d4 : w5.cell? ⟨w3.heap.size + 1, 0, none⟩ = some (.int .i64 d.x) := cell_of_row _ _ _ _ _ _ s3
      have d5 : w5.cell? ⟨w3.heap.size + 1, 1, none⟩ = some (.int .i64 d.y) := cell_of_row _ _ _ _ _ _ s3
      clear g5 s1 s2 s3 H3 c0 c1
      by_cases ht : turnP a c d = 0
      · go_wp2_with fail
        refine (HON.out _).mono ?_
        rintro e w6 ⟨rfl, g6⟩
        have H6 := Lib.hid (H5.out.trans g6)
        clear g6
        obtain ⟨ho, hho⟩ : ∃ ho, ho = onP c a d := ⟨_, rfl⟩
        rw [← hho]
        have HHO := Lib.hid hho
        clear hho
        cases ho
        · go_wp2_with fail
          refine (HB.out 192 k _).mono ?_
          rintro e w7 ⟨rfl, g7⟩
          unfold faultV
          obtain ⟨k0, k1, f0, f1, HG⟩ := fault_cells (hb.out.trans (H6.out.trans g7))
          clear g7
          go_wp2_with fail
          change bodyPost Try.prog Try.f58 (fun e w' => e = .returned (lookV (aheadL P)) ∧ Grew w w') .ret _ _
          refine look_end rfl rfl rfl rfl HG rfl ?_
          have : aheadL P = some (192, (k : Int)) := by
            unfold aheadL
            rw [hl, firstP_some hlt (by rw [HBK.out, ← HHO.out, ht]; rfl) hq.out]
            rfl
          rw [this]; rfl
        · go_wp2_with fail
          refine ⟨⟨k + 1, by omega, by simp, Lib.hid fun j hj => ?_, Lib.hid (hb.out.trans H6.out)⟩, by simp [intOf]; omega⟩
          by_cases hik : j < k
          · exact hq.out j hik
          · obtain rfl : j = k := by omega
            rw [HBK.out, ← HHO.out, ht]; rfl
      · go_wp2_with fail
        refine ⟨⟨k + 1, by omega, by simp, Lib.hid fun j hj => ?_, Lib.hid (hb.out.trans H5.out)⟩, by simp [intOf]; omega⟩
        by_cases hik : j < k
        · exact hq.out j hik
        · obtain rfl : j = k := by omega
          rw [HBK.out, decide_eq_false ht]; rfl
    · obtain rfl : k = n := by omega
      have hi5 : ¬ ((k : Int) < (k : Int)) := by omega
      have hr := (hb.out.1.block w.heap.size (by simp)).trans (alloc_new _ _)
      obtain ⟨c0, c1, f0, f1, HG⟩ := fault_cells hb.out
      clear hr
      go_wp2_with fail
      refine look_end rfl rfl rfl rfl HG rfl ?_
      have : aheadL P = none := by unfold aheadL; rw [hl, firstP_none hq.out]; rfl
      rw [this]; rfl
end Go.Proofs.Ytgijaaklhdcgeaa
