/- the document's region: Check, the ring's Check given -/
import Derived.Test.YtjiiikeniocmfaaGreatMR11b
import Derived.Test.YtjiiikeniocmfaaGreatMQRCheck
import Derived.Test.YtjiiikeniocmfaaGreatMR7b
import Derived.Test.YtjiiikeniocmfaaGreatMQBnd
import Derived.Test.YtjiiikeniocmfaaGreatMQUnlike
import Derived.Test.YtjiiikeniocmfaaGreatMGeo8
import Derived.Test.YtjiiikeniocmfaaGreatMQConcat
import Derived.Test.YtjiiikeniocmfaaGreatMR10
set_option linter.unusedSimpArgs false
set_option linter.unusedVariables false
namespace Go.Proofs.YtjiiikeniocmfaaGreat
open Go.RowKit Go.Shelf Go.Geo
attribute [local go_sem] Oper.semAt_some
end Go.Proofs.YtjiiikeniocmfaaGreat

/- the document's point: Bounds -/
set_option linter.unusedSimpArgs false
set_option linter.unusedVariables false
namespace Go.Proofs.YtjiiikeniocmfaaGreat
open Go.RowKit Go.Shelf Go.Geo
attribute [local go_sem] Oper.semAt_some
end Go.Proofs.YtjiiikeniocmfaaGreat

/- the document's region: Box -/
set_option linter.unusedSimpArgs false
set_option linter.unusedVariables false
namespace Go.Proofs.YtjiiikeniocmfaaGreat
open Go.RowKit Go.Shelf Go.Geo
attribute [local go_sem] Oper.semAt_some
end Go.Proofs.YtjiiikeniocmfaaGreat

/- region.In -/
set_option linter.unusedSimpArgs false
set_option linter.unusedVariables false
namespace Go.Proofs.YtjiiikeniocmfaaGreat
open Go.RowKit Go.Geo
attribute [local go_sem] Oper.semAt_some
set_option maxRecDepth 100000 in
theorem In_region (p : Pt) (ao : Option Addr) (n cap : Nat) (R : List (List Pt)) (w : World) (h : IsRings w ao n cap R) :
    Calls Tryz.prog 25 #[ptV p, .agg #[.slice ao n cap]] w fun e w' => e = .returned (.bool (inR p R)) ∧ Below w.heap.size w w' := by
  have HI := Lib.hid h
  have HIN := Lib.hid (In_ring p)
  have hcm := h.2.2.1
  have hnc := h.2.1
  have hl := h.1
  unfold maxLen at hcm
  clear h
  have hA : Below w.heap.size w ((w.alloc (.cells #[.int .i64 p.x, .int .i64 p.y] 24)).alloc (.cells #[.slice ao n cap] 30)) := ((Below.refl _ _).alloc (Nat.le_refl _) _).alloc (by simp) _
  have a0 : ((w.alloc (.cells #[.int .i64 p.x, .int .i64 p.y] 24)).alloc (.cells #[.slice ao n cap] 30)).heap[w.heap.size]? = some (.cells #[.int .i64 p.x, .int .i64 p.y] 24 (0, 0)) := (Below.heap_alloc _ _ _ (by simp)).trans (alloc_new _ _)
  have hs : ((w.alloc (.cells #[.int .i64 p.x, .int .i64 p.y] 24)).alloc (.cells #[.slice ao n cap] 30)).heap.size = w.heap.size + 2 := by simp
  have HA := Lib.hid (And.intro hA (And.intro a0 hs))
  clear hA a0 hs
  unfold ptV at HIN ⊢
  go_enter Tryz.func25, Tryz.ntmps25
  go_wp2
  go_loopw [5, 11] (fun v i wr => ∃ k : Nat, k ≤ n ∧ i = .int .i64 k ∧ (∃ q, v = .bool q ∧ Hid (q = inR p (R.take k))) ∧ Hid (Below (w.heap.size + 2) ((w.alloc (.cells #[.int .i64 p.x, .int .i64 p.y] 24)).alloc (.cells #[.slice ao n cap] 30)) wr)) (fun v i _ => n - (intOf i).toNat)
  case atStart => exact ⟨0, by omega, rfl, ⟨false, rfl, rfl⟩, Below.refl _ _⟩
  case round =>
    obtain ⟨k, hk, rfl, ⟨q, rfl, hq⟩, hb⟩ := hrel
    by_cases hlt : k < n
    · have hi0 : (0 : Int) ≤ (k : Int) := by omega
      have hi5 : (k : Int) < (n : Int) := by omega
      have hbw : Below w.heap.size w wr := HA.out.1.trans (hb.out.mono (by omega))
      obtain ⟨b, off, x, y, z, rfl, e0, hp⟩ := (HI.out.later hbw (Nat.le_refl _)).2.2.2.2 k hlt
      have hr0 := (hb.out.block w.heap.size (by omega)).trans HA.out.2.1
      have c0 : wr.cell? ⟨w.heap.size, 0, none⟩ = some (.int .i64 p.x) := cell_of_row _ _ _ _ _ _ hr0
      have c1 : wr.cell? ⟨w.heap.size, 1, none⟩ = some (.int .i64 p.y) := cell_of_row _ _ _ _ _ _ hr0
      have HP := Lib.hid hp
      have HC := Lib.hid (HIN.out x y z (R.getD k []))
      have hsz := hb.out.size
      rw [HA.out.2.2] at hsz
      have HZ := Lib.hid hsz
      clear hbw hr0 hp hsz
      have HQ : Hid (∀ s, s = inP p (R.getD k []) → (q != s) = inR p (R.take (k + 1))) := Lib.hid (fun s hs => by rw [inR_take (by omega), hs, ← hq.out])
      obtain ⟨s, hs⟩ : ∃ s, s = inP p (R.getD k []) := ⟨_, rfl⟩
      rw [← hs] at HC
      have HS := Lib.hid (HQ.out s hs)
      clear HQ hs
      go_wp2_with fail
      refine (HC.out wr HP.out).mono ?_
      rintro e w2 ⟨rfl, hb2⟩
      have HB2 := Lib.hid (hb.out.trans (hb2.mono HZ.out))
      clear hb2
      cases q <;> cases s
      all_goals (
        go_wp2_with fail
        go_roundw
        case rel => exact ⟨k + 1, by omega, by go_num, ⟨_, rfl, Lib.hid HS.out⟩, HB2⟩
        case measure => simp [intOf]; omega)
    · obtain rfl : k = n := by omega
      have hi5 : ¬ ((k : Int) < (k : Int)) := by omega
      go_wp2_with fail
      go_ret
      refine ⟨?_, HA.out.1.trans (hb.out.mono (by omega))⟩
      rw [hq.out, List.take_of_length_le (by omega)]
      rfl
end Go.Proofs.YtjiiikeniocmfaaGreat
