/- apportionkit.CopyRings -/
import Derived.Test.YtgijaaklhdcgeaaQPts
namespace Go.Proofs.Ytgijaaklhdcgeaa
open Go.RowKit Go.Geo
theorem take_moreR {R : List (List Pt)} {k : Nat} (hk : k < R.length) : R.take (k + 1) = R.take k ++ [R.getD k []] := by
  rw [List.take_succ_eq_append_getElem hk, List.getD_eq_getElem?_getD, List.getElem?_eq_getElem hk]; rfl
/-- rings that are not many, nor long. -/
def Small (R : List (List Pt)) : Prop := R.length ≤ 100000 ∧ ∀ k, k < R.length → (R.getD k []).length ≤ 100000
set_option maxRecDepth 100000 in
set_option maxHeartbeats 2000000 in
theorem CopyRings_any (ao : Option Addr) (n cap : Nat) (R : List (List Pt)) (w : World) (h : IsRings w ao n cap R) (hs : Small R) :
    Calls Try.prog 15 #[.slice ao n cap] w fun e w' => ∃ v, e = .returned v ∧ OwnR w' w.heap.size v R ∧ Below w.heap.size w w' := by
  have HI := Lib.hid h
  have HL : Hid (R.length = n) := h.1
  have HS := Lib.hid hs
  have hcm := h.2.2.1
  have hnc := h.2.1
  have hn : n ≤ 100000 := by rw [← h.1]; exact hs.1
  obtain ⟨base, hbase⟩ : ∃ b, b = w.heap.size := ⟨_, rfl⟩
  have HB := Lib.hid hbase
  rw [← hbase]
  unfold maxLen at hcm
  clear h hs hbase
  go_enter Try.func15, Try.ntmps15
  go_wp2
  go_loopw [3, 4] (fun v i wr => ∃ k : Nat, k ≤ n ∧ i = .int .i64 k ∧ Hid (OwnR wr base v (R.take k)) ∧ Hid (Below base w wr)) (fun _ i _ => n - (intOf i).toNat)
  case atStart => exact ⟨0, by omega, rfl, OwnR.nil _ _, Below.refl _ _⟩
  case round =>
    obtain ⟨k, hk, rfl, hown, hbl⟩ := hrel
    by_cases hlt : k < n
    · have hi0 : (0 : Int) ≤ (k : Int) := by omega
      have hi5 : (k : Int) < (n : Int) := by omega
      obtain ⟨b, off, x, y, z, rfl, e0, hp⟩ := (HI.out.later hbl.out (by rw [HB.out]; exact Nat.le_refl _)).2.2.2.2 k hlt
      obtain ⟨P, hP⟩ : ∃ P, P = R.getD k [] := ⟨_, rfl⟩
      rw [← hP] at hp
      have hpl : P.length ≤ 100000 := by rw [hP]; exact HS.out.2 k (by rw [HL.out]; exact hlt)
      have hyl : y = P.length := hp.1.symm
      have HBZ : Hid (base ≤ wr.heap.size) := by
        have := hbl.out.size
        rw [HB.out]; exact this
      have HT : Hid (R.take (k + 1) = R.take k ++ [P]) := by rw [hP]; exact take_moreR (by rw [HL.out]; exact hlt)
      have hTl : (R.take k).length ≤ 4294967296 := by rw [List.length_take]; omega
      have HTL := Lib.hid hTl
      have hal : Below wr.heap.size wr (wr.alloc (Obj.cells #[] 27)) := (Below.refl _ _).alloc (Nat.le_refl _) _
      have HAL := Lib.hid hal
      have HPP := Lib.hid (hp.later hal (Nat.le_refl _))
      have HYL : Hid (y ≤ 100000) := by rw [hyl]; exact Lib.hid hpl
      have e1 : (wr.alloc (Obj.cells #[] 27)).cell? ⟨b, off + k, none⟩ = some (.slice x y z) := (hal.cell (p := ⟨b, off + k, none⟩) (block_lt_of_cell e0)).trans e0
      clear hp hP hpl hyl hTl hal
      go_wp2_with (first
        | (at_builtin; refine wpList_append_pts rfl _ _ rfl wr.heap.size (.slice (some ⟨wr.heap.size, 0, none⟩) 0 0) [] rfl (OwnP.none_new wr _ (Nat.le_refl _)) _ _ _ P rfl HPP.out (by have := HYL.out; simp; omega) HAL.out.size ?_
           intro v5 w5 hown5 hg5
           have hb5 : Below wr.heap.size wr w5 := HAL.out.grown hg5 HAL.out.size (fun k hk => by simp only [Value.ownBlock, Option.some.injEq] at hk; omega)
           have ho5 : OwnP w5 wr.heap.size v5 P := hown5
           obtain ⟨a5, c5, hv5, _⟩ := ho5.pts
           subst hv5
           have H5 := Lib.hid (And.intro hb5 ho5)
           clear hown5 hg5 hb5 ho5)
        | (at_builtin; refine wpList_append_rings rfl _ _ rfl base _ (R.take k) rfl (hown.out.later (H5.out.1.alloc H5.out.1.size _)) w5.heap.size rfl a5 c5 P ((H5.out.2.later ((Below.refl _ _).alloc (Nat.le_refl _) _)).base HBZ.out) (alloc_new _ _) HTL.out (Nat.le_trans HBZ.out (Nat.le_trans H5.out.1.size (by simp))) ?_
           intro v7 w7 hown7 hg7
           have H7 := Lib.hid (And.intro hown7 ((hbl.out.trans ((H5.out.1.alloc H5.out.1.size _).mono HBZ.out)).grown hg7 (Nat.le_trans HBZ.out (Nat.le_trans H5.out.1.size (by simp))) (fun k hk => (hown.out.lt k hk).1)))
           clear hown7 hg7))
      go_roundw
      case rel => exact ⟨k + 1, by omega, by go_num, by rw [HT.out]; exact H7.out.1, H7.out.2⟩
      case measure => simp [intOf]; omega
    · obtain rfl : k = n := by omega
      go_wp2
      go_ret
      refine ⟨_, rfl, ?_, hbl.out⟩
      have := hown.out
      rw [List.take_of_length_le (by rw [HL.out]; exact Nat.le_refl _)] at this
      exact this
end Go.Proofs.Ytgijaaklhdcgeaa
