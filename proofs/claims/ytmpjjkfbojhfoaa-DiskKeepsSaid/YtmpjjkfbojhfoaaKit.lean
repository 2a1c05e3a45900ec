/- apportionkit: SameBytes, .. -/
import Derived.Test.YtmpjjkfbojhfoaaSlices
namespace Go.Proofs.Ytmpjjkfbojhfoaa
open Go.RowKit
theorem push_fold (l : List UInt8) : ∀ r : ByteArray, ((l.map fun c => ((c.toNat : Nat) : Int)).foldl (fun r n => r.push (UInt8.ofNat n.toNat)) r) = ⟨r.data ++ l.toArray⟩ := by
  induction l with
  | nil => intro r; simp
  | cons c l ih =>
    intro r
    rw [List.map_cons, List.foldl_cons, ih]
    simp [ByteArray.push, UInt8.ofNat_toNat]
theorem convert_bytes {w : World} {ao : Option Addr} {n cap : Nat} {l : List UInt8} (h : IsBytes w ao n cap l) :
    (convert 23 9 (.slice ao n cap)).run Try.prog w = .ok (.string ⟨l.toArray⟩) w := by
  rw [run_convert_bytes_string w _ _ _ _ _ _ Try.underlying23 Try.underlying5 Try.underlying9]
  cases ao with
  | none =>
    obtain ⟨rfl, rfl⟩ := h.2.2.2.2 rfl
    obtain rfl : l = [] := List.eq_nil_of_length_eq_zero h.1
    rfl
  | some a =>
    obtain ⟨b, off, spot⟩ := a
    have hl := run_loadCells_list (P := Try.prog) w ⟨b, off, spot⟩ (u8s l) h.cells
    rw [u8s_length, h.1] at hl
    have e : (l.map fun c => ((c.toNat : Nat) : Int)).map (Value.int .u8) = u8s l := by rw [List.map_map]; rfl
    rw [run_bytesToString w _ n cap (l.map fun c => ((c.toNat : Nat) : Int)) (by rw [e]; exact hl), push_fold]
    simp
set_option maxRecDepth 100000 in
set_option maxHeartbeats 400000 in
theorem SameBytes_any (ao bo : Option Addr) (n m cap cap2 : Nat) (l l2 : List UInt8) (w : World) (h1 : IsBytes w ao n cap l) (h2 : IsBytes w bo m cap2 l2) :
    Calls Try.prog 44 #[.slice ao n cap, .slice bo m cap2] w fun e w' => e = .returned (.bool (l == l2)) ∧ w = w' := by
  have c1 := convert_bytes h1
  have c2 := convert_bytes h2
  go_enter Try.func44, Try.ntmps44
  go_wp2
  go_ret
  exact ⟨rfl, rfl⟩
set_option maxHeartbeats 400000 in
theorem Pick_any (x n : Int) (w : World) (hx0 : -9223372036854775808 ≤ x) (hx1 : x ≤ 9223372036854775807) (hn : 1 ≤ n) (hn2 : n ≤ 4611686018427387904) :
    Calls Try.prog 20 #[.int .i64 x, .int .i64 n] w fun e w' => e = .returned (.int .i64 (x % n)) ∧ w = w' := by
  by_cases h0 : 0 ≤ x
  · have hm := Int.emod_nonneg x (b := n) (by omega)
    have hm2 := Int.emod_lt_of_pos x (b := n) (by omega)
    go_enter Try.func20, Try.ntmps20
    go_wp2
    all_goals go_ret
    all_goals exact ⟨rfl, rfl⟩
  · have hm := Int.emod_nonneg x (b := n) (by omega)
    have hm2 := Int.emod_lt_of_pos x (b := n) (by omega)
    have ht : x.tmod n = if x % n = 0 then 0 else x % n - n := by
      rw [Int.tmod_eq_emod]
      by_cases hz : x % n = 0
      · have hd : n ∣ x := Int.dvd_of_emod_eq_zero hz
        rw [if_pos hz, if_pos (.inr hd)]; omega
      · have hd : ¬ n ∣ x := fun h => hz (Int.emod_eq_zero_of_dvd h)
        rw [if_neg hz, if_neg (by rintro (h | h); exact h0 h; exact hd h)]; omega
    go_enter Try.func20, Try.ntmps20
    go_wp2
    all_goals go_ret
    all_goals exact ⟨rfl, rfl⟩
end Go.Proofs.Ytmpjjkfbojhfoaa
