/- the iterator of frame.frames, walked: for every loop body that keeps its word -/
import Derived.RangeFuncNested
import Derived.RangeFuncBound
import Derived.RangeFuncCalls
import Derived.RangeFuncLeaves
import Derived.Shelf.Abstract
import Derived.Shelf.RegionOpen
import Derived.OwnWalkIn
import Derived.TacticsInMore
import Derived.LoopNIn
import Derived.LoopIn
import Derived.Deep.RegionWith
import Derived.Test.YtdglaacjefcfdaaSlices
namespace Go.Proofs.Ytdglaacjefcfdaa
open Go.RowKit Go.Shelf
attribute [local go_sem] Oper.semAt_some
/-- what the iterator asks of the world between two rounds. -/
structure FramesMem (ao : Option Addr) (n cap : Nat) (bs : List UInt8) (Bb Br Rb : Nat) (W : World) : Prop where
  b : W.cell? ⟨Bb, 0, none⟩ = some (.slice ao n cap)
  r : W.cell? ⟨Br, 0, none⟩ = some (.pointer (some ⟨Rb, 0, none⟩))
  c : ∃ v, W.cell? ⟨Rb, 0, none⟩ = some v
  f : W.frozen? ⟨Rb, 0, none⟩ = false
  bytes : IsBytes W ao n cap bs
theorem FramesMem.later {ao : Option Addr} {n cap : Nat} {bs : List UInt8} {Bb Br Rb : Nat} {W W' : World} (h : FramesMem ao n cap bs Bb Br Rb W) (hb : Below W.heap.size W W') : FramesMem ao n cap bs Bb Br Rb W' := by
  have h1 := block_lt_of_cell h.b
  have h2 := block_lt_of_cell h.r
  obtain ⟨v, hv⟩ := h.c
  have h3 := block_lt_of_cell hv
  exact ⟨(hb.cell (p := ⟨Bb, 0, none⟩) h1).trans h.b, (hb.cell (p := ⟨Br, 0, none⟩) h2).trans h.r, ⟨v, (hb.cell (p := ⟨Rb, 0, none⟩) h3).trans hv⟩, (hb.frozen (p := ⟨Rb, 0, none⟩) h3).trans h.f, h.bytes.later hb⟩
theorem setCell_twice (w : World) (a : Addr) (u v : Value) : (w.setCell a u).setCell a v = w.setCell a v := by
  unfold World.setCell
  congr 1
  apply Array.ext_getElem?
  intro i
  simp only [Array.getElem?_modify]
  by_cases h : a.block = i
  · simp only [h, if_true]
    cases w.heap[i]? with
    | none => rfl
    | some o =>
      cases o <;> simp
      split <;> simp
  · simp [h]
set_option maxRecDepth 100000 in
set_option maxHeartbeats 1000000 in
theorem frames1_in (m : Nat) (l Bb Br Rb : Nat) (ao : Option Addr) (n cap : Nat) (bs : List UInt8) (J : List (List UInt8) → Nat → World → Prop)
    (hJb : ∀ pre k A B, J pre k A → Below A.heap.size A B → J pre k B)
    (hJm : ∀ pre k A, J pre k A → FramesMem ao n cap bs Bb Br Rb A)
    (hY : ∀ pre k r ao' n' cap' A, J pre k A → IsBytes A ao' n' cap' r → ao'.map (·.block) = ao.map (·.block) → k + r.length + 12 ≤ n → r.length ≤ 65536 → YieldAt Fence.wide (m - 1) Try.prog l #[.slice ao' n' cap', .int .i64 ((k + (r.length + 12) : Nat) : Int)] A fun e A' =>
      e = .returned (.bool true) ∧ J (pre ++ [r]) (k + (r.length + 12)) A')
    (hne : ¬ Br = Rb) (W : World) (h0 : J [] 0 W) :
    CallsIn Fence.wide m Try.prog 56 #[.func (.yield l) #[] #[], .pointer (some ⟨Bb, 0, none⟩), .pointer (some ⟨Br, 0, none⟩)] W fun e W' => (∃ v, e = .returned v) ∧
      ∃ W2, J (Fr.scanF bs).1 (Fr.scanF bs).2.1 W2 ∧ W' = W2.setCell ⟨Rb, 0, none⟩ (.int .i64 ((Fr.scanF bs).2.2 : Int)) := by
  refine callsIn_of_wp Try.func56 rfl trivial ?_ rfl
  simp only [Try.ntmps56, List.size_toArray, List.length_cons, List.length_nil, Nat.reduceAdd, Nat.reduceSub, Array.replicate_succ, Array.replicate_zero, List.push_toArray, List.append_toArray, List.nil_append, List.cons_append]
  have hnn : n ≤ 9223372036854775807 := by have := (hJm _ _ _ h0).bytes; have h1 := this.2.1; have h2 := this.2.2.1; unfold maxLen at h2; omega
  have hlen : bs.length = n := (hJm _ _ _ h0).bytes.1
  have HL := Lib.hid hlen
  clear hlen
  gi_wp2
  gi_loopw [4] (fun a wr => ∃ (pre : List (List UInt8)) (k : Nat), a = .int .i64 k ∧ k ≤ n ∧ J pre k wr ∧
      Fr.scanF bs = (pre ++ (Fr.scanF (bs.drop k)).1, k + (Fr.scanF (bs.drop k)).2.1, (Fr.scanF (bs.drop k)).2.2)) (fun a _ => n - (intOf a).toNat)
  case atStart => exact ⟨[], 0, rfl, by omega, h0, by simp⟩
  case round =>
    obtain ⟨pre, k, rfl, hk, hJ, hscan⟩ := hrel
    have hm := hJm _ _ _ hJ
    have hcb := hm.b
    have hcr := hm.r
    obtain ⟨vr, hcc⟩ := hm.c
    have hcf := hm.f
    obtain ⟨ao1, hsl1, hb1, hk1⟩ := slice_from hm.bytes k hk
    have hsl1 := hsl1 wr
    have hl1 : (bs.drop k).length = n - k := by have := HL.out; simp; omega
    have hne2 : ¬ Rb = Br := fun h => hne h.symm
    have hfin : ∀ c, Fr.headF (bs.drop k) = .inl c → Fr.scanF bs = (pre, k, c) := by
      intro c hc
      rw [hscan, Fr.scanF_eq, hc]; simp
    have HB1 := Lib.hid hb1
    have HM := Lib.hid hm
    have HS := Lib.hid hscan
    have HJ := Lib.hid hJ
    have HL1 := Lib.hid hl1
    have HF := Lib.hid hfin
    have HK1 := Lib.hid hk1
    clear hb1 hm hscan hJ hl1 hfin hk1
    by_cases h8 : n - k < 8
    · by_cases h0 : n - k = 0
      · have e := HF.out 0 (by unfold Fr.headF; rw [HL1.out, h0]; rfl)
        have HE := Lib.hid e
        clear e
        gi_wp2
        refine bodyPost_ret (results_none rfl _ _ _) rfl ?_
        rw [HE.out]
        exact ⟨⟨_, rfl⟩, wr, HJ.out, setCell_twice _ _ _ _⟩
      · have e := HF.out 1 (by unfold Fr.headF; rw [HL1.out, if_pos h8, if_neg h0])
        have HE := Lib.hid e
        have hz : (((n - k : Nat) : Int) == 0) = false := by simp; omega
        clear e
        gi_wp2
        refine bodyPost_ret (results_none rfl _ _ _) rfl ?_
        rw [HE.out]
        exact ⟨⟨_, rfl⟩, wr, HJ.out, rfl⟩
    · obtain ⟨d, hd⟩ : ∃ d, d = bs.drop k := ⟨_, rfl⟩
      rw [← hd] at HB1 HL1 HF
      have HD := Lib.hid hd
      clear hd
      obtain ⟨ao2, hsl2, hb2, _⟩ := slice_from HB1.out 4 (by omega)
      have hsl2 : (Instr.slice 24 (.slice ao1 (n - k) (cap - k)) (some (.int .i64 4)) none none).run Try.prog wr = .ok (.slice ao2 (n - k - 4) (cap - k - 4)) wr := hsl2 wr
      have HB2 := Lib.hid hb2
      clear hb2
      obtain ⟨x, hx⟩ : ∃ x, x = Fr.num4 d := ⟨_, rfl⟩
      have hxlt := Fr.num4_lt d
      rw [← hx] at hxlt
      have HN := Lib.hid (Fr.not_nat x hxlt)
      have HX := Lib.hid hx
      clear hx
      gi_wp2_with fail
      refine ⟨trivial, fun h => by simp [Fence.wide] at h, ?_⟩
      refine (callsIn_wide.2 (number_any _ _ _ d _ HB1.out (by omega))).mono ?_
      rintro e w' ⟨rfl, rfl⟩
      rw [← HX.out]
      gi_wp2_with fail
      refine ⟨trivial, fun h => by simp [Fence.wide] at h, ?_⟩
      refine (callsIn_wide.2 (number_any _ _ _ (d.drop 4) _ HB2.out (by omega))).mono ?_
      rintro e w' ⟨rfl, rfl⟩
      obtain ⟨y, hy⟩ : ∃ y, y = Fr.num4 (d.drop 4) := ⟨_, rfl⟩
      rw [← hy]
      have HY := Lib.hid hy
      clear hy
      by_cases hA : y = 4294967295 - x
      · have hAb : ((y : Int) != bits .xor .u32 IntKind.u32.max (x : Int)) = false := by rw [HN.out, hA]; simp
        have hA1 : (y : Int) ≤ bits .xor .u32 IntKind.u32.max (x : Int) := by rw [HN.out, hA]; omega
        have hA2 : bits .xor .u32 IntKind.u32.max (x : Int) ≤ (y : Int) := by rw [HN.out, hA]; omega
        have HA := Lib.hid hA
        clear hA
        by_cases hB : x ≤ 65536
        · by_cases hC : n - k < x + 12
          · have e := HF.out 1 (by unfold Fr.headF; rw [HL1.out, ← HX.out, ← HY.out, HA.out, if_neg h8, if_neg (by omega), if_pos hC])
            have HE := Lib.hid e
            clear e
            gi_wp2_with fail
            refine bodyPost_ret (results_none rfl _ _ _) rfl ?_
            rw [HE.out]
            exact ⟨⟨_, rfl⟩, wr, HJ.out, rfl⟩
          · obtain ⟨ao3, hsl3, hb3, _⟩ := slice_from HB1.out (8 + x) (by omega)
            obtain ⟨ao4, hsl4, hb4, hk4⟩ := slice_both HB1.out 8 (8 + x) (by omega) (by omega)
            have e8 : ((8 + x : Nat) : Int) = 8 + (x : Int) := by omega
            rw [e8] at hsl3 hsl4
            rw [show 8 + x - 8 = x by omega] at hsl4 hb4
            have HB3 := Lib.hid hb3
            have HB4 := Lib.hid hb4
            have HK4 := Lib.hid (hk4.trans HK1.out)
            clear hk4
            have E8 := Lib.hid e8
            clear hb3 hb4 e8
            have hsl4 : ∀ w', (Instr.slice 24 (.slice ao1 (n - k) (cap - k)) (some (.int .i64 8)) (some (.int .i64 (8 + (x : Int)))) none).run Try.prog w' = .ok (.slice ao4 x (cap - k - 8)) w' := hsl4
            gi_wp2_with fail
            gi_region_with (first | (refine ⟨trivial, fun h => by simp [Fence.wide] at h, ?_⟩; gi_at_call 57; refine (callsIn_wide.2 (number_any _ _ _ (d.drop (8 + x)) _ (by exact HB3.out) (by omega))).mono ?_; rintro e w' ⟨rfl, rfl⟩) | (refine ⟨trivial, fun h => by simp [Fence.wide] at h, ?_⟩; gi_at_call 47; refine (callsIn_wide.2 (Sum_any _ _ _ ((d.take (8 + x)).drop 8) _ (by exact HB4.out))).mono ?_; rintro e w5 ⟨rfl, hb5⟩))
            have hb5 : Below wr.heap.size wr w5 := ⟨hb5.os, hb5.tape, hb5.output, hb5.size, hb5.block⟩
            have hJ5 := hJb _ _ _ _ HJ.out hb5
            have hm5 := hJm _ _ _ hJ5
            have hcb5 := hm5.b
            have hcr5 := hm5.r
            obtain ⟨vr5, hcc5⟩ := hm5.c
            have hcf5 := hm5.f
            have hr4 : (d.take (8 + x)).drop 8 = (d.drop 8).take x := by rw [List.drop_take]; congr 1; omega
            rw [hr4] at HB4
            obtain ⟨r, hr⟩ : ∃ r, r = (d.drop 8).take x := ⟨_, rfl⟩
            rw [hr4, ← hr]
            rw [← hr] at HB4
            have hrl : r.length = x := HB4.out.1
            obtain ⟨z, hz⟩ : ∃ z, z = Fr.num4 (d.drop (8 + x)) := ⟨_, rfl⟩
            rw [← hz]
            obtain ⟨s, hs⟩ : ∃ s, s = (Fr.sumB r).toNat := ⟨_, rfl⟩
            rw [← hs]
            by_cases hD : z = s
            · have e := HS.out
              have hhead : Fr.headF d = .inr r := by
                unfold Fr.headF
                rw [HL1.out, ← HX.out, ← HY.out, HA.out, if_neg h8, if_neg (by omega), if_neg hC, ← hz, ← hr, ← hs, hD, if_neg (by simp)]
              rw [← HD.out, Fr.scanF_eq d, hhead] at e
              simp only at e
              have hY5 := hY pre k r ao4 x (cap - k - 8) w5 hJ5 (HB4.out.later hb5) HK4.out (by rw [hrl]; omega) (by rw [hrl]; omega)
              rw [hrl] at hY5 e
              have eat : ((k + (x + 12) : Nat) : Int) = (k : Int) + (8 + (x : Int) + 4) := by omega
              rw [eat] at hY5
              obtain ⟨fn, tmps, assign, body, hyy, hR⟩ := hY5
              have hD1 : (z : Int) ≤ (s : Int) := by omega
              have hD2 : (s : Int) ≤ (z : Int) := by omega
              have HE := Lib.hid e
              have HRL := Lib.hid hrl
              clear e hrl hhead eat hr4 hz hs hr hD hm5
              gi_wp2
              refine ⟨fun h => by simp [Fence.wide] at h, ?_⟩
              refine hR.mono ?_
              rintro e W' ⟨rfl, hJ'⟩
              gi_wp2
              go_roundw
              case rel =>
                refine ⟨pre ++ [r], k + (x + 12), by congr 1; omega, by omega, hJ', ?_⟩
                rw [HE.out, HD.out, List.drop_drop]
                simp [Nat.add_assoc]
              case measure => simp [intOf]; omega
            · have e := HF.out 2 (by unfold Fr.headF; rw [HL1.out, ← HX.out, ← HY.out, HA.out, if_neg h8, if_neg (by omega), if_neg hC, ← hz, ← hr, ← hs, if_pos hD])
              have HE := Lib.hid e
              have hD1 : ¬ (z : Int) = (s : Int) := by omega
              clear e hr4 hz hs hr hD
              gi_wp2
              refine bodyPost_ret (results_none rfl _ _ _) rfl ?_
              rw [HE.out]
              exact ⟨⟨_, rfl⟩, w5, hJ5, rfl⟩
        · have e := HF.out 2 (by unfold Fr.headF; rw [HL1.out, ← HX.out, ← HY.out, if_neg h8, if_pos (by omega)])
          have HE := Lib.hid e
          clear e
          gi_wp2_with fail
          refine bodyPost_ret (results_none rfl _ _ _) rfl ?_
          rw [HE.out]
          exact ⟨⟨_, rfl⟩, wr, HJ.out, rfl⟩
      · have hAb : ((y : Int) != bits .xor .u32 IntKind.u32.max (x : Int)) = true := by rw [HN.out, bne_iff_ne]; omega
        have hA1 : ¬ (y : Int) = bits .xor .u32 IntKind.u32.max (x : Int) := by rw [HN.out]; omega
        have e := HF.out 2 (by unfold Fr.headF; rw [HL1.out, ← HX.out, ← HY.out, if_neg h8, if_pos (by omega)])
        have HE := Lib.hid e
        clear e hA
        gi_wp2_with fail
        refine bodyPost_ret (results_none rfl _ _ _) rfl ?_
        rw [HE.out]
        exact ⟨⟨_, rfl⟩, wr, HJ.out, rfl⟩
end Go.Proofs.Ytdglaacjefcfdaa
