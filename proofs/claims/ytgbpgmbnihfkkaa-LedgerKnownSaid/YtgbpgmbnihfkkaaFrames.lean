/- both disks: what they hold, what the calls make of it -/
import Derived.Test.YtgbpgmbnihfkkaaTwin
import Derived.RangeFuncNested
import Derived.RangeFuncBound
import Derived.RangeFuncCalls
import Derived.RangeFuncLeaves
import Derived.Shelf.Abstract
import Derived.Shelf.RegionOpen
import Derived.OwnWalkIn
import Derived.TacticsInMore
import Derived.LoopNIn
import Derived.LoopIn
import Derived.Deep.RegionWith
import Derived.Test.YtgbpgmbnihfkkaaSlices
namespace Go.Proofs.Ytgbpgmbnihfkkaa
open Go.RowKit
set_option linter.unusedSectionVars false
/-- what a disk holds, and the reference's. -/
structure Sig where
  R : List FileV
  N : Int
  fz : Bool
  lf : Int
  out : Bool
noncomputable def atZ (s : ByteArray) (R : List FileV) : Int := Classical.choose (atR_ex s R)
theorem atZ_is (s : ByteArray) (R : List FileV) : AtR s R (atZ s R) := Classical.choose_spec (atR_ex s R)
theorem AtR.uniq {s : ByteArray} {R : List FileV} {y z : Int} (h : AtR s R y) (k : AtR s R z) : y = z := by
  rcases h with ⟨i, rfl, hi, e1, h1⟩ | ⟨rfl, h1⟩ <;> rcases k with ⟨j, rfl, hj, e2, h2⟩ | ⟨rfl, h2⟩
  · rcases Nat.lt_trichotomy i j with q | q | q
    · exact absurd e1 (h2 i q)
    · rw [q]
    · exact absurd e2 (h1 j q)
  · exact absurd e1 (h2 i hi)
  · exact absurd e2 (h1 j hj)
  · rfl
theorem AtR.eq {s : ByteArray} {R : List FileV} {z : Int} (h : AtR s R z) : z = atZ s R := h.uniq (atZ_is s R)
theorem InsAt.uniq {s : ByteArray} {R : List FileV} {i j : Nat} (h : InsAt s R i) (k : InsAt s R j) : i = j := by
  obtain ⟨a1, a2, a3⟩ := h
  obtain ⟨b1, b2, b3⟩ := k
  rcases Nat.lt_trichotomy i j with q | q | q
  · have e1 := b2 i q
    rw [a3 (by omega)] at e1
    cases e1
  · exact q
  · have e1 := a2 j q
    rw [b3 (by omega)] at e1
    cases e1
noncomputable def insK (s : ByteArray) (R : List FileV) : Nat := Classical.choose (insAt_ex s R)
theorem insK_is (s : ByteArray) (R : List FileV) : InsAt s R (insK s R) := Classical.choose_spec (insAt_ex s R)
theorem InsAt.eq {s : ByteArray} {R : List FileV} {k : Nat} (h : InsAt s R k) : k = insK s R := h.uniq (insK_is s R)
/-- a step, or the fuse is out. -/
def doneG (g : Sig) (R' : List FileV) : Int × Sig := if g.fz = true ∧ g.lf = 0 then (10, ⟨g.R, g.N, g.fz, g.lf, true⟩) else (0, ⟨R', g.N + 1, g.fz, if g.fz = true then g.lf - 1 else g.lf, false⟩)
noncomputable def appG (s : ByteArray) (B : List UInt8) (g : Sig) : Int × Sig :=
  if g.out = true then (10, g) else if nameP s.data.toList = false then (2, g) else
  if atZ s g.R < 0 then (if 16 ≤ g.R.length then (8, g) else if 1048576 < B.length then (3, g) else doneG g (insF g.R (insK s g.R) (s, [], addB B)))
  else if 1048576 < (runD (g.R.getD (atZ s g.R).toNat f0).2.1 (g.R.getD (atZ s g.R).toNat f0).2.2).length + B.length then (3, g)
  else doneG g (g.R.set (atZ s g.R).toNat ((g.R.getD (atZ s g.R).toNat f0).1, (g.R.getD (atZ s g.R).toNat f0).2.1, (g.R.getD (atZ s g.R).toNat f0).2.2 ++ addB B))
noncomputable def cutG (s : ByteArray) (sz : Int) (g : Sig) : Int × Sig :=
  if g.out = true then (10, g) else if atZ s g.R < 0 then (6, g) else
  if sz < 0 ∨ ((runD (g.R.getD (atZ s g.R).toNat f0).2.1 (g.R.getD (atZ s g.R).toNat f0).2.2).length : Int) < sz then (2, g)
  else doneG g (g.R.set (atZ s g.R).toNat ((g.R.getD (atZ s g.R).toNat f0).1, (g.R.getD (atZ s g.R).toNat f0).2.1, (g.R.getD (atZ s g.R).toNat f0).2.2 ++ [.cut sz.toNat]))
noncomputable def syncG (s : ByteArray) (g : Sig) : Int × Sig :=
  if g.out = true then (10, g) else if atZ s g.R < 0 then (6, g) else
  doneG g (g.R.set (atZ s g.R).toNat ((g.R.getD (atZ s g.R).toNat f0).1, runD (g.R.getD (atZ s g.R).toNat f0).2.1 (g.R.getD (atZ s g.R).toNat f0).2.2, []))
noncomputable def remG (s : ByteArray) (g : Sig) : Int × Sig :=
  if g.out = true then (10, g) else if atZ s g.R < 0 then (6, g) else doneG g (g.R.take (atZ s g.R).toNat ++ g.R.drop ((atZ s g.R).toNat + 1))
def fuseG (n : Int) (g : Sig) : Int × Sig := if n < 0 then (2, g) else (0, ⟨g.R, g.N, true, n, g.out⟩)
def crashL (K : List Int) (R : List FileV) : List FileV := R.mapIdx (crashAt K)
def crashG (K : List Int) (g : Sig) : Int × Sig := (0, ⟨crashL K g.R, g.N, false, 0, false⟩)
theorem CrashedR.eq {K : List Int} {R L : List FileV} (h : CrashedR K R L) : L = crashL K R := by
  obtain ⟨h1, h2⟩ := h
  unfold crashL
  apply List.ext_getElem?
  intro i
  rw [List.getElem?_mapIdx]
  by_cases hi : i < R.length
  · have := h2 i hi
    rw [List.getD_eq_getElem?_getD, List.getD_eq_getElem?_getD, List.getElem?_eq_getElem hi, List.getElem?_eq_getElem (by omega)] at this
    rw [List.getElem?_eq_getElem (by omega), List.getElem?_eq_getElem hi]
    simpa using this
  · rw [List.getElem?_eq_none (by omega), List.getElem?_eq_none (by omega)]
    rfl
noncomputable def readG (s : ByteArray) (g : Sig) : Int × List UInt8 :=
  if g.out = true then (10, []) else if atZ s g.R < 0 then (6, []) else (0, runD (g.R.getD (atZ s g.R).toNat f0).2.1 (g.R.getD (atZ s g.R).toNat f0).2.2)
noncomputable def looseG (s : ByteArray) (g : Sig) : Int := if 0 ≤ atZ s g.R then ((unitsD (g.R.getD (atZ s g.R).toNat f0).2.2 : Nat) : Int) else 0
/-- how much there is at most. -/
structure Lim (q k : Nat) (g : Sig) : Prop where
  file : ∀ x ∈ g.R, x.2.1.length + unitsD x.2.2 ≤ q ∧ x.2.2.length ≤ k
  n0 : 0 ≤ g.N
  n1 : g.N ≤ k
  l0 : 0 ≤ g.lf
  l1 : g.lf ≤ 9223372036854775807
theorem Lim.mono {q k q' k' : Nat} {g : Sig} (h : Lim q k g) (hq : q ≤ q') (hk : k ≤ k') : Lim q' k' g := ⟨fun x hx => by have := h.file x hx; omega, h.n0, by have := h.n1; omega, h.l0, h.l1⟩
theorem Lim.done {q k q' k' : Nat} {g : Sig} {R' : List FileV} (h : Lim q k g) (hq : q ≤ q') (hk : k + 1 ≤ k') (hR : ∀ x ∈ R', x.2.1.length + unitsD x.2.2 ≤ q' ∧ x.2.2.length ≤ k') : Lim q' k' (doneG g R').2 := by
  have h0 := h.n0
  have h1 := h.n1
  have h2 := h.l0
  have h3 := h.l1
  unfold doneG
  split
  · exact ⟨fun x hx => by have := h.file x hx; omega, h0, by show g.N ≤ _; omega, h2, h3⟩
  · rename_i hn
    refine ⟨hR, by show 0 ≤ g.N + 1; omega, by show g.N + 1 ≤ _; omega, ?_, ?_⟩
    · show 0 ≤ (if g.fz = true then g.lf - 1 else g.lf)
      split
      · rename_i hf
        have : g.lf ≠ 0 := fun e => hn ⟨hf, e⟩
        omega
      · exact h2
    · show (if g.fz = true then g.lf - 1 else g.lf) ≤ _
      split <;> omega
theorem addB_lim (B : List UInt8) : (addB B).length ≤ 1 ∧ unitsD (addB B) = B.length := by
  unfold addB
  split
  · rename_i h; subst h; simp [unitsD]
  · simp [unitsD, Deed.units]
theorem unitsD_app (D E : List Deed) : unitsD (D ++ E) = unitsD D + unitsD E := by simp [unitsD]
theorem Lim.set {q k q' k' : Nat} {g : Sig} (h : Lim q k g) (hq : q ≤ q') (hk : k ≤ k') {i : Nat} {x : FileV} (hx : x.2.1.length + unitsD x.2.2 ≤ q' ∧ x.2.2.length ≤ k') : ∀ y ∈ g.R.set i x, y.2.1.length + unitsD y.2.2 ≤ q' ∧ y.2.2.length ≤ k' := by
  intro y hy
  rcases List.mem_or_eq_of_mem_set hy with r | r
  · have := h.file y r; omega
  · rw [r]; exact hx
theorem Lim.get {q k : Nat} {g : Sig} (h : Lim q k g) (i : Nat) : (g.R.getD i f0).2.1.length + unitsD (g.R.getD i f0).2.2 ≤ q ∧ (g.R.getD i f0).2.2.length ≤ k := by
  by_cases hi : i < g.R.length
  · exact h.file _ (getD_mem' hi)
  · rw [List.getD_eq_getElem?_getD, List.getElem?_eq_none (by omega)]
    simp [f0, unitsD]
theorem Lim.app {q k q' k' : Nat} {g : Sig} {s : ByteArray} {B : List UInt8} (h : Lim q k g) (hq : q + B.length ≤ q') (hk : k + 1 ≤ k') : Lim q' k' (appG s B g).2 := by
  have h0 := addB_lim B
  unfold appG
  repeat' split
  all_goals first
    | exact h.mono (by omega) (by omega)
    | skip
  · refine h.done (by omega) hk (fun x hx => ?_)
    rcases mem_insF.1 hx with rfl | hx
    · simp; omega
    · have := h.file x hx; omega
  · refine h.done (by omega) hk (h.set (by omega) (by omega) ?_)
    have := h.get (atZ s g.R).toNat
    simp only [unitsD_app, List.length_append]
    omega
theorem Lim.cut {q k q' k' : Nat} {g : Sig} {s : ByteArray} {z : Int} (h : Lim q k g) (hq : q + 1 ≤ q') (hk : k + 1 ≤ k') : Lim q' k' (cutG s z g).2 := by
  unfold cutG
  repeat' split
  all_goals first
    | exact h.mono (by omega) (by omega)
    | skip
  refine h.done (by omega) hk (h.set (by omega) (by omega) ?_)
  have := h.get (atZ s g.R).toNat
  have e : unitsD [Deed.cut z.toNat] = 1 := by simp [unitsD, Deed.units]
  simp only [unitsD_app, List.length_append, List.length_cons, List.length_nil, e]
  omega
theorem Lim.sync {q k q' k' : Nat} {g : Sig} {s : ByteArray} (h : Lim q k g) (hq : q ≤ q') (hk : k + 1 ≤ k') : Lim q' k' (syncG s g).2 := by
  unfold syncG
  repeat' split
  all_goals first
    | exact h.mono (by omega) (by omega)
    | skip
  refine h.done (by omega) hk (h.set (by omega) (by omega) ?_)
  have := h.get (atZ s g.R).toNat
  have h2 := runD_length_le (g.R.getD (atZ s g.R).toNat f0).2.1 (g.R.getD (atZ s g.R).toNat f0).2.2
  refine ⟨?_, by simp⟩
  show (runD _ _).length + unitsD [] ≤ q'
  have e : unitsD [] = 0 := rfl
  omega
theorem mem_taken {R : List FileV} {i : Nat} {x : FileV} (h : x ∈ R.take i ++ R.drop (i + 1)) : x ∈ R := by
  rcases List.mem_append.1 h with r | r
  · exact List.mem_of_mem_take r
  · exact List.mem_of_mem_drop r
theorem Lim.rem {q k q' k' : Nat} {g : Sig} {s : ByteArray} (h : Lim q k g) (hq : q ≤ q') (hk : k + 1 ≤ k') : Lim q' k' (remG s g).2 := by
  unfold remG
  repeat' split
  all_goals first
    | exact h.mono (by omega) (by omega)
    | skip
  exact h.done (by omega) hk (fun x hx => by have := h.file x (mem_taken hx); omega)
theorem Lim.fuse {q k : Nat} {g : Sig} {n : Int} (h : Lim q k g) (hn : n ≤ 9223372036854775807) : Lim q k (fuseG n g).2 := by
  unfold fuseG
  split
  · exact h
  · exact ⟨h.file, h.n0, h.n1, by show 0 ≤ n; omega, hn⟩
theorem crashAt_lim (K : List Int) (j : Nat) (x : FileV) : (crashAt K j x).2.1.length + unitsD (crashAt K j x).2.2 ≤ x.2.1.length + unitsD x.2.2 ∧ (crashAt K j x).2.2.length = 0 := by
  unfold crashAt
  refine ⟨?_, rfl⟩
  have h1 := runD_length_le x.2.1 (keepsD (unitK K j x.2.2).toNat x.2.2)
  have h2 := units_keeps x.2.2 (unitK K j x.2.2).toNat
  show (runD _ _).length + unitsD [] ≤ _
  have e : unitsD [] = 0 := rfl
  omega
theorem Lim.crash {q k : Nat} {g : Sig} {K : List Int} (h : Lim q k g) : Lim q k (crashG K g).2 := by
  refine ⟨fun x hx => ?_, h.n0, h.n1, by show (0 : Int) ≤ 0; omega, by show (0 : Int) ≤ _; omega⟩
  have hx : x ∈ crashL K g.R := hx
  unfold crashL at hx
  obtain ⟨j, hj, rfl⟩ := List.mem_mapIdx.1 hx
  have h1 := crashAt_lim K j g.R[j]
  have h2 := h.file _ (List.getElem_mem hj)
  omega
end Go.Proofs.Ytgbpgmbnihfkkaa

/- the iterator of frame.frames, walked: for every loop body that keeps its word -/
namespace Go.Proofs.Ytgbpgmbnihfkkaa
open Go.RowKit Go.Shelf
attribute [local go_sem] Oper.semAt_some
/-- what the iterator asks of the world between two rounds. -/
structure FramesMem (ao : Option Addr) (n cap : Nat) (bs : List UInt8) (Bb Br Rb : Nat) (W : World) : Prop where
  b : W.cell? ⟨Bb, 0, none⟩ = some (.slice ao n cap)
  r : W.cell? ⟨Br, 0, none⟩ = some (.pointer (some ⟨Rb, 0, none⟩))
  c : ∃ v, W.cell? ⟨Rb, 0, none⟩ = some v
  f : W.frozen? ⟨Rb, 0, none⟩ = false
  bytes : IsBytes W ao n cap bs
theorem FramesMem.later {ao : Option Addr} {n cap : Nat} {bs : List UInt8} {Bb Br Rb : Nat} {W W' : World} (h : FramesMem ao n cap bs Bb Br Rb W) (hb : Below W.heap.size W W') : FramesMem ao n cap bs Bb Br Rb W' := by
  have h1 := block_lt_of_cell h.b
  have h2 := block_lt_of_cell h.r
  obtain ⟨v, hv⟩ := h.c
  have h3 := block_lt_of_cell hv
  exact ⟨(hb.cell (p := ⟨Bb, 0, none⟩) h1).trans h.b, (hb.cell (p := ⟨Br, 0, none⟩) h2).trans h.r, ⟨v, (hb.cell (p := ⟨Rb, 0, none⟩) h3).trans hv⟩, (hb.frozen (p := ⟨Rb, 0, none⟩) h3).trans h.f, h.bytes.later hb⟩
theorem setCell_twice (w : World) (a : Addr) (u v : Value) : (w.setCell a u).setCell a v = w.setCell a v := by
  unfold World.setCell
  congr 1
  apply Array.ext_getElem?
  intro i
  simp only [Array.getElem?_modify]
  by_cases h : a.block = i
  · simp only [h, if_true]
    cases w.heap[i]? with
    | none => rfl
    | some o =>
      cases o <;> simp
      split <;> simp
  · simp [h]
set_option maxRecDepth 100000 in
set_option maxHeartbeats 1000000 in
theorem frames1_in (m : Nat) (l Bb Br Rb : Nat) (ao : Option Addr) (n cap : Nat) (bs : List UInt8) (J : List (List UInt8) → Nat → World → Prop)
    (hJb : ∀ pre k A B, J pre k A → Below A.heap.size A B → J pre k B)
    (hJm : ∀ pre k A, J pre k A → FramesMem ao n cap bs Bb Br Rb A)
    (hY : ∀ pre k r ao' n' cap' A, J pre k A → IsBytes A ao' n' cap' r → ao'.map (·.block) = ao.map (·.block) → k + r.length + 12 ≤ n → r.length ≤ 65536 → YieldAt Fence.wide (m - 1) Try.prog l #[.slice ao' n' cap', .int .i64 ((k + (r.length + 12) : Nat) : Int)] A fun e A' =>
      e = .returned (.bool true) ∧ J (pre ++ [r]) (k + (r.length + 12)) A')
    (hne : ¬ Br = Rb) (W : World) (h0 : J [] 0 W) :
    CallsIn Fence.wide m Try.prog 52 #[.func (.yield l) #[] #[], .pointer (some ⟨Bb, 0, none⟩), .pointer (some ⟨Br, 0, none⟩)] W fun e W' => (∃ v, e = .returned v) ∧
      ∃ W2, J (Fr.scanF bs).1 (Fr.scanF bs).2.1 W2 ∧ W' = W2.setCell ⟨Rb, 0, none⟩ (.int .i64 ((Fr.scanF bs).2.2 : Int)) := by
  refine callsIn_of_wp Try.func52 rfl trivial ?_ rfl
  simp only [Try.ntmps52, List.size_toArray, List.length_cons, List.length_nil, Nat.reduceAdd, Nat.reduceSub, Array.replicate_succ, Array.replicate_zero, List.push_toArray, List.append_toArray, List.nil_append, List.cons_append]
  have hnn : n ≤ 9223372036854775807 := by have := (hJm _ _ _ h0).bytes; have h1 := this.2.1; have h2 := this.2.2.1; unfold maxLen at h2; omega
  have hlen : bs.length = n := (hJm _ _ _ h0).bytes.1
  have HL := Lib.hid hlen
  clear hlen
  gi_wp2
  gi_loopw [4] (fun a wr => ∃ (pre : List (List UInt8)) (k : Nat), a = .int .i64 k ∧ k ≤ n ∧ J pre k wr ∧
      Fr.scanF bs = (pre ++ (Fr.scanF (bs.drop k)).1, k + (Fr.scanF (bs.drop k)).2.1, (Fr.scanF (bs.drop k)).2.2)) (fun a _ => n - (intOf a).toNat)
  case atStart => exact ⟨[], 0, rfl, by omega, h0, by simp⟩
  case round =>
    obtain ⟨pre, k, rfl, hk, hJ, hscan⟩ := hrel
    have hm := hJm _ _ _ hJ
    have hcb := hm.b
    have hcr := hm.r
    obtain ⟨vr, hcc⟩ := hm.c
    have hcf := hm.f
    obtain ⟨ao1, hsl1, hb1, hk1⟩ := slice_from hm.bytes k hk
    have hsl1 := hsl1 wr
    have hl1 : (bs.drop k).length = n - k := by have := HL.out; simp; omega
    have hne2 : ¬ Rb = Br := fun h => hne h.symm
    have hfin : ∀ c, Fr.headF (bs.drop k) = .inl c → Fr.scanF bs = (pre, k, c) := by
      intro c hc
      rw [hscan, Fr.scanF_eq, hc]; simp
    have HB1 := Lib.hid hb1
    have HM := Lib.hid hm
    have HS := Lib.hid hscan
    have HJ := Lib.hid hJ
    have HL1 := Lib.hid hl1
    have HF := Lib.hid hfin
    have HK1 := Lib.hid hk1
    clear hb1 hm hscan hJ hl1 hfin hk1
    by_cases h8 : n - k < 8
    · by_cases h0 : n - k = 0
      · have e := HF.out 0 (by unfold Fr.headF; rw [HL1.out, h0]; rfl)
        have HE := Lib.hid e
        clear e
        gi_wp2
        refine bodyPost_ret (results_none rfl _ _ _) rfl ?_
        rw [HE.out]
        exact ⟨⟨_, rfl⟩, wr, HJ.out, setCell_twice _ _ _ _⟩
      · have e := HF.out 1 (by unfold Fr.headF; rw [HL1.out, if_pos h8, if_neg h0])
        have HE := Lib.hid e
        have hz : (((n - k : Nat) : Int) == 0) = false := by simp; omega
        clear e
        gi_wp2
        refine bodyPost_ret (results_none rfl _ _ _) rfl ?_
        rw [HE.out]
        exact ⟨⟨_, rfl⟩, wr, HJ.out, rfl⟩
    · obtain ⟨d, hd⟩ : ∃ d, d = bs.drop k := ⟨_, rfl⟩
      rw [← hd] at HB1 HL1 HF
      have HD := Lib.hid hd
      clear hd
      obtain ⟨ao2, hsl2, hb2, _⟩ := slice_from HB1.out 4 (by omega)
      have hsl2 : (Instr.slice 30 (.slice ao1 (n - k) (cap - k)) (some (.int .i64 4)) none none).run Try.prog wr = .ok (.slice ao2 (n - k - 4) (cap - k - 4)) wr := hsl2 wr
      have HB2 := Lib.hid hb2
      clear hb2
      obtain ⟨x, hx⟩ : ∃ x, x = Fr.num4 d := ⟨_, rfl⟩
      have hxlt := Fr.num4_lt d
      rw [← hx] at hxlt
      have HN := Lib.hid (Fr.not_nat x hxlt)
      have HX := Lib.hid hx
      clear hx
      gi_wp2_with fail
      refine ⟨trivial, fun h => by simp [Fence.wide] at h, ?_⟩
      refine (callsIn_wide.2 (number_any _ _ _ d _ HB1.out (by omega))).mono ?_
      rintro e w' ⟨rfl, rfl⟩
      rw [← HX.out]
      gi_wp2_with fail
      refine ⟨trivial, fun h => by simp [Fence.wide] at h, ?_⟩
      refine (callsIn_wide.2 (number_any _ _ _ (d.drop 4) _ HB2.out (by omega))).mono ?_
      rintro e w' ⟨rfl, rfl⟩
      obtain ⟨y, hy⟩ : ∃ y, y = Fr.num4 (d.drop 4) := ⟨_, rfl⟩
      rw [← hy]
      have HY := Lib.hid hy
      clear hy
      by_cases hA : y = 4294967295 - x
      · have hAb : ((y : Int) != bits .xor .u32 IntKind.u32.max (x : Int)) = false := by rw [HN.out, hA]; simp
        have hA1 : (y : Int) ≤ bits .xor .u32 IntKind.u32.max (x : Int) := by rw [HN.out, hA]; omega
        have hA2 : bits .xor .u32 IntKind.u32.max (x : Int) ≤ (y : Int) := by rw [HN.out, hA]; omega
        have HA := Lib.hid hA
        clear hA
        by_cases hB : x ≤ 65536
        · by_cases hC : n - k < x + 12
          · have e := HF.out 1 (by unfold Fr.headF; rw [HL1.out, ← HX.out, ← HY.out, HA.out, if_neg h8, if_neg (by omega), if_pos hC])
            have HE := Lib.hid e
            clear e
            gi_wp2_with fail
            refine bodyPost_ret (results_none rfl _ _ _) rfl ?_
            rw [HE.out]
            exact ⟨⟨_, rfl⟩, wr, HJ.out, rfl⟩
          · obtain ⟨ao3, hsl3, hb3, _⟩ := slice_from HB1.out (8 + x) (by omega)
            obtain ⟨ao4, hsl4, hb4, hk4⟩ := slice_both HB1.out 8 (8 + x) (by omega) (by omega)
            have e8 : ((8 + x : Nat) : Int) = 8 + (x : Int) := by omega
            rw [e8] at hsl3 hsl4
            rw [show 8 + x - 8 = x by omega] at hsl4 hb4
            have HB3 := Lib.hid hb3
            have HB4 := Lib.hid hb4
            have HK4 := Lib.hid (hk4.trans HK1.out)
            clear hk4
            have E8 := Lib.hid e8
            clear hb3 hb4 e8
            have hsl4 : ∀ w', (Instr.slice 30 (.slice ao1 (n - k) (cap - k)) (some (.int .i64 8)) (some (.int .i64 (8 + (x : Int)))) none).run Try.prog w' = .ok (.slice ao4 x (cap - k - 8)) w' := hsl4
            gi_wp2_with fail
            gi_region_with (first | (refine ⟨trivial, fun h => by simp [Fence.wide] at h, ?_⟩; gi_at_call 53; refine (callsIn_wide.2 (number_any _ _ _ (d.drop (8 + x)) _ (by exact HB3.out) (by omega))).mono ?_; rintro e w' ⟨rfl, rfl⟩) | (refine ⟨trivial, fun h => by simp [Fence.wide] at h, ?_⟩; gi_at_call 38; refine (callsIn_wide.2 (Sum_any _ _ _ ((d.take (8 + x)).drop 8) _ (by exact HB4.out))).mono ?_; rintro e w5 ⟨rfl, hb5⟩))
            have hb5 : Below wr.heap.size wr w5 := ⟨hb5.os, hb5.tape, hb5.output, hb5.size, hb5.block⟩
            have hJ5 := hJb _ _ _ _ HJ.out hb5
            have hm5 := hJm _ _ _ hJ5
            have hcb5 := hm5.b
            have hcr5 := hm5.r
            obtain ⟨vr5, hcc5⟩ := hm5.c
            have hcf5 := hm5.f
            have hr4 : (d.take (8 + x)).drop 8 = (d.drop 8).take x := by rw [List.drop_take]; congr 1; omega
            rw [hr4] at HB4
            obtain ⟨r, hr⟩ : ∃ r, r = (d.drop 8).take x := ⟨_, rfl⟩
            rw [hr4, ← hr]
            rw [← hr] at HB4
            have hrl : r.length = x := HB4.out.1
            obtain ⟨z, hz⟩ : ∃ z, z = Fr.num4 (d.drop (8 + x)) := ⟨_, rfl⟩
            rw [← hz]
            obtain ⟨s, hs⟩ : ∃ s, s = (Fr.sumB r).toNat := ⟨_, rfl⟩
            rw [← hs]
            by_cases hD : z = s
            · have e := HS.out
              have hhead : Fr.headF d = .inr r := by
                unfold Fr.headF
                rw [HL1.out, ← HX.out, ← HY.out, HA.out, if_neg h8, if_neg (by omega), if_neg hC, ← hz, ← hr, ← hs, hD, if_neg (by simp)]
              rw [← HD.out, Fr.scanF_eq d, hhead] at e
              simp only at e
              have hY5 := hY pre k r ao4 x (cap - k - 8) w5 hJ5 (HB4.out.later hb5) HK4.out (by rw [hrl]; omega) (by rw [hrl]; omega)
              rw [hrl] at hY5 e
              have eat : ((k + (x + 12) : Nat) : Int) = (k : Int) + (8 + (x : Int) + 4) := by omega
              rw [eat] at hY5
              obtain ⟨fn, tmps, assign, body, hyy, hR⟩ := hY5
              have hD1 : (z : Int) ≤ (s : Int) := by omega
              have hD2 : (s : Int) ≤ (z : Int) := by omega
              have HE := Lib.hid e
              have HRL := Lib.hid hrl
              clear e hrl hhead eat hr4 hz hs hr hD hm5
              gi_wp2
              refine ⟨fun h => by simp [Fence.wide] at h, ?_⟩
              refine hR.mono ?_
              rintro e W' ⟨rfl, hJ'⟩
              gi_wp2
              go_roundw
              case rel =>
                refine ⟨pre ++ [r], k + (x + 12), by congr 1; omega, by omega, hJ', ?_⟩
                rw [HE.out, HD.out, List.drop_drop]
                simp [Nat.add_assoc]
              case measure => simp [intOf]; omega
            · have e := HF.out 2 (by unfold Fr.headF; rw [HL1.out, ← HX.out, ← HY.out, HA.out, if_neg h8, if_neg (by omega), if_neg hC, ← hz, ← hr, ← hs, if_pos hD])
              have HE := Lib.hid e
              have hD1 : ¬ (z : Int) = (s : Int) := by omega
              clear e hr4 hz hs hr hD
              gi_wp2
              refine bodyPost_ret (results_none rfl _ _ _) rfl ?_
              rw [HE.out]
              exact ⟨⟨_, rfl⟩, w5, hJ5, rfl⟩
        · have e := HF.out 2 (by unfold Fr.headF; rw [HL1.out, ← HX.out, ← HY.out, if_neg h8, if_pos (by omega)])
          have HE := Lib.hid e
          clear e
          gi_wp2_with fail
          refine bodyPost_ret (results_none rfl _ _ _) rfl ?_
          rw [HE.out]
          exact ⟨⟨_, rfl⟩, wr, HJ.out, rfl⟩
      · have hAb : ((y : Int) != bits .xor .u32 IntKind.u32.max (x : Int)) = true := by rw [HN.out, bne_iff_ne]; omega
        have hA1 : ¬ (y : Int) = bits .xor .u32 IntKind.u32.max (x : Int) := by rw [HN.out]; omega
        have e := HF.out 2 (by unfold Fr.headF; rw [HL1.out, ← HX.out, ← HY.out, if_neg h8, if_pos (by omega)])
        have HE := Lib.hid e
        clear e hA
        gi_wp2_with fail
        refine bodyPost_ret (results_none rfl _ _ _) rfl ?_
        rw [HE.out]
        exact ⟨⟨_, rfl⟩, wr, HJ.out, rfl⟩
end Go.Proofs.Ytgbpgmbnihfkkaa
