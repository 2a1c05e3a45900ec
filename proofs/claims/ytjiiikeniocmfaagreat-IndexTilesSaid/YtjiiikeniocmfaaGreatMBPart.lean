/- boxtree: part (printed by mkpart12.py) -/
import Derived.Test.YtjiiikeniocmfaaGreatMBPart1
import Derived.IntWalk
set_option linter.unusedSimpArgs false
set_option linter.unusedVariables false
namespace Go.Proofs.YtjiiikeniocmfaaGreat
open Go.RowKit Go.Geo
attribute [local go_sem] Oper.semAt_some
/-- how many parts there are. -/
def lenAt (w : World) (g : Nat) : Nat := match w.cell? ⟨g, 3, none⟩ with
  | some (.slice _ n _) => n
  | _ => 0
theorem TMem.lenAt {B g : Nat} {w : World} {lv ov nv : Value} {L : List Bx} {O : List Int} {N : List Nd} (h : TMem B w g lv ov nv L O N) : lenAt w g = N.length := by
  obtain ⟨na, nc, hv, _⟩ := h.own.n.is
  unfold Go.Proofs.YtjiiikeniocmfaaGreat.lenAt
  rw [h.row.cell.2.2.2, hv]
set_option maxRecDepth 100000 in
set_option maxHeartbeats 16000000 in
theorem part_any (B g : Nat) (L : List Bx) (la : Option Addr) (n lc : Nat) (og no oc : Nat) (hin : InB L) (hn : n = L.length) (hn5 : n ≤ 100000) : ∀ (s : Nat) (i f t : Nat) (ac : Bool) (w : World) (O : List Int) (N : List Nd) (nv : Value), t - f = s → no = O.length →
    PPre B g (.slice la n lc) (.slice (some ⟨og, 0, none⟩) no oc) L i f t w O N nv →
    Calls Tryz.prog 49 #[.pointer (some ⟨g, 0, none⟩), .int .i64 (i : Int), .int .i64 (f : Int), .int .i64 (t : Int), .bool ac] w (PartR B g (.slice la n lc) (.slice (some ⟨og, 0, none⟩) no oc) nv L ac i f t O N w) := by
  intro s
  induction s using Nat.strongRecOn with
  | _ s ih =>
  intro i f t ac w O N n0 hs hno hpre
  have HIH := Lib.hid ih
  obtain ⟨W1, hW1⟩ : ∃ W, W = (w.alloc (.cells #[.pointer (some ⟨g, 0, none⟩)] 53)).alloc (.cells #[.bool ac] 4) := ⟨_, rfl⟩
  obtain ⟨tb, htb⟩ : ∃ b, b = w.heap.size := ⟨_, rfl⟩
  obtain ⟨ab, hab⟩ : ∃ b, b = w.heap.size + 1 := ⟨_, rfl⟩
  have hb1 : Below w.heap.size w W1 := by rw [hW1]; exact ((Below.refl _ _).alloc (Nat.le_refl _) _).alloc (by simp) _
  have hfr : Frm tb ab g ac W1 := ⟨by rw [hW1, htb]; exact (Below.heap_alloc _ _ _ (by simp)).trans (alloc_new _ _), by rw [hW1, hab]; exact alloc_new2 _ _ _⟩
  have HFR := Lib.hid hfr
  have HB1 := Lib.hid hb1
  have hm1 := hpre.mem.later hb1
  have HM1 := Lib.hid hm1
  have HM0 := Lib.hid hpre.mem
  have HPR := Lib.hid hpre
  have hft := hpre.lt
  have hto := hpre.le
  have hi4 := hpre.at_
  have hO1000 := hpre.few
  have hdeep := hpre.deep
  have hsm := hpre.small
  clear hfr hb1 hm1 hpre ih
  go_enter Tryz.func49, Tryz.ntmps49
  go_wp2_with fail
  rw [← hW1, ← hab, ← htb]
  clear hW1 hab htb
  generalize hlv : Value.slice la n lc = lv at *
  generalize hov : Value.slice (some ⟨og, 0, none⟩) no oc = ov at *
  have HLV := Lib.hid hlv
  have HOV := Lib.hid hov
  clear hlv hov
  go_loopw [] (fun wr => Hid (∃ (k : Nat) (nv : Value), (k = 0 ∨ N.length + k ≤ i + 1) ∧ TMem B wr g lv ov nv L O (N ++ List.replicate k nd0) ∧ Kp g ov n0 nv W1 wr ∧ Frm tb ab g ac wr)) (fun wr => i + 1 - lenAt wr g)
  case atStart => exact Lib.hid ⟨0, n0, .inl rfl, by simpa using HM1.out, Kp.refl _ _ _ _, HFR.out⟩
  case round =>
    obtain ⟨k, nv, hk, hst1, hst2, hst3⟩ := hrel.out
    obtain ⟨N1, hN1⟩ : ∃ N1, N1 = N ++ List.replicate k nd0 := ⟨_, rfl⟩
    rw [← hN1] at hst1
    obtain ⟨na, nc, hnv, hnx⟩ := hst1.own.n.is
    obtain ⟨m, hm⟩ : ∃ m, m = N1.length := ⟨_, rfl⟩
    have hmk : m = N.length + k := by rw [hm, hN1, List.length_append, List.length_replicate]
    rw [← hm] at hnv hnx
    have hm5 : m ≤ 5000 := by omega
    have HMK := Lib.hid hmk
    have HNV := Lib.hid hnv
    have HML : Hid (N1.length = m) := Lib.hid hm.symm
    have HST := Lib.hid (And.intro hst1 (And.intro hst2 hst3))
    have HN1 := Lib.hid hN1
    have HLA := hst1.lenAt
    rw [← hm] at HLA
    have HLA := Lib.hid HLA
    have c5 := hst3.t0
    have c3 := hst1.row.cell.2.2.2
    rw [hnv] at c3
    have hncm := hnx.2.2.1
    have hmnc := hnx.2.1
    unfold maxLen at hncm
    have hi0 : (0 : Int) ≤ (i : Int) := by omega
    have HK := Lib.hid hk
    clear hrel hst1 hst2 hst3 hnv hN1 hm hnx hmk hk
    by_cases hmi : m ≤ i
    · have hmi5 : (m : Int) ≤ (i : Int) := by omega
      have HNL : Hid (N1.length + 1 ≤ 1000000000) := Lib.hid (by rw [HML.out]; omega)
      have HKK : Hid (N1 ++ [nd0] = N ++ List.replicate (k + 1) nd0) := Lib.hid (by rw [HN1.out, List.replicate_succ', List.append_assoc])
      go_wp2_with fail
      clear c5 c3
      refine wp_region_J (s := [(18, 0), (19, 1), (20, 2), (21, 3), (22, 4), (23, 5), (24, 6), (25, 7), (26, 8), (27, 9)]) (by kernel_rfl) (ChainJ (fun iX => match iX with | 0 => some (.pointer (some ⟨g, 0, none⟩)) | 1 => some (.pointer (some ⟨g, 0, none⟩)) | 2 => some (.pointer (some ⟨g, 0, none⟩)) | 3 => some (.pointer (some ⟨g, 3, none⟩)) | 4 => some (.slice na m nc) | 5 => some (.agg #[.int .i64 0, .int .i64 0, .int .i64 0, .int .i64 0, .int .i64 0, .int .i64 0]) | 8 => some (.pointer (some ⟨g, 0, none⟩)) | 9 => some (.pointer (some ⟨g, 3, none⟩)) | _ => none) [6, 7, 10] (StN W1 B g lv ov nv n0 L O N1 (Frm tb ab g ac))) (by kernel_rfl) (by kernel_rfl) (by kernel_rfl) (by kernel_rfl) (fun _ => undef) ?start2 ?step2 ?done2
      case start2 => exact ChainJ.start (⟨HST.out.1.later ((Below.refl _ _).drew), HST.out.2.1.grew ((Below.refl _ _).drew), HST.out.2.2.later ((Below.refl _ _).drew)⟩)
      case step2 =>
        refine ⟨?o2_0, ?o2_1, ?o2_2, ?o2_3, ?o2_4, ?o2_5, ?o2_6, ?o2_7, ?o2_8, ?o2_9, ?o2_10, trivial⟩
        case o2_0 =>
          intro LX V aX wX K hl hp hcl hf hJ hK
          have t5 : aX.tmps[5]? = some (.pointer (some ⟨tb, 0, none⟩)) := hf.old (by kernel_rfl) rfl
          obtain ⟨vs, hlen, hS⟩ := hJ.upto 2 (by decide) (hcl.no 10 (by kernel_rfl) hl)
          have c5 : wX.cell? ⟨tb, 0, none⟩ = some (.pointer (some ⟨g, 0, none⟩)) := by
            match vs, hlen, hS with
            | [], _, hS => exact (hS.2.2).t0
            | [_], _, hS => exact (hS.2.2.1).t0
            | [_, _], _, hS => exact (hS.2.2.2).t0
            | _ :: _ :: _ :: _, h, _ => exact absurd h (by simp)
          rw [if_pos (by rfl)]
          go_simp
          exact hK _ _ (hJ.val 0 _ (by kernel_rfl) rfl (fun _ h => h))
        case o2_1 =>
          intro LX V aX wX K hl hp hcl hf hJ hK
          have t5 : aX.tmps[5]? = some (.pointer (some ⟨tb, 0, none⟩)) := hf.old (by kernel_rfl) rfl
          obtain ⟨vs, hlen, hS⟩ := hJ.upto 1 (by decide) (hcl.no 7 (by kernel_rfl) (hcl.no 4 (by kernel_rfl) (hcl.no 3 (by kernel_rfl) (hcl.no 2 (by kernel_rfl) (hl)))))
          have c5 : wX.cell? ⟨tb, 0, none⟩ = some (.pointer (some ⟨g, 0, none⟩)) := by
            match vs, hlen, hS with
            | [], _, hS => exact (hS.2.2).t0
            | [_], _, hS => exact (hS.2.2.1).t0
            | _ :: _ :: _, h, _ => exact absurd h (by simp)
          rw [if_pos (by rfl)]
          go_simp
          exact hK _ _ (hJ.val 1 _ (by kernel_rfl) rfl (fun _ h => h))
        case o2_2 =>
          intro LX V aX wX K hl hp hcl hf hJ hK
          have t19 := hf.in (i := 1) (d := 19) (by kernel_rfl) (hp 1 (by kernel_rfl)) (hJ.vals 1 _ rfl (hp 1 (by kernel_rfl)))
          rw [if_pos (by rfl)]
          go_simp
          exact hK _ _ (hJ.val 2 _ (by kernel_rfl) rfl (fun _ h => h))
        case o2_3 =>
          intro LX V aX wX K hl hp hcl hf hJ hK
          have t20 := hf.in (i := 2) (d := 20) (by kernel_rfl) (hp 2 (by kernel_rfl)) (hJ.vals 2 _ rfl (hp 2 (by kernel_rfl)))
          rw [if_pos (by rfl)]
          go_simp
          exact hK _ _ (hJ.val 3 _ (by kernel_rfl) rfl (fun _ h => h))
        case o2_4 =>
          intro LX V aX wX K hl hp hcl hf hJ hK
          have t21 := hf.in (i := 3) (d := 21) (by kernel_rfl) (hp 3 (by kernel_rfl)) (hJ.vals 3 _ rfl (hp 3 (by kernel_rfl)))
          obtain ⟨vs, hlen, hS⟩ := hJ.upto 1 (by decide) (hcl.no 7 (by kernel_rfl) hl)
          have c3 : wX.cell? ⟨g, 3, none⟩ = some nv := by
            match vs, hlen, hS with
            | [], _, hS => exact hS.1.row.cell.2.2.2
            | [_], _, hS => exact hS.1.row.cell.2.2.2
            | _ :: _ :: _, h, _ => exact absurd h (by simp)
          rw [HNV.out] at c3
          rw [if_pos (by rfl)]
          go_simp
          exact hK _ _ (hJ.val 4 _ (by kernel_rfl) rfl (fun _ h => h))
        case o2_5 =>
          intro LX V aX wX K hl hp hcl hf hJ hK
          rw [if_pos (by rfl)]
          go_simp
          exact hK _ _ (hJ.val 5 _ (by kernel_rfl) rfl (fun _ h => h))
        case o2_6 =>
          intro LX V aX wX K hl hp hcl hf hJ hK
          have t23 := hf.in (i := 5) (d := 23) (by kernel_rfl) (hp 5 (by kernel_rfl)) (hJ.vals 5 _ rfl (hp 5 (by kernel_rfl)))
          rw [if_pos (by rfl)]
          obtain ⟨vs, hlen, hvs, hS, hn⟩ := hJ.next (by kernel_rfl) 0 (by kernel_rfl) hl (.inl rfl) rfl
          match vs, hlen, hvs, hS, hn with
          | [], _, hvs, hS, hn =>
            go_simp
            exact hK _ _ (hn _ _ ⟨hS.1.later ((Below.refl _ _).alloc (Nat.le_refl _) _), hS.2.1.grew ((Below.refl _ _).alloc (Nat.le_refl _) _), hS.2.2.later ((Below.refl _ _).alloc (Nat.le_refl _) _), ⟨_, rfl, one_N _ nd0 rfl⟩⟩)
        case o2_7 =>
          intro LX V aX wX K hl hp hcl hf hJ hK
          have t22 := hf.in (i := 4) (d := 22) (by kernel_rfl) (hp 4 (by kernel_rfl)) (hJ.vals 4 _ rfl (hp 4 (by kernel_rfl)))
          have t24 := hf.in (i := 6) (d := 24) (by kernel_rfl) (hp 6 (by kernel_rfl)) rfl
          rw [if_pos (by rfl)]
          obtain ⟨vs, hlen, hvs, hS, hn⟩ := hJ.next (by kernel_rfl) 1 (by kernel_rfl) hl (.inr (hp 6 (by kernel_rfl))) rfl
          match vs, hlen, hvs, hS, hn with
          | [a0], _, hvs, hS, hn =>
            have e0 : V 6 = a0 := hvs 0 (by decide)
            obtain ⟨h1, h2, h3, k, hk, hi⟩ := hS
            rw [e0, hk] at t24
            rw [← HNV.out] at t22
            refine opwp_append_N _ _ rfl B nv N1 (eval_tmp t22) h1.own.n _ _ _ [nd0] (eval_tmp t24) hi HNL.out (Nat.le_of_lt (Nat.lt_of_le_of_lt h1.own.low (heap_lt2 h1.row))) ?_
            intro v' w' ho hg hf
            exact hK _ _ (hn _ _ ⟨h1.row.grown h1.own hg, h1.own.growN ho hg, h2.grown hg hf, h3.grown h1.own hg⟩)
        case o2_8 =>
          intro LX V aX wX K hl hp hcl hf hJ hK
          have t18 := hf.in (i := 0) (d := 18) (by kernel_rfl) (hp 0 (by kernel_rfl)) (hJ.vals 0 _ rfl (hp 0 (by kernel_rfl)))
          rw [if_pos (by rfl)]
          go_simp
          exact hK _ _ (hJ.val 8 _ (by kernel_rfl) rfl (fun _ h => h))
        case o2_9 =>
          intro LX V aX wX K hl hp hcl hf hJ hK
          have t26 := hf.in (i := 8) (d := 26) (by kernel_rfl) (hp 8 (by kernel_rfl)) (hJ.vals 8 _ rfl (hp 8 (by kernel_rfl)))
          rw [if_pos (by rfl)]
          go_simp
          exact hK _ _ (hJ.val 9 _ (by kernel_rfl) rfl (fun _ h => h))
        case o2_10 =>
          intro LX V aX wX K hl hp hcl hf hJ hK
          have t27 := hf.in (i := 9) (d := 27) (by kernel_rfl) (hp 9 (by kernel_rfl)) (hJ.vals 9 _ rfl (hp 9 (by kernel_rfl)))
          have t25 := hf.in (i := 7) (d := 25) (by kernel_rfl) (hp 7 (by kernel_rfl)) rfl
          rw [if_pos (by rfl)]
          obtain ⟨vs, hlen, hvs, hS, hn⟩ := hJ.next (by kernel_rfl) 2 (by kernel_rfl) hl (.inr (hp 7 (by kernel_rfl))) rfl
          match vs, hlen, hvs, hS, hn with
          | [a0, a1], _, hvs, hS, hn =>
            have e0 : V 6 = a0 := hvs 0 (by decide)
            have e1 : V 7 = a1 := hvs 1 (by decide)
            obtain ⟨h1, h2, h3, h4⟩ := hS
            have f1 := h1.frozen 3
            have c1 := h1.cell.2.2.2
            obtain ⟨aN, cN, hvN, _⟩ := h2.n.is
            have hvN2 := hvN
            generalize (N1 ++ [nd0]).length = M at hvN
            rw [e1, hvN] at t25
            go_simp
            refine hK undef _ (hn undef _ ⟨⟨?_, h2.set h1 rfl⟩, h3.set, h4.set h1⟩)
            rw [hvN]
            exact h1.set3 _
      intro V wZ hJ
      obtain ⟨vs, hlen, hvs, hS⟩ := hJ.all (by kernel_rfl)
      match vs, hlen, hvs, hS with
      | [a0, a1, a2], _, hvs, hS =>
        have e0 : V 6 = a0 := hvs 0 (by decide)
        have e1 : V 7 = a1 := hvs 1 (by decide)
        have e2 : V 10 = a2 := hvs 2 (by decide)
        have HZ := Lib.hid hS
        simp only [puts, Act.put, List.setIfInBounds_toArray, List.set_cons_zero, List.set_cons_succ]
        clear hJ hvs hS
        go_wp2_with fail
        go_roundw
        case rel => exact Lib.hid ⟨k + 1, a1, by have := HMK.out; omega, by rw [← HKK.out]; exact HZ.out.1, HZ.out.2.1, HZ.out.2.2⟩
        case measure =>
          have h1 := HZ.out.1.lenAt
          rw [List.length_append, HML.out] at h1
          rw [h1, HLA.out]
          simp
          omega
    · have hmi5 : ¬ (m : Int) ≤ (i : Int) := by omega
      have him5 : (i : Int) < (m : Int) := by omega
      have HIM : Hid ((0 : Int) ≤ (i : Int) ∧ (i : Int) < (m : Int)) := Lib.hid ⟨hi0, him5⟩
      obtain ⟨nb, hnb⟩ : ∃ nb, na = some ⟨nb, 0, none⟩ := by
        have h := HST.out.1.own.n
        rw [HNV.out] at h
        rcases h.2 with ⟨e, h0⟩ | ⟨g', _, _, e, _⟩
        · rw [HML.out] at h0; omega
        · injection e with e _ _
          exact ⟨g', e⟩
      subst hnb
      have HAR : Hid (∀ wX, TMem B wX g lv ov nv L O N1 → Calls Tryz.prog 74 #[.pointer (some ⟨g, 0, none⟩), .int .i64 (f : Int), .int .i64 (t : Int)] wX (AroundR L O f t wX)) := Lib.hid (fun wX hX => by
        obtain ⟨ax, cx, hlx, hix⟩ := hX.own.l.is
        obtain ⟨ao, co, hox, hio⟩ := hX.own.o.ints
        have hr := hX.row
        rw [hlx, hox] at hr
        exact around_any ax L.length cx L ao O.length co O nv g f t wX hix hio hr hft hto (fun x hx => by have := HPR.out.idx x hx; omega))
      go_wp2_with fail
      clear c5 c3
      refine wp_region_J (s := [(28, 0), (29, 1), (30, 2), (31, 3), (32, 4), (33, 5), (34, 6), (35, 7), (36, 8), (37, 9), (38, 10), (39, 11), (40, 12)]) (by kernel_rfl) (ChainJ (fun iX => match iX with | 0 => some (.pointer (some ⟨g, 0, none⟩)) | 1 => some (.pointer (some ⟨g, 0, none⟩)) | 2 => some (.pointer (some ⟨g, 3, none⟩)) | 3 => some (.slice (some ⟨nb, 0, none⟩) m nc) | 4 => some (.int .i64 (i : Int)) | 5 => some (.int .i64 (f : Int)) | 6 => some (.int .i64 (t : Int)) | 7 => some (.pointer (some ⟨g, 0, none⟩)) | 8 => some (.int .i64 (f : Int)) | 9 => some (.int .i64 (t : Int)) | 12 => some (.pointer (some ⟨nb, i * 6, none⟩)) | _ => none) [10, 11, 13] (StA W1 B g lv ov nv n0 L O N1 i f t (Frm tb ab g ac))) (by kernel_rfl) (by kernel_rfl) (by kernel_rfl) (by kernel_rfl) (fun _ => undef) ?start3 ?step3 ?done3
      case start3 => exact ChainJ.start (⟨HST.out.1.later ((Below.refl _ _).drew), HST.out.2.1.grew ((Below.refl _ _).drew), HST.out.2.2.later ((Below.refl _ _).drew)⟩)
      case step3 =>
        refine ⟨?o3_0, ?o3_1, ?o3_2, ?o3_3, ?o3_4, ?o3_5, ?o3_6, ?o3_7, ?o3_8, ?o3_9, ?o3_10, ?o3_11, ?o3_12, ?o3_13, trivial⟩
        case o3_0 =>
          intro LX V aX wX K hl hp hcl hf hJ hK
          have t5 : aX.tmps[5]? = some (.pointer (some ⟨tb, 0, none⟩)) := hf.old (by kernel_rfl) rfl
          obtain ⟨vs, hlen, hS⟩ := hJ.upto 2 (by decide) (hcl.no 13 (by kernel_rfl) hl)
          have c5 : wX.cell? ⟨tb, 0, none⟩ = some (.pointer (some ⟨g, 0, none⟩)) := by
            match vs, hlen, hS with
            | [], _, hS => exact (hS.2.2).t0
            | [_], _, hS => exact (hS.2.2.1).t0
            | [_, _], _, hS => exact (hS.2.2.1).t0
            | _ :: _ :: _ :: _, h, _ => exact absurd h (by simp)
          rw [if_pos (by rfl)]
          go_simp
          exact hK _ _ (hJ.val 0 _ (by kernel_rfl) rfl (fun _ h => h))
        case o3_1 =>
          intro LX V aX wX K hl hp hcl hf hJ hK
          have t28 := hf.in (i := 0) (d := 28) (by kernel_rfl) (hp 0 (by kernel_rfl)) (hJ.vals 0 _ rfl (hp 0 (by kernel_rfl)))
          rw [if_pos (by rfl)]
          go_simp
          exact hK _ _ (hJ.val 1 _ (by kernel_rfl) rfl (fun _ h => h))
        case o3_2 =>
          intro LX V aX wX K hl hp hcl hf hJ hK
          have t29 := hf.in (i := 1) (d := 29) (by kernel_rfl) (hp 1 (by kernel_rfl)) (hJ.vals 1 _ rfl (hp 1 (by kernel_rfl)))
          rw [if_pos (by rfl)]
          go_simp
          exact hK _ _ (hJ.val 2 _ (by kernel_rfl) rfl (fun _ h => h))
        case o3_3 =>
          intro LX V aX wX K hl hp hcl hf hJ hK
          have t30 := hf.in (i := 2) (d := 30) (by kernel_rfl) (hp 2 (by kernel_rfl)) (hJ.vals 2 _ rfl (hp 2 (by kernel_rfl)))
          obtain ⟨vs, hlen, hS⟩ := hJ.upto 2 (by decide) (hcl.no 13 (by kernel_rfl) hl)
          have c3 : wX.cell? ⟨g, 3, none⟩ = some nv := by
            match vs, hlen, hS with
            | [], _, hS => exact hS.1.row.cell.2.2.2
            | [_], _, hS => exact hS.1.row.cell.2.2.2
            | [_, _], _, hS => exact hS.1.row.cell.2.2.2
            | _ :: _ :: _ :: _, h, _ => exact absurd h (by simp)
          rw [HNV.out] at c3
          rw [if_pos (by rfl)]
          go_simp
          exact hK _ _ (hJ.val 3 _ (by kernel_rfl) rfl (fun _ h => h))
        case o3_4 =>
          intro LX V aX wX K hl hp hcl hf hJ hK
          have t1 : aX.tmps[1]? = some (.int .i64 (i : Int)) := hf.old (by kernel_rfl) rfl
          rw [if_pos (by rfl)]
          go_simp
          exact hK _ _ (hJ.val 4 _ (by kernel_rfl) rfl (fun _ h => h))
        case o3_5 =>
          intro LX V aX wX K hl hp hcl hf hJ hK
          have t2 : aX.tmps[2]? = some (.int .i64 (f : Int)) := hf.old (by kernel_rfl) rfl
          rw [if_pos (by rfl)]
          go_simp
          exact hK _ _ (hJ.val 5 _ (by kernel_rfl) rfl (fun _ h => h))
        case o3_6 =>
          intro LX V aX wX K hl hp hcl hf hJ hK
          have t3 : aX.tmps[3]? = some (.int .i64 (t : Int)) := hf.old (by kernel_rfl) rfl
          rw [if_pos (by rfl)]
          go_simp
          exact hK _ _ (hJ.val 6 _ (by kernel_rfl) rfl (fun _ h => h))
        case o3_7 =>
          intro LX V aX wX K hl hp hcl hf hJ hK
          have t5 : aX.tmps[5]? = some (.pointer (some ⟨tb, 0, none⟩)) := hf.old (by kernel_rfl) rfl
          obtain ⟨vs, hlen, hS⟩ := hJ.upto 0 (by decide) (hcl.no 10 (by kernel_rfl) hl)
          have c5 : wX.cell? ⟨tb, 0, none⟩ = some (.pointer (some ⟨g, 0, none⟩)) := by
            match vs, hlen, hS with
            | [], _, hS => exact (hS.2.2).t0
            | _ :: _, h, _ => exact absurd h (by simp)
          rw [if_pos (by rfl)]
          go_simp
          exact hK _ _ (hJ.val 7 _ (by kernel_rfl) rfl (fun _ h => h))
        case o3_8 =>
          intro LX V aX wX K hl hp hcl hf hJ hK
          have t2 : aX.tmps[2]? = some (.int .i64 (f : Int)) := hf.old (by kernel_rfl) rfl
          rw [if_pos (by rfl)]
          go_simp
          exact hK _ _ (hJ.val 8 _ (by kernel_rfl) rfl (fun _ h => h))
        case o3_9 =>
          intro LX V aX wX K hl hp hcl hf hJ hK
          have t3 : aX.tmps[3]? = some (.int .i64 (t : Int)) := hf.old (by kernel_rfl) rfl
          rw [if_pos (by rfl)]
          go_simp
          exact hK _ _ (hJ.val 9 _ (by kernel_rfl) rfl (fun _ h => h))
        case o3_10 =>
          intro LX V aX wX K hl hp hcl hf hJ hK
          have t35 := hf.in (i := 7) (d := 35) (by kernel_rfl) (hp 7 (by kernel_rfl)) (hJ.vals 7 _ rfl (hp 7 (by kernel_rfl)))
          have t36 := hf.in (i := 8) (d := 36) (by kernel_rfl) (hp 8 (by kernel_rfl)) (hJ.vals 8 _ rfl (hp 8 (by kernel_rfl)))
          have t37 := hf.in (i := 9) (d := 37) (by kernel_rfl) (hp 9 (by kernel_rfl)) (hJ.vals 9 _ rfl (hp 9 (by kernel_rfl)))
          rw [if_pos (by rfl)]
          obtain ⟨vs, hlen, hvs, hS, hn⟩ := hJ.next (by kernel_rfl) 0 (by kernel_rfl) hl (.inl rfl) rfl
          match vs, hlen, hvs, hS, hn with
          | [], _, hvs, hS, hn =>
            go_simp
            refine (HAR.out wX hS.1).mono ?_
            rintro e wA ⟨b, rfl, hb1, hb2, hb3⟩
            exact hK _ _ (hn _ _ ⟨hS.1.later hb3, hS.2.1.grew hb3, hS.2.2.later hb3, ⟨b, rfl, hb1, hb2⟩⟩)
        case o3_11 =>
          intro LX V aX wX K hl hp hcl hf hJ hK
          have t33 := hf.in (i := 5) (d := 33) (by kernel_rfl) (hp 5 (by kernel_rfl)) (hJ.vals 5 _ rfl (hp 5 (by kernel_rfl)))
          have t34 := hf.in (i := 6) (d := 34) (by kernel_rfl) (hp 6 (by kernel_rfl)) (hJ.vals 6 _ rfl (hp 6 (by kernel_rfl)))
          have t38 := hf.in (i := 10) (d := 38) (by kernel_rfl) (hp 10 (by kernel_rfl)) rfl
          rw [if_pos (by rfl)]
          obtain ⟨vs, hlen, hvs, hS, hn⟩ := hJ.next (by kernel_rfl) 1 (by kernel_rfl) hl (.inr (hp 10 (by kernel_rfl))) rfl
          match vs, hlen, hvs, hS, hn with
          | [a0], _, hvs, hS, hn =>
            have e0 : V 10 = a0 := hvs 0 (by decide)
            obtain ⟨h1, h2, h3, b, hb, hb1, hb2⟩ := hS
            rw [e0, hb] at t38
            unfold boxV at t38
            go_simp
            exact hK _ _ (hn _ _ ⟨h1, h2, h3, ⟨b, rfl, hb1, hb2⟩⟩)
        case o3_12 =>
          intro LX V aX wX K hl hp hcl hf hJ hK
          have t31 := hf.in (i := 3) (d := 31) (by kernel_rfl) (hp 3 (by kernel_rfl)) (hJ.vals 3 _ rfl (hp 3 (by kernel_rfl)))
          have t32 := hf.in (i := 4) (d := 32) (by kernel_rfl) (hp 4 (by kernel_rfl)) (hJ.vals 4 _ rfl (hp 4 (by kernel_rfl)))
          obtain ⟨hi0, him⟩ := HIM.out
          have hzz : 0 + i * 6 = i * 6 := Nat.zero_add _
          rw [if_pos (by rfl)]
          go_simp
          exact hK _ _ (hJ.val 12 _ (by kernel_rfl) rfl (fun _ h => h))
        case o3_13 =>
          intro LX V aX wX K hl hp hcl hf hJ hK
          have t40 := hf.in (i := 12) (d := 40) (by kernel_rfl) (hp 12 (by kernel_rfl)) (hJ.vals 12 _ rfl (hp 12 (by kernel_rfl)))
          have t39 := hf.in (i := 11) (d := 39) (by kernel_rfl) (hp 11 (by kernel_rfl)) rfl
          rw [if_pos (by rfl)]
          obtain ⟨vs, hlen, hvs, hS, hn⟩ := hJ.next (by kernel_rfl) 2 (by kernel_rfl) hl (.inr (hp 11 (by kernel_rfl))) rfl
          match vs, hlen, hvs, hS, hn with
          | [a0, a1], _, hvs, hS, hn =>
            have e0 : V 10 = a0 := hvs 0 (by decide)
            have e1 : V 11 = a1 := hvs 1 (by decide)
            obtain ⟨h1, h2, h3, b, hb, hb1, hb2⟩ := hS
            rw [e1, hb] at t39
            unfold valN at t39
            have hnd := h1.own.n
            rw [HNV.out] at hnd
            have hcf := fun o (ho : o < 6) => own_cellN hnd (i := i) (by rw [HML.out]; have := HIM.out; omega) ho
            obtain ⟨v0, q0, g0⟩ := hcf 0 (by omega)
            obtain ⟨v1, q1, g1⟩ := hcf 1 (by omega)
            obtain ⟨v2, q2, g2⟩ := hcf 2 (by omega)
            obtain ⟨v3, q3, g3⟩ := hcf 3 (by omega)
            obtain ⟨v4, q4, g4⟩ := hcf 4 (by omega)
            obtain ⟨v5, q5, g5⟩ := hcf 5 (by omega)
            rw [Nat.add_zero] at q0 g0
            clear hcf
            go_simp
            change K aX (put6 wX nb i ⟨f, t, b⟩)
            exact hK undef _ (hn undef _ ⟨b, h1.putN HNV.out (by rw [HML.out]; have := HIM.out; omega) HML.out _, h2.put HNV.out (put6_keeps _ _ _ _) (fun k hk => put6_other _ _ _ _ hk), h3.putN h1 HNV.out _, hb1, hb2⟩)
      intro V wZ hJ
      obtain ⟨vs, hlen, hvs, hS⟩ := hJ.all (by kernel_rfl)
      match vs, hlen, hvs, hS with
      | [a0, a1, a2], _, hvs, hS =>
        have e0 : V 10 = a0 := hvs 0 (by decide)
        have e1 : V 11 = a1 := hvs 1 (by decide)
        have e2 : V 13 = a2 := hvs 2 (by decide)
        have HZ := Lib.hid hS
        simp only [puts, Act.put, List.setIfInBounds_toArray, List.set_cons_zero, List.set_cons_succ]
        clear hJ hvs hS
        have hmS : N1.length = m := HML.out
        obtain ⟨b, hz1, hz2, hz3, hz4, hz5⟩ := HZ.out
        have hNk : ∀ j, j < N.length → N1[j]? = N[j]? := fun j hj => by rw [HN1.out, List.getElem?_append_left hj]
        have hNi : (N1.set i ⟨f, t, b⟩)[i]? = some ⟨f, t, b⟩ := by rw [List.getElem?_set_self (by omega)]
        have hNj : ∀ j, j ≠ i → (N1.set i ⟨f, t, b⟩)[j]? = N1[j]? := fun j hj => List.getElem?_set_ne (Ne.symm hj)
        have hNl : (N1.set i ⟨f, t, b⟩).length = m := by rw [List.length_set, hmS]
        have HNS := Lib.hid (And.intro hNk (And.intro hNi (And.intro hNj hNl)))
        have HZ1 := Lib.hid (And.intro hz1 (And.intro hz2 (And.intro hz3 (And.intro hz4 hz5))))
        clear HZ hz1 hz2 hz3 hz4 hz5 hNk hNi hNj hNl hmS HAR HST HLA
        by_cases hs1 : t = f + 1
        · subst hs1
          have hsub : IntKind.i64.wrap ((f : Int) + 1 - (f : Int)) = 1 := by rw [show (f : Int) + 1 - (f : Int) = 1 by omega]; exact IntWalk.i64_in _ (by omega)
          have hsub2 : (f : Int) + 1 - (f : Int) = 1 := by omega
          have hsub3 : ((f + 1 : Nat) : Int) - (f : Int) = 1 := by omega
          go_wp2_with fail
          refine bodyPost_ret (results_none rfl _ _ _) rfl ⟨O, N1.set i ⟨f, f + 1, b⟩, nv, rfl, HZ1.out.1, ((Kp.refl _ _ _ _).grew HB1.out).trans HZ1.out.2.1, List.Perm.refl _, fun _ _ => rfl, .few (by rw [seg_length hto]; omega), .leaf ?_, fun j hj hl => ?_, ?_, ?_⟩
          · rw [HNS.out.2.1, HZ1.out.2.2.2.2 (by first | rfl | trivial)]
          · rw [HNS.out.2.2.1 j (fun e => hj (e ▸ .self _)), HNS.out.1 j hl]
          · rw [HNS.out.2.2.2, HMK.out]; omega
          · rw [HNS.out.2.2.2]; exact hm5
        · obtain ⟨d, hd⟩ : ∃ d, t = f + d := ⟨t - f, by omega⟩
          subst hd
          have hd2 : 2 ≤ d := by omega
          have hdf : f + d - f = d := by omega
          rw [hdf] at hs hdeep
          subst hs
          obtain ⟨hi2, hdl, hdr⟩ := deep_half hd2 hdeep
          have hm := halfN_bounds hd2
          obtain ⟨h, hh⟩ : ∃ h, h = halfN d := ⟨_, rfl⟩
          have HH := Lib.hid hh
          have hh2 : h = (d + 1) / 2 := hh
          rw [← hh] at hm hdl hdr
          have HDL := Lib.hid (And.intro hdl hdr)
          have hT := HZ1.out.1
          have hF := HZ1.out.2.2.1
          have hNo : no = O.length := hno
          obtain ⟨_, _, _, hlx⟩ := hT.own.l.is
          have hlo := hT.own.l
          have hoo := hT.own.o
          have hrr := hT.row
          rw [← HLV.out] at hlo hrr
          rw [← HOV.out, hno] at hoo
          have hoc : O.length ≤ oc ∧ oc ≤ maxLen := by
            obtain ⟨_, _, e1, i1⟩ := hoo.ints
            injection e1 with _ _ e1
            subst e1
            exact ⟨i1.2.1, i1.2.2.1⟩
          obtain ⟨hoc1, hoc2⟩ := hoc
          unfold maxLen at hoc2
          have hob : ov.ownBlock = some og := by rw [← HOV.out]; rfl
          have hixl : IsX wZ la n lc L := by
            obtain ⟨_, _, e1, i1⟩ := hlo.is
            injection e1 with e1 e2 e3
            subst e1 e2 e3
            exact i1
          have hsrt := SortB_any B og oc O la n lc L ov nv g tb ab ac f (f + d) wZ hoo hixl hin hrr hF.t0 hF.a0 (fun e => by subst e; exact own_typed hT.own.o hT.row (by decide) hob) (fun e => by subst e; exact own_typed hT.own.o hF.t (by decide) hob) (fun e => by subst e; exact own_typed hT.own.o hF.a (by decide) hob)
            (fun b off e1 e2 => by subst e2; exact own_ne (k := b) (by decide) hlo hT.own.o (by rw [e1]; rfl) hob) (by omega) hto (by omega) (fun x hx => by have := HPR.out.idx x hx; omega) HPR.out.nodup
          rw [hdf, ← hno] at hsrt
          have HSRT := Lib.hid hsrt
          have c5 := hF.t0
          have c2 := hrr.cell.2.2.1
          rw [← HOV.out] at c2
          have hf0 : (0 : Int) ≤ (f : Int) := by omega
          have hfd : (f : Int) ≤ (f : Int) + (d : Int) := by omega
          have hfd2 : (f : Int) ≤ ((f + d : Nat) : Int) := by omega
          have hdc : (f : Int) + (d : Int) ≤ (oc : Int) := by omega
          have hdc2 : ((f + d : Nat) : Int) ≤ (oc : Int) := by omega
          have hsub : (f : Int) + (d : Int) - (f : Int) = (d : Int) := by omega
          have hwd : IntKind.i64.wrap (d : Int) = (d : Int) := IntWalk.i64_in _ (by omega)
          have hdn : ¬ (d : Int) < 2 := by omega
          clear hT hF hlx hlo hoo hrr hoc1 hob hixl hsrt hh hh2
          go_wp2_with fail
          refine HSRT.out.mono ?_
          rintro e w5 ⟨rfl, S, hSp, hSs, hSo, hbut⟩
          have hov2 : ov = .slice (some ⟨og, 0, none⟩) no oc := HOV.out.symm
          have hT1 := HZ1.out.1
          have hSo2 : OwnI w5 B ov (putSeg O f (f + d) S) := by rw [hov2]; exact hSo
          have HT5 := Lib.hid (hT1.but hov2 hbut hSo2)
          have HF5 := Lib.hid (HZ1.out.2.2.1.but hT1 hov2 hbut)
          have HK5 := Lib.hid (HZ1.out.2.1.but hov2 hbut)
          have HSS := Lib.hid (And.intro hSp hSs)
          have hpO := putSeg_perm (O := O) (S := S) (f := f) (t := f + d) (by omega) hSp
          have hlO := hpO.length_eq
          have HPO := Lib.hid hpO
          obtain ⟨O1, hO1⟩ : ∃ O1, O1 = putSeg O f (f + d) S := ⟨_, rfl⟩
          have HO1 := Lib.hid hO1
          rw [← hO1] at HT5 HPO hlO
          have HLO := Lib.hid hlO
          have hc7 : ((2 * i + 1 : Nat) : Int) = 2 * (i : Int) + 1 := by omega
          have hc8 : ((2 * i + 2 : Nat) : Int) = 2 * (i : Int) + 2 := by omega
          have hcm : ((f + h : Nat) : Int) = (f : Int) + (h : Int) := by omega
          have hct : ((f + d : Nat) : Int) = (f : Int) + (d : Int) := by omega
          have hIL := HIH.out h hm.2.1 (2 * i + 1) f (f + h) (!ac) w5 O1 (N1.set i ⟨f, f + d, b⟩) nv (by omega) (by rw [HLO.out]; exact hno)
            ⟨by omega, by rw [HLO.out]; omega, HT5.out, HPO.out.nodup_iff.2 HPR.out.nodup, fun x hx => HPR.out.idx x (HPO.out.mem_iff.1 hx), by rw [HLO.out]; exact hO1000, by rw [HNS.out.2.2.2]; exact hm5, by omega, by rw [show f + h - f - 1 = h - 1 by omega]; exact HDL.out.1⟩
          rw [hc7, hcm] at hIL
          have HIL := Lib.hid hIL
          have c5' := HF5.out.t0
          have ca := HF5.out.a0
          have hq1 : Int.tdiv ((d : Int) + 1) 2 = (h : Int) := by rw [Int.tdiv_eq_ediv_of_nonneg (by omega), HH.out]; unfold halfN; omega
          have hq2 : ((d : Int) + 1) / 2 = (h : Int) := by rw [HH.out]; unfold halfN; omega
          have hw1 : IntKind.i64.wrap ((d : Int) + 1) = (d : Int) + 1 := IntWalk.i64_in _ (by omega)
          have hw2 : IntKind.i64.wrap ((f : Int) + (h : Int)) = (f : Int) + (h : Int) := IntWalk.i64_in _ (by omega)
          have hw3 : IntKind.i64.wrap (2 * (i : Int)) = 2 * (i : Int) := IntWalk.i64_in _ (by omega)
          have hw4 : IntKind.i64.wrap (2 * (i : Int) + 1) = 2 * (i : Int) + 1 := IntWalk.i64_in _ (by omega)
          have hw5 : IntKind.i64.wrap (2 * (i : Int) + 2) = 2 * (i : Int) + 2 := IntWalk.i64_in _ (by omega)
          have hd10 : (0 : Int) ≤ (d : Int) + 1 := by omega
          have hwh : IntKind.i64.wrap (h : Int) = (h : Int) := IntWalk.i64_in _ (by omega)
          clear hIL hO1 hpO hlO hSo hSo2 hbut hT1 hov2 c5 c2 hSp hSs hc7
          go_wp2_with fail
          refine HIL.out.mono ?_
          rintro e w6 ⟨O2, N2, nv2, rfl, hp2⟩
          have HP2 := Lib.hid hp2
          have HF6 := Lib.hid (HF5.out.kp HT5.out hp2.kp)
          have hIR := HIH.out (d - h) (by omega) (2 * i + 2) (f + h) (f + d) (!ac) w6 O2 N2 nv2 (by omega) (by rw [hp2.perm.length_eq, HLO.out]; exact hno)
            ⟨by omega, by rw [hp2.perm.length_eq, HLO.out]; omega, hp2.mem, hp2.perm.nodup_iff.2 (HPO.out.nodup_iff.2 HPR.out.nodup), fun x hx => HPR.out.idx x (HPO.out.mem_iff.1 (hp2.perm.mem_iff.1 hx)), by rw [hp2.perm.length_eq, HLO.out]; exact hO1000, hp2.small, by omega, by rw [show f + d - (f + h) - 1 = d - h - 1 by omega]; exact HDL.out.2⟩
          rw [hc8, hcm, hct] at hIR
          have HIR := Lib.hid hIR
          have c5 := HF6.out.t0
          have ca2 := HF6.out.a0
          clear hIR hp2 c5' ca
          go_wp2_with fail
          refine HIR.out.mono ?_
          rintro e w7 ⟨O3, N3, nv3, rfl, hp3⟩
          have hj := part_join (N1 := N1.set i ⟨f, f + d, b⟩) (N2 := N2) (N3 := N3) (O2 := O2) (O3 := O3) (i := i) (t := f + d) (b := b) (ac := ac) (by omega) hto HSS.out.1 HSS.out.2 HNS.out.2.1 HZ1.out.2.2.2.1
            (by rw [← HO1.out]; exact HP2.out.perm) (by rw [← HO1.out, hdf, ← HH.out]; exact HP2.out.out) (by rw [← HO1.out, hdf, ← HH.out]; exact HP2.out.laid) (by rw [hdf, ← HH.out]; exact HP2.out.tree) HP2.out.keepN HP2.out.more
            hp3.perm (by rw [hdf, ← HH.out]; exact hp3.out) (by rw [hdf, ← HH.out]; exact hp3.laid) (by rw [hdf, ← HH.out]; exact hp3.tree) hp3.keepN
          have hpost : PPost B g lv ov n0 L ac i f (f + d) O N w w7 O3 N3 nv3 := by
            refine ⟨hp3.mem, ((Kp.refl _ _ _ _).grew HB1.out).trans ((HK5.out.trans HP2.out.kp).trans hp3.kp), hj.1, hj.2.1, hj.2.2.1, hj.2.2.2.1, fun j hjd hjl => ?_, ?_, hp3.small⟩
            · rw [hj.2.2.2.2 j hjd (by rw [HNS.out.2.2.2, HMK.out]; omega), HNS.out.2.2.1 j (fun e => hjd (e ▸ .self _)), HNS.out.1 j hjl]
            · have h1 := HP2.out.more
              have h2 := hp3.more
              rw [HNS.out.2.2.2, HMK.out] at h1
              omega
          have HPOST := Lib.hid hpost
          clear hj hp3 hpost c5 ca2
          go_wp2_with fail
          refine bodyPost_end (results_none rfl _ _ _) rfl ⟨O3, N3, nv3, rfl, HPOST.out⟩
end Go.Proofs.YtjiiikeniocmfaaGreat
